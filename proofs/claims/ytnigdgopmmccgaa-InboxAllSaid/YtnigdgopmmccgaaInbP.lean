/- InboxAll's plain law: what is left to send, what came; that a round ends. No program in sight. -/
import Derived.Test.YtnigdgopmmccgaaInbQ
namespace Go.Proofs.Ytnigdgopmmccgaa
open Go.RowKit
set_option linter.unusedVariables false
structure LeftI (f : Bodies) (l : List (List Int)) (left : List Nat) : Prop where
  mem : ∀ k ∈ left, 1 ≤ k ∧ k ≤ l.length ∧ f k = none
  out : ∀ k, 1 ≤ k → k ≤ l.length → k ∉ left → f k = some (l.getD (k - 1) [])
  nd : left.Nodup
  len : left.length ≤ l.length
  top : ∀ k, l.length < k → f k = none
theorem LeftI.start (l : List (List Int)) : LeftI (fun _ => none) l ((List.range l.length).map (· + 1)) := by
  refine ⟨fun k hk => ?_, fun k h1 h2 h3 => ?_, ?_, by simp, fun _ _ => rfl⟩
  · simp only [List.mem_map, List.mem_range] at hk
    obtain ⟨j, hj, rfl⟩ := hk
    exact ⟨by omega, by omega, rfl⟩
  · refine absurd ?_ h3
    simp only [List.mem_map, List.mem_range]
    exact ⟨k - 1, by omega, by omega⟩
  · exact List.Pairwise.map _ (fun a b h => by omega) List.nodup_range
theorem LeftI.awaited {f : Bodies} {l : List (List Int)} {left : List Nat} (h : LeftI f l left) {n : Nat} (h1 : 1 ≤ n) (hlow : ∀ k, 1 ≤ k → k < n → f k ≠ none) (hn : f n = none) (hl : left ≠ []) : n ≤ l.length ∧ n ∈ left := by
  have hle : n ≤ l.length := by
    rcases Nat.lt_or_ge l.length n with hlt | hge
    · exfalso
      cases hc : left with
      | nil => exact hl hc
      | cons k r =>
        obtain ⟨k1, k2, k3⟩ := h.mem k (by rw [hc]; simp)
        exact hlow k k1 (by omega) k3
    · exact hge
  refine ⟨hle, ?_⟩
  apply Classical.byContradiction
  intro hm
  have := h.out n h1 hle hm
  rw [hn] at this
  cases this
theorem LeftI.done {f : Bodies} {l : List (List Int)} (h : LeftI f l []) {n : Nat} (h1 : 1 ≤ n) (hlow : ∀ k, 1 ≤ k → k < n → f k ≠ none) (hn : f n = none) : n = l.length + 1 := by
  rcases Nat.lt_or_ge l.length n with hlt | hge
  · rcases Nat.lt_or_ge (l.length + 1) n with h2 | h2
    · exact absurd (h.top (l.length + 1) (by omega)) (hlow _ (by omega) h2)
    · omega
  · have := h.out n h1 hge (by simp)
    rw [hn] at this
    cases this
theorem LeftI.take {f : Bodies} {l : List (List Int)} {left : List Nat} (h : LeftI f l left) {kx q : Nat} (hk : left[kx]? = some q) : LeftI (put f q (l.getD (q - 1) [])) l (left.take kx ++ left.drop (kx + 1)) := by
  obtain ⟨hkl, hq⟩ := List.getElem?_eq_some_iff.1 hk
  have e : left = left.take kx ++ q :: left.drop (kx + 1) := by
    rw [← hq, ← List.drop_eq_getElem_cons hkl, List.take_append_drop]
  generalize left.take kx = A at *
  generalize left.drop (kx + 1) = B at *
  subst e
  have hnd := (List.perm_middle (l₁ := A) (l₂ := B) (a := q)).nodup_iff.1 h.nd
  rw [List.nodup_cons] at hnd
  refine ⟨fun k hk => ?_, fun k h1 h2 h3 => ?_, hnd.2, by have := h.len; simp at this ⊢; omega, fun k hk => ?_⟩
  · have hkq : k ≠ q := fun e => hnd.1 (e ▸ hk)
    rw [put_ne _ _ hkq]
    exact h.mem k (by simp at hk ⊢; rcases hk with hk | hk <;> simp [hk])
  · by_cases hkq : k = q
    · subst hkq; rw [put_same]
    · rw [put_ne _ _ hkq]
      exact h.out k h1 h2 (by simp at h3 ⊢; exact ⟨h3.1, hkq, h3.2⟩)
  · have := (h.mem q (by simp)).2.1
    rw [put_ne _ _ (by omega)]
    exact h.top k hk
/-- So many steps on the awaited one is chosen. -/
def dst (p len i : Nat) : Nat := if i % len ≤ p then p - i % len else p + len - i % len
theorem dst_lt {p len : Nat} (i : Nat) (h : p < len) : dst p len i < len := by
  have := Nat.mod_lt i (show len > 0 by omega)
  unfold dst; split <;> omega
theorem mod_succ (i len : Nat) (h : 0 < len) : (i + 1) % len = if i % len + 1 = len then 0 else i % len + 1 := by
  have hr := Nat.mod_lt i h
  rw [Nat.add_mod]
  by_cases h1 : len = 1
  · subst h1; simp [Nat.mod_one]
  · rw [Nat.mod_eq_of_lt (show 1 < len by omega)]
    split
    · rename_i e; rw [e, Nat.mod_self]
    · exact Nat.mod_eq_of_lt (by omega)
theorem dst_step {p len i : Nat} (h : p < len) (hne : i % len ≠ p) : dst p len (i + 1) + 1 = dst p len i := by
  have hr := Nat.mod_lt i (show len > 0 by omega)
  unfold dst
  rw [mod_succ i len (by omega)]
  generalize i % len = r at *
  by_cases e : r + 1 = len
  · rw [if_pos e, if_pos (by omega), if_neg (by omega)]; omega
  · rw [if_neg e]
    by_cases hle : r ≤ p
    · rw [if_pos (by omega), if_pos hle]; omega
    · rw [if_neg (by omega), if_neg hle]; omega
def Bd (nw : Nat) (left : List Nat) (n i : Nat) : Prop := left = [] ∨ i < nw ∨ ∃ p, left[p]? = some n ∧ i + dst p left.length i + 60 * (left.length - 1) ≤ 3800
theorem Bd.fresh {nw : Nat} {left : List Nat} {n i : Nat} (hi : i ≤ 200) (hl : left.length ≤ 60) (hn : left ≠ [] → n ∈ left) : Bd nw left n i := by
  by_cases h : left = []
  · exact .inl h
  · obtain ⟨p, hp, e⟩ := List.mem_iff_getElem.1 (hn h)
    refine .inr (.inr ⟨p, by rw [List.getElem?_eq_getElem hp, e], ?_⟩)
    have := dst_lt i hp
    omega
theorem Bd.lt {nw : Nat} {left : List Nat} {n i : Nat} (h : Bd nw left n i) (hw : nw ≤ 200) (hl : left ≠ []) : i < 8000 := by
  rcases h with h | h | ⟨p, _, h⟩
  · exact absurd h hl
  · omega
  · omega
theorem Bd.wait {nw : Nat} {left : List Nat} {n i : Nat} (h : Bd nw left n i) (hw : nw ≤ 200) (hl : left.length ≤ 60) (hn : left ≠ [] → n ∈ left) (hne : nw ≤ i → left[i % left.length]? ≠ some n) : Bd nw left n (i + 1) := by
  rcases h with h | h | ⟨p, hp, h⟩
  · exact .inl h
  · exact Bd.fresh (by omega) hl hn
  · rcases Nat.lt_or_ge i nw with hi | hi
    · exact Bd.fresh (by omega) hl hn
    · obtain ⟨hpl, _⟩ := List.getElem?_eq_some_iff.1 hp
      have := dst_step (i := i) hpl (fun e => hne hi (by rw [e]; exact hp))
      exact .inr (.inr ⟨p, hp, by omega⟩)
theorem Bd.take {nw : Nat} {left left' : List Nat} {n n' i : Nat} (h : Bd nw left n i) (hw : nw ≤ 200) (hl : left.length ≤ 60) (hlen : left'.length + 1 = left.length) (hn : left' ≠ [] → n' ∈ left') : Bd nw left' n' (i + 1) := by
  rcases h with h | h | ⟨p, hp, h⟩
  · rw [h] at hlen; simp at hlen
  · exact Bd.fresh (by omega) (by omega) hn
  · by_cases h' : left' = []
    · exact .inl h'
    · obtain ⟨p', hp', e⟩ := List.mem_iff_getElem.1 (hn h')
      refine .inr (.inr ⟨p', by rw [List.getElem?_eq_getElem hp', e], ?_⟩)
      have := dst_lt (i + 1) hp'
      omega
end Go.Proofs.Ytnigdgopmmccgaa
