/- An inbox's object and what it means: which bodies came, which number is awaited. No program in sight. -/
import Derived.Test.YtnigdgopmmccgaaBytes
namespace Go.Proofs.Ytnigdgopmmccgaa
open Go.RowKit
set_option linter.unusedVariables false

abbrev Bodies := Nat → Option (List Int)
/-- How many of the numbers n, n+1 .. (m of them) are there. -/
def cn (f : Bodies) (n : Nat) : Nat → Nat
  | 0 => 0
  | m + 1 => cn f n m + if (f (n + m)).isSome then 1 else 0
theorem cn_front (f : Bodies) (n : Nat) : ∀ m, cn f n (m + 1) = (if (f n).isSome then 1 else 0) + cn f (n + 1) m
  | 0 => by simp [cn]
  | m + 1 => by
    rw [cn, cn_front f n m, cn, Nat.add_assoc, show n + (m + 1) = n + 1 + m by omega]
theorem cn_le (f : Bodies) (n : Nat) : ∀ m, cn f n m ≤ m
  | 0 => Nat.le_refl _
  | m + 1 => by have := cn_le f n m; rw [cn]; split <;> omega
/-- f, and a body more. -/
def put (f : Bodies) (q : Nat) (b : List Int) : Bodies := fun k => if k = q then some b else f k
theorem put_same (f : Bodies) (q : Nat) (b : List Int) : put f q b q = some b := by simp [put]
theorem put_ne (f : Bodies) {q k : Nat} (b : List Int) (h : k ≠ q) : put f q b k = f k := by simp [put, h]
theorem cn_put (f : Bodies) (q : Nat) (b : List Int) (n : Nat) (h : f q = none) : ∀ m, n ≤ q → q < n + m → cn (put f q b) n m = cn f n m + 1
  | 0, h1, h2 => by omega
  | m + 1, h1, h2 => by
    rw [cn, cn]
    by_cases hq : q = n + m
    · subst hq
      rw [put_same, h]
      have : ∀ j, j ≤ m → cn (put f (n + m) b) n j = cn f n j := by
        intro j
        induction j with
        | zero => intro _; rfl
        | succ j ih => intro hj; rw [cn, cn, ih (by omega), put_ne _ _ (by omega)]
      simp [this m (Nat.le_refl _)]
    · rw [cn_put f q b n h m h1 (by omega), put_ne _ _ (by omega)]; omega

def sl (k : Nat) : Nat := 3 + 2 * (k % 64)
def fl (k : Nat) : Nat := 4 + 2 * (k % 64)
theorem sl_lt (k : Nat) : sl k < 131 ∧ fl k < 131 := by unfold sl fl; omega

structure InbC (w : World) (b : Nat) (c : Nat → Value) (size : Nat) (f : Bodies) (n hd : Nat) (F : Nat → Prop) : Prop where
  at_ : AtF w b 131 c
  sz : c 0 = .int .i64 size
  nx : c 1 = .int .i64 n
  hl : c 2 = .int .i64 hd
  size_bd : 1 ≤ size ∧ size ≤ 64
  n_bd : 1 ≤ n ∧ n ≤ 2147483647
  low : ∀ k, 1 ≤ k → k < n → f k ≠ none
  zero : f 0 = none
  high : ∀ k, n + size ≤ k → f k = none
  top : ∀ k, 2147483647 ≤ k → f k = none
  cnt : hd = cn f n size
  flag : ∀ k, n ≤ k → k < n + 64 → c (fl k) = .bool (f k).isSome
  body : ∀ k l, n ≤ k → k < n + 64 → f k = some l → OwnB w (c (sl k)) l ∧ ∀ g, (c (sl k)).ownBlock = some g → F g ∧ g ≠ b
  dist : ∀ k k' g, n ≤ k → k < n + 64 → n ≤ k' → k' < n + 64 → f k ≠ none → f k' ≠ none → (c (sl k)).ownBlock = some g → (c (sl k')).ownBlock = some g → k = k'
  base : F b
  lt : ∀ k, F k → k < w.heap.size

theorem InbC.kp {S : Nat → Prop} {w w' : World} {b : Nat} {c : Nat → Value} {size : Nat} {f : Bodies} {n hd : Nat} {F : Nat → Prop} (h : InbC w b c size f n hd F) (hk : Kp S w w') (hS : ∀ k, F k → ¬ S k) : InbC w' b c size f n hd F :=
  { h with
    at_ := hk.atF h.at_ (hS b h.base)
    body := fun k l h1 h2 h3 => by
      obtain ⟨a1, a4⟩ := h.body k l h1 h2 h3
      exact ⟨a1.kp hk (fun g hg => hS g (a4 g hg).1), a4⟩
    lt := fun k hk' => Nat.lt_of_lt_of_le (h.lt k hk') hk.size }

/-- An inbox: who of size size was given the bodies f, and awaits n; no body of n came. -/
def InbAt (w : World) (b size : Nat) (f : Bodies) (n hd : Nat) (F : Nat → Prop) : Prop := (∃ c, InbC w b c size f n hd F) ∧ f n = none
theorem InbAt.kp {S : Nat → Prop} {w w' : World} {b size : Nat} {f : Bodies} {n hd : Nat} {F : Nat → Prop} (h : InbAt w b size f n hd F) (hk : Kp S w w') (hS : ∀ k, F k → ¬ S k) : InbAt w' b size f n hd F :=
  ⟨h.1.elim fun c hc => ⟨c, hc.kp hk hS⟩, h.2⟩

/-- What an inbox has. -/
def hasI (f : Bodies) (q : Int) : Bool := decide (0 ≤ q) && (f q.toNat).isSome

/-- The step of a drain: the awaited body is told. -/
theorem InbC.step {w w' : World} {b : Nat} {c : Nat → Value} {size : Nat} {f : Bodies} {n hd : Nat} {F : Nat → Prop} (h : InbC w b c size f n hd F) {l : List Int} (hl : f n = some l)
    {S : Nat → Prop} (hk : Kp S w w') (hS : ∀ k, F k → ¬ S k) :
    InbC ((((w'.setCell ⟨b, sl n, none⟩ (.slice none 0 0)).setCell ⟨b, fl n, none⟩ (.bool false)).setCell ⟨b, 1, none⟩ (.int .i64 (n + 1 : Nat))).setCell ⟨b, 2, none⟩ (.int .i64 (hd - 1 : Nat))) b
      (upd (upd (upd (upd c (sl n) (.slice none 0 0)) (fl n) (.bool false)) 1 (.int .i64 (n + 1 : Nat))) 2 (.int .i64 (hd - 1 : Nat))) size f (n + 1) (hd - 1) (fun k => F k ∧ (c (sl n)).ownBlock ≠ some k) := by
  have hlt : n < 2147483647 := by
    rcases Nat.lt_or_ge n 2147483647 with h' | h'
    · exact h'
    · rw [h.top n h'] at hl; cases hl
  have hK : Kp (· = b) w' ((((w'.setCell ⟨b, sl n, none⟩ (.slice none 0 0)).setCell ⟨b, fl n, none⟩ (.bool false)).setCell ⟨b, 1, none⟩ (.int .i64 (n + 1 : Nat))).setCell ⟨b, 2, none⟩ (.int .i64 (hd - 1 : Nat))) :=
    ((((Kp.refl (· = b) w').setCell (p := ⟨b, sl n, none⟩) (fun _ => rfl) _).setCell (p := ⟨b, fl n, none⟩) (fun _ => rfl) _).setCell (p := ⟨b, 1, none⟩) (fun _ => rfl) _).setCell (p := ⟨b, 2, none⟩) (fun _ => rfl) _
  have hat := hk.atF h.at_ (hS b h.base)
  have e1 : sl n ≠ 0 ∧ sl n ≠ 1 ∧ sl n ≠ 2 ∧ fl n ≠ 0 ∧ fl n ≠ 1 ∧ fl n ≠ 2 := by unfold sl fl; omega
  have key : ∀ k, n < k → k < n + 64 → sl k ≠ sl n ∧ sl k ≠ fl n ∧ fl k ≠ sl n ∧ fl k ≠ fl n ∧ sl k ≠ 1 ∧ sl k ≠ 2 ∧ fl k ≠ 1 ∧ fl k ≠ 2 := fun k h1 h2 => by unfold sl fl; omega
  have keep : ∀ k, n < k → k < n + 64 → (upd (upd (upd (upd c (sl n) (.slice none 0 0)) (fl n) (.bool false)) 1 (.int .i64 (n + 1 : Nat))) 2 (.int .i64 (hd - 1 : Nat))) (sl k) = c (sl k) ∧
      (upd (upd (upd (upd c (sl n) (.slice none 0 0)) (fl n) (.bool false)) 1 (.int .i64 (n + 1 : Nat))) 2 (.int .i64 (hd - 1 : Nat))) (fl k) = c (fl k) := fun k h1 h2 => by
    obtain ⟨a1, a2, a3, a4, a5, a6, a7, a8⟩ := key k h1 h2
    exact ⟨by rw [upd_ne _ _ a6, upd_ne _ _ a5, upd_ne _ _ a2, upd_ne _ _ a1], by rw [upd_ne _ _ a8, upd_ne _ _ a7, upd_ne _ _ a4, upd_ne _ _ a3]⟩
  have hnone : ∀ k, n + 1 + size ≤ k → f k = none := fun k hk => h.high k (by omega)
  have hend : f (n + 64) = none := h.high _ (by have := h.size_bd; omega)
  have some_lt : ∀ k, n + 1 ≤ k → k < n + 1 + 64 → f k ≠ none → n < k ∧ k < n + 64 := fun k h1 h2 h3 => by
    refine ⟨by omega, ?_⟩
    rcases Nat.lt_or_ge k (n + 64) with h' | h'
    · exact h'
    · exact absurd (show f k = none by rw [show k = n + 64 by omega]; exact hend) h3
  refine ⟨?_, ?_, ?_, ?_, h.size_bd, ⟨by omega, by omega⟩, ?_, h.zero, hnone, h.top, ?_, ?_, ?_, ?_, ?_, ?_⟩
  · exact (((hat.set _ _).set _ _).set _ _).set _ _
  · rw [upd_ne _ _ (by omega), upd_ne _ _ (by omega), upd_ne _ _ e1.2.2.2.1.symm, upd_ne _ _ e1.1.symm]; exact h.sz
  · rw [upd_ne _ _ (by omega), upd_same]
  · rw [upd_same]
  · intro k h1 h2
    by_cases hkn : k = n
    · subst hkn; rw [hl]; simp
    · exact h.low k h1 (by omega)
  · rw [h.cnt]
    have hc := cn_front f n size
    rw [cn, h.high (n + size) (Nat.le_refl _), hl] at hc
    simp at hc
    omega
  · intro k h1 h2
    by_cases hk64 : k = n + 64
    · subst hk64
      rw [show fl (n + 64) = fl n by unfold fl; omega, upd_ne _ _ e1.2.2.2.2.2, upd_ne _ _ e1.2.2.2.2.1, upd_same, hend]; rfl
    · rw [(keep k (by omega) (by omega)).2]
      exact h.flag k (by omega) (by omega)
  · intro k l' h1 h2 h3
    obtain ⟨h1', h2'⟩ := some_lt k h1 h2 (by rw [h3]; simp)
    rw [(keep k h1' h2').1]
    obtain ⟨a1, a4⟩ := h.body k l' (by omega) h2' h3
    refine ⟨(a1.kp hk (fun g hg => hS g (a4 g hg).1)).kp hK (fun g hg => (a4 g hg).2), fun g hg => ⟨⟨(a4 g hg).1, fun e => ?_⟩, (a4 g hg).2⟩⟩
    have := h.dist n k g (by omega) (by omega) (by omega) h2' (by rw [hl]; simp) (by rw [h3]; simp) e hg
    omega
  · intro k k' g h1 h2 h3 h4 h5 h6 h7 h8
    obtain ⟨h1', h2'⟩ := some_lt k h1 h2 h5
    obtain ⟨h3', h4'⟩ := some_lt k' h3 h4 h6
    rw [(keep k h1' h2').1] at h7
    rw [(keep k' h3' h4').1] at h8
    exact h.dist k k' g (by omega) h2' (by omega) h4' h5 h6 h7 h8
  · refine ⟨h.base, fun e => ?_⟩
    obtain ⟨_, a4⟩ := h.body n l (Nat.le_refl _) (by omega) hl
    exact (a4 b e).2 rfl
  · intro k hk'
    exact Nat.lt_of_lt_of_le (h.lt k hk'.1) (Nat.le_trans hk.size hK.size)

/-- A body more is held. -/
theorem InbC.put {w w' : World} {b : Nat} {c : Nat → Value} {size : Nat} {f : Bodies} {n hd : Nat} {F : Nat → Prop} (h : InbC w b c size f n hd F) {q : Nat} {l : List Int} {v : Value}
    (hq : n ≤ q) (hq2 : q < n + size) (hq3 : q < 2147483647) (hf : f q = none) {S : Nat → Prop} (hk : Kp S w w') (hS : ∀ k, F k → ¬ S k)
    (ho : OwnB w' v l) (hv : ∀ g, v.ownBlock = some g → w.heap.size ≤ g) :
    InbC (((w'.setCell ⟨b, sl q, none⟩ v).setCell ⟨b, fl q, none⟩ (.bool true)).setCell ⟨b, 2, none⟩ (.int .i64 (hd + 1 : Nat))) b
      (upd (upd (upd c (sl q) v) (fl q) (.bool true)) 2 (.int .i64 (hd + 1 : Nat))) size (put f q l) n (hd + 1) (fun k => F k ∨ v.ownBlock = some k) := by
  have hsb := h.size_bd
  have hK : Kp (· = b) w' (((w'.setCell ⟨b, sl q, none⟩ v).setCell ⟨b, fl q, none⟩ (.bool true)).setCell ⟨b, 2, none⟩ (.int .i64 (hd + 1 : Nat))) :=
    (((Kp.refl (· = b) w').setCell (p := ⟨b, sl q, none⟩) (fun _ => rfl) _).setCell (p := ⟨b, fl q, none⟩) (fun _ => rfl) _).setCell (p := ⟨b, 2, none⟩) (fun _ => rfl) _
  have hat := hk.atF h.at_ (hS b h.base)
  have hbw := h.at_.lt
  have e1 : sl q ≠ 0 ∧ sl q ≠ 1 ∧ sl q ≠ 2 ∧ fl q ≠ 0 ∧ fl q ≠ 1 ∧ fl q ≠ 2 ∧ sl q ≠ fl q := by unfold sl fl; omega
  have keep : ∀ k, n ≤ k → k < n + 64 → k ≠ q → (upd (upd (upd c (sl q) v) (fl q) (.bool true)) 2 (.int .i64 (hd + 1 : Nat))) (sl k) = c (sl k) ∧
      (upd (upd (upd c (sl q) v) (fl q) (.bool true)) 2 (.int .i64 (hd + 1 : Nat))) (fl k) = c (fl k) := fun k h1 h2 h3 => by
    have a : sl k ≠ sl q ∧ sl k ≠ fl q ∧ fl k ≠ sl q ∧ fl k ≠ fl q ∧ sl k ≠ 2 ∧ fl k ≠ 2 := by unfold sl fl; omega
    exact ⟨by rw [upd_ne _ _ a.2.2.2.2.1, upd_ne _ _ a.2.1, upd_ne _ _ a.1], by rw [upd_ne _ _ a.2.2.2.2.2, upd_ne _ _ a.2.2.2.1, upd_ne _ _ a.2.2.1]⟩
  have here : (upd (upd (upd c (sl q) v) (fl q) (.bool true)) 2 (.int .i64 (hd + 1 : Nat))) (sl q) = v ∧ (upd (upd (upd c (sl q) v) (fl q) (.bool true)) 2 (.int .i64 (hd + 1 : Nat))) (fl q) = .bool true :=
    ⟨by rw [upd_ne _ _ e1.2.2.1, upd_ne _ _ e1.2.2.2.2.2.2, upd_same], by rw [upd_ne _ _ e1.2.2.2.2.2.1, upd_same]⟩
  refine ⟨?_, ?_, ?_, ?_, h.size_bd, h.n_bd, ?_, ?_, ?_, ?_, ?_, ?_, ?_, ?_, .inl h.base, ?_⟩
  · exact ((hat.set _ _).set _ _).set _ _
  · rw [upd_ne _ _ (by omega), upd_ne _ _ e1.2.2.2.1.symm, upd_ne _ _ e1.1.symm]; exact h.sz
  · rw [upd_ne _ _ (by omega), upd_ne _ _ e1.2.2.2.2.1.symm, upd_ne _ _ e1.2.1.symm]; exact h.nx
  · rw [upd_same]
  · intro k h1 h2
    rw [put_ne _ _ (by omega)]; exact h.low k h1 h2
  · have := h.n_bd; rw [put_ne _ _ (by omega)]; exact h.zero
  · intro k hk'; rw [put_ne _ _ (by omega)]; exact h.high k hk'
  · intro k hk'; rw [put_ne _ _ (by omega)]; exact h.top k hk'
  · rw [cn_put f q l n hf size hq hq2, ← h.cnt]
  · intro k h1 h2
    by_cases hkq : k = q
    · subst hkq; rw [here.2, put_same]; rfl
    · rw [(keep k h1 h2 hkq).2, put_ne _ _ hkq]; exact h.flag k h1 h2
  · intro k l' h1 h2 h3
    by_cases hkq : k = q
    · subst hkq
      rw [put_same] at h3
      obtain rfl : l = l' := Option.some.inj h3
      rw [here.1]
      exact ⟨ho.kp hK (fun g hg e => by have := hv g hg; omega), fun g hg => ⟨.inr hg, by have := hv g hg; omega⟩⟩
    · rw [put_ne _ _ hkq] at h3
      rw [(keep k h1 h2 hkq).1]
      obtain ⟨a1, a4⟩ := h.body k l' h1 h2 h3
      exact ⟨(a1.kp hk (fun g hg => hS g (a4 g hg).1)).kp hK (fun g hg => (a4 g hg).2), fun g hg => ⟨.inl (a4 g hg).1, (a4 g hg).2⟩⟩
  · intro k k' g h1 h2 h3 h4 h5 h6 h7 h8
    by_cases hkq : k = q
    · by_cases hkq' : k' = q
      · omega
      · exfalso
        subst hkq
        rw [here.1] at h7
        rw [(keep k' h3 h4 hkq').1] at h8
        rw [put_ne _ _ hkq'] at h6
        obtain ⟨l', hl'⟩ := Option.ne_none_iff_exists'.1 h6
        obtain ⟨a1, a4⟩ := h.body k' l' h3 h4 hl'
        have := a1.lt g h8
        have := hv g h7
        omega
    · by_cases hkq' : k' = q
      · exfalso
        subst hkq'
        rw [here.1] at h8
        rw [(keep k h1 h2 hkq).1] at h7
        rw [put_ne _ _ hkq] at h5
        obtain ⟨l', hl'⟩ := Option.ne_none_iff_exists'.1 h5
        obtain ⟨a1, a4⟩ := h.body k l' h1 h2 hl'
        have := a1.lt g h7
        have := hv g h8
        omega
      · rw [(keep k h1 h2 hkq).1] at h7
        rw [(keep k' h3 h4 hkq').1] at h8
        rw [put_ne _ _ hkq] at h5
        rw [put_ne _ _ hkq'] at h6
        exact h.dist k k' g h1 h2 h3 h4 h5 h6 h7 h8
  · intro k hk'
    rcases hk' with hk' | hk'
    · exact Nat.lt_of_lt_of_le (h.lt k hk') (Nat.le_trans hk.size hK.size)
    · exact Nat.lt_of_lt_of_le (ho.lt k hk') hK.size
end Go.Proofs.Ytnigdgopmmccgaa
