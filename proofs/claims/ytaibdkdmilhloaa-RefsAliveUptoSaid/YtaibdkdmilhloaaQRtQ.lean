/- The document's ratio: Before, Pick, Order. -/
import Derived.Test.YtaibdkdmilhloaaQSrtE
namespace Go.Proofs.Ytaibdkdmilhloaa
open Go.RowKit Flt
set_option linter.unusedVariables false
theorem rnan_any (a : Nat) (w : World) : Calls Try.prog 50 #[.float .f64 a] w fun e w' => e = .returned (.bool (nanb a)) ∧ w = w' := by
  have ha := ord_nan a
  go_enter Try.func50, Try.ntmps50
  go_wp2
  go_ret
  exact ⟨rfl, rfl⟩
theorem rbefore_any (a b : Nat) (w : World) : Calls Try.prog 40 #[.float .f64 a, .float .f64 b] w fun e w' => e = .returned (.bool (bef a b)) ∧ w = w' := by
  have Ca := Lib.hid (fun w' => rnan_any a w')
  have Cb := Lib.hid (fun w' => rnan_any b w')
  have hg := ord_gt a b
  unfold bef
  cases hA : nanb a
  · rw [hA] at Ca hg
    cases hB : nanb b
    · rw [hB] at Cb hg
      go_enter Try.func40, Try.ntmps40
      go_wp2_with (go_at_call 50; (first | (with_reducible refine (Ca.out _).mono ?_) | (with_reducible refine (Cb.out _).mono ?_)); rintro e w1 ⟨rfl, rfl⟩)
      go_ret
      exact ⟨by simp, rfl⟩
    · rw [hB] at Cb
      go_enter Try.func40, Try.ntmps40
      go_wp2_with (go_at_call 50; (first | (with_reducible refine (Ca.out _).mono ?_) | (with_reducible refine (Cb.out _).mono ?_)); rintro e w1 ⟨rfl, rfl⟩)
      go_ret
      exact ⟨rfl, rfl⟩
  · rw [hA] at Ca
    go_enter Try.func40, Try.ntmps40
    go_wp2_with (go_at_call 50; (with_reducible refine (Ca.out _).mono ?_); rintro e w1 ⟨rfl, rfl⟩)
    go_ret
    exact ⟨rfl, rfl⟩
/-- is one ahead of another one, or beside it and lower? -/
def rb (l : List Nat) (i k : Nat) : Bool := bef (l.getD k 0) (l.getD i 0) || (!bef (l.getD i 0) (l.getD k 0) && decide (k < i))
theorem rb_iff (l : List Nat) (i k : Nat) : rb l i k = true ↔ Rr (ltF l) k i := by
  unfold rb Rr ltF
  cases bef (l.getD k 0) (l.getD i 0) <;> cases bef (l.getD i 0) (l.getD k 0) <;> simp
def rank (l : List Nat) (i K : Nat) : Nat := (List.range K).countP (rb l i)
theorem rank_succ (l : List Nat) (i K : Nat) : rank l i (K + 1) = rank l i K + (if rb l i K = true then 1 else 0) := by
  unfold rank
  rw [List.range_succ, List.countP_append, List.countP_singleton]
theorem rank_le (l : List Nat) (i K : Nat) : rank l i K ≤ K := by
  unfold rank
  have := List.countP_le_length (p := rb l i) (l := List.range K)
  rwa [List.length_range] at this
theorem rank_at {l W : List Nat} (hW : W.Pairwise (Rr (ltF l))) (hp : W.Perm (List.range l.length)) (i : Nat) (hi : i < l.length) : W[rank l i l.length]? = some i := by
  have hw := ltF_wk l
  have hiW : i ∈ W := hp.mem_iff.2 (by simpa using hi)
  obtain ⟨W1, W2, rfl⟩ := List.append_of_mem hiW
  obtain ⟨s1, s2, s3⟩ := List.pairwise_append.1 hW
  have h2 := (List.pairwise_cons.1 s2).1
  have hirr : ¬ Rr (ltF l) i i := fun h => by
    rcases h with h | ⟨_, h⟩
    · rw [hw.irr] at h; cases h
    · omega
  have hc : rank l i l.length = W1.length := by
    unfold rank
    rw [← hp.countP_eq, List.countP_append, List.countP_cons, List.countP_eq_length.2 (fun x hx => (rb_iff l i x).2 (s3 x hx i (by simp)))]
    have h3 : List.countP (rb l i) W2 = 0 := List.countP_eq_zero.2 (fun x hx hb => by
      have r1 := (rb_iff l i x).1 hb
      have r2 := h2 x hx
      have a1 := r1.not hw
      have a2 := r2.not hw
      rcases r1 with h | ⟨_, h⟩
      · rw [h] at a2; cases a2
      · rcases r2 with h' | ⟨_, h'⟩
        · rw [h'] at a1; cases a1
        · omega)
    have h4 : ¬ rb l i i = true := fun h => hirr ((rb_iff l i i).1 h)
    rw [h3, if_neg h4]
    omega
  rw [hc]
  simp
def outs (W : List Nat) (I : Nat) : List Value := W.map fun (x : Nat) => Value.int .i64 ((if x < I then x else 0 : Nat) : Int)
theorem outs_set {l W : List Nat} (hW : W.Pairwise (Rr (ltF l))) (hp : W.Perm (List.range l.length)) (i : Nat) (hi : i < l.length) : (outs W i).set (rank l i l.length) (.int .i64 (i : Int)) = outs W (i + 1) := by
  have hat := rank_at hW hp i hi
  have hnd : W.Nodup := hp.nodup_iff.2 List.nodup_range
  apply List.ext_getElem?
  intro r
  rw [List.getElem?_set]
  unfold outs
  rw [List.length_map, List.getElem?_map, List.getElem?_map]
  generalize rank l i l.length = q at *
  have hq : q < W.length := by
    rcases Nat.lt_or_ge q W.length with g | g
    · exact g
    · rw [List.getElem?_eq_none g] at hat; cases hat
  by_cases hqr : q = r
  · subst hqr
    rw [if_pos rfl, if_pos hq, hat]
    simp
  · rw [if_neg hqr]
    cases hr : W[r]? with
    | none => rfl
    | some x =>
      have hxi : x ≠ i := fun e => by
        subst e
        have hrl : r < W.length := by
          rcases Nat.lt_or_ge r W.length with g | g
          · exact g
          · rw [List.getElem?_eq_none g] at hr; cases hr
        exact hqr ((List.getElem?_inj hq hnd).1 (by rw [hat, hr]))
      have : (x < i + 1) = (x < i) := by simp; omega
      simp [this]
end Go.Proofs.Ytaibdkdmilhloaa
