/- Chapter 06: the places behind which chunks end, and the chunks between them. No program in sight. -/
import Derived.Test.YtlabkldpcbmjbaaChkM
namespace Go.Proofs.Ytlabkldpcbmjbaa
open Go.RowKit
set_option linter.unusedVariables false
/-- The place ahead of number i. -/
def prevP (k : Nat) (C : List Nat) (i : Nat) : Nat := if i = 0 then k else C.getD (i - 1) 0
theorem prevP_zero (k : Nat) (C : List Nat) : prevP k C 0 = k := rfl
theorem prevP_cons (k x : Nat) (C : List Nat) (i : Nat) : prevP k (x :: C) (i + 1) = prevP x C i := by
  unfold prevP
  cases i with
  | zero => rfl
  | succ i => rw [if_neg (by omega), if_neg (by omega)]; rfl
theorem cuts_spec : ∀ (l cur : List Int) (k : Nat), (cutsAt cur l k).length = (chs cur l).1.length ∧
    (∀ i, i < (cutsAt cur l k).length → prevP k (cutsAt cur l k) i < (cutsAt cur l k).getD i 0 ∧ k ≤ prevP k (cutsAt cur l k) i ∧ (cutsAt cur l k).getD i 0 ≤ k + l.length ∧
      (chs cur l).1.getD i [] = (if i = 0 then cur else []) ++ (l.drop (prevP k (cutsAt cur l k) i - k)).take ((cutsAt cur l k).getD i 0 - prevP k (cutsAt cur l k) i)) ∧
    k ≤ prevP k (cutsAt cur l k) (cutsAt cur l k).length ∧ prevP k (cutsAt cur l k) (cutsAt cur l k).length ≤ k + l.length ∧
      (chs cur l).2 = (if (cutsAt cur l k).length = 0 then cur else []) ++ l.drop (prevP k (cutsAt cur l k) (cutsAt cur l k).length - k)
  | [], cur, k => by simp [cutsAt, chs, prevP]
  | c :: r, cur, k => by
    cases he : ends (cur ++ [c])
    · rw [cutsAt_miss he, chs_miss he]
      obtain ⟨h1, h2, h3, h4, h5⟩ := cuts_spec r (cur ++ [c]) (k + 1)
      generalize cutsAt (cur ++ [c]) r (k + 1) = C at *
      have hp : ∀ i, i ≠ 0 → prevP k C i = prevP (k + 1) C i := fun i hi => by unfold prevP; rw [if_neg hi, if_neg hi]
      refine ⟨h1, fun i hi => ?_, ?_⟩
      · obtain ⟨a1, a2, a3, a4⟩ := h2 i hi
        rw [a4, List.length_cons]
        by_cases h0 : i = 0
        · subst h0
          rw [prevP_zero] at a1 a2 ⊢
          refine ⟨by omega, by omega, by omega, ?_⟩
          rw [prevP_zero, if_pos rfl, if_pos rfl, Nat.sub_self, Nat.sub_self, List.drop_zero, List.drop_zero, show C.getD 0 0 - k = (C.getD 0 0 - (k + 1)) + 1 by omega, List.take_succ_cons]
          simp
        · rw [if_neg h0, if_neg h0, hp i h0]
          refine ⟨by omega, by omega, by omega, ?_⟩
          rw [show prevP (k + 1) C i - k = (prevP (k + 1) C i - (k + 1)) + 1 by omega, List.drop_succ_cons]
      · rw [h5, List.length_cons]
        by_cases h0 : C.length = 0
        · rw [h0, prevP_zero, prevP_zero, if_pos rfl, if_pos rfl, Nat.sub_self, Nat.sub_self]
          refine ⟨by omega, by omega, by simp⟩
        · rw [if_neg h0, if_neg h0, hp _ h0]
          refine ⟨by omega, by omega, ?_⟩
          rw [show prevP (k + 1) C C.length - k = (prevP (k + 1) C C.length - (k + 1)) + 1 by omega, List.drop_succ_cons]
    · rw [cutsAt_hit he, chs_hit he]
      obtain ⟨h1, h2, h3, h4, h5⟩ := cuts_spec r [] (k + 1)
      generalize cutsAt [] r (k + 1) = C at *
      refine ⟨by simp [h1], fun i hi => ?_, ?_⟩
      · simp only [List.length_cons] at hi ⊢
        cases i with
        | zero => simp [prevP]
        | succ i =>
          obtain ⟨a1, a2, a3, a4⟩ := h2 i (by omega)
          rw [prevP_cons, List.getD_cons_succ, List.getD_cons_succ, a4, if_neg (Nat.succ_ne_zero i)]
          refine ⟨by omega, by omega, by omega, ?_⟩
          rw [show prevP (k + 1) C i - k = (prevP (k + 1) C i - (k + 1)) + 1 by omega, List.drop_succ_cons]
          simp
      · simp only [List.length_cons]
        rw [prevP_cons, h5, if_neg (Nat.succ_ne_zero _)]
        refine ⟨by omega, by omega, ?_⟩
        rw [show prevP (k + 1) C C.length - k = (prevP (k + 1) C C.length - (k + 1)) + 1 by omega, List.drop_succ_cons]
        simp
theorem chs_len_le : ∀ (l cur : List Int), (chs cur l).1.length ≤ l.length
  | [], cur => by simp [chs]
  | c :: r, cur => by
    cases he : ends (cur ++ [c])
    · rw [chs_miss he]; have := chs_len_le r (cur ++ [c]); simp; omega
    · rw [chs_hit he]; have := chs_len_le r []; simp; omega
/-- The last place. -/
def lastP (pre : List Nat) : Nat := prevP 0 pre pre.length
theorem lastP_nil : lastP [] = 0 := rfl
theorem lastP_snoc (pre : List Nat) (x : Nat) : lastP (pre ++ [x]) = x := by
  unfold lastP prevP
  rw [List.length_append, List.length_singleton, if_neg (by omega), Nat.add_sub_cancel, List.getD_eq_getElem?_getD, List.getElem?_append_right (by omega), Nat.sub_self]; rfl
/-- One cut more. -/
theorem cuts_step {l cur : List Int} {pre : List Nat} {x : Nat} (h : pre ++ [x] <+: cutsAt cur l 0) :
    lastP pre < x ∧ x ≤ l.length ∧ (chs cur l).1.take (pre.length + 1) = (chs cur l).1.take pre.length ++ [(if pre = [] then cur else []) ++ (l.drop (lastP pre)).take (x - lastP pre)] := by
  obtain ⟨r, hr⟩ := h
  obtain ⟨h1, h2, _⟩ := cuts_spec l cur 0
  have hl : pre.length < (cutsAt cur l 0).length := by rw [← hr]; simp
  obtain ⟨a1, _, a3, a4⟩ := h2 _ hl
  have e1 : (cutsAt cur l 0).getD pre.length 0 = x := by
    rw [← hr, List.getD_eq_getElem?_getD, List.getElem?_append_left (by simp), List.getElem?_append_right (by omega), Nat.sub_self]; rfl
  have e2 : prevP 0 (cutsAt cur l 0) pre.length = lastP pre := by
    unfold lastP prevP
    by_cases h0 : pre.length = 0
    · rw [if_pos h0, if_pos h0]
    · rw [if_neg h0, if_neg h0, ← hr, List.getD_eq_getElem?_getD, List.append_assoc, List.getElem?_append_left (by omega), List.getD_eq_getElem?_getD]
  rw [e1, e2] at a1 a4
  rw [e1] at a3
  refine ⟨a1, by omega, ?_⟩
  rw [take_snoc _ [] _ (by omega), a4, Nat.sub_zero]
  have : (pre.length = 0) = (pre = []) := by simp
  simp only [this]
/-- Behind the last cut. -/
theorem cuts_end (l cur : List Int) : (chs cur l).1.take (cutsAt cur l 0).length = (chs cur l).1 ∧ lastP (cutsAt cur l 0) ≤ l.length ∧
    (chs cur l).2 = (if cutsAt cur l 0 = [] then cur else []) ++ l.drop (lastP (cutsAt cur l 0)) := by
  obtain ⟨h1, _, _, h4, h5⟩ := cuts_spec l cur 0
  refine ⟨by rw [h1]; exact List.take_length, by unfold lastP; omega, ?_⟩
  rw [h5]
  have : ((cutsAt cur l 0).length = 0) = (cutsAt cur l 0 = []) := by simp
  simp only [this]
  rfl
end Go.Proofs.Ytlabkldpcbmjbaa
