/- A roller that was pushed some bytes: plain arithmetic (as in chapter 05, without its contracts). -/
import Derived.Test.YtlabkldpcbmjbaaChkM
namespace Go.Proofs.Ytlabkldpcbmjbaa
open Go.RowKit
set_option linter.unusedVariables false

/-- The sum without the modulus. -/
def smz (l : List Int) : Int := l.foldl (fun n c => 3 * n + wt c) 0
theorem smz_snoc (l : List Int) (c : Int) : smz (l ++ [c]) = 3 * smz l + wt c := by simp [smz]
theorem snoc_ind {α : Type} {P : List α → Prop} (h0 : P []) (h1 : ∀ l c, P l → P (l ++ [c])) : ∀ l, P l := fun l => by
  have : ∀ n (l : List α), l.length = n → P l := by
    intro n
    induction n with
    | zero => intro l hl; rw [List.eq_nil_of_length_eq_zero hl]; exact h0
    | succ n ih =>
      intro l hl
      rcases List.eq_nil_or_concat l with rfl | ⟨l', c, rfl⟩
      · exact h0
      · rw [List.concat_eq_append] at hl ⊢
        exact h1 _ _ (ih l' (by simpa using hl))
  exact this _ l rfl
theorem sm_smz (l : List Int) : sm l = smz l % 4294967296 := by
  induction l using snoc_ind with
  | h0 => rfl
  | h1 l c ih => rw [sm_snoc, smz_snoc, ih]; omega
theorem smz_cons (o : Int) (m : List Int) : smz (o :: m) = wt o * 3 ^ m.length + smz m := by
  induction m using snoc_ind with
  | h0 => simp [smz]
  | h1 m c ih =>
    rw [← List.cons_append, smz_snoc, smz_snoc, ih, List.length_append, List.length_singleton, Int.pow_succ]
    have : wt o * (3 ^ m.length * 3) = 3 * (wt o * 3 ^ m.length) := by rw [← Int.mul_assoc, Int.mul_comm]
    omega
theorem rl_sm (o c : Int) (m : List Int) (hm : m.length = 15) : rl (sm (o :: m)) o c = sm (m ++ [c]) := by
  rw [sm_smz, sm_smz, smz_cons, smz_snoc, hm, rl]
  have : (3 : Int) ^ 15 = 14348907 := by decide
  rw [this]
  omega
theorem last16_len (l : List Int) (h : 16 ≤ l.length) : (last16 l).length = 16 := by simp [last16]; omega
theorem last16_short (l : List Int) (h : l.length ≤ 16) : last16 l = l := by simp [last16, show l.length - 16 = 0 by omega]
theorem last16_append (l m : List Int) (h : 16 ≤ m.length) : last16 (l ++ m) = last16 m := by
  unfold last16
  rw [List.length_append, List.drop_append, List.drop_eq_nil_of_le (by omega), List.nil_append]
  congr 1; omega
theorem last16_snoc (l : List Int) (c : Int) (h : 16 ≤ l.length) : ∃ m, m.length = 15 ∧ last16 l = l.getD (l.length - 16) 0 :: m ∧ last16 (l ++ [c]) = m ++ [c] := by
  refine ⟨l.drop (l.length - 15), by simp; omega, ?_, ?_⟩
  · rw [last16, List.drop_eq_getElem_cons (show l.length - 16 < l.length by omega), show l.length - 16 + 1 = l.length - 15 by omega]
    congr 1
    rw [List.getD_eq_getElem?_getD, List.getElem?_eq_getElem (show l.length - 16 < l.length by omega)]; rfl
  · rw [last16, List.length_append, List.length_singleton, show l.length + 1 - 16 = l.length - 15 by omega, List.drop_append_of_le_length (by omega)]

structure RollInv (l ring : List Int) (n : Nat) (s : Int) : Prop where
  len : ring.length = 16
  byt : Byt ring
  num : n = if l.length < 16 then l.length else 16 + l.length % 16
  sum : s = sm (last16 l)
  at_ : ∀ j, j < l.length → l.length ≤ j + 16 → ring.getD (j % 16) 0 = l.getD j 0
theorem RollInv.start : RollInv [] (List.replicate 16 0) 0 0 := ⟨rfl, fun x hx => by rw [List.eq_of_mem_replicate hx]; omega, rfl, rfl, fun j hj => by simp at hj⟩
theorem RollInv.lt {l ring : List Int} {n : Nat} {s : Int} (h : RollInv l ring n s) : n < 32 ∧ n % 16 = l.length % 16 := by
  have := h.num; split at this <;> omega
theorem RollInv.bd {l ring : List Int} {n : Nat} {s : Int} (h : RollInv l ring n s) : 0 ≤ s ∧ s < 4294967296 := by rw [h.sum]; exact sm_bd _
theorem RollInv.full {l ring : List Int} {n : Nat} {s : Int} (h : RollInv l ring n s) : (16 ≤ n) ↔ 16 ≤ l.length := by
  have := h.num; split at this <;> omega
theorem getD_set_self (l : List Int) (i : Nat) (c : Int) (h : i < l.length) : (l.set i c).getD i 0 = c := by
  rw [List.getD_eq_getElem?_getD, List.getElem?_set_self h]; rfl
theorem getD_set_ne (l : List Int) (i j : Nat) (c : Int) (h : i ≠ j) : (l.set i c).getD j 0 = l.getD j 0 := by
  rw [List.getD_eq_getElem?_getD, List.getElem?_set_ne h, List.getD_eq_getElem?_getD]
theorem getD_append_lt (l m : List Int) (j : Nat) (h : j < l.length) : (l ++ m).getD j 0 = l.getD j 0 := by
  rw [List.getD_eq_getElem?_getD, List.getElem?_append_left h, List.getD_eq_getElem?_getD]
theorem getD_append_at (l : List Int) (c : Int) : (l ++ [c]).getD l.length 0 = c := by
  rw [List.getD_eq_getElem?_getD, List.getElem?_append_right (by omega), Nat.sub_self]; rfl
theorem Byt.set {l : List Int} (h : Byt l) (i : Nat) {c : Int} (hc : 0 ≤ c ∧ c ≤ 255) : Byt (l.set i c) := fun x hx => by
  rcases List.mem_or_eq_of_mem_set hx with h' | rfl
  · exact h x h'
  · exact hc
theorem RollInv.push {l ring : List Int} {n : Nat} {s c : Int} (h : RollInv l ring n s) (hc : 0 ≤ c ∧ c ≤ 255) :
    ps ring n s c = sm (last16 (l ++ [c])) ∧ RollInv (l ++ [c]) (ring.set (n % 16) c) (nx n) (ps ring n s c) := by
  have hsum : ps ring n s c = sm (last16 (l ++ [c])) := by
    unfold ps
    have hf := h.full
    split
    · rename_i hn
      have hl : l.length < 16 := by omega
      rw [h.sum, last16_short l (by omega), last16_short (l ++ [c]) (by simp; omega), sm_snoc]
    · have hl : 16 ≤ l.length := by omega
      obtain ⟨m, hm, e1, e2⟩ := last16_snoc l c hl
      have ho := h.at_ (l.length - 16) (by omega) (by omega)
      rw [h.sum, e2, h.lt.2, show l.length % 16 = (l.length - 16) % 16 by omega, ho, e1]
      exact rl_sm _ _ _ hm
  refine ⟨hsum, by simpa using h.len, h.byt.set _ hc, ?_, hsum, ?_⟩
  · have := h.num
    rw [List.length_append, List.length_singleton]
    unfold nx
    split at this <;> split <;> split <;> omega
  · intro j hj hj2
    rw [List.length_append, List.length_singleton] at hj hj2
    rw [h.lt.2]
    by_cases hjl : j = l.length
    · subst hjl
      rw [getD_set_self _ _ _ (by rw [h.len]; omega), getD_append_at]
    · rw [getD_set_ne _ _ _ _ (by omega), getD_append_lt _ _ _ (by omega)]
      exact h.at_ j (by omega) (by omega)

end Go.Proofs.Ytlabkldpcbmjbaa
