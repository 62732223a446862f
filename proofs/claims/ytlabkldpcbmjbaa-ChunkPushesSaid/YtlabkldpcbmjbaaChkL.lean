/- Chapter 06: what a cut has behind it, and what bytes begin with. No program in sight. -/
import Derived.Test.YtlabkldpcbmjbaaChkG
namespace Go.Proofs.Ytlabkldpcbmjbaa
open Go.RowKit
set_option linter.unusedVariables false
theorem least_of (p : Nat → Prop) (n : Nat) (h : p n) : ∃ m, p m ∧ ∀ k, k < m → ¬ p k := by
  induction n using Nat.strongRecOn with
  | _ n ih =>
    by_cases hk : ∃ k, k < n ∧ p k
    · obtain ⟨k, h1, h2⟩ := hk
      exact ih k h1 h2
    · exact ⟨n, h, fun k h1 h2 => hk ⟨k, h1, h2⟩⟩
theorem nxt_ex (l : List Int) : ∃ n b, nxtP l n b := by
  by_cases ho : Open l
  · exact ⟨l.length, false, .inr ⟨rfl, rfl, ho⟩⟩
  · have hex : ∃ n, 1 ≤ n ∧ n ≤ l.length ∧ ends (l.take n) = true := by
      by_cases h : ∃ n, 1 ≤ n ∧ n ≤ l.length ∧ ends (l.take n) = true
      · exact h
      · refine absurd (fun n h1 h2 => ?_) ho
        cases he : ends (l.take n)
        · rfl
        · exact absurd ⟨n, h1, h2, he⟩ h
    obtain ⟨n0, hn0⟩ := hex
    obtain ⟨m, ⟨h1, h2, h3⟩, hmin⟩ := least_of (fun n => 1 ≤ n ∧ n ≤ l.length ∧ ends (l.take n) = true) n0 hn0
    refine ⟨m, true, .inl ⟨rfl, h1, h2, fun k k1 k2 => ?_, h3⟩⟩
    cases he : ends (l.take k)
    · rfl
    · exact absurd ⟨k1, by omega, he⟩ (hmin k k2)
theorem chunks_step (l : List Int) (h : l ≠ []) : ∃ n, 1 ≤ n ∧ n ≤ l.length ∧ chunks l = l.take n :: chunks (l.drop n) := by
  obtain ⟨n, b, hn⟩ := nxt_ex l
  obtain ⟨h1, h2, h3⟩ := hn.chunks h
  exact ⟨n, h1, h2, h3⟩
/-- How many bytes the first chunks have. -/
def upto (l : List Int) (k : Nat) : Nat := ((chunks l).take k).flatten.length
theorem upto_le (l : List Int) (k : Nat) : upto l k ≤ l.length := by
  unfold upto
  have h := chunks_join l
  rw [← List.take_append_drop k (chunks l), List.flatten_append] at h
  have := congrArg List.length h
  rw [List.length_append] at this
  omega
theorem flat_sum (ls : List (List Int)) : ls.flatten.length = (lens ls).sum := by rw [List.length_flatten]; rfl
theorem upto_sum (l : List Int) (k : Nat) : upto l k = ((lens (chunks l)).take k).sum := by
  unfold upto
  rw [flat_sum, lens, lens, List.map_take]
theorem upto_succ (l : List Int) (k : Nat) (h : k < (chunks l).length) : upto l (k + 1) = upto l k + (lens (chunks l)).getD k 0 := by
  rw [upto_sum, upto_sum, take_snoc _ 0 k (by rw [lens_len]; exact h), List.sum_append]; simp
/-- Behind any cut bytes are cut as if they stood alone. -/
theorem chunks_drop : ∀ (k : Nat) (l : List Int), (chunks l).drop k = chunks (l.drop (upto l k))
  | 0, l => by simp [upto]
  | k + 1, l => by
    by_cases h : l = []
    · subst h; simp [chunks_nil]
    · obtain ⟨n, h1, h2, h3⟩ := chunks_step l h
      have e : upto l (k + 1) = n + upto (l.drop n) k := by
        unfold upto
        rw [h3, List.take_succ_cons, List.flatten_cons, List.length_append, List.length_take, Nat.min_eq_left h2]
      rw [e, show l.drop (n + upto (l.drop n) k) = (l.drop n).drop (upto (l.drop n) k) by rw [List.drop_drop], ← chunks_drop k (l.drop n), h3, List.drop_succ_cons]
/-- What bytes begin with is cut as it is in them, but for its last chunk. -/
theorem chunks_pre (l : List Int) (p i : Nat) (h : i + 1 < (chunks (l.take p)).length) : i < (chunks l).length ∧ (lens (chunks (l.take p))).getD i 0 = (lens (chunks l)).getD i 0 := by
  have e := chs_append (l.take p) (l.drop p) []
  rw [List.take_append_drop] at e
  have hi : i < (chs [] (l.take p)).1.length := by
    unfold chunks at h
    rw [List.length_append] at h
    split at h <;> simp at h <;> omega
  have hg : ∀ r : List (List Int), ((chs [] (l.take p)).1 ++ r).getD i [] = (chs [] (l.take p)).1.getD i [] := fun r => by
    rw [List.getD_eq_getElem?_getD, List.getElem?_append_left hi, List.getD_eq_getElem?_getD]
  have h1 : (chunks l).getD i [] = (chunks (l.take p)).getD i [] := by
    unfold chunks
    rw [e]
    dsimp only
    rw [List.append_assoc, hg, hg]
  refine ⟨?_, by rw [lens_getD, lens_getD, h1]⟩
  unfold chunks
  rw [e]
  simp only [List.length_append]
  omega
theorem lens_drop (ls : List (List Int)) (k : Nat) : lens (ls.drop k) = (lens ls).drop k := by simp [lens]
end Go.Proofs.Ytlabkldpcbmjbaa
