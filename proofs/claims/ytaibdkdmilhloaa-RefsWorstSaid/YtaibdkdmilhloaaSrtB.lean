/- Blocks of a list, each sorted. No program in sight. -/
import Derived.Test.YtaibdkdmilhloaaSrtA
namespace Go.Proofs.Ytaibdkdmilhloaa
set_option linter.unusedVariables false
def slc (l : List Nat) (o k : Nat) : List Nat := (l.drop o).take k
def Sg (lt : Nat → Nat → Bool) (d X : List Nat) (o k : Nat) : Prop := (slc X o k).Pairwise (Rr lt) ∧ (slc X o k).Perm (slc d o k)
theorem slc_left (P Y : List Nat) (o k : Nat) (h : o + k ≤ P.length) : slc (P ++ Y) o k = slc P o k := by
  unfold slc
  rw [List.drop_append_of_le_length (by omega), List.take_append_of_le_length (by rw [List.length_drop]; omega)]
theorem slc_right (P Y : List Nat) (o k : Nat) (h : P.length ≤ o) : slc (P ++ Y) o k = slc Y (o - P.length) k := by
  unfold slc
  rw [List.drop_append, List.drop_eq_nil_of_le h, List.nil_append]
theorem slc_other (P M W Q : List Nat) (o k : Nat) (hl : W.length = M.length) (h : o + k ≤ P.length ∨ P.length + M.length ≤ o) : slc (P ++ W ++ Q) o k = slc (P ++ M ++ Q) o k := by
  rcases h with h | h
  · rw [List.append_assoc, List.append_assoc, slc_left _ _ _ _ h, slc_left _ _ _ _ h]
  · rw [slc_right _ _ _ _ (by rw [List.length_append]; omega), slc_right _ _ _ _ (by rw [List.length_append]; omega), List.length_append, List.length_append, hl]
theorem slc_mid (P W Q : List Nat) (k : Nat) (hk : W.length ≤ k) (h : W.length = k ∨ Q = []) : slc (P ++ W ++ Q) P.length k = W := by
  rw [List.append_assoc, slc_right _ _ _ _ (Nat.le_refl _), Nat.sub_self]
  unfold slc
  rw [List.drop_zero]
  rcases h with h | rfl
  · rw [← h, List.take_left']
    rfl
  · rw [List.append_nil, List.take_of_length_le hk]
theorem slc_len (l : List Nat) (o k : Nat) : (slc l o k).length = min k (l.length - o) := by unfold slc; rw [List.length_take, List.length_drop]
theorem slc_join (l : List Nat) (o k k' : Nat) : slc l o (k + k') = slc l o k ++ slc l (o + k) k' := by
  unfold slc; rw [List.take_add, List.drop_drop]
theorem slc_split (l : List Nat) (o k : Nat) : l = l.take o ++ slc l o k ++ l.drop (o + k) := by
  unfold slc
  rw [List.append_assoc, ← List.drop_drop, List.take_append_drop, List.take_append_drop]
theorem slc_none (l : List Nat) (o k : Nat) (h : l.length ≤ o) : slc l o k = [] := by unfold slc; rw [List.drop_eq_nil_of_le h, List.take_nil]
theorem Sg.none {lt : Nat → Nat → Bool} {d X : List Nat} {o k : Nat} (h1 : d.length ≤ o) (h2 : X.length ≤ o) : Sg lt d X o k := by
  unfold Sg; rw [slc_none _ _ _ h1, slc_none _ _ _ h2]; exact ⟨List.Pairwise.nil, List.Perm.refl _⟩
theorem slc_mono {d : List Nat} (h : d.Pairwise (· < ·)) (o k : Nat) : (slc d o k).Pairwise (· < ·) := (h.sublist (List.drop_sublist _ _)).sublist (List.take_sublist _ _)
theorem slc_lt {d : List Nat} (h : d.Pairwise (· < ·)) (o k k' : Nat) : ∀ u ∈ slc d o k, ∀ v ∈ slc d (o + k) k', u < v := by
  have := slc_mono h o (k + k')
  rw [slc_join] at this
  exact fun u hu v hv => (List.pairwise_append.1 this).2.2 u hu v hv
/-- a block of twice the size, out of two, where the list is turned there alone -/
theorem Sg.merge {lt : Nat → Nat → Bool} {d X P U V W Q : List Nat} {bs o : Nat} (hX : X = P ++ U ++ V ++ Q) (hP : P.length = o) (hU : U = slc X o bs) (hV : V = slc X (o + bs) bs) (h1 : Sg lt d X o bs) (h2 : Sg lt d X (o + bs) bs) (hW : W.Pairwise (Rr lt)) (hp : W.Perm (U ++ V))
    (hl : U.length = bs) (hl2 : V.length ≤ bs) (hl3 : V.length = bs ∨ Q = []) : Sg lt d (P ++ W ++ Q) o (2 * bs) := by
  have hWl : W.length = U.length + V.length := by rw [hp.length_eq, List.length_append]
  have e : slc (P ++ W ++ Q) o (2 * bs) = W := by
    rw [← hP]
    refine slc_mid P W Q (2 * bs) (by omega) ?_
    rcases hl3 with h | h
    · exact .inl (by omega)
    · exact .inr h
  unfold Sg
  rw [e]
  refine ⟨hW, hp.trans ?_⟩
  rw [show 2 * bs = bs + bs by omega, slc_join, hU, hV]
  exact h1.2.append h2.2
end Go.Proofs.Ytaibdkdmilhloaa
