/- Who is chosen, plain: how many, in which order, and that who is worth more is ahead. -/
import Derived.Test.YtaibdkdmilhloaaAwP
namespace Go.Proofs.Ytaibdkdmilhloaa
open Go.RowKit
set_option linter.unusedVariables false
set_option linter.unusedSimpArgs false
def worthy (l : List Pk) (least : Nat) (i : Nat) : Bool := !bef least (canP (pkn l i))
def worthN (l : List Pk) (least k : Nat) : Nat := ((List.range k).filter (worthy l least)).length
theorem worthN_succ (l : List Pk) (least k : Nat) : worthN l least (k + 1) = worthN l least k + (if bef least (canP (pkn l k)) = true then 0 else 1) := by
  unfold worthN worthy
  rw [List.range_succ, List.filter_append, List.length_append]
  cases h : bef least (canP (pkn l k)) <;> simp [List.filter_cons, h]
theorem worthN_le (l : List Pk) (least k : Nat) : worthN l least k ≤ k := by
  unfold worthN
  have := List.length_filter_le (worthy l least) (List.range k)
  simpa using this
theorem chosen_len {l : List Pk} {least : Nat} {most : Int} {W : List Nat} (hp : W.Perm (List.range l.length)) : (chosenL l least most W).length = min most.toNat (worthN l least l.length) := by
  unfold chosenL worthN
  rw [List.length_map, List.length_take]
  have := (hp.filter (worthy l least)).length_eq
  unfold worthy at *
  rw [this]
theorem chosen_pre {l : List Pk} {least : Nat} {m m' : Int} {W : List Nat} (h : m ≤ m') : (chosenL l least m' W).take (chosenL l least m W).length = chosenL l least m W := by
  unfold chosenL
  rw [← List.map_take, List.take_take, List.length_map, List.length_take]
  congr 1
  have : m.toNat ≤ m'.toNat := Int.toNat_le_toNat h
  generalize W.filter _ = F
  rw [show min (min m.toNat F.length) m'.toNat = min m.toNat F.length by omega]
  rcases Nat.le_total m.toNat F.length with h | h
  · rw [Nat.min_eq_left h]
  · rw [Nat.min_eq_right h, List.take_length, List.take_of_length_le h]
theorem Rr.anti {lt : Nat → Nat → Bool} (hw : Wk lt) {x y : Nat} (h : Rr lt x y) (k : Rr lt y x) : x = y := by
  have h1 := Rr.not hw h
  have k1 := Rr.not hw k
  unfold Rr at h k
  rw [k1] at h
  rw [h1] at k
  rcases h with h | h
  · cases h
  · rcases k with k | k
    · cases k
    · omega
theorem sorted_uniq {l : List Pk} {W V : List Nat} (hW : ∀ P, Prts P l → W.Pairwise (Rr (ltF P))) (hV : ∀ P, Prts P l → V.Pairwise (Rr (ltF P))) (hp : W.Perm (List.range l.length)) (hq : V.Perm (List.range l.length)) : W = V := by
  have hP : Prts (l.map canP) l := ⟨by simp, fun i hi => .inl (by simp [List.getD_eq_getElem?_getD, hi, pkn])⟩
  exact List.Perm.eq_of_pairwise (fun a b _ _ h k => Rr.anti (ltF_wk _) h k) (hW _ hP) (hV _ hP) (hp.trans hq.symm)
theorem bef_tr {a b c : Nat} (h : bef a b = true) (h2 : bef b c = true) : bef a c = true := by
  have w := ltF_wk [a, b, c]
  have e : ∀ x y, ltF [a, b, c] x y = bef ([a, b, c].getD x 0) ([a, b, c].getD y 0) := fun x y => rfl
  have h1 : ltF [a, b, c] 1 0 = false := w.asym h
  cases h3 : bef a c
  · have := w.neg (x := 1) (y := 0) (z := 2) h1 h3
    have h2' : ltF [a, b, c] 1 2 = true := h2
    rw [h2'] at this
    cases this
  · rfl
/-- A chosen one is worth it, and all that are worth more are chosen ahead. -/
theorem chosen_at {l : List Pk} {least : Nat} {most : Int} {W : List Nat} (hW : ∀ P, Prts P l → W.Pairwise (Rr (ltF P))) (hp : W.Perm (List.range l.length)) {i : Nat} (hi : i < (chosenL l least most W).length) :
    ∃ x, x < l.length ∧ (chosenL l least most W).getD i 0 = (pkn l x).num ∧ bef least (canP (pkn l x)) = false ∧
      ∀ k, k < l.length → bef (canP (pkn l k)) (canP (pkn l x)) = true → (pkn l k).num ∈ (chosenL l least most W).take i := by
  have hP : Prts (l.map canP) l := ⟨by simp, fun i hi => .inl (by simp [List.getD_eq_getElem?_getD, hi, pkn])⟩
  have hw := ltF_wk (l.map canP)
  have hlt : ∀ x y, x < l.length → y < l.length → ltF (l.map canP) x y = bef (canP (pkn l x)) (canP (pkn l y)) := fun x y hx hy => by
    unfold ltF
    simp [List.getD_eq_getElem?_getD, hx, hy, pkn]
  unfold chosenL at hi ⊢
  obtain ⟨F, hF⟩ : ∃ F, F = W.filter (fun i => !bef least (canP (pkn l i))) := ⟨_, rfl⟩
  rw [← hF] at hi ⊢
  have hFs : F.Pairwise (Rr (ltF (l.map canP))) := by rw [hF]; exact (hW _ hP).sublist List.filter_sublist
  rw [List.length_map, List.length_take] at hi
  have hiF : i < F.length := by omega
  have him : i < most.toNat := by omega
  have hmem : ∀ y, y ∈ F ↔ y < l.length ∧ bef least (canP (pkn l y)) = false := fun y => by
    rw [hF, List.mem_filter, hp.mem_iff, List.mem_range]
    simp
  have hx := (hmem F[i]).1 (List.getElem_mem hiF)
  refine ⟨F[i], hx.1, ?_, hx.2, fun k hk hb => ?_⟩
  · simp [List.getD_eq_getElem?_getD, hiF, him]
  · have hkw : bef least (canP (pkn l k)) = false := by
      cases h : bef least (canP (pkn l k))
      · rfl
      · have := bef_tr h hb
        rw [hx.2] at this; cases this
    obtain ⟨j, hj, e⟩ := List.getElem_of_mem ((hmem k).2 ⟨hk, hkw⟩)
    have hji : j < i := by
      rcases Nat.lt_trichotomy j i with h | h | h
      · exact h
      · subst h
        rw [e] at hb
        have := hw.asym (show ltF (l.map canP) k k = true by rw [hlt k k hk hk]; exact hb)
        rw [hlt k k hk hk, hb] at this; cases this
      · have h1 := (List.pairwise_iff_getElem.1 hFs) i j hiF hj h
        rw [e] at h1
        have h2 := Rr.not hw h1
        rw [hlt k F[i] hk hx.1, hb] at h2
        cases h2
    rw [← List.map_take, List.mem_map]
    refine ⟨k, ?_, rfl⟩
    rw [List.take_take, Nat.min_eq_left (by omega), ← e]
    exact List.mem_take_iff_getElem.2 ⟨j, by omega, rfl⟩
/-- Numbers of which no two are alike. -/
def Unl (l : List Pk) (k : Nat) : Prop := ∀ i j, i < k → j < i → (pkn l j).num ≠ (pkn l i).num
end Go.Proofs.Ytaibdkdmilhloaa
