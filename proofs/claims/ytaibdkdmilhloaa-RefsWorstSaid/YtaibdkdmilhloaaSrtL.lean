/- Merging: what two sorted lists come to. No program in sight. -/
import Derived.Test.YtaibdkdmilhloaaSrtR
namespace Go.Proofs.Ytaibdkdmilhloaa
set_option linter.unusedVariables false
/-- A weak order: what is ahead. -/
structure Wk (lt : Nat → Nat → Bool) : Prop where
  asym : ∀ {x y}, lt x y = true → lt y x = false
  neg : ∀ {x y z}, lt x y = false → lt y z = false → lt x z = false
/-- Ahead, or beside it and the lower one. -/
def Rr (lt : Nat → Nat → Bool) (x y : Nat) : Prop := lt x y = true ∨ (lt y x = false ∧ x < y)
theorem Rr.not {lt : Nat → Nat → Bool} (hw : Wk lt) {x y : Nat} (h : Rr lt x y) : lt y x = false := by
  rcases h with h | h
  · exact hw.asym h
  · exact h.1
theorem Wk.irr {lt : Nat → Nat → Bool} (hw : Wk lt) (x : Nat) : lt x x = false := by
  cases h : lt x x
  · rfl
  · have := hw.asym h; rw [h] at this; cases this
/-- all of one list ahead of all of the other, told by their edges -/
theorem cross_low {lt : Nat → Nat → Bool} (hw : Wk lt) {U V : List Nat} (hU : U.Pairwise (Rr lt)) (hV : V.Pairwise (Rr lt)) (hi : ∀ u ∈ U, ∀ v ∈ V, u < v)
    (h : U = [] ∨ V = [] ∨ ∃ U' u v V', U = U' ++ [u] ∧ V = v :: V' ∧ lt v u = false) : ∀ x ∈ U, ∀ y ∈ V, Rr lt x y := by
  rcases h with rfl | rfl | ⟨U', u, v, V', rfl, rfl, h⟩
  · intro x hx; simp at hx
  · intro x _ y hy; simp at hy
  · intro x hx y hy
    right
    refine ⟨?_, hi x hx y hy⟩
    have h1 : lt u x = false := by
      rcases List.mem_append.1 hx with g | g
      · exact ((List.pairwise_append.1 hU).2.2 x g u (by simp)).not hw
      · simp at g; subst g; exact hw.irr _
    have h2 : lt y v = false := by
      rcases List.mem_cons.1 hy with g | g
      · subst g; exact hw.irr _
      · exact ((List.pairwise_cons.1 hV).1 y g).not hw
    exact hw.neg (hw.neg h2 h) h1
theorem cross_high {lt : Nat → Nat → Bool} (hw : Wk lt) {U V : List Nat} (hU : U.Pairwise (Rr lt)) (hV : V.Pairwise (Rr lt))
    (h : U = [] ∨ V = [] ∨ ∃ u U' V' v, U = u :: U' ∧ V = V' ++ [v] ∧ lt v u = true) : ∀ y ∈ V, ∀ x ∈ U, Rr lt y x := by
  rcases h with rfl | rfl | ⟨u, U', V', v, rfl, rfl, h⟩
  · intro y _ x hx; simp at hx
  · intro y hy; simp at hy
  · intro y hy x hx
    left
    have h1 : lt v y = false := by
      rcases List.mem_append.1 hy with g | g
      · exact ((List.pairwise_append.1 hV).2.2 y g v (by simp)).not hw
      · simp at g; subst g; exact hw.irr _
    have h2 : lt x u = false := by
      rcases List.mem_cons.1 hx with g | g
      · subst g; exact hw.irr _
      · exact ((List.pairwise_cons.1 hU).1 x g).not hw
    cases hyx : lt y x
    · have := hw.neg (hw.neg h1 hyx) h2
      rw [h] at this; cases this
    · rfl
theorem join_two {lt : Nat → Nat → Bool} {W1 W2 A B : List Nat} (h1 : W1.Pairwise (Rr lt)) (h2 : W2.Pairwise (Rr lt)) (p1 : W1.Perm A) (p2 : W2.Perm B) (hc : ∀ x ∈ A, ∀ y ∈ B, Rr lt x y) : (W1 ++ W2).Pairwise (Rr lt) :=
  List.pairwise_append.2 ⟨h1, h2, fun x hx y hy => hc x (p1.mem_iff.1 hx) y (p2.mem_iff.1 hy)⟩
/-- both halves of two sorted lists, merged each, are the lists merged -/
theorem merge_law {lt : Nat → Nat → Bool} (hw : Wk lt) {U1 U2 V1 V2 W1 W2 : List Nat} (hU : (U1 ++ U2).Pairwise (Rr lt)) (hV : (V1 ++ V2).Pairwise (Rr lt)) (hi : ∀ u ∈ U1 ++ U2, ∀ v ∈ V1 ++ V2, u < v)
    (c1 : U1 = [] ∨ V2 = [] ∨ ∃ U' u v V', U1 = U' ++ [u] ∧ V2 = v :: V' ∧ lt v u = false)
    (c2 : U2 = [] ∨ V1 = [] ∨ ∃ u U' V' v, U2 = u :: U' ∧ V1 = V' ++ [v] ∧ lt v u = true)
    (h1 : W1.Pairwise (Rr lt)) (h2 : W2.Pairwise (Rr lt)) (p1 : W1.Perm (U1 ++ V1)) (p2 : W2.Perm (U2 ++ V2)) :
    (W1 ++ W2).Pairwise (Rr lt) ∧ (W1 ++ W2).Perm ((U1 ++ U2) ++ (V1 ++ V2)) := by
  obtain ⟨u1, u2, u3⟩ := List.pairwise_append.1 hU
  obtain ⟨v1, v2, v3⟩ := List.pairwise_append.1 hV
  refine ⟨join_two h1 h2 p1 p2 ?_, ?_⟩
  · intro x hx y hy
    rcases List.mem_append.1 hx with hx | hx <;> rcases List.mem_append.1 hy with hy | hy
    · exact u3 x hx y hy
    · exact cross_low hw u1 v2 (fun u hu v hv => hi u (by simp [hu]) v (by simp [hv])) c1 x hx y hy
    · exact cross_high hw u2 v1 c2 x hx y hy
    · exact v3 x hx y hy
  · refine (p1.append p2).trans ?_
    rw [List.append_assoc, List.append_assoc]
    refine List.Perm.append_left _ ?_
    rw [← List.append_assoc, ← List.append_assoc]
    exact List.Perm.append_right _ List.perm_append_comm
/-- one that comes in among others -/
theorem one_in {lt : Nat → Nat → Bool} (hw : Wk lt) {x : Nat} {V1 V2 : List Nat} (hV : (V1 ++ V2).Pairwise (Rr lt)) (hi : ∀ v ∈ V1 ++ V2, x < v)
    (c1 : V2 = [] ∨ ∃ v V', V2 = v :: V' ∧ lt v x = false) (c2 : V1 = [] ∨ ∃ V' v, V1 = V' ++ [v] ∧ lt v x = true) : (V1 ++ x :: V2).Pairwise (Rr lt) ∧ (V1 ++ x :: V2).Perm ([x] ++ (V1 ++ V2)) := by
  obtain ⟨v1, v2, v3⟩ := List.pairwise_append.1 hV
  have a1 : ∀ y ∈ V1, Rr lt y x := fun y hy => cross_high hw (U := [x]) (V := V1) (by simp) v1 (by
    rcases c2 with h | ⟨V', v, h, g⟩
    · exact .inr (.inl h)
    · exact .inr (.inr ⟨x, [], V', v, rfl, h, g⟩)) y hy x (by simp)
  have a2 : ∀ y ∈ V2, Rr lt x y := fun y hy => cross_low hw (U := [x]) (V := V2) (by simp) v2 (fun u hu v hv => by simp at hu; subst hu; exact hi v (by simp [hv])) (by
    rcases c1 with h | ⟨v, V', h, g⟩
    · exact .inr (.inl h)
    · exact .inr (.inr ⟨[], x, v, V', rfl, h, g⟩)) x (by simp) y hy
  refine ⟨List.pairwise_append.2 ⟨v1, List.pairwise_cons.2 ⟨a2, v2⟩, fun y hy z hz => ?_⟩, ?_⟩
  · rcases List.mem_cons.1 hz with rfl | hz
    · exact a1 y hy
    · exact v3 y hy z hz
  · exact List.perm_middle
theorem one_in' {lt : Nat → Nat → Bool} (hw : Wk lt) {x : Nat} {U1 U2 : List Nat} (hU : (U1 ++ U2).Pairwise (Rr lt)) (hi : ∀ u ∈ U1 ++ U2, u < x)
    (c1 : U1 = [] ∨ ∃ U' u, U1 = U' ++ [u] ∧ lt x u = false) (c2 : U2 = [] ∨ ∃ u U', U2 = u :: U' ∧ lt x u = true) : (U1 ++ x :: U2).Pairwise (Rr lt) ∧ (U1 ++ x :: U2).Perm ((U1 ++ U2) ++ [x]) := by
  obtain ⟨u1, u2, u3⟩ := List.pairwise_append.1 hU
  have a1 : ∀ y ∈ U1, Rr lt y x := fun y hy => cross_low hw (U := U1) (V := [x]) u1 (by simp) (fun u hu v hv => by simp at hv; subst hv; exact hi u (by simp [hu])) (by
    rcases c1 with h | ⟨U', u, h, g⟩
    · exact .inl h
    · exact .inr (.inr ⟨U', u, x, [], h, rfl, g⟩)) y hy x (by simp)
  have a2 : ∀ y ∈ U2, Rr lt x y := fun y hy => cross_high hw (U := U2) (V := [x]) u2 (by simp) (by
    rcases c2 with h | ⟨u, U', h, g⟩
    · exact .inl h
    · exact .inr (.inr ⟨u, U', [], x, h, rfl, g⟩)) x (by simp) y hy
  refine ⟨List.pairwise_append.2 ⟨u1, List.pairwise_cons.2 ⟨a2, u2⟩, fun y hy z hz => ?_⟩, ?_⟩
  · rcases List.mem_cons.1 hz with rfl | hz
    · exact a1 y hy
    · exact u3 y hy z hz
  · rw [List.append_assoc]
    exact List.Perm.append_left _ (List.perm_append_comm (l₁ := [x]) (l₂ := U2))
end Go.Proofs.Ytaibdkdmilhloaa
