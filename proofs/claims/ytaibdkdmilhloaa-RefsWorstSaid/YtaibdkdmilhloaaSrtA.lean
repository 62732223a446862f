/- The library's symMerge, at any two sorted parts; what insertion sort makes of rising numbers. -/
import Derived.Test.YtaibdkdmilhloaaSrtG
namespace Go.Proofs.Ytaibdkdmilhloaa
open Go.RowKit Flt
set_option linter.unusedVariables false
theorem sym_any (D cap p N L : Nat) (pad : List Value) (cm : Nat → Nat → Int) (lt : Nat → Nat → Bool) (hlt : ∀ x y, lt x y = decide (cm x y < 0)) (hw : Wk lt) (hd : L ≤ 1000000) (K : Nat) :
    ∀ (P U V Q : List Nat) (w : World), U.length + V.length < K → At w D (nums (P ++ U ++ V ++ Q) ++ pad) → L = P.length + U.length + V.length + Q.length → 0 < U.length → 0 < V.length → (∀ v ∈ U ++ V, v < N) → CmOk D p N cm w → U.Pairwise (Rr lt) → V.Pairwise (Rr lt) → (∀ u ∈ U, ∀ v ∈ V, u < v) →
      SymOk D cap p N L pad cm lt w P U V Q w P.length (P.length + U.length) (P.length + U.length + V.length) := by
  induction K with
  | zero => intro P U V Q w h; omega
  | succ K ih =>
    intro P U V Q w hlen hat hL hU0 hV0 hN CM hU hV hi
    by_cases hK : U.length + V.length < K
    · exact ih P U V Q w hK hat hL hU0 hV0 hN CM hU hV hi
    have hKe : U.length + V.length = K := by omega
    by_cases h1 : U.length = 1
    · obtain ⟨x, rfl⟩ : ∃ x, U = [x] := List.length_eq_one_iff.1 h1
      have hat' : At w D (nums (P ++ x :: V ++ Q) ++ pad) := by simpa using hat
      have R := sym_one D cap p N P x V Q pad w cm hat' L (by simp at hL; omega) hd (hN x (by simp)) (fun v hv => hN v (by simp [hv])) (Lib.hid CM) lt hlt hw hV (fun v hv => hi x (by simp) v hv)
      exact R
    · by_cases h2 : V.length = 1
      · obtain ⟨x, rfl⟩ : ∃ x, V = [x] := List.length_eq_one_iff.1 h2
        have hat' : At w D (nums (P ++ U ++ x :: Q) ++ pad) := by simpa using hat
        exact sym_last D cap p N P x U Q pad w cm hat' L (by simp at hL; omega) hd (hN x (by simp)) (fun v hv => hN v (by simp [hv])) h1 (Lib.hid CM) lt hlt hw hU (fun u hu => hi u hu x (by simp))
      · refine sym_step D cap p N L pad cm lt hlt hw hd K ih P U V Q w hKe hat hL (by omega) (by omega) hN CM hU hV hi
theorem insL_split (lt : Nat → Nat → Bool) (x : Nat) (l : List Nat) : ∃ u v, l = u ++ v ∧ (∀ y ∈ u, lt x y = true) ∧ (v = [] ∨ ∃ y v', v = y :: v' ∧ lt x y = false) := by
  induction l with
  | nil => exact ⟨[], [], rfl, by simp, .inl rfl⟩
  | cons y l ih =>
    cases h : lt x y
    · exact ⟨[], y :: l, rfl, by simp, .inr ⟨y, l, rfl, h⟩⟩
    · obtain ⟨u, v, e, h1, h2⟩ := ih
      exact ⟨y :: u, v, by rw [e]; rfl, fun z hz => by
        rcases List.mem_cons.1 hz with rfl | hz
        · exact h
        · exact h1 z hz, h2⟩
theorem insR_law {lt : Nat → Nat → Bool} (hw : Wk lt) {x : Nat} {s : List Nat} (hs : s.Pairwise (Rr lt)) (hi : ∀ y ∈ s, y < x) : (insR lt x s).Pairwise (Rr lt) ∧ (insR lt x s).Perm (s ++ [x]) := by
  obtain ⟨u, v, e, h1, h2⟩ := insL_split lt x s.reverse
  have es : s = v.reverse ++ u.reverse := by rw [← List.reverse_append, ← e, List.reverse_reverse]
  have hr : insR lt x s = v.reverse ++ x :: u.reverse := by
    rw [es]
    refine insR_end _ _ (fun y hy => h1 y (by simpa using hy)) ?_
    rcases h2 with rfl | ⟨y, v', rfl, h⟩
    · exact .inl rfl
    · exact .inr ⟨v'.reverse, y, by simp, h⟩
  have := one_in' hw (x := x) (U1 := v.reverse) (U2 := u.reverse) (by rw [← es]; exact hs) (by rw [← es]; exact hi) (by
    rcases h2 with rfl | ⟨y, v', rfl, h⟩
    · exact .inl rfl
    · exact .inr ⟨v'.reverse, y, by simp, h⟩) (by
    rcases List.eq_nil_or_concat u with rfl | ⟨u', z, rfl⟩
    · exact .inl rfl
    · exact .inr ⟨z, u'.reverse, by simp, h1 z (by simp)⟩)
  rw [hr]
  refine ⟨this.1, ?_⟩
  have h3 := this.2
  rwa [← es] at h3
theorem fold_law {lt : Nat → Nat → Bool} (hw : Wk lt) (l : List Nat) : ∀ acc : List Nat, acc.Pairwise (Rr lt) → (∀ y ∈ acc, ∀ z ∈ l, y < z) → l.Pairwise (· < ·) → (l.foldl (fun s x => insR lt x s) acc).Pairwise (Rr lt) ∧ (l.foldl (fun s x => insR lt x s) acc).Perm (acc ++ l) := by
  induction l with
  | nil => intro acc h _ _; exact ⟨h, by simp⟩
  | cons x l ih =>
    intro acc h h1 h2
    obtain ⟨i1, i2⟩ := insR_law hw (x := x) h (fun y hy => h1 y hy x (by simp))
    obtain ⟨p1, p2⟩ := List.pairwise_cons.1 h2
    obtain ⟨j1, j2⟩ := ih (insR lt x acc) i1 (fun y hy z hz => by
      rcases List.mem_append.1 (i2.mem_iff.1 hy) with g | g
      · exact h1 y g z (by simp [hz])
      · simp at g; subst g; exact p1 z hz) p2
    refine ⟨j1, j2.trans ?_⟩
    have := List.Perm.append_right l i2
    simpa using this
theorem isort_law {lt : Nat → Nat → Bool} (hw : Wk lt) {l : List Nat} (h : l.Pairwise (· < ·)) : (isort lt l).Pairwise (Rr lt) ∧ (isort lt l).Perm l := by
  have := fold_law hw l [] (by simp) (by simp) h
  rw [List.nil_append] at this
  exact this
end Go.Proofs.Ytaibdkdmilhloaa
