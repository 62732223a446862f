/- RefsKnown's packs, plain; NaN. (Written by wip/refknown.py.) -/
import Derived.Test.YtaibdkdmilhloaaAwP
import Derived.Test.YtaibdkdmilhloaaRat
namespace Go.Proofs.Ytaibdkdmilhloaa
open Go.RowKit Flt
set_option linter.unusedVariables false
set_option linter.unusedSimpArgs false
def pkK : List Pk := [⟨1, 100, 25⟩, ⟨2, 100, 50⟩, ⟨3, 0, 0⟩]
theorem chosenK1 {W : List Nat} (hW : ∀ P, Prts P pkK → W.Pairwise (Rr (ltF P))) (hp : W.Perm (List.range 3)) : chosenL pkK 4598175219545276416 9 W = [2, 1] := by
  rw [sorted_is (V := [1, 0, 2]) hW hp rfl (by decide +kernel)]
  decide +kernel
theorem chosenK2 {W : List Nat} (hW : ∀ P, Prts P pkK → W.Pairwise (Rr (ltF P))) (hp : W.Perm (List.range 3)) : chosenL pkK 4599075939470750515 9 W = [2] := by
  rw [sorted_is (V := [1, 0, 2]) hW hp rfl (by decide +kernel)]
  decide +kernel
theorem chosenK3 {W : List Nat} (hW : ∀ P, Prts P pkK → W.Pairwise (Rr (ltF P))) (hp : W.Perm (List.range 3)) : chosenL pkK 0 1 W = [2] := by
  rw [sorted_is (V := [1, 0, 2]) hW hp rfl (by decide +kernel)]
  decide +kernel
theorem chosenK4 {W : List Nat} (hW : ∀ P, Prts P pkK → W.Pairwise (Rr (ltF P))) (hp : W.Perm (List.range 3)) : chosenL pkK 9221120237041090561 9 W = [2, 1, 3] := by
  rw [sorted_is (V := [1, 0, 2]) hW hp rfl (by decide +kernel)]
  decide +kernel
theorem chosenK5 {W : List Nat} : chosenL pkK 0 0 W = [] := by simp [chosenL]
def pkKc : List Value := [.int .i64 1, .int .i64 100, .int .i64 25, .int .i64 2, .int .i64 100, .int .i64 50, .int .i64 3, .int .i64 0, .int .i64 0]
theorem rdp_pkK {w : World} {b : Nat} (A : At w b pkKc) : RdP w (some ⟨b, 0, none⟩) pkK := fun i hi => by
  have hi : i < 3 := hi
  rcases (by omega : i = 0 ∨ i = 1 ∨ i = 2) with rfl | rfl | rfl
  · exact ⟨b, 0, rfl, A.cell 0, A.cell 1, A.cell 2⟩
  · exact ⟨b, 0, rfl, A.cell 3, A.cell 4, A.cell 5⟩
  · exact ⟨b, 0, rfl, A.cell 6, A.cell 7, A.cell 8⟩
theorem like_eq {a b : Nat} (h : Like a b) (hb : nanb b = false) : a = b := h.elim id (fun h => by rw [hb] at h; cases h.2)
theorem like_nan {a b : Nat} (h : Like a b) (hb : nanb b = true) : nanb a = true := h.elim (fun e => by rw [e]; exact hb) (·.1)
theorem upart_q (w : World) : Calls Try.prog 11 #[.agg #[.int .i64 1, .int .i64 100, .int .i64 25]] w fun e w' => e = .returned (.float .f64 4598175219545276416) ∧ Kp (fun _ => False) w w' :=
  (upart_any ⟨1, 100, 25⟩ w).mono fun e w' ⟨r, h1, h2, h3⟩ => ⟨by rw [h1, like_eq h2 (by decide +kernel)]; congr 1, h3⟩
theorem upart_n (w : World) : Calls Try.prog 11 #[.agg #[.int .i64 3, .int .i64 0, .int .i64 0]] w fun e w' => ∃ r, e = .returned (.float .f64 r) ∧ nanb r = true ∧ Kp (fun _ => False) w w' :=
  (upart_any ⟨3, 0, 0⟩ w).mono fun e w' ⟨r, h1, h2, h3⟩ => ⟨r, h1, like_nan h2 (by decide +kernel), h3⟩
theorem isnan_yes {a : Nat} (h : nanb a = true) (w : World) : Calls Try.prog 34 #[.float .f64 a] w fun e w' => e = .returned (.bool true) ∧ w = w' :=
  (isnan_any a w).mono fun e w' h' => by rw [h] at h'; exact h'
theorem run_frombits (n : Int) (w : World) : (callFunc 47 #[.int .u64 n]).run Try.prog w = .ok (.value (.float .f64 n.toNat)) w := by
  rw [run_callFunc_extern Try.func47 (by kernel_rfl) (by kernel_rfl) (by kernel_rfl) (e := Extern.MathFloatBits.float64frombits) (by kernel_rfl)]
  rfl
theorem mnan_any (w : World) : Calls Try.prog 35 #[] w fun e w' => e = .returned (.float .f64 9221120237041090561) ∧ w = w' := by
  have hc := run_frombits 9221120237041090561 w
  go_enter Try.func35, Try.ntmps35
  go_wp2
  go_ret
  exact ⟨rfl, rfl⟩
/-- Choose of the example's packs. -/
theorem choose_k (b : Nat) (least : Nat) (most : Int) (R : List Int) (n : Nat) (hn : R.length = n) (hR : ∀ W, (∀ P, Prts P pkK → W.Pairwise (Rr (ltF P))) → W.Perm (List.range 3) → chosenL pkK least most W = R) (w : World) (A : At w b pkKc) :
    Calls Try.prog 9 #[.slice (some ⟨b, 0, none⟩) 3 3, .float .f64 least, .int .i64 most] w fun e w' => ∃ a c, e = .returned (.slice a n c) ∧ Rd w' a (intsZ R) ∧ Kp (fun _ => False) w w' :=
  (choose_any (some ⟨b, 0, none⟩) 3 3 pkK least most w rfl (by decide) (rdp_pkK A)).mono fun e w' ⟨v, W, h1, h2, h3, h4, h5, h6⟩ => by
    subst hn
    rw [hR W h2 h3] at h4
    obtain ⟨a, c, rfl, _, _⟩ := h4.form
    exact ⟨a, c, h1, h4.rd, h6⟩
def msK : List (List (List Id)) := [[[idk 1, idk 2, idk 1]]]
theorem bs2k (w : World) : (Instr.buildSlice 34 2 #[(0, idV (idk 3)), (1, idV (idk 4))]).run Try.prog w = .ok (.slice (some ⟨w.heap.size, 0, none⟩) 2 2) (w.alloc (.cells (idC [idk 3, idk 4]).toArray 41)) := bs2 _ _ rfl rfl w
theorem bs4k (w : World) : (Instr.buildSlice 34 4 #[(0, idV (idk 1)), (1, idV (idk 3)), (2, idV (idk 4)), (3, idV (idk 4))]).run Try.prog w = .ok (.slice (some ⟨w.heap.size, 0, none⟩) 4 4) (w.alloc (.cells (idC [idk 1, idk 3, idk 4, idk 4]).toArray 41)) :=
  bs_ids (l := [idk 1, idk 3, idk 4, idk 4]) (by intro x hx; simp at hx; rcases hx with rfl | rfl | rfl <;> rfl) (by simp) (by simp) w
theorem bs3k (w : World) : (Instr.buildSlice 34 3 #[(0, idV (idk 1)), (1, idV (idk 3)), (2, idV (idk 4))]).run Try.prog w = .ok (.slice (some ⟨w.heap.size, 0, none⟩) 3 3) (w.alloc (.cells (idC [idk 1, idk 3, idk 4]).toArray 41)) :=
  bs_ids (l := [idk 1, idk 3, idk 4]) (by intro x hx; simp at hx; rcases hx with rfl | rfl | rfl <;> rfl) (by simp) (by simp) w
theorem ids_k {l : List Id} (h : l.all (fun x => x.length == 16) = true) : Ids l := fun x hx => by simpa using List.all_eq_true.1 h x hx
/-- Dead of the example. -/
theorem dead_k (ah am ai : Option Addr) (ch ci : Nat) (hv l : List Id) (R : List Id) (n1 n2 n3 : Nat) (e1 : n1 = hv.length) (e2 : n2 = l.length) (e3 : R.length = n3) (hR : newL (allI msK ++ l) hv = R) (hl : hv.length + l.length ≤ 1000) (w : World) (hh : RdI w ah hv) (hm : RdM w am msK) (hi : RdI w ai l) :
    Calls Try.prog 23 #[.slice ah n1 ch, .slice am 1 1, .slice ai n2 ci] w fun e w' => ∃ a c, e = .returned (.slice a n3 c) ∧ RdI w' a R ∧ Kp (fun _ => False) w w' :=
  (dead_any ah am ai n1 ch 1 1 n2 ci hv msK l w e1 rfl e2 hh hm hi (by have h3 : (allI msK).length = 3 := (by decide); omega)).mono fun e w' ⟨v, h1, h2, h3, h4⟩ => by
    subst e3
    rw [hR] at h2
    obtain ⟨a, c, rfl, hr, _⟩ := h2.form
    exact ⟨a, c, h1, hr, h4⟩
theorem sameints_k (a b : Option Addr) (c c' : Nat) (l : List Int) (n : Nat) (hn : l.length = n) (w : World) (ha : Rd w a (intsZ l)) (hb : Rd w b (intsZ l)) (hl : n ≤ 1000000) :
    Calls Try.prog 13 #[.slice a n c, .slice b n c'] w fun e w' => e = .returned (.bool true) ∧ Kp (fun _ => False) w w' := by
  subst hn
  exact (sameintsZ_eq a b c c' l w ha hb hl).mono fun e w' ⟨h1, k, h2⟩ => ⟨h1, by rw [h2]; exact (Kp.refl _ w).drewN k⟩
end Go.Proofs.Ytaibdkdmilhloaa
