/- The walk of GuardKnown: it returns true. No condition. -/
import Derived.Test.YtabibgddbmllkaaGrdA
import Derived.Test.YtabibgddbmllkaaGrdB
namespace Go.Proofs.Ytabibgddbmllkaa
open Go.RowKit
set_option linter.unusedVariables false
theorem ck_0000 : ck [0, 0, 0, 0] = 0 ∧ chk [0, 0, 0, 0] = [] := by decide +kernel
theorem ck_000 : ck [0, 0, 0] = 4 := by decide +kernel
theorem ck_0001 : ck [0, 0, 0, 1] = 4 := by decide +kernel
theorem sum_nil : sum4 [] = 0 := by decide +kernel
theorem put_nil : put4 [] = [0, 0, 0, 0] := by decide +kernel
theorem more_1234 : more (sum4 [49, 50, 51, 52]) [53, 54, 55, 56, 57] = 3421780262 := by decide +kernel
set_option maxHeartbeats 2000000 in
theorem known_any (w : World) : Calls Try.prog 5 #[] w fun e w' => e = .returned (.bool true) ∧ Kp (fun _ => False) w w' := by
  have kc := fun (w : World) (C : Array Value) (n c : Nat) => Lib.run_convert_bytes_const (P := Try.prog) w 22 5 C n c Try.underlying22 Try.underlying5
  go_enter Try.func5, Try.ntmps5
  have hk := (Kp.refl (fun _ => False) w).alloc (.cells (([0, 0, 0, 0] : List Int).map (Value.int .u8)).toArray 5)
  have C := gcheck (some ⟨w.heap.size, 0, none⟩) 4 [0, 0, 0, 0] _ (rdb_new w [0, 0, 0, 0] (byt_of rfl) (by simp) 5 (0, 0)) (by simp) (by simp) (by unfold maxLen; omega)
  rw [ck_0000.1, ck_0000.2] at C
  have C1 := Lib.hid C
  have HK := Lib.hid hk
  clear C hk
  go_wp2_with fail
  refine C1.out.mono ?_
  rintro e w1 ⟨v, rfl, hv, _, hk⟩
  obtain ⟨va, vc, rfl, _, _⟩ := hv.form
  have H1 := Lib.hid (HK.out.trans hk)
  clear hk HK hv C1
  have hk := (Kp.refl (fun _ => False) w1).alloc (.cells (([0, 0, 0] : List Int).map (Value.int .u8)).toArray 5)
  have C := gcheck (some ⟨w1.heap.size, 0, none⟩) 3 [0, 0, 0] _ (rdb_new w1 [0, 0, 0] (byt_of rfl) (by simp) 5 (0, 0)) (by simp) (by simp) (by unfold maxLen; omega)
  rw [ck_000] at C
  have C1 := Lib.hid C
  have HK := Lib.hid hk
  clear C hk
  go_wp2_with fail
  refine C1.out.mono ?_
  rintro e w2 ⟨v, rfl, hv, _, hk⟩
  have H2 := Lib.hid (H1.out.trans (HK.out.trans hk))
  clear hk HK hv C1 H1
  have hk := (Kp.refl (fun _ => False) w2).alloc (.cells (([0, 0, 0, 1] : List Int).map (Value.int .u8)).toArray 5)
  have C := gcheck (some ⟨w2.heap.size, 0, none⟩) 4 [0, 0, 0, 1] _ (rdb_new w2 [0, 0, 0, 1] (byt_of rfl) (by simp) 5 (0, 0)) (by simp) (by simp) (by unfold maxLen; omega)
  rw [ck_0001] at C
  have C1 := Lib.hid C
  have HK := Lib.hid hk
  clear C hk
  go_wp2_with fail
  refine C1.out.mono ?_
  rintro e w3 ⟨v, rfl, hv, _, hk⟩
  have H3 := Lib.hid (H2.out.trans (HK.out.trans hk))
  clear hk HK hv C1 H2
  have C := sum_any none 0 [] w3 (RdB.nil _ _) (by simp)
  rw [sum_nil] at C
  have C1 := Lib.hid C
  clear C
  go_wp2_with fail
  refine C1.out.mono ?_
  rintro e w4 ⟨rfl, hk⟩
  have H4 := Lib.hid (H3.out.trans hk)
  clear hk C1 H3
  have hk := (Kp.refl (fun _ => False) w4).alloc (.cells (([49, 50, 51, 52] : List Int).map (Value.int .u8)).toArray 5 (4, 5))
  have C1 := Lib.hid (sum_any (some ⟨w4.heap.size, 0, none⟩) 4 [49, 50, 51, 52] _ (rdb_new w4 [49, 50, 51, 52] (byt_of rfl) (by simp) 5 (4, 5)) (by simp))
  have HK := Lib.hid hk
  have hs := more_lt 0 [49, 50, 51, 52]
  rw [show more 0 [49, 50, 51, 52] = sum4 [49, 50, 51, 52] from rfl] at hs
  have HM := Lib.hid more_1234
  clear hk
  generalize sum4 [49, 50, 51, 52] = s at *
  have HSS := Lib.hid hs
  clear hs
  go_wp2_with fail
  refine C1.out.mono ?_
  rintro e w5 ⟨rfl, hk⟩
  have H5 := Lib.hid (H4.out.trans (HK.out.trans hk))
  clear hk HK C1 H4
  have hk := (Kp.refl (fun _ => False) w5).alloc (.cells (([53, 54, 55, 56, 57] : List Int).map (Value.int .u8)).toArray 5 (5, 6))
  have C := more_any s HSS.out (some ⟨w5.heap.size, 0, none⟩) 5 [53, 54, 55, 56, 57] _ (rdb_new w5 [53, 54, 55, 56, 57] (byt_of rfl) (by simp) 5 (5, 6)) (by simp)
  rw [HM.out] at C
  have C1 := Lib.hid C
  have HK := Lib.hid hk
  clear hk C
  go_wp2_with fail
  refine C1.out.mono ?_
  rintro e w6 ⟨rfl, hk⟩
  have H6 := Lib.hid (H5.out.trans (HK.out.trans hk))
  clear hk HK C1 H5 HM HSS
  have C := put_any none 0 [] w6 (RdB.nil _ _) (by simp) (by simp)
  rw [put_nil] at C
  have C1 := Lib.hid C
  clear C
  go_wp2_with fail
  refine C1.out.mono ?_
  rintro e w7 ⟨v, rfl, hv, _, hk⟩
  obtain ⟨v7a, v7c, rfl, hr, _⟩ := hv.form
  have H7 := Lib.hid (H6.out.trans hk)
  clear hk C1 H6
  have hk := (Kp.refl (fun _ => False) w7).alloc (.cells (([0, 0, 0, 0] : List Int).map (Value.int .u8)).toArray 5)
  have C := same_any v7a (some ⟨w7.heap.size, 0, none⟩) v7c 4 [0, 0, 0, 0] [0, 0, 0, 0] _ (hr.kp0 hk (fun _ _ h => h)) (rdb_new w7 [0, 0, 0, 0] (byt_of rfl) (by simp) 5 (0, 0))
  rw [decide_eq_true (rfl : ([0, 0, 0, 0] : List Int) = [0, 0, 0, 0])] at C
  have C1 := Lib.hid C
  have H8 := Lib.hid (H7.out.trans hk)
  clear hk C hv hr H7
  go_wp2_with fail
  refine C1.out.mono ?_
  rintro e w8 ⟨rfl, rfl⟩
  clear C1
  go_wp2_with fail
  refine (awake_any _).mono ?_
  rintro e w9 ⟨rfl, hk⟩
  have H9 := Lib.hid (H8.out.trans hk)
  clear hk
  go_wp2
  go_ret
  exact ⟨rfl, H9.out⟩
theorem guardKnown_walk (w : World) : Calls Try.prog 5 #[] w fun e w' => e = .returned (.bool true) ∧ Below w.heap.size w w' :=
  (known_any w).mono fun _ _ ⟨h, hk⟩ => ⟨h, hk.below (fun _ _ h => h)⟩
end Go.Proofs.Ytabibgddbmllkaa
