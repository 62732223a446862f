/- The walk of RatioKnown: it returns true. No condition. -/
import Derived.Test.YtdeallaohfbceaaRatK
namespace Go.Proofs.Ytdeallaohfbceaa
open Go.RowKit Flt
set_option linter.unusedVariables false
theorem part_nan (n m : Int) (w : World) (h : partF n m = none) : Calls Try.prog 13 #[.int .i64 n, .int .i64 m] w fun e w' => ∃ r, e = .returned (.float .f64 r) ∧ nanb r = true ∧ ∃ k, w' = w.drewN k :=
  (part_any n m w).mono fun e w' g => by
    obtain ⟨r, k, rfl, rfl, _, h2⟩ := g
    exact ⟨r, rfl, h2 h, k, rfl⟩
theorem part_is (n m : Int) (r : Nat) (w : World) (h : partF n m = some r) : Calls Try.prog 13 #[.int .i64 n, .int .i64 m] w fun e w' => e = .returned (.float .f64 r) ∧ w = w' :=
  (part_any n m w).mono fun e w' g => by
    obtain ⟨q, k, rfl, rfl, h1, _⟩ := g
    obtain ⟨rfl, rfl⟩ := h1 r h
    exact ⟨rfl, rfl⟩
theorem bef_calls {a b : Nat} {v : Bool} (h : bef a b = v) (w : World) : Calls Try.prog 11 #[.float .f64 a, .float .f64 b] w fun e w' => e = .returned (.bool v) ∧ w = w' := by
  rw [← h]; exact before_any a b w
theorem mean_calls {a b c v : Nat} (h : meanF a b c = v) (w : World) : Calls Try.prog 16 #[.float .f64 a, .float .f64 b, .float .f64 c] w fun e w' => e = .returned (.float .f64 v) ∧ ∃ k, w' = w.drewN k := by
  rw [← h]; exact mean_any a b c w
theorem wait_calls {a b : Nat} {v : Int} (h : waitF a b = v) (w : World) : Calls Try.prog 14 #[.float .f64 a, .float .f64 b] w fun e w' => e = .returned (.int .i64 v) ∧ ∃ k, w' = w.drewN k := by
  rw [← h]; exact wait_any a b w
theorem spread_calls {o m n p g v : Nat} (hg : floatBits .sub .f64 n m = some g) (hl : g < 18446744073709551616) (h : meanF o (rung g) p = v) (w : World) : Calls Try.prog 29 #[.float .f64 o, .float .f64 m, .float .f64 n, .float .f64 p] w fun e w' => e = .returned (.float .f64 v) ∧ ∃ k, w' = w.drewN k := by
  rw [← h]; exact spread_at o m n p g w hg hl
theorem pick_none (w : World) : Calls Try.prog 21 #[.slice none 0 0] w fun e w' => e = .returned (.int .i64 (-1)) ∧ w = w' :=
  pick_any none 0 [] w (fun i hi => by simp at hi) (by decide)
theorem rd_nums (w : World) (l : List Nat) (T : TypeId) : Rd (w.alloc (.cells (nums l).toArray T)) (some ⟨w.heap.size, 0, none⟩) (nums l) := Rd.new w (nums l) T
abbrev five : List Nat := [4607182418800017408, 9221120237041090561, 4613937818241073152, 9223372036854775808, 0]
theorem order_five (a : Option Addr) (c : Nat) (w : World) (hr : RdF w a five) : Calls Try.prog 24 #[.slice a 5 c] w fun e w' => ∃ va vc, e = .returned (.slice va 5 vc) ∧ Rd w' va (nums [2, 0, 3, 4, 1]) ∧ Kp (fun _ => False) w w' := by
  refine (order_short a c five w hr (by decide) (by decide)).mono ?_
  rintro e w' ⟨v, rfl, h1, _, h3⟩
  rw [show orderF five = [2, 0, 3, 4, 1] by decide +kernel] at h1
  obtain ⟨va, vc, rfl, _⟩ := h1.form
  exact ⟨va, vc, rfl, h1.rd, h3⟩
theorem pick_two (w : World) (g : Nat) (hg : w.heap.size = g) : Calls Try.prog 21 #[.slice (some ⟨g, 0, none⟩) 2 2] (w.alloc (.cells #[.float .f64 9221120237041090561, .float .f64 9221120237041090561] 22)) fun e w' => e = .returned (.int .i64 0) ∧ w.alloc (.cells #[.float .f64 9221120237041090561, .float .f64 9221120237041090561] 22) = w' := by
  subst hg
  have := pick_any (some ⟨w.heap.size, 0, none⟩) 2 [9221120237041090561, 9221120237041090561] _ (rdf_new w [9221120237041090561, 9221120237041090561] 22) (by decide)
  rw [show pickAt [9221120237041090561, 9221120237041090561] [9221120237041090561, 9221120237041090561].length = 0 by decide +kernel] at this
  exact this
theorem order_at (w : World) (g : Nat) (hg : w.heap.size = g) : Calls Try.prog 24 #[.slice (some ⟨g, 0, none⟩) 5 5] (w.alloc (.cells #[.float .f64 4607182418800017408, .float .f64 9221120237041090561, .float .f64 4613937818241073152, .float .f64 9223372036854775808, .float .f64 0] 22)) fun e w' => ∃ va vc, e = .returned (.slice va 5 vc) ∧ Rd w' va (nums [2, 0, 3, 4, 1]) ∧ Kp (fun _ => False) w w' := by
  subst hg
  refine (order_five (some ⟨w.heap.size, 0, none⟩) 5 _ (rdf_new w five 22)).mono ?_
  rintro e w' ⟨va, vc, rfl, h1, h2⟩
  exact ⟨va, vc, rfl, h1, ((Kp.refl _ w).alloc _).trans h2⟩
theorem same_at (w : World) (g : Nat) (hg : w.heap.size = g) (va : Option Addr) (vc : Nat) (h : Rd w va (nums [2, 0, 3, 4, 1])) : Calls Try.prog 23 #[.slice va 5 vc, .slice (some ⟨g, 0, none⟩) 5 5] (w.alloc (.cells #[.int .i64 2, .int .i64 0, .int .i64 3, .int .i64 4, .int .i64 1] 3)) fun e w' => e = .returned (.bool true) ∧ Kp (fun _ => False) w w' := by
  subst hg
  have hb := rd_nums w [2, 0, 3, 4, 1] 3
  have ha : Rd (w.alloc (.cells (nums [2, 0, 3, 4, 1]).toArray 3)) va (nums [2, 0, 3, 4, 1]) := h.kp ((Kp.refl (fun _ => False) w).alloc _) (fun _ _ h => h)
  refine (sameints_eq va (some ⟨w.heap.size, 0, none⟩) vc 5 [2, 0, 3, 4, 1] _ ha hb (by decide)).mono ?_
  rintro e w' ⟨rfl, k, rfl⟩
  exact ⟨rfl, ((Kp.refl _ w).alloc _).drewN _⟩
set_option maxHeartbeats 2000000 in
theorem ratioKnown_walk (w : World) :
    Calls Try.prog 9 #[] w fun e w' => e = .returned (.bool true) ∧ Below w.heap.size w w' := by
  have CA := Lib.hid (fun w' => awake_any w')
  have P1 := Lib.hid (fun w' => part_nan 0 0 w' (by kernel_rfl))
  have P2 := Lib.hid (fun w' => part_is (-1) 0 18442240474082181120 w' (by kernel_rfl))
  have IN := Lib.hid (fun x w' => isnan_any x w')
  have CI := Lib.hid (fun w' => inf_any w')
  have CN := Lib.hid (fun w' => nan_any w')
  have CZ := Lib.hid (fun w' => zero_any w')
  have B1 := Lib.hid (fun w' => bef_calls (show bef 4611686018427387904 4607182418800017408 = true by decide +kernel) w')
  have B2 := Lib.hid (fun w' => bef_calls (show bef 9221120237041090561 4607182418800017408 = false by decide +kernel) w')
  have B3 := Lib.hid (fun w' => bef_calls (show bef 0 9223372036854775808 = false by decide +kernel) w')
  have B4 := Lib.hid (fun w' => bef_calls (show bef 9218868437227405312 4617315517961601024 = true by decide +kernel) w')
  have KT := Lib.hid (fun w' g hg => pick_two w' g hg)
  have K2 := Lib.hid (fun w' => pick_none w')
  have O1 := Lib.hid (fun w' g hg => order_at w' g hg)
  have M1 := Lib.hid (fun w' => mean_calls (show meanF 9221120237041090561 4619567317775286272 4602678819172646912 = 4619567317775286272 by decide +kernel) w')
  have M2 := Lib.hid (fun w' => mean_calls (show meanF 4619567317775286272 9221120237041090561 4602678819172646912 = 4619567317775286272 by decide +kernel) w')
  have M3 := Lib.hid (fun w' => mean_calls (show meanF 9218868437227405312 9218868437227405312 4602678819172646912 = 9218868437227405312 by decide +kernel) w')
  have S1 := Lib.hid (fun w' => spread_calls (o := 4607182418800017408) (m := 4621819117588971520) (n := 4616189618054758400) (p := 4602678819172646912) (g := 13841813454723219456) (v := 4615063718147915776) (by kernel_rfl) (by decide) (by decide +kernel) w')
  have S2 := Lib.hid (fun w' => spread_calls (o := 9221120237041090561) (m := 4621819117588971520) (n := 4624070917402656768) (p := 4602678819172646912) (g := 4616189618054758400) (v := 4616189618054758400) (by kernel_rfl) (by decide) (by decide +kernel) w')
  have W1 := Lib.hid (fun w' => wait_calls (show waitF 18442240474082181120 0 = 2 by decide +kernel) w')
  have W2 := Lib.hid (fun w' => wait_calls (show waitF 9221120237041090561 0 = 60 by decide +kernel) w')
  have W3 := Lib.hid (fun w' => wait_calls (show waitF 4633711435354996736 0 = 60 by decide +kernel) w')
  have W4 := Lib.hid (fun w' => wait_calls (show waitF 0 0 = 2 by decide +kernel) w')
  have q1 : (FloatKind.f64.format.order 18442240474082181120 18442240474082181120 == some .eq) = true := by decide +kernel
  have q2 : (FloatKind.f64.format.order 4619567317775286272 4619567317775286272 == some .eq) = true := by decide +kernel
  have q3 : (FloatKind.f64.format.order 9218868437227405312 9218868437227405312 == some .eq) = true := by decide +kernel
  have q4 : (FloatKind.f64.format.order 4615063718147915776 4615063718147915776 == some .eq) = true := by decide +kernel
  have q5 : (FloatKind.f64.format.order 4616189618054758400 4616189618054758400 == some .eq) = true := by decide +kernel
  have hneg : ∀ w' : World, (Op.unary .neg (.float .f64 9218868437227405312)).run Try.prog w' = .ok (.float .f64 18442240474082181120) w' := fun w' => by kernel_rfl
  go_enter Try.func9, Try.ntmps9
  go_wp2_with (first | (go_at_call 10; (with_reducible refine (CA.out _).mono ?_); rintro e w1 ⟨rfl, k1⟩; have KA := Lib.hid k1; clear k1) | (go_at_call 13; first | ((with_reducible refine (P1.out _).mono ?_); rintro e wz ⟨rz, rfl, hz, kz, rfl⟩) | ((with_reducible refine (P2.out _).mono ?_); rintro e wz ⟨rfl, rfl⟩)) | (go_at_call 12; (with_reducible refine (IN.out _ _).mono ?_); rintro e wz ⟨rfl, rfl⟩) | (go_at_call 26; (with_reducible refine (CI.out _).mono ?_); rintro e wz ⟨rfl, rfl⟩) | (go_at_call 27; (with_reducible refine (CN.out _).mono ?_); rintro e wz ⟨rfl, rfl⟩) | (go_at_call 28; (with_reducible refine (CZ.out _).mono ?_); rintro e wz ⟨rfl, rfl⟩) | (go_at_call 11; (first | (with_reducible refine (B1.out _).mono ?_) | (with_reducible refine (B2.out _).mono ?_) | (with_reducible refine (B3.out _).mono ?_) | (with_reducible refine (B4.out _).mono ?_)); rintro e wz ⟨rfl, rfl⟩) | (go_at_call 21; (first | (with_reducible refine (K2.out _).mono ?_) | (with_reducible refine (KT.out _ _ (by simp)).mono ?_)); rintro e wz ⟨rfl, rfl⟩) | (go_at_call 24; (with_reducible refine (O1.out _ _ (by simp)).mono ?_); rintro e wo ⟨va, vc, rfl, hro, ko⟩; have HO := Lib.hid (And.intro hro ko); clear hro ko) | (go_at_call 23; (with_reducible refine (same_at _ _ (by simp) _ _ HO.out.1).mono ?_); rintro e wz ⟨rfl, kz⟩; have HS := Lib.hid kz; clear kz) | (go_at_call 16; (first | (with_reducible refine (M1.out _).mono ?_) | (with_reducible refine (M2.out _).mono ?_) | (with_reducible refine (M3.out _).mono ?_)); rintro e wz ⟨rfl, kz, rfl⟩) | (go_at_call 29; (first | (with_reducible refine (S1.out _).mono ?_) | (with_reducible refine (S2.out _).mono ?_)); rintro e wz ⟨rfl, kz, rfl⟩) | (go_at_call 14; (first | (with_reducible refine (W1.out _).mono ?_) | (with_reducible refine (W2.out _).mono ?_) | (with_reducible refine (W3.out _).mono ?_) | (with_reducible refine (W4.out _).mono ?_)); rintro e wz ⟨rfl, kz, rfl⟩))
  go_ret
  exact ⟨rfl, (((((((Kp.refl (fun _ => False) w).drewN _).alloc _).trans HO.out.2).trans HS.out).drewN _).trans KA.out).drewN _ |>.below (fun _ _ h => h)⟩
end Go.Proofs.Ytdeallaohfbceaa
