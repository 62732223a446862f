/- The walk of RatioParts: it returns true, whatever comes in. No condition. -/
import Derived.Test.YtdeallaohfbceaaRatA
import Derived.Test.YtdeallaohfbceaaFltD
import Derived.Test.YtdeallaohfbceaaOpen
namespace Go.Proofs.Ytdeallaohfbceaa
open Go.RowKit Flt
set_option linter.unusedVariables false
namespace Flt
theorem mg_one : mg 4607182418800017408 = uu 1074 := by kernel_rfl
theorem mg_53 : mg 4845873199050653696 = 9007199254740992 * uu 1074 := by kernel_rfl
theorem mg_least : mg 4368491638549381120 * 9007199254740992 = uu 1074 := by kernel_rfl
theorem fa_zero (n : Nat) : fa n 0 = n * uu 1074 := by kernel_rfl
theorem fl_form {n : Int} (h0 : 0 ≤ n) (h1 : n ≤ 9007199254740992) : ∃ R, floatOfInt .f64 n = Ieee.double.word false R ∧ Rnd (n.toNat * uu 1074) 1 R ∧ R ≤ 4845873199050653696 := by
  obtain ⟨R, e, hR⟩ := nearest_rnd (decide (n < 0)) n.natAbs 0
  rw [decide_eq_false (by omega : ¬ n < 0)] at e
  have e2 : floatOfInt .f64 n = Ieee.double.nearest false n.natAbs 0 := by
    show Ieee.double.nearest (decide (n < 0)) n.natAbs 0 = _
    rw [decide_eq_false (by omega : ¬ n < 0)]
  have e3 : n.natAbs = n.toNat := by omega
  have hR2 : Rnd (n.toNat * uu 1074) 1 R := by
    rw [e3] at hR
    rw [fb_one (by omega), fa_zero] at hR
    exact hR
  refine ⟨R, by rw [e2, e], hR2, ?_⟩
  have := hR2.mono (Rnd.exact (s := 4845873199050653696) (by decide)) (by decide) (by decide) (by rw [mg_53, Nat.mul_one, Nat.mul_one]; exact Nat.mul_le_mul_right _ (by omega))
  exact this
theorem part_form {n m : Int} (h0 : 0 ≤ n) (h1 : n ≤ 9007199254740992) (g0 : 1 ≤ m) (g1 : m ≤ 9007199254740992) : ∃ r R A B : Nat, partF n m = some r ∧ nanb r = false ∧ key r = R ∧ Rnd (mg A * uu 1074) (mg B) R ∧ 0 < mg B ∧ Rnd (n.toNat * uu 1074) 1 A ∧ Rnd (m.toNat * uu 1074) 1 B ∧ B ≤ 4845873199050653696 := by
  obtain ⟨A, ea, hA, lA⟩ := fl_form h0 h1
  obtain ⟨B, eb, hB, lB⟩ := fl_form (by omega : 0 ≤ m) g1
  have one : 4607182418800017408 ≤ B := by
    have := (Rnd.exact (s := 4607182418800017408) (by decide)).mono hB (by decide) (by decide) (by rw [mg_one, Nat.mul_one, Nat.mul_one]; exact Nat.le_mul_of_pos_left _ (by omega))
    exact this
  have fA : rung (Ieee.double.word false A) = A := rung_word false hA.1
  have fB : rung (Ieee.double.word false B) = B := rung_word false hB.1
  have sA : sgn (Ieee.double.word false A) = false := sgn_word false hA.1
  have sB : sgn (Ieee.double.word false B) = false := sgn_word false hB.1
  obtain ⟨r, h2, h3, R, h4, h5⟩ := div_fin (x := Ieee.double.word false A) (y := Ieee.double.word false B) (by unfold fin; rw [fA]; simp only [II]; omega) (by unfold fin; rw [fB]; simp only [II]; omega) (by rw [fB]; omega)
  rw [fA, fB] at h4
  rw [sA, sB] at h5
  refine ⟨r, R, A, B, ?_, h3, by simpa using h5, h4, ?_, hA, hB, lB⟩
  · unfold partF
    rw [ea, eb]; exact h2
  · have := mg_lt (show 0 < B by omega); rw [mg_zero] at this; exact this
end Flt
theorem cmp_facts {x y : Nat} (hx : nanb x = false) (hy : nanb y = false) (h : key x ≤ key y) : (FloatKind.f64.format.order x y == some .lt || FloatKind.f64.format.order x y == some .eq) = true ∧ (FloatKind.f64.format.order y x == some .gt || FloatKind.f64.format.order y x == some .eq) = true ∧ bef x y = false := by
  rw [ord_lt, ord_eq, ord_gt, ord_eq]
  unfold bef
  simp [hx, hy]
  omega
theorem part_calls {n m : Int} {r : Nat} (h : partF n m = some r) (w : World) : Calls Try.prog 13 #[.int .i64 n, .int .i64 m] w fun e w' => e = .returned (.float .f64 r) ∧ w = w' :=
  (part_any n m w).mono fun e w' g => by
    obtain ⟨q, k, rfl, rfl, h1, _⟩ := g
    obtain ⟨rfl, rfl⟩ := h1 r h
    exact ⟨rfl, rfl⟩
set_option maxHeartbeats 4000000 in
theorem parts_in (n m of : Int) (w : World) (h0 : 0 ≤ n) (h1 : n ≤ m) (h2 : m ≤ of) (h3 : 1 ≤ of) (h4 : of ≤ 9007199254740992) :
    Calls Try.prog 4 #[.int .i64 n, .int .i64 m, .int .i64 of] w fun e w' => e = .returned (.bool true) ∧ Below w.heap.size w w' := by
  obtain ⟨x, X, A, B, px, nx, kx, rx, hB, rA, rB, lB⟩ := part_form h0 (by omega) h3 h4
  obtain ⟨y, Y, C, B', py, ny, ky, ry, hB', rC, rB', lB'⟩ := part_form (by omega : 0 ≤ m) (by omega) h3 h4
  have eB : B = B' := rB.uniq rB' (by decide)
  subst eB
  have hU := uu_pos 1074
  have AC : A ≤ C := rA.mono rC (by decide) (by decide) (by rw [Nat.mul_one, Nat.mul_one]; exact Nat.mul_le_mul_right _ (by omega))
  have CBm : C ≤ B := rC.mono rB (by decide) (by decide) (by rw [Nat.mul_one, Nat.mul_one]; exact Nat.mul_le_mul_right _ (by omega))
  have XY : X ≤ Y := rx.mono ry hB hB (Nat.mul_le_mul_right _ (Nat.mul_le_mul_right _ (mg_le AC)))
  have ROne := Rnd.exact (s := 4607182418800017408) (by decide)
  rw [mg_one] at ROne
  have Y1 : Y ≤ 4607182418800017408 := ry.mono ROne hB (by decide) (by rw [Nat.mul_one, Nat.mul_comm]; exact Nat.mul_le_mul_left _ (mg_le CBm))
  have X1 : n = of → X = 4607182418800017408 := fun e => by
    have : A = B := rA.uniq (by rw [e]; exact rB) (by decide)
    subst this
    exact (Rnd.same hB (by decide) (by rw [Nat.mul_one, Nat.mul_comm]) rx).uniq ROne (by decide)
  have X0 : n = 0 → X = 0 := fun e => by
    subst e
    have : A = 0 := rA.uniq (by rw [Int.toNat_zero, Nat.zero_mul]; exact Rnd.zero (by decide)) (by decide)
    subst this
    rw [mg_zero, Nat.zero_mul] at rx
    exact rx.uniq (Rnd.zero hB) hB
  have Xp : 1 ≤ n → 0 < X := fun e => by
    have a1 : 4607182418800017408 ≤ A := ROne.mono rA (by decide) (by decide) (by rw [Nat.mul_one, Nat.mul_one]; exact Nat.le_mul_of_pos_left _ (by omega))
    have RL := Rnd.exact (s := 4368491638549381120) (by decide)
    have a2 : 4368491638549381120 ≤ X := RL.mono rx (by decide) hB (by
      rw [Nat.mul_one]
      calc mg 4368491638549381120 * mg B ≤ mg 4368491638549381120 * mg 4845873199050653696 := Nat.mul_le_mul_left _ (mg_le lB)
        _ = uu 1074 * uu 1074 := by rw [mg_53, ← Nat.mul_assoc, mg_least]
        _ ≤ mg A * uu 1074 := Nat.mul_le_mul_right _ (by rw [← mg_one]; exact mg_le a1))
    omega
  have n0 : nanb 0 = false := by decide +kernel
  have k0 : key 0 = 0 := by decide +kernel
  have n1 : nanb 4607182418800017408 = false := by decide +kernel
  have k1 : key 4607182418800017408 = 4607182418800017408 := by decide +kernel
  have f4 := (cmp_facts nx ny (by omega)).2.2
  have c1 : ((FloatKind.f64.format.order y 4607182418800017408 == some .lt) = true ∧ (FloatKind.f64.format.order y 4607182418800017408 == some .eq) = false) ∨ ((FloatKind.f64.format.order y 4607182418800017408 == some .lt) = false ∧ (FloatKind.f64.format.order y 4607182418800017408 == some .eq) = true) := by
    rw [ord_lt, ord_eq, ny, n1, ky, k1]; simp; omega
  have c2 : ((FloatKind.f64.format.order x y == some .lt) = true ∧ (FloatKind.f64.format.order x y == some .eq) = false) ∨ ((FloatKind.f64.format.order x y == some .lt) = false ∧ (FloatKind.f64.format.order x y == some .eq) = true) := by
    rw [ord_lt, ord_eq, nx, ny, kx, ky]; simp; omega
  have f1 := ord_gt x 0
  rw [nx, n0, kx, k0] at f1
  simp only [Bool.not_false, Bool.true_and] at f1
  have CX := Lib.hid (fun w' => part_calls px w')
  have CY := Lib.hid (fun w' => part_calls py w')
  have CA := Lib.hid (fun w' => awake_any w')
  have CB := Lib.hid (fun w' => before_any x y w')
  rw [f4] at CB
  have f5 := ord_eq x 0
  have f6 := ord_eq x 4607182418800017408
  rw [nx, n0, kx, k0] at f5
  rw [nx, n1, kx, k1] at f6
  simp only [Bool.not_false, Bool.true_and] at f5 f6
  clear rx ry rA rB rC rB' ROne px py f4 hU AC CBm XY Y1 lB lB' hB hB' n0 k0 n1 k1 ky ny
  rcases Int.lt_or_le 0 n with g | g
  · have := Xp (by omega)
    rw [decide_eq_false (by omega)] at f5
    rw [decide_eq_true (by omega)] at f1
    by_cases e : n = of
    · rw [X1 e, decide_eq_true (by rfl)] at f6
      subst e
      clear Xp X0 X1 kx
      rcases c1 with ⟨a1, a2⟩ | ⟨a1, a2⟩ <;> rcases c2 with ⟨b1, b2⟩ | ⟨b1, b2⟩
      all_goals
        go_enter Try.func4, Try.ntmps4
        go_wp2_with (first | (go_at_call 10; refine (CA.out _).mono ?_; rintro e w1 ⟨rfl, k1⟩; have K1 := Lib.hid k1; clear k1) | (go_at_call 13; (first | (with_reducible refine (CX.out _).mono ?_) | (with_reducible refine (CY.out _).mono ?_)); rintro e w2 ⟨rfl, rfl⟩) | (go_at_call 11; refine (CB.out _).mono ?_; rintro e w3 ⟨rfl, rfl⟩))
        go_ret
        refine ⟨ret_bool ?_, K1.out.below (fun _ _ h => h)⟩
        simp; omega
    · clear Xp X0 X1 f6 kx
      rcases c1 with ⟨a1, a2⟩ | ⟨a1, a2⟩ <;> rcases c2 with ⟨b1, b2⟩ | ⟨b1, b2⟩
      all_goals
        go_enter Try.func4, Try.ntmps4
        go_wp2_with (first | (go_at_call 10; refine (CA.out _).mono ?_; rintro e w1 ⟨rfl, k1⟩; have K1 := Lib.hid k1; clear k1) | (go_at_call 13; (first | (with_reducible refine (CX.out _).mono ?_) | (with_reducible refine (CY.out _).mono ?_)); rintro e w2 ⟨rfl, rfl⟩) | (go_at_call 11; refine (CB.out _).mono ?_; rintro e w3 ⟨rfl, rfl⟩))
        go_ret
        refine ⟨ret_bool ?_, K1.out.below (fun _ _ h => h)⟩
        simp; omega
  · have e0 : n = 0 := by omega
    rw [X0 e0, decide_eq_true (by rfl)] at f5
    rw [X0 e0, decide_eq_false (by decide)] at f1
    subst e0
    have e : ¬ (0 : Int) = of := by omega
    clear Xp X0 X1 f6 kx
    rcases c1 with ⟨a1, a2⟩ | ⟨a1, a2⟩ <;> rcases c2 with ⟨b1, b2⟩ | ⟨b1, b2⟩
    all_goals
      go_enter Try.func4, Try.ntmps4
      go_wp2_with (first | (go_at_call 10; refine (CA.out _).mono ?_; rintro e w1 ⟨rfl, k1⟩; have K1 := Lib.hid k1; clear k1) | (go_at_call 13; (first | (with_reducible refine (CX.out _).mono ?_) | (with_reducible refine (CY.out _).mono ?_)); rintro e w2 ⟨rfl, rfl⟩) | (go_at_call 11; refine (CB.out _).mono ?_; rintro e w3 ⟨rfl, rfl⟩))
      go_ret
      refine ⟨ret_bool ?_, K1.out.below (fun _ _ h => h)⟩
      simp
theorem ratioParts_walk (n m of : Int) (w : World) (r0 : Rdg Try.prog w 3 (Value.int .i64 n).cells.toList) (r1 : Rdg Try.prog w 3 (Value.int .i64 m).cells.toList) (r2 : Rdg Try.prog w 3 (Value.int .i64 of).cells.toList) :
    Calls Try.prog 4 #[.int .i64 n, .int .i64 m, .int .i64 of] w fun e w' => e = .returned (.bool true) ∧ Below w.heap.size w w' := by
  clear r0 r1 r2
  by_cases h : 0 ≤ n ∧ n ≤ m ∧ m ≤ of ∧ 1 ≤ of ∧ of ≤ 9007199254740992
  · obtain ⟨h0, h1, h2, h3, h4⟩ := h
    exact parts_in n m of w h0 h1 h2 h3 h4
  · have CA := Lib.hid (fun w' => awake_any w')
    have hs : n < 0 ∨ (¬ n < 0 ∧ m < n) ∨ (¬ n < 0 ∧ ¬ m < n ∧ of < m) ∨ (¬ n < 0 ∧ ¬ m < n ∧ ¬ of < m ∧ of < 1) ∨ (¬ n < 0 ∧ ¬ m < n ∧ ¬ of < m ∧ ¬ of < 1 ∧ 9007199254740992 < of) := by omega
    clear h
    rcases hs with h | ⟨h0, h⟩ | ⟨h0, h1, h⟩ | ⟨h0, h1, h2, h⟩ | ⟨h0, h1, h2, h3, h⟩
    all_goals
      go_enter Try.func4, Try.ntmps4
      go_wp2_with (go_at_call 10; refine (CA.out _).mono ?_; rintro e w1 ⟨rfl, k1⟩; have K1 := Lib.hid k1; clear k1)
      go_ret
      exact ⟨rfl, K1.out.below (fun _ _ h => h)⟩
end Go.Proofs.Ytdeallaohfbceaa
