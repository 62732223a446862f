/- Package ratio: Spread. -/
import Derived.Test.YtokembhfebnjpaaGreatQRtBM
import Derived.Laws.BitsAllLaws
import Derived.Lib.Hide
namespace Go.Proofs.YtokembhfebnjpaaGreat
set_option maxRecDepth 20000
open Go.RowKit Flt
set_option linter.unusedVariables false
theorem run_frombits (n : Int) (w : World) : (callFunc 135 #[.int .u64 n]).run Tryz.prog w = .ok (.value (.float .f64 n.toNat)) w := by
 rw [run_callFunc_extern Tryz.func135 (by kernel_rfl) (by kernel_rfl) (by kernel_rfl) (e := Extern.MathFloatBits.float64frombits) (by kernel_rfl)]
 rfl
theorem run_bits (x : Nat) (w : World) : (callFunc 136 #[.float .f64 x]).run Tryz.prog w = .ok (.value (.int .u64 x)) w := by
 rw [run_callFunc_extern Tryz.func136 (by kernel_rfl) (by kernel_rfl) (by kernel_rfl) (e := Extern.MathFloatBits.float64bits) (by kernel_rfl)]
 rfl
theorem andNot_rung (x : Nat) (h : x < 18446744073709551616) : bits .andNot .u64 (x : Int) 9223372036854775808 = ((rung x : Nat) : Int) := by
 have h1 := u64_andNot_nat x 9223372036854775808 h (by decide)
 have h2 : x &&& (18446744073709551615 - 9223372036854775808) = rung x := by
  have := Nat.and_two_pow_sub_one_eq_mod x 63
  unfold rung
  exact this
 rw [h2] at h1
 exact h1
theorem sign_p1 : bits .and .u64 4607182418800017408 9223372036854775808 = 0 := by decide +kernel
theorem or_zero (x : Nat) (h : x < 18446744073709551616) : bits .or .u64 (x : Int) 0 = (x : Int) := by
 have := u64_or_nat x 0 h (by decide)
 simpa using this
theorem cs_one (x : Nat) (w : World) (h : x < 18446744073709551616) : Calls Tryz.prog 132 #[.float .f64 x, .float .f64 4607182418800017408] w fun e w' => e = .returned (.float .f64 (rung x)) ∧ w = w' := by
 have h1 := fun x w' => run_bits x w'
 have h2 := andNot_rung x h
 have h3 := sign_p1
 have h4 := or_zero (rung x) (Nat.lt_of_lt_of_le (Nat.mod_lt _ (by decide)) (by decide))
 have h5 := fun w' => run_frombits ((rung x : Nat) : Int) w'
 simp only [Int.toNat_natCast] at h5
 generalize rung x = r at *
 go_enter Tryz.func132, Tryz.ntmps132
 go_wp2
 go_ret
 exact ⟨rfl, rfl⟩
theorem spread_at (old mean now part g : Nat) (w : World) (hg : floatBits .sub .f64 now mean = some g) (hl : g < 18446744073709551616) : Calls Tryz.prog 124 #[.float .f64 old, .float .f64 mean, .float .f64 now, .float .f64 part] w fun e w' => e = .returned (.float .f64 (meanF old (rung g) part)) ∧ ∃ k, w' = w.drewN k := by
 have h1 := fun w' => run_float_arith (P := Tryz.prog) w' .sub 92 .f64 now mean g hg
 have C1 := Lib.hid (fun w' => cs_one g w' hl)
 have C2 := Lib.hid (fun w' => mean_any old (rung g) part w')
 go_enter Tryz.func124, Tryz.ntmps124
 go_wp2_with (first | (go_at_call 132; refine (C1.out _).mono ?_; rintro e w1 ⟨rfl, rfl⟩) | (go_at_call 125; refine (C2.out _).mono ?_; rintro e w1 ⟨rfl, k, rfl⟩))
 go_ret
 exact ⟨rfl, _, rfl⟩
end Go.Proofs.YtokembhfebnjpaaGreat
