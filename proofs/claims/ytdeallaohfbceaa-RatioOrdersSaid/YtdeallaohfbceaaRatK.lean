/- Chapter 02: Inf, Copysign, Spread, SameInts. -/
import Derived.Test.YtdeallaohfbceaaRatR
import Derived.Test.YtdeallaohfbceaaSrtO
namespace Go.Proofs.Ytdeallaohfbceaa
open Go.RowKit Flt
set_option linter.unusedVariables false
theorem minf_any (w : World) : Calls Try.prog 40 #[.int .i64 1] w fun e w' => e = .returned (.float .f64 9218868437227405312) ∧ w = w' := by
  have hc := fun w' => run_frombits 9218868437227405312 w'
  go_enter Try.func40, Try.ntmps40
  go_wp2
  go_ret
  exact ⟨rfl, rfl⟩
theorem inf_any (w : World) : Calls Try.prog 26 #[] w fun e w' => e = .returned (.float .f64 9218868437227405312) ∧ w = w' := by
  have C := Lib.hid (fun w => minf_any w)
  go_enter Try.func26, Try.ntmps26
  go_wp2_with (go_at_call 40; refine (C.out _).mono ?_; rintro e w1 ⟨rfl, rfl⟩)
  go_ret
  exact ⟨rfl, rfl⟩
theorem sign_zero : bits .andNot .u64 0 9223372036854775808 = 0 := by decide +kernel
theorem sign_m1 : bits .and .u64 13830554455654793216 9223372036854775808 = 9223372036854775808 := by decide +kernel
theorem sign_p1 : bits .and .u64 4607182418800017408 9223372036854775808 = 0 := by decide +kernel
theorem or_m : bits .or .u64 0 9223372036854775808 = 9223372036854775808 := by decide +kernel
theorem or_zero (x : Nat) (h : x < 18446744073709551616) : bits .or .u64 (x : Int) 0 = (x : Int) := by
  have := u64_or_nat x 0 h (by decide)
  simpa using this
theorem cs_zero (w : World) : Calls Try.prog 42 #[.float .f64 0, .float .f64 13830554455654793216] w fun e w' => e = .returned (.float .f64 9223372036854775808) ∧ w = w' := by
  have h1 := fun x w' => run_bits x w'
  have h2 := sign_zero
  have h3 := sign_m1
  have h4 := or_m
  have h5 := fun w' => run_frombits 9223372036854775808 w'
  go_enter Try.func42, Try.ntmps42
  go_wp2
  go_ret
  exact ⟨rfl, rfl⟩
theorem zero_any (w : World) : Calls Try.prog 28 #[] w fun e w' => e = .returned (.float .f64 9223372036854775808) ∧ w = w' := by
  have C := Lib.hid (fun w => cs_zero w)
  go_enter Try.func28, Try.ntmps28
  go_wp2_with (go_at_call 42; refine (C.out _).mono ?_; rintro e w1 ⟨rfl, rfl⟩)
  go_ret
  exact ⟨rfl, rfl⟩
theorem cs_one (x : Nat) (w : World) (h : x < 18446744073709551616) : Calls Try.prog 42 #[.float .f64 x, .float .f64 4607182418800017408] w fun e w' => e = .returned (.float .f64 (rung x)) ∧ w = w' := by
  have h1 := fun x w' => run_bits x w'
  have h2 := andNot_rung x h
  have h3 := sign_p1
  have h4 := or_zero (rung x) (Nat.lt_of_lt_of_le (Nat.mod_lt _ (by decide)) (by decide))
  have h5 := fun w' => run_frombits ((rung x : Nat) : Int) w'
  simp only [Int.toNat_natCast] at h5
  generalize rung x = r at *
  go_enter Try.func42, Try.ntmps42
  go_wp2
  go_ret
  exact ⟨rfl, rfl⟩
theorem spread_at (old mean now part g : Nat) (w : World) (hg : floatBits .sub .f64 now mean = some g) (hl : g < 18446744073709551616) : Calls Try.prog 29 #[.float .f64 old, .float .f64 mean, .float .f64 now, .float .f64 part] w fun e w' => e = .returned (.float .f64 (meanF old (rung g) part)) ∧ ∃ k, w' = w.drewN k := by
  have h1 := fun w' => run_float_arith (P := Try.prog) w' .sub 22 .f64 now mean g hg
  have C1 := Lib.hid (fun w' => cs_one g w' hl)
  have C2 := Lib.hid (fun w' => mean_any old (rung g) part w')
  go_enter Try.func29, Try.ntmps29
  go_wp2_with (first | (go_at_call 42; refine (C1.out _).mono ?_; rintro e w1 ⟨rfl, rfl⟩) | (go_at_call 16; refine (C2.out _).mono ?_; rintro e w1 ⟨rfl, k, rfl⟩))
  go_ret
  exact ⟨rfl, _, rfl⟩
theorem sameints_eq (a b : Option Addr) (c c' : Nat) (l : List Nat) (w : World) (ha : Rd w a (nums l)) (hb : Rd w b (nums l)) (hl : l.length ≤ 1000000) :
    Calls Try.prog 23 #[.slice a l.length c, .slice b l.length c'] w fun e w' => e = .returned (.bool true) ∧ ∃ k, w' = w.drewN k := by
  obtain ⟨L, hL⟩ : ∃ L, L = l.length := ⟨_, rfl⟩
  rw [← hL] at hl ⊢
  have HL := Lib.hid hL
  clear hL
  go_enter Try.func23, Try.ntmps23
  go_wp2
  go_loopw [5] (fun i wr => ∃ k : Nat, k ≤ L ∧ i = .int .i64 k ∧ ∃ n, wr = w.drewN n) (fun i _ => L - (intOf i).toNat)
  case atStart => exact ⟨0, by omega, rfl, 0, rfl⟩
  case round =>
    obtain ⟨k, hkl, rfl, n0, rfl⟩ := hrel
    by_cases hlt : k < L
    · have i1 : (k : Int) < L := by omega
      have hk' : k < (nums l).length := by simp [nums]; rw [← HL.out]; exact hlt
      obtain ⟨b1, o1, rfl, c1⟩ := ha k hk'
      obtain ⟨b2, o2, rfl, c2⟩ := hb k hk'
      have e1 : (nums l).getD k undef = .int .i64 ((l.getD k 0 : Nat) : Int) := by
        have : k < l.length := by rw [← HL.out]; exact hlt
        simp [nums, List.getD_eq_getElem?_getD, this]
      rw [e1] at c1 c2
      generalize l.getD k 0 = x at *
      have d1 : (w.drewN n0).cell? ⟨b1, o1 + k, none⟩ = some (.int .i64 (x : Int)) := c1
      have d2 : (w.drewN n0).cell? ⟨b2, o2 + k, none⟩ = some (.int .i64 (x : Int)) := c2
      have HW : Hid (∃ n, w.drewN n0 = w.drewN n) := ⟨n0, rfl⟩
      clear c1 c2 ha hb e1 hk'
      generalize w.drewN n0 = w1 at *
      go_upto_region 6 with fail
      go_quiet (fail)
      go_wp2
      go_roundw
      case rel =>
        obtain ⟨n1, rfl⟩ := HW.out
        exact ⟨k + 1, by omega, by go_num, _, World.drewN_drewN _ _ _⟩
      case measure => simp [intOf]; omega
    · obtain rfl : k = L := by omega
      go_wp2
      go_ret
      exact ⟨rfl, _, rfl⟩
end Go.Proofs.Ytdeallaohfbceaa
