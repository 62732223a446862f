/- Floats, and lists of numbers, that are the same. -/
import Derived.Test.YtaibdkdmilhloaaQFlM
import Derived.Test.YtaibdkdmilhloaaQChs
import Derived.Test.YtaibdkdmilhloaaQPrt
import Derived.BigQuiet
import Derived.Deep.QuietTactic
namespace Go.Proofs.Ytaibdkdmilhloaa
open Go.RowKit Flt
set_option linter.unusedVariables false
set_option linter.unusedSimpArgs false
theorem inv_some {x : Nat} (h : nanb x = false) : ∃ q, floatBits .quo .f64 4607182418800017408 x = some q ∧ nanb q = false := by
  have f1 : fin 4607182418800017408 := by unfold fin; decide +kernel
  rcases cases3 x with hx | hx | hx
  · rw [h] at hx; cases hx
  · obtain ⟨m, p, e, _⟩ := read_fin f1
    refine ⟨Ieee.double.write (.number (sgn 4607182418800017408 ^^ sgn x) 0 0), ?_, ?_⟩
    · show Ieee.double.div 4607182418800017408 x = some (Ieee.double.write (.number (sgn 4607182418800017408 ^^ sgn x) 0 0))
      unfold Ieee.Format.div
      rw [read_inf hx, e]; rfl
    · exact (nearest_z _ _ _).1
  · rcases Nat.eq_zero_or_pos (rung x) with h0 | h0
    · obtain ⟨n, q, e', _, hn⟩ := read_fin hx
      have hn0 : n = 0 := by
        rw [h0, mg_zero] at hn
        rcases Nat.mul_eq_zero.1 hn with g | g
        · exact g
        · have := Nat.two_pow_pos (q + 1074).toNat; omega
      refine ⟨Ieee.double.write (.infinity (sgn 4607182418800017408 ^^ sgn x)), ?_, ?_⟩
      · show Ieee.double.div 4607182418800017408 x = _
        unfold Ieee.Format.div
        rw [e', hn0, show Ieee.double.read 4607182418800017408 = .number (sgn 4607182418800017408) 4503599627370496 (-52) by kernel_rfl]
        rfl
      · rw [write_inf]; exact (word_inf _).1
    · obtain ⟨r, e, nr, _⟩ := div_fin f1 hx h0
      exact ⟨r, e, nr⟩
theorem samefloat_same (x : Nat) (w : World) : Calls Try.prog 10 #[.float .f64 x, .float .f64 x] w fun e w' => e = .returned (.bool true) ∧ w = w' := by
  have g0 := ord_nan x
  cases h : nanb x
  · rw [h] at g0
    obtain ⟨q, hq, nq⟩ := inv_some h
    have g1 := ord_eq x x
    have g2 := ord_eq q q
    rw [h] at g1
    rw [nq] at g2
    simp only [Bool.not_false, Bool.true_and, decide_true] at g1 g2
    have hr := fun w' => run_float_arith (P := Try.prog) w' .quo 23 .f64 4607182418800017408 x q hq
    clear hq nq
    go_enter Try.func10, Try.ntmps10
    go_wp2
    go_ret
    exact ⟨rfl, rfl⟩
  · rw [h] at g0
    go_enter Try.func10, Try.ntmps10
    go_wp2
    go_ret
    exact ⟨rfl, rfl⟩
theorem samefloat_like {x y : Nat} (h : Like x y) (w : World) : Calls Try.prog 10 #[.float .f64 x, .float .f64 y] w fun e w' => e = .returned (.bool true) ∧ w = w' := by
  rcases h with rfl | ⟨h1, h2⟩
  · exact samefloat_same x w
  · have g0 := ord_nan x
    have g1 := ord_nan y
    rw [h1] at g0
    rw [h2] at g1
    go_enter Try.func10, Try.ntmps10
    go_wp2
    go_ret
    exact ⟨rfl, rfl⟩
theorem sameintsZ_eq (a b : Option Addr) (c c' : Nat) (l : List Int) (w : World) (ha : Rd w a (intsZ l)) (hb : Rd w b (intsZ l)) (hl : l.length ≤ 1000000) :
    Calls Try.prog 13 #[.slice a l.length c, .slice b l.length c'] w fun e w' => e = .returned (.bool true) ∧ ∃ k, w' = w.drewN k := by
  obtain ⟨L, hL⟩ : ∃ L, L = l.length := ⟨_, rfl⟩
  rw [← hL] at hl ⊢
  have HL := Lib.hid hL
  clear hL
  go_enter Try.func13, Try.ntmps13
  go_wp2
  go_loopw [5] (fun i wr => ∃ k : Nat, k ≤ L ∧ i = .int .i64 k ∧ ∃ n, wr = w.drewN n) (fun i _ => L - (intOf i).toNat)
  case atStart => exact ⟨0, by omega, rfl, 0, rfl⟩
  case round =>
    obtain ⟨k, hkl, rfl, n0, rfl⟩ := hrel
    by_cases hlt : k < L
    · have i1 : (k : Int) < L := by omega
      have hk' : k < (intsZ l).length := by simp [intsZ]; rw [← HL.out]; exact hlt
      obtain ⟨b1, o1, rfl, c1⟩ := ha k hk'
      obtain ⟨b2, o2, rfl, c2⟩ := hb k hk'
      have e1 : (intsZ l).getD k undef = .int .i64 (l.getD k 0) := by
        have : k < l.length := by rw [← HL.out]; exact hlt
        simp [intsZ, List.getD_eq_getElem?_getD, this]
      rw [e1] at c1 c2
      generalize l.getD k 0 = x at *
      have d1 : (w.drewN n0).cell? ⟨b1, o1 + k, none⟩ = some (.int .i64 x) := c1
      have d2 : (w.drewN n0).cell? ⟨b2, o2 + k, none⟩ = some (.int .i64 x) := c2
      have HW : Hid (∃ n, w.drewN n0 = w.drewN n) := ⟨n0, rfl⟩
      clear c1 c2 ha hb e1 hk'
      generalize w.drewN n0 = w1 at *
      go_upto_region 6 with fail
      go_quiet (fail)
      go_wp2
      go_roundw
      case rel =>
        obtain ⟨n1, rfl⟩ := HW.out
        exact ⟨k + 1, by omega, by go_num, _, World.drewN_drewN _ _ _⟩
      case measure => simp [intOf]; omega
    · obtain rfl : k = L := by omega
      go_wp2
      go_ret
      exact ⟨rfl, _, rfl⟩
end Go.Proofs.Ytaibdkdmilhloaa
