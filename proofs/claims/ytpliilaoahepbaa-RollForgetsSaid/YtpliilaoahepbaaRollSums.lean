/- The walk of RollSums: it returns true, whatever comes in. No condition. -/
import Derived.Test.YtpliilaoahepbaaRollL
namespace Go.Proofs.Ytpliilaoahepbaa
open Go.RowKit
set_option linter.unusedVariables false
theorem u8_bd {n : Int} (h : (Lit.int .u8 n).wf = true) : 0 ≤ n ∧ n ≤ 255 := by
  simp [Lit.wf, IntKind.min, IntKind.max, IntKind.signed, IntKind.bits] at h; omega
theorem u32_bd {n : Int} (h : (Lit.int .u32 n).wf = true) : 0 ≤ n ∧ n < 4294967296 := by
  simp [Lit.wf, IntKind.min, IntKind.max, IntKind.signed, IntKind.bits] at h; omega
theorem i64_bd {n : Int} (h : (Lit.int .i64 n).wf = true) : -9223372036854775808 ≤ n ∧ n ≤ 9223372036854775807 := by
  simp [Lit.wf, IntKind.min, IntKind.max, IntKind.signed, IntKind.bits] at h; omega
theorem IsRow.ex {w : World} {a : Option Addr} {len cap : Nat} {zs : List Int} (h : IsRow .u8 w a len cap zs) (hl : len ≤ 4611686018427387904) : ∃ l : List Int, l.length = len ∧ RdB w a l := ⟨_, h.bytes hl⟩

theorem rollSums_walk (a0 : Option Addr) (len0 cap0 : Nat) (z0 : List Int) (a1 : Int) (a2 : Int) (a3 : Int) (w : World) (w0 : IsRow .u8 w a0 len0 cap0 z0) (w1 : (Lit.int .u32 a1).wf = true) (w2 : (Lit.int .u8 a2).wf = true) (w3 : (Lit.int .u8 a3).wf = true) :
    Calls Try.prog 3 #[.slice a0 len0 cap0, .int .u32 a1, .int .u8 a2, .int .u8 a3] w fun e w' => e = .returned (.bool true) ∧ Below w.heap.size w w' := by
  obtain ⟨s0, s1⟩ := u32_bd w1
  obtain ⟨o0, o1⟩ := u8_bd w2
  obtain ⟨c0, c1⟩ := u8_bd w3
  have hle := w0.le
  unfold maxLen at hle
  by_cases hlen : 3000 < len0
  · clear w0 w1 w2 w3
    go_enter Try.func3, Try.ntmps3
    go_wp2
    go_ret
    exact ⟨rfl, Below.refl _ _⟩
  · obtain ⟨l, rfl, hr⟩ := w0.ex (by omega)
    clear w0 w1 w2 w3
    have hb := hr.bd
    have hl : l.length ≤ 3000 := by omega
    go_enter Try.func3, Try.ntmps3
    go_wp2_with fail
    refine (lent_any a0 cap0 l w hr (by omega)).mono ?_
    rintro e w1 ⟨rfl, hat, hk⟩
    have hrd := RdB.lent' hat hb (by omega)
    have hr1 := hr.kp hk (fun _ _ h => h)
    go_wp2_with (first | (go_at_call 12; refine (weight_any _ _ c0 c1).mono ?_; rintro e w' ⟨rfl, rfl⟩) | (go_at_call 13; refine (rweight_any _ _ c0 c1).mono ?_; rintro e w' ⟨rfl, rfl⟩) | (go_at_call 14; refine (sum_any _ _ _ _ hrd).mono ?_; rintro e w' ⟨rfl, rfl⟩) | (go_at_call 15; refine (rsum_any _ _ _ _ hr1).mono ?_; rintro e w' ⟨rfl, rfl⟩) | (go_at_call 16; refine (roll_any _ _ _ _ c0 c1 o0 o1 s0 s1).mono ?_; rintro e w' ⟨rfl, rfl⟩) | (go_at_call 17; refine (rroll_any _ _ _ _ c0 c1 o0 o1 s0 s1).mono ?_; rintro e w' ⟨rfl, rfl⟩))
    refine (kept_any _ a0 cap0 l _ hat hr1 (by omega)).mono ?_
    rintro e w2 ⟨rfl, hk2⟩
    go_wp2_with fail
    refine (awake_any _).mono ?_
    rintro e w3 ⟨rfl, hk3⟩
    go_wp2
    go_ret
    exact ⟨rfl, ((hk.trans hk2).trans hk3).below (fun _ _ h => h)⟩
end Go.Proofs.Ytpliilaoahepbaa
