/- satchelkit.Pick: any number within a range. -/
import Derived.Test.YtnapokdipelmiaaBase
namespace Go.Proofs.Ytnapokdipelmiaa
open Go.RowKit
set_option linter.unusedVariables false
theorem pick_any (x n : Int) (w : World) (hx : -9223372036854775808 ≤ x ∧ x ≤ 9223372036854775807) (hn : 1 ≤ n ∧ n ≤ 4611686018427387904) :
    Calls Try.prog 9 #[.int .i64 x, .int .i64 n] w fun e w' => e = .returned (.int .i64 (x % n)) ∧ w = w' := by
  obtain ⟨hx0, hx1⟩ := hx
  obtain ⟨hn0, hn1⟩ := hn
  by_cases h0 : 0 ≤ x
  · have e : x.tmod n = x % n := Int.tmod_eq_emod_of_nonneg h0
    have h1 := Int.emod_nonneg x (show n ≠ 0 by omega)
    have h2 := Int.emod_lt_of_pos x (show 0 < n by omega)
    have h3 : n ≠ 0 := by omega
    go_enter Try.func9, Try.ntmps9
    go_wp2
    go_ret
    exact ⟨rfl, rfl⟩
  · have h1 : x.tmod n = -((-x) % n) := by
      have : x = -(-x) := by omega
      conv => lhs; rw [this]
      rw [Int.neg_tmod, Int.tmod_eq_emod_of_nonneg (by omega)]
    have h2 := Int.emod_nonneg (-x) (show n ≠ 0 by omega)
    have h3 := Int.emod_lt_of_pos (-x) (show 0 < n by omega)
    have h4 := Int.emod_nonneg x (show n ≠ 0 by omega)
    have h5 := Int.emod_lt_of_pos x (show 0 < n by omega)
    have hdiv : (n : Int) ∣ (x % n + (-x) % n) := by
      have e1 := Int.emod_add_mul_ediv x n
      have e2 := Int.emod_add_mul_ediv (-x) n
      refine ⟨-(x / n) - (-x) / n, ?_⟩
      rw [Int.mul_sub, Int.mul_neg]; omega
    have h6 : n ≠ 0 := by omega
    obtain ⟨q, hq⟩ := hdiv
    by_cases hz : (-x) % n = 0
    · have hxz : x % n = 0 := by
        rcases Int.lt_trichotomy q 0 with h | h | h
        · have := Int.mul_le_mul_of_nonneg_left (show q ≤ -1 by omega) (show 0 ≤ n by omega); omega
        · subst h; omega
        · have := Int.mul_le_mul_of_nonneg_left (show 1 ≤ q by omega) (show 0 ≤ n by omega); omega
      rw [hxz]
      rw [hz] at h1
      clear hq hz hxz h2 h3 h4 h5
      go_enter Try.func9, Try.ntmps9
      go_wp2
      go_ret
      exact ⟨rfl, rfl⟩
    · have hs : x % n = n - (-x) % n := by
        rcases Int.lt_trichotomy q 1 with h | h | h
        · have := Int.mul_le_mul_of_nonneg_left (show q ≤ 0 by omega) (show 0 ≤ n by omega); omega
        · subst h; omega
        · have := Int.mul_le_mul_of_nonneg_left (show 2 ≤ q by omega) (show 0 ≤ n by omega); omega
      rw [hs]
      clear hq hs h4 h5
      generalize (-x) % n = r at *
      have h7 : -r < 0 := by omega
      have hfin : Hid (-r + n = n - r) := by show _ = _; omega
      go_enter Try.func9, Try.ntmps9
      go_wp2
      go_ret
      exact ⟨ret_int hfin.out, rfl⟩
end Go.Proofs.Ytnapokdipelmiaa
