/- Package ratio: Abs; what a wait grows with. -/
import Derived.Test.YtdeallaohfbceaaRatA
import Derived.Test.YtdeallaohfbceaaFltD
import Derived.Laws.BitsAllLaws
namespace Go.Proofs.Ytdeallaohfbceaa
open Go.RowKit Flt
set_option linter.unusedVariables false
theorem run_bits (x : Nat) (w : World) : (callFunc 32 #[.float .f64 x]).run Try.prog w = .ok (.value (.int .u64 x)) w := by
  rw [run_callFunc_extern Try.func32 (by kernel_rfl) (by kernel_rfl) (by kernel_rfl) (e := Extern.MathFloatBits.float64bits) (by kernel_rfl)]
  rfl
theorem andNot_rung (x : Nat) (h : x < 18446744073709551616) : bits .andNot .u64 (x : Int) 9223372036854775808 = ((rung x : Nat) : Int) := by
  have h1 := u64_andNot_nat x 9223372036854775808 h (by decide)
  have h2 : x &&& (18446744073709551615 - 9223372036854775808) = rung x := by
    have := Nat.and_two_pow_sub_one_eq_mod x 63
    unfold rung
    exact this
  rw [h2] at h1
  exact h1
theorem abs_any (x : Nat) (w : World) (h : x < 18446744073709551616) : Calls Try.prog 15 #[.float .f64 x] w fun e w' => e = .returned (.float .f64 (rung x)) ∧ w = w' := by
  have h1 := fun w' => run_bits x w'
  have h2 := andNot_rung x h
  have h3 := fun w' => run_frombits ((rung x : Nat) : Int) w'
  simp only [Int.toNat_natCast] at h3
  generalize rung x = r at *
  go_enter Try.func15, Try.ntmps15
  go_wp2
  go_ret
  exact ⟨rfl, rfl⟩
namespace Flt
theorem rung_rung (x : Nat) : rung (rung x) = rung x := by unfold rung; simp only [SW]; omega
theorem sgn_rung (x : Nat) : sgn (rung x) = false := by
  have : rung x / SW = 0 := Nat.div_eq_of_lt (Nat.mod_lt _ (by decide))
  unfold sgn; rw [this]; rfl
theorem nanb_rung (x : Nat) : nanb (rung x) = nanb x := by unfold nanb; rw [rung_rung]
theorem key_rung (x : Nat) : key (rung x) = (rung x : Nat) := by unfold key; rw [sgn_rung, rung_rung]; rfl
theorem key_zero : key 0 = 0 := by decide +kernel
theorem RndZ.uniq {A : Int} {b : Nat} {k k' : Int} (h : RndZ A b k) (h' : RndZ A b k') (hb : 0 < b) : k = k' :=
  Int.le_antisymm (h.mono h' hb hb (Int.le_refl _)) (h'.mono h hb hb (Int.le_refl _))
theorem add_zero' {x r : Nat} (h : Ieee.double.add x 0 = some r) : key r = key x := by
  have f0 : fin 0 := by unfold fin; decide
  rcases cases3 x with hx | hx | hx
  · rw [add_nan (.inl hx)] at h; cases h
  · obtain ⟨q, e, _, hk⟩ := add_inf_left hx f0
    rw [e] at h; cases h; exact hk
  · obtain ⟨q, e, _, hk⟩ := add_fin hx f0
    rw [e] at h; cases h
    rw [show mv 0 = 0 by decide +kernel, Int.add_zero] at hk
    exact hk.uniq (RndZ.exact hx.not_nan) (by decide)
theorem add_zero_some {x : Nat} (h : nanb x = false) : ∃ r, Ieee.double.add x 0 = some r := by
  have f0 : fin 0 := by unfold fin; decide
  rcases cases3 x with hx | hx | hx
  · rw [h] at hx; cases hx
  · obtain ⟨q, e, _, hk⟩ := add_inf_left hx f0; exact ⟨q, e⟩
  · obtain ⟨q, e, _, hk⟩ := add_fin hx f0; exact ⟨q, e⟩
theorem add_mono_right {x y y' r r' : Nat} (h : Ieee.double.add x y = some r) (h' : Ieee.double.add x y' = some r') (hk : key y ≤ key y') : key r ≤ key r' := by
  rw [add_comm] at h h'
  exact add_mono h h' hk
theorem nan_of_add {x y r : Nat} (h : Ieee.double.add x y = some r) : nanb x = false ∧ nanb y = false := by
  constructor
  · cases g : nanb x
    · rfl
    · rw [add_nan (.inl g)] at h; cases h
  · cases g : nanb y
    · rfl
    · rw [add_nan (.inr g)] at h; cases h
theorem add_ge {x y r : Nat} (h : Ieee.double.add x y = some r) (hy : 0 ≤ key y) : key x ≤ key r := by
  obtain ⟨q, hq⟩ := add_zero_some (nan_of_add h).1
  rw [← add_zero' hq]
  exact add_mono_right hq h (by rw [key_zero]; exact hy)
theorem f4_fin : fin f4 := by unfold fin; decide +kernel
theorem f4_read : ∃ m p, Ieee.double.read f4 = .number false m p ∧ m ≠ 0 := ⟨4503599627370496, -50, by kernel_rfl, by decide⟩
theorem mul4_inf {x : Nat} (hx : inf x) : ∃ r, Ieee.double.mul f4 x = some r ∧ key r = key x := by
  obtain ⟨m, p, e, hm⟩ := f4_read
  refine ⟨Ieee.double.word (sgn x) II, ?_, ?_⟩
  · unfold Ieee.Format.mul
    rw [read_inf hx, e, ← write_inf]
    show Option.map Ieee.double.write (if m = 0 then none else some (Ieee.Datum.infinity (sgn x ^^ false))) = _
    rw [if_neg hm, Bool.xor_false]; rfl
  · rw [(word_inf _).2, key_inf hx]
theorem mul4_mono {x x' r r' : Nat} (h : Ieee.double.mul f4 x = some r) (h' : Ieee.double.mul f4 x' = some r') (hk : key x ≤ key x') : key r ≤ key r' := by
  rcases cases3 x with hx | hx | hx
  · rw [mul_nan (.inr hx)] at h; cases h
  · obtain ⟨q, e, kq⟩ := mul4_inf hx
    rw [e] at h; cases h
    rcases cases3 x' with hx' | hx' | hx'
    · rw [mul_nan (.inr hx')] at h'; cases h'
    · obtain ⟨q', e', kq'⟩ := mul4_inf hx'
      rw [e'] at h'; cases h'; omega
    · obtain ⟨q', e', nq, kq'⟩ := mul_fin f4_fin hx'
      rw [e'] at h'; cases h'
      have := key_fin hx'
      have := key_bd nq
      have e1 := key_inf hx
      split at e1 <;> omega
  · obtain ⟨q, e, nq, kq⟩ := mul_fin f4_fin hx
    rw [e] at h; cases h
    rcases cases3 x' with hx' | hx' | hx'
    · rw [mul_nan (.inr hx')] at h'; cases h'
    · obtain ⟨q', e', kq'⟩ := mul4_inf hx'
      rw [e'] at h'; cases h'
      have := key_fin hx
      have := key_bd nq
      have e1 := key_inf hx'
      split at e1 <;> omega
    · obtain ⟨q', e', nq', kq'⟩ := mul_fin f4_fin hx'
      rw [e'] at h'; cases h'
      refine kq.mono kq' (uu_pos _) (uu_pos _) (Int.mul_le_mul_of_nonneg_right ?_ (by omega))
      exact Int.mul_le_mul_of_nonneg_left (mv_mono hk) (by rw [mv_f4]; have := uu_pos 1074; omega)
theorem mul4_nonneg {x r : Nat} (h : Ieee.double.mul f4 x = some r) (hk : 0 ≤ key x) : 0 ≤ key r := by
  have h0 : Ieee.double.mul f4 0 = some 0 := by decide +kernel
  have := mul4_mono h0 h (by rw [key_zero]; exact hk)
  rwa [key_zero] at this
theorem wait_cases (m s : Nat) : waitX m s = none ∧ waitF m s = 60 ∨ ∃ p x, Ieee.double.mul f4 s = some p ∧ Ieee.double.add m p = some x ∧ waitX m s = some x := by
  cases h : waitX m s with
  | none => left; refine ⟨rfl, ?_⟩; unfold waitF; rw [h]
  | some x =>
    right
    unfold waitX at h
    cases hm : Ieee.double.mul f4 s with
    | none => rw [hm] at h; cases h
    | some p => rw [hm] at h; exact ⟨p, x, rfl, h, rfl⟩
theorem wait_left {m m' s : Nat} {x : Nat} (hx : waitX m s = some x) (hk : key m ≤ key m') : waitF m s ≤ waitF m' s := by
  rcases wait_cases m' s with ⟨_, h⟩ | ⟨p', x', h1, h2, h3⟩
  · rw [h]; exact (wait_range m s).2
  · rcases wait_cases m s with ⟨h, _⟩ | ⟨p, y, g1, g2, g3⟩
    · rw [h] at hx; cases hx
    · rw [g1] at h1; cases h1
      exact wait_mono g3 h3 (add_some g2) (add_some h2) (add_mono g2 h2 hk)
theorem wait_right {m s s' : Nat} {x : Nat} (hx : waitX m s = some x) (hk : key s ≤ key s') : waitF m s ≤ waitF m s' := by
  rcases wait_cases m s' with ⟨_, h⟩ | ⟨p', x', h1, h2, h3⟩
  · rw [h]; exact (wait_range m s).2
  · rcases wait_cases m s with ⟨h, _⟩ | ⟨p, y, g1, g2, g3⟩
    · rw [h] at hx; cases hx
    · exact wait_mono g3 h3 (add_some g2) (add_some h2) (add_mono_right g2 h2 (mul4_mono g1 h1 hk))
/-- where neither is an edge, one waits as long as the mean says at least -/
theorem wait_least {m s : Nat} {x : Nat} (hx : waitX m s = some x) (h60 : waitF m s ≠ 60) (hs : 0 ≤ key s) : key m ≤ key (floatOfInt .f64 (waitF m s)) := by
  rcases wait_cases m s with ⟨h, _⟩ | ⟨p, y, g1, g2, g3⟩
  · rw [h] at hx; cases hx
  · rw [g3] at hx; cases hx
    have hm := add_ge g2 (mul4_nonneg g1 hs)
    have hn := add_some g2
    have hnm := (nan_of_add g2).1
    unfold waitF at h60 ⊢
    rw [g3] at h60 ⊢
    simp only [hn, if_false, Bool.false_eq_true] at h60 ⊢
    by_cases c1 : key f60 < key x
    · rw [if_pos c1] at h60; exact absurd rfl h60
    · rw [if_neg c1] at h60 ⊢
      by_cases c2 : key x < key f2
      · rw [if_pos c2, show floatOfInt .f64 2 = f2 by kernel_rfl]; omega
      · rw [if_neg c2]
        obtain ⟨c, b1, b2, _, b4, b5, b6⟩ := between x hn (by omega) (by omega)
        rw [b4]
        obtain ⟨h1, h2⟩ := nearest_z (decide ((c : Int) < 0)) (c : Int).natAbs 0
        rw [decide_eq_false (by omega : ¬ (c : Int) < 0)] at h1 h2
        have e2 : floatOfInt .f64 (c : Int) = Ieee.double.nearest false (c : Int).natAbs 0 := by
          show Ieee.double.nearest (decide ((c : Int) < 0)) (c : Int).natAbs 0 = _
          rw [decide_eq_false (by omega : ¬ (c : Int) < 0)]
        rw [e2]
        refine (RndZ.exact hnm).mono h2 (by decide) (fb_pos _) ?_
        have hmv := mv_mono hm
        rw [fb_one (by omega)]
        have : fa (c : Int).natAbs 0 = c * uu 1074 := by rw [Int.natAbs_natCast]; kernel_rfl
        rw [this]
        simp only [if_false, Bool.false_eq_true, Int.natCast_mul, Int.natCast_one, Int.mul_one]
        omega
end Flt
end Go.Proofs.Ytdeallaohfbceaa
