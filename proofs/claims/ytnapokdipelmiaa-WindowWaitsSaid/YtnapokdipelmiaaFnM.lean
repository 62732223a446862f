/- Chapter 13: floats: a mean and a spread of times stay numbers, from nought on and not great. -/
import Derived.Test.YtnapokdipelmiaaRatM
namespace Go.Proofs.Ytnapokdipelmiaa
open Go.RowKit Flt Ieee
set_option linter.unusedVariables false
namespace Flt
theorem rung_rung_w (x : Nat) : rung (rung x) = rung x := by unfold rung; simp only [SW]; omega
theorem sgn_rung_w (x : Nat) : sgn (rung x) = false := by
  have h1 : rung x < 9223372036854775808 := Nat.mod_lt _ (by decide)
  unfold sgn; simp only [SW]; rw [Nat.div_eq_of_lt h1]; rfl
theorem nanb_rung_w (x : Nat) : nanb (rung x) = nanb x := by unfold nanb; rw [rung_rung_w]
theorem key_zero_w : key 0 = 0 := by decide +kernel
theorem mv_neg_iff_w {x : Nat} : (mv x < 0 ↔ key x < 0) := by
  have := (mv_lt_iff x 0).1
  rwa [key_zero_w, show mv 0 = 0 by decide +kernel] at this
theorem mv_natAbs_w (x : Nat) : (mv x).natAbs = mg (rung x) := by unfold mv; cases sgn x <;> simp
theorem mv_rung_w (x : Nat) : mv (rung x) = mg (rung x) := by unfold mv; rw [sgn_rung_w, rung_rung_w]; rfl
def c31 : Nat := 4746794007248502784
def c32 : Nat := 4751297606875873280
def c33 : Nat := 4755801206503243776
theorem mv_c31 : mv c31 = 2147483648 * (uu 1074 : Int) := by kernel_rfl
theorem mv_c32 : mv c32 = 4294967296 * (uu 1074 : Int) := by kernel_rfl
theorem mv_c33 : mv c33 = 8589934592 * (uu 1074 : Int) := by kernel_rfl
theorem fin_c31 : fin c31 := by unfold fin; decide +kernel
theorem fin_c32 : fin c32 := by unfold fin; decide +kernel
theorem fin_c33 : fin c33 := by unfold fin; decide +kernel
/-- A number from nought to c. -/
structure Bw (c x : Nat) : Prop where
  num : nanb x = false
  lo : 0 ≤ mv x
  hi : mv x ≤ mv c
  fc : fin c
theorem key_of_mv {x y : Nat} (h : mv x ≤ mv y) : key x ≤ key y := by
  rcases Int.lt_or_le (key y) (key x) with g | g
  · have := (mv_lt_iff y x).1.2 g; omega
  · exact g
theorem key_zero' {x : Nat} (h : 0 ≤ mv x) : 0 ≤ key x := by have := @mv_neg_iff_w x; omega
theorem key_zero'' {x : Nat} (h : 0 ≤ key x) : 0 ≤ mv x := by have := @mv_neg_iff_w x; omega
theorem fin_of_key {x : Nat} {K : Int} (h1 : -K ≤ key x) (h2 : key x ≤ K) (hK : K < (II : Int)) : fin x := by
  unfold fin
  unfold key at h1 h2
  cases hs : sgn x <;> rw [hs] at h1 h2 <;> simp at h1 h2 <;> omega
theorem Bw.fin {c x : Nat} (h : Bw c x) : fin x := by
  have h1 := key_of_mv h.hi
  have h2 := key_zero' h.lo
  have h3 := key_fin h.fc
  exact fin_of_key (K := key c) (by omega) h1 h3.2
theorem RndZ.neg {A : Int} {b : Nat} {k : Int} (h : RndZ A b k) : RndZ (-A) b (-k) := by
  obtain ⟨R, h1, h2, h3⟩ := h
  refine ⟨R, by rwa [Int.natAbs_neg], fun h => ?_, fun h => ?_⟩
  · have := h3 (by omega); omega
  · have := h2 (by omega); omega
/-- The word of the other sign. -/
def ng (x : Nat) : Nat := if sgn x then rung x else SW + rung x
theorem rung_lt (x : Nat) : rung x < SW := Nat.mod_lt _ (by decide)
theorem key_ng (x : Nat) : key (ng x) = -key x ∧ mv (ng x) = -mv x := by
  have h1 := rung_lt x
  have h2 : rung (rung x) = rung x := Nat.mod_eq_of_lt h1
  have h3 : rung (SW + rung x) = rung x := by unfold rung; simp only [SW]; omega
  have h4 : sgn (rung x) = false := by unfold sgn; simp only [SW] at *; rw [Nat.div_eq_of_lt h1]; rfl
  have h5 : sgn (SW + rung x) = true := by
    unfold sgn; simp only [SW] at *
    rw [show (9223372036854775808 + rung x) / 9223372036854775808 = 1 by omega]; rfl
  unfold ng key mv
  cases hs : sgn x
  · simp [h3, h5]
  · simp [h2, h4]
theorem neg_of_key {x y : Nat} (h : -key y ≤ key x) : -mv y ≤ mv x := by
  have := mv_mono (x := ng y) (y := x) (by rw [(key_ng y).1]; exact h)
  rwa [(key_ng y).2] at this
theorem kz1 {b : Nat} (hb : 0 < b) : RndZ 0 b 0 := ⟨0, Rnd.zero hb, fun _ => rfl, fun _ => rfl⟩
theorem nearest_lt (s : Bool) (m : Nat) (p : Int) : double.nearest s m p < 18446744073709551616 := by
  obtain ⟨R, e, hR⟩ := nearest_rnd s m p
  rw [e, word_eq]
  have := hR.1
  simp only [II] at this
  simp only [SW]
  cases s <;> simp <;> omega
theorem sub_lt {x y r : Nat} (hx : fin x) (hy : fin y) (h : double.sub x y = some r) : r < 18446744073709551616 := by
  obtain ⟨m, p, e, _⟩ := read_fin hx
  obtain ⟨n, q, e', _⟩ := read_fin hy
  unfold Format.sub at h
  rw [e, e'] at h
  simp only [Datum.opposite, Datum.sum, Option.map_some, Option.some.injEq] at h
  subst h
  exact nearest_lt _ _ _
theorem sub_bw {C D x y : Nat} (hx : Bw D x) (hy : Bw C y) : ∃ g, double.sub x y = some g ∧ g < 18446744073709551616 ∧ nanb g = false ∧ fin g ∧ (mv y ≤ mv x → 0 ≤ mv g ∧ mv g ≤ mv x) ∧ (mv x ≤ mv y → mv g ≤ 0 ∧ -mv y ≤ mv g) := by
  obtain ⟨g, e, n, k⟩ := sub_fin hx.fin hy.fin
  have h1 := hx.lo
  have h2 := hy.lo
  have p1 : mv y ≤ mv x → 0 ≤ key g ∧ key g ≤ key x := fun h => ⟨(kz1 (b := 1) (by decide)).mono k (by decide) (by decide) (by omega), k.mono (RndZ.exact hx.num) (by decide) (by decide) (by omega)⟩
  have p2 : mv x ≤ mv y → key g ≤ 0 ∧ -key y ≤ key g := fun h => ⟨k.mono (kz1 (b := 1) (by decide)) (by decide) (by decide) (by omega), (RndZ.exact hy.num).neg.mono k (by decide) (by decide) (by omega)⟩
  have fx := key_fin hx.fin
  have fy := key_fin hy.fin
  have nz : ∀ z, key z ≤ 0 → mv z ≤ 0 := fun z hz => by
    have := mv_mono (x := z) (y := 0) (by rw [key_zero_w]; exact hz)
    rwa [show mv 0 = 0 by decide +kernel] at this
  refine ⟨g, e, sub_lt hx.fin hy.fin e, n, ?_, fun h => ⟨key_zero'' (p1 h).1, mv_mono (p1 h).2⟩, fun h => ⟨nz g (p2 h).1, neg_of_key (p2 h).2⟩⟩
  rcases Int.le_total (mv y) (mv x) with h | h
  · have := p1 h; exact fin_of_key (K := key x) (by omega) (by omega) fx.2
  · have := p2 h; exact fin_of_key (K := key y) (by omega) (by omega) fy.2
theorem mean_bw {C D old d p : Nat} (ho : Bw C old) (hd : Bw D d) (hCD : 2 * mv D ≤ mv C) (fp : fin p) (mp0 : 0 ≤ mv p) (mp1 : mv p ≤ uu 1074) : ∃ x, meanX old d p = some x ∧ meanF old d p = x ∧ Bw C x := by
  obtain ⟨g, eg, _, ng', fg, g1, g2⟩ := sub_bw hd ho
  have hU := uu_pos 1074
  obtain ⟨q, eq, nq, kq⟩ := mul_fin fp fg
  obtain ⟨U, hUd⟩ : ∃ U, U = uu 1074 := ⟨_, rfl⟩
  rw [← hUd] at hU mp1 kq
  have q1 : 0 ≤ mv g → 0 ≤ key q ∧ key q ≤ key g := fun h => ⟨(kz1 (b := 1) (by decide)).mono kq (by decide) hU (by rw [Int.zero_mul, Int.natCast_one, Int.mul_one]; exact Int.mul_nonneg mp0 h), by
    refine kq.mono (RndZ.exact ng') hU (by decide) ?_
    rw [Int.natCast_one, Int.mul_one, Int.mul_comm]
    exact Int.mul_le_mul_of_nonneg_left mp1 h⟩
  have q2 : mv g ≤ 0 → key q ≤ 0 ∧ key g ≤ key q := fun h => ⟨by
    refine kq.mono (kz1 (b := 1) (by decide)) hU (by decide) ?_
    rw [Int.natCast_one, Int.mul_one, Int.zero_mul]
    exact Int.mul_nonpos_of_nonneg_of_nonpos mp0 h, by
    refine (RndZ.exact ng').mono kq (by decide) hU ?_
    rw [Int.natCast_one, Int.mul_one, Int.mul_comm (mv p)]
    exact Int.mul_le_mul_of_nonpos_left h mp1⟩
  have fk := key_fin fg
  have nz : ∀ z, key z ≤ 0 → mv z ≤ 0 := fun z hz => by
    have := mv_mono (x := z) (y := 0) (by rw [key_zero_w]; exact hz)
    rwa [show mv 0 = 0 by decide +kernel] at this
  have hsum : fin q ∧ 0 ≤ mv old + mv q ∧ mv old + mv q ≤ mv C := by
    rcases Int.le_total (mv old) (mv d) with h | h
    · have a1 := g1 h
      have a2 := q1 a1.1
      have a3 := mv_mono a2.2
      have a4 := key_zero'' a2.1
      have a5 := ho.lo
      have a6 := hd.hi
      exact ⟨fin_of_key (K := key g) (by omega) a2.2 fk.2, by omega, by omega⟩
    · have a1 := g2 h
      have a2 := q2 a1.1
      have a3 := mv_mono a2.2
      have a4 := nz q a2.1
      have a5 := ho.lo
      have a6 := ho.hi
      exact ⟨fin_of_key (K := -key g) (by omega) (by omega) (by omega), by omega, by omega⟩
  obtain ⟨x, ex, nx, kx⟩ := add_fin ho.fin hsum.1
  have hx : meanX old d p = some x := by unfold meanX; rw [eg]; show (double.mul p g).bind _ = _; rw [eq]; exact ex
  refine ⟨x, hx, by unfold meanF; rw [ho.num, hx]; rfl, nx, ?_, ?_, ho.fc⟩
  · exact key_zero'' ((kz1 (b := 1) (by decide)).mono kx (by decide) (by decide) (by omega))
  · refine mv_mono (kx.mono (RndZ.exact ho.fc.not_nan) (by decide) (by decide) (by omega))
/-- A time as a float. -/
theorem time_bw {n : Nat} (h : n ≤ 2147483648) : Bw c31 (floatOfInt .f64 (n : Nat)) := by
  have e2 : floatOfInt .f64 (n : Int) = double.nearest false (n : Int).natAbs 0 := by
    show double.nearest (decide ((n : Int) < 0)) (n : Int).natAbs 0 = _
    rw [decide_eq_false (by omega)]
  obtain ⟨h1, h2⟩ := nearest_z false (n : Int).natAbs 0
  rw [← e2] at h1 h2
  have e3 : fa (n : Int).natAbs 0 = n * uu 1074 := by
    rw [Int.natAbs_natCast]
    unfold fa uu
    rw [show (0 + 1074 : Int).toNat = 1074 by decide]
  have e4 : fb 0 = 1 := by unfold fb; decide
  rw [e3, e4] at h2
  simp only [Bool.false_eq_true, if_false] at h2
  refine ⟨h1, key_zero'' ((kz1 (b := 1) (by decide)).mono h2 (by decide) (by decide) (by omega)), mv_mono (h2.mono (RndZ.exact fin_c31.not_nan) (by decide) (by decide) ?_), fin_c31⟩
  rw [mv_c31, Int.natCast_mul]
  have := Int.mul_le_mul_of_nonneg_right (show (n : Int) ≤ 2147483648 by omega) (show (0 : Int) ≤ (uu 1074 : Nat) by omega)
  omega
def quarter : Nat := 4598175219545276416
def eighth : Nat := 4593671619917905920
theorem quarter_fin : fin quarter ∧ 0 ≤ mv quarter ∧ mv quarter ≤ uu 1074 := ⟨by unfold fin; decide +kernel, by decide +kernel, by decide +kernel⟩
theorem eighth_fin : fin eighth ∧ 0 ≤ mv eighth ∧ mv eighth ≤ uu 1074 := ⟨by unfold fin; decide +kernel, by decide +kernel, by decide +kernel⟩
/-- A mean and a spread. -/
structure Ms (m s : Nat) : Prop where
  m : Bw c32 m
  s : Bw c33 s
theorem Ms.start : Ms 4616189618054758400 4607182418800017408 := ⟨⟨by decide +kernel, by decide +kernel, by decide +kernel, fin_c32⟩, ⟨by decide +kernel, by decide +kernel, by decide +kernel, fin_c33⟩⟩
/-- The gap of a time from the mean. -/
theorem Ms.gap {m s : Nat} (h : Ms m s) {n : Nat} (hn : n ≤ 2147483648) : ∃ g, double.sub (floatOfInt .f64 (n : Nat)) m = some g ∧ g < 18446744073709551616 ∧ nanb g = false ∧ Bw c32 (rung g) := by
  obtain ⟨g, e, l, n', fg, g1, g2⟩ := sub_bw (time_bw hn) h.m
  have a1 := (time_bw hn).hi
  have a2 := h.m.hi
  have a3 := mv_c31
  have a4 := mv_c32
  have hU := uu_pos 1074
  refine ⟨g, e, l, n', ⟨by rw [nanb_rung_w]; exact n', by rw [mv_rung_w]; omega, ?_, fin_c32⟩⟩
  rw [mv_rung_w, ← mv_natAbs_w]
  rcases Int.le_total (mv m) (mv (floatOfInt .f64 (n : Nat))) with c | c
  · have := g1 c; omega
  · have := g2 c; omega
theorem Ms.step {m s : Nat} (h : Ms m s) {n : Nat} (hn : n ≤ 2147483648) : ∃ g, double.sub (floatOfInt .f64 (n : Nat)) m = some g ∧ g < 18446744073709551616 ∧ Ms (meanF m (floatOfInt .f64 (n : Nat)) eighth) (meanF s (rung g) quarter) := by
  obtain ⟨g, e, l, n', hg⟩ := h.gap hn
  have a3 := mv_c31
  have a4 := mv_c32
  have a5 := mv_c33
  have hU := uu_pos 1074
  obtain ⟨x, _, e1, b1⟩ := mean_bw h.m (time_bw hn) (by omega) eighth_fin.1 eighth_fin.2.1 eighth_fin.2.2
  obtain ⟨y, _, e2, b2⟩ := mean_bw h.s hg (by omega) quarter_fin.1 quarter_fin.2.1 quarter_fin.2.2
  exact ⟨g, e, l, ⟨by rw [e1]; exact b1, by rw [e2]; exact b2⟩⟩
end Flt
end Go.Proofs.Ytnapokdipelmiaa
