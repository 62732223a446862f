/- Floats: how far a rounded number lies from what it is; a mean lies between, but for rounding. No program in sight. -/
import Derived.Test.YtdeallaohfbceaaRatR
namespace Go.Proofs.Ytdeallaohfbceaa.Flt
open Ieee
set_option linter.unusedVariables false
/-- how far the nearest number lies off a whole number -/
theorem rnd_err {a R : Nat} (h : Rnd a 1 R) (hR : R < II) : (mg R ≤ a + (a / 2 ^ 50) ∧ a ≤ mg R + (a / 2 ^ 50)) ∧ (a < 2 ^ 52 → mg R = a) := by
  -- above: a lies not beyond the middle of R and the next one; below: not ahead of the middle of the one ahead and R
  have hup : 2 * a ≤ mg R + mg (R + 1) := by
    rcases Nat.lt_or_ge (mg R + mg (R + 1)) (2 * a) with g | g
    · exfalso
      have := (h.2 R hR).2 (.inl (by rw [Nat.one_mul]; exact g))
      omega
    · exact g
  have hdn : 0 < R → mg (R - 1) + mg R ≤ 2 * a := fun h0 => by
    have := (h.2 (R - 1) (by omega)).1 (by omega)
    rw [Above, Nat.one_mul, show R - 1 + 1 = R by omega] at this
    omega
  -- the steps
  by_cases hs : R < BB
  · have m0 := mg_at 0 R (by omega) (Or.inl rfl)
    have m1 := mg_at 0 (R + 1) (by omega) (Or.inl rfl)
    rw [Nat.zero_mul, Nat.zero_add, Nat.pow_zero, Nat.mul_one] at m0 m1
    have e : mg R = a := by
      rcases Nat.eq_zero_or_pos R with g | g
      · omega
      · have m2 := mg_at 0 (R - 1) (by omega) (Or.inl rfl)
        rw [Nat.zero_mul, Nat.zero_add, Nat.pow_zero, Nat.mul_one] at m2
        have := hdn g
        omega
    rw [e]; exact ⟨⟨by omega, by omega⟩, fun _ => rfl⟩
  · obtain ⟨e, he⟩ : ∃ e, e = R / BB - 1 := ⟨_, rfl⟩
    obtain ⟨k, hk⟩ : ∃ k, k = BB + R % BB := ⟨_, rfl⟩
    have hlt := Nat.mod_lt R (show 0 < BB by decide)
    have eR : R = e * BB + k := by simp only [BB] at *; omega
    have k1 : BB ≤ k := by omega
    have k2 : k < 2 * BB := by omega
    have m0 := mg_at e k (by omega) (Or.inr k1)
    have m1 := mg_at e (k + 1) (by omega) (Or.inr (by omega))
    rw [← eR] at m0
    rw [show e * BB + (k + 1) = R + 1 by omega] at m1
    have hp : 0 < 2 ^ e := Nat.two_pow_pos _
    have hpre : mg R ≤ mg (R - 1) + 2 ^ e := by
      by_cases g : BB ≤ k - 1
      · have m2 := mg_at e (k - 1) (by omega) (Or.inr g)
        rw [show e * BB + (k - 1) = R - 1 by omega] at m2
        rw [m2, m0, Nat.sub_mul, Nat.one_mul]; omega
      · have ek : k = BB := by omega
        rcases Nat.eq_zero_or_pos e with g0 | g0
        · have m2 := mg_at 0 (k - 1) (by omega) (Or.inl rfl)
          rw [Nat.zero_mul, Nat.zero_add, show k - 1 = R - 1 by rw [eR, g0]; omega] at m2
          rw [m2, m0, g0, Nat.pow_zero]; omega
        · obtain ⟨e', rfl⟩ : ∃ e', e = e' + 1 := ⟨e - 1, by omega⟩
          have m2 := mg_at e' (2 * BB - 1) (by decide) (Or.inr (by decide))
          rw [show e' * BB + (2 * BB - 1) = R - 1 by rw [eR, ek, Nat.add_mul]; simp only [BB]; omega] at m2
          rw [m2, m0, ek, Nat.pow_succ, Nat.sub_mul, Nat.one_mul]
          have : 0 < 2 ^ e' := Nat.two_pow_pos _
          have h5 : BB * (2 ^ e' * 2) = 2 * BB * 2 ^ e' := by rw [Nat.mul_comm (2 ^ e') 2, ← Nat.mul_assoc, Nat.mul_comm BB 2]
          rw [h5]; simp only [BB]; omega
    have hnext : mg (R + 1) = mg R + 2 ^ e := by rw [m1, m0, Nat.add_mul, Nat.one_mul]
    have hR0 : 0 < R := by simp only [BB] at *; omega
    have hdn' := hdn hR0
    have hbig : BB * 2 ^ e ≤ mg R := by rw [m0]; exact Nat.mul_le_mul_right _ k1
    generalize 2 ^ e = G at *
    have ha : BB * G ≤ a + G := by omega
    have hgap : G ≤ a / 2 ^ 50 := by
      rw [Nat.le_div_iff_mul_le (by decide)]
      simp only [BB] at *; omega
    refine ⟨⟨by omega, by omega⟩, fun hsmall => ?_⟩
    exfalso
    simp only [BB] at *; omega
theorem pow_rung (j : Nat) (hj : j ≤ 2000) : ∃ s, s < II ∧ mg s = 2 ^ j := by
  by_cases h : j < 52
  · refine ⟨2 ^ j, ?_, ?_⟩
    · have : 2 ^ j < 2 ^ 52 := Nat.pow_lt_pow_right (by decide) h
      simp only [II]; omega
    · unfold mg
      have : 2 ^ j < BB := by have : 2 ^ j < 2 ^ 52 := Nat.pow_lt_pow_right (by decide) h; simp only [BB]; omega
      rw [if_pos this]
  · refine ⟨(j - 52) * BB + BB, by simp only [BB, II]; omega, ?_⟩
    rw [mg_at (j - 52) BB (by decide) (Or.inr (Nat.le_refl _)), show BB = 2 ^ 52 by decide, ← Nat.pow_add, show 52 + (j - 52) = j by omega]
def c9 : Nat := 4472406533629990549
theorem mg_c9 : uu 1074 ≤ mg c9 * 2 ^ 30 := by decide +kernel
def e150 : Nat := 6850974717710472879
/-- the slack: of what is that great a part so little is no less -/
theorem slack_least {A t S J U M9 : Nat} (hU : 0 < U) (h9 : U ≤ M9 * 2 ^ 30) (hJ : J = 2000) (ht : Rnd A 1 t) (ht2 : t < II) (hS : Rnd (M9 * mg t) (U) S) (hA : 2 ^ 52 ≤ A) (hA2 : A < uu J) : A / 2 ^ 42 ≤ mg S := by
  have h2 : A ≤ 2 * mg t := by
    have := (rnd_err ht ht2).1.2
    have h3 : A / 2 ^ 50 ≤ A / 2 := Nat.div_le_div_left (by decide) (by decide)
    omega
  have hA0 : A ≠ 0 := by omega
  have l1 : 2 ^ A.log2 ≤ A := Nat.log2_self_le hA0
  have l2 : A < 2 ^ (A.log2 + 1) := Nat.lt_log2_self
  have l3 : 52 ≤ A.log2 := by
    rcases Nat.lt_or_ge A.log2 52 with g | g
    · exfalso
      have : 2 ^ (A.log2 + 1) ≤ 2 ^ 52 := Nat.pow_le_pow_right (by decide) g
      omega
    · exact g
  have l4 : A.log2 < J := by
    rcases Nat.lt_or_ge A.log2 J with g | g
    · exact g
    · exfalso
      have : uu J ≤ 2 ^ A.log2 := by unfold uu; exact Nat.pow_le_pow_right (by decide) g
      omega
  obtain ⟨s, hs, hms⟩ := pow_rung (A.log2 - 41) (by omega)
  have hle : s ≤ S := by
    refine (Rnd.exact (by omega)).mono hS (by decide) hU ?_
    rw [Nat.mul_one, hms]
    have q1 : 2 ^ (A.log2 - 41) * 2 ^ 41 = 2 ^ A.log2 := by rw [← Nat.pow_add, show A.log2 - 41 + 41 = A.log2 by omega]
    refine Nat.le_of_mul_le_mul_right (c := 2 ^ 41) ?_ (Nat.two_pow_pos _)
    calc 2 ^ (A.log2 - 41) * U * 2 ^ 41 = 2 ^ A.log2 * U := by rw [Nat.mul_right_comm, q1]
      _ ≤ (2 * mg t) * (M9 * 2 ^ 30) := Nat.mul_le_mul (by omega) h9
      _ = M9 * mg t * 2 ^ 31 := by rw [show (2 : Nat) ^ 31 = 2 * 2 ^ 30 by decide]; simp only [Nat.mul_assoc, Nat.mul_comm, Nat.mul_left_comm]
      _ ≤ M9 * mg t * 2 ^ 41 := Nat.mul_le_mul_left _ (by decide)
  have hm := mg_le hle
  rw [hms] at hm
  refine Nat.le_trans ?_ hm
  have q2 : 2 ^ (A.log2 + 1) = 2 ^ (A.log2 - 41) * 2 ^ 42 := by rw [← Nat.pow_add, show A.log2 - 41 + 42 = A.log2 + 1 by omega]
  rw [q2] at l2
  exact Nat.le_of_lt (Nat.div_lt_of_lt_mul (by rw [Nat.mul_comm]; exact l2))
/-! a mean lies between, but for rounding -/
def minV (x y : Nat) : Nat := if key x = 0 ∧ key y = 0 then (if sgn x then x else y) else if key x < key y then x else y
theorem mv_key_zero {x : Nat} (h : key x = 0) : mv x = 0 := by
  have := (mv_lt_iff x 0).2.2 (by rw [h, key_zero])
  rw [this]; decide +kernel
theorem mv_neg_iff {x : Nat} : (mv x < 0 ↔ key x < 0) := by
  have := (mv_lt_iff x 0).1
  rwa [key_zero, show mv 0 = 0 by decide +kernel] at this
theorem mv_natAbs (x : Nat) : (mv x).natAbs = mg (rung x) := by unfold mv; cases sgn x <;> simp
theorem mv_rung (x : Nat) : mv (rung x) = mg (rung x) := by unfold mv; rw [sgn_rung, rung_rung]; rfl
theorem mg_e150 : mg (e150 + BB) = 2 * mg e150 := by kernel_rfl
theorem e150_fin : rung e150 = e150 ∧ e150 + BB < II := by decide +kernel
theorem e150_uu {J : Nat} (h : J = 2000) : 2 * mg e150 < uu J := by subst h; decide +kernel
theorem mg_c9_le : mg c9 ≤ uu 1074 := by decide +kernel
theorem RndZ.fin_of {A : Int} {r : Nat} (h : RndZ A 1 (key r)) (hn : nanb r = false) {s : Nat} (hs : s < II) (hA : A.natAbs ≤ mg s) : fin r ∧ rung r ≤ s := by
  obtain ⟨R, hR, h1, h2⟩ := h
  have hle : R ≤ s := hR.mono (Rnd.exact (by omega)) (by decide) (by decide) (by omega)
  have hk : key r = R ∨ key r = -(R : Int) := by
    rcases Int.lt_or_le A 0 with g | g
    · exact .inr (h2 (by omega))
    · exact .inl (h1 g)
  have : rung r = R := by
    unfold key at hk
    cases hs : sgn r <;> rw [hs] at hk <;> simp at hk <;> omega
  unfold fin
  omega
theorem between_law (o n p : Nat) (ho : rung o ≤ e150) (hn : rung n ≤ e150) (hp0 : 0 ≤ key p) (hp1 : key p ≤ key 4607182418800017408) (hpn : nanb p = false) :
    ∃ m t S, meanX o n p = some m ∧ nanb m = false ∧ (key p = 0 → key m = key o) ∧ double.add (rung o) (rung n) = some t ∧ double.mul c9 t = some S ∧
      (∀ a, (a = o ∨ a = n) → key a = min (key o) (key n) → ∃ r, double.sub a S = some r ∧ nanb r = false ∧ key r ≤ key m) ∧
      (∀ a, (a = o ∨ a = n) → key a = max (key o) (key n) → ∃ r, double.add a S = some r ∧ nanb r = false ∧ key m ≤ key r) := by
  have hE := e150_fin.2
  have fo : fin o := by unfold fin; omega
  have fn : fin n := by unfold fin; omega
  have fp : fin p := by
    have h1 : key 4607182418800017408 = 4607182418800017408 := by decide +kernel
    rw [h1] at hp1
    unfold fin
    unfold key at hp0 hp1
    simp only [II]
    cases hs : sgn p <;> rw [hs] at hp0 hp1 <;> simp at hp0 hp1 <;> omega
  have mo : (mv o).natAbs ≤ mg e150 := by rw [mv_natAbs]; exact mg_le ho
  have mn : (mv n).natAbs ≤ mg e150 := by rw [mv_natAbs]; exact mg_le hn
  -- the gap
  obtain ⟨g, eg, ng, kg⟩ := sub_fin fn fo
  obtain ⟨fg, rg⟩ := kg.fin_of ng (s := e150 + BB) hE (by rw [mg_e150]; omega)
  have mp0 : 0 ≤ mv p := by have := @mv_neg_iff p; omega
  have mp1 : mv p ≤ uu 1074 := by have := mv_mono hp1; rwa [show mv 4607182418800017408 = (uu 1074 : Int) by kernel_rfl] at this
  have hU := uu_pos 1074
  have hc9 := mg_c9_le
  have h9 := mg_c9
  obtain ⟨U, hUd⟩ : ∃ U, U = uu 1074 := ⟨_, rfl⟩
  obtain ⟨M9, hM9⟩ : ∃ M, M = mg c9 := ⟨_, rfl⟩
  rw [← hUd] at hU hc9 h9 mp1
  rw [← hM9] at hc9 h9
  -- the part of it
  obtain ⟨q, eq, nq, kq⟩ := mul_fin fp fg
  rw [← hUd] at kq
  have kz : RndZ 0 1 0 := ⟨0, Rnd.zero (by decide), fun _ => rfl, fun _ => rfl⟩
  have hq : (0 ≤ mv g → 0 ≤ key q ∧ key q ≤ key g) ∧ (mv g ≤ 0 → key q ≤ 0 ∧ key g ≤ key q) := by
    constructor
    · intro h
      constructor
      · exact kz.mono kq (by decide) hU (by rw [Int.zero_mul, Int.natCast_one, Int.mul_one]; exact Int.mul_nonneg mp0 h)
      · refine kq.mono (RndZ.exact ng) hU (by decide) ?_
        rw [Int.natCast_one, Int.mul_one, Int.mul_comm]
        exact Int.mul_le_mul_of_nonneg_left mp1 h
    · intro h
      constructor
      · refine kq.mono kz hU (by decide) ?_
        rw [Int.natCast_one, Int.mul_one, Int.zero_mul]
        exact Int.mul_nonpos_of_nonneg_of_nonpos mp0 h
      · refine (RndZ.exact ng).mono kq (by decide) hU ?_
        rw [Int.natCast_one, Int.mul_one, Int.mul_comm (mv p)]
        exact Int.mul_le_mul_of_nonpos_left h mp1
  have fq : fin q := by
    have h1 := key_fin fg
    unfold fin
    have h2 := cases3 q
    rcases h2 with h2 | h2 | h2
    · rw [nq] at h2; cases h2
    · have h3 := key_inf h2
      rcases Int.lt_or_le (mv g) 0 with h | h
      · have := hq.2 (by omega); split at h3 <;> omega
      · have := hq.1 h; split at h3 <;> omega
    · exact h2
  obtain ⟨m, em, nm, km⟩ := add_fin fo fq
  -- the slack
  have f1 : fin (rung o) := by unfold fin; rw [rung_rung]; exact fo
  have f2 : fin (rung n) := by unfold fin; rw [rung_rung]; exact fn
  obtain ⟨t, et, nt, kt⟩ := add_fin f1 f2
  rw [mv_rung, mv_rung] at kt
  obtain ⟨ft, rt⟩ := kt.fin_of nt (s := e150 + BB) hE (by rw [mg_e150, ← mv_natAbs, ← mv_natAbs]; omega)
  have kt0 : 0 ≤ key t := kz.mono kt (by decide) (by decide) (by simp; omega)
  have mt : mv t = mg (rung t) := by
    unfold mv
    cases hs : sgn t
    · simp
    · have : rung t = 0 := by unfold key at kt0; rw [hs] at kt0; simp at kt0; omega
      rw [this, mg_zero]; rfl
  have f9 : fin c9 := by unfold fin; decide +kernel
  have m9 : mv c9 = M9 := by rw [hM9]; decide +kernel
  obtain ⟨S, eS, nS, kS⟩ := mul_fin f9 ft
  rw [m9, mt, ← hUd] at kS
  have kS0 : 0 ≤ key S := kz.mono kS (by decide) hU (by simp; exact Int.mul_nonneg (by omega) (by omega))
  have rS : Rnd (M9 * mg (rung t)) U (rung S) ∧ mv S = mg (rung S) := by
    have hs : key S = rung S ∧ mv S = mg (rung S) := by
      unfold key mv at *
      cases hs : sgn S
      · simp
      · have : rung S = 0 := by rw [hs] at kS0; simp at kS0; omega
        rw [this, mg_zero]; simp
    obtain ⟨R, hR, h1, _⟩ := kS
    have e1 : (((M9 : Int) * (mg (rung t) : Int))).natAbs = M9 * mg (rung t) := by rw [← Int.natCast_mul]; rfl
    rw [e1] at hR
    have := h1 (Int.mul_nonneg (by omega) (by omega))
    have e2 : R = rung S := by omega
    rw [← e2]; rw [e2] at hR ⊢; exact ⟨hR, hs.2⟩
  have rT : Rnd (mg (rung o) + mg (rung n)) 1 (rung t) := by
    obtain ⟨R, hR, h1, _⟩ := kt
    have e1 : ((mg (rung o) : Int) + (mg (rung n) : Int)).natAbs = mg (rung o) + mg (rung n) := by omega
    rw [e1] at hR
    have h2 := h1 (by omega)
    have : key t = rung t := by
      unfold key at *
      cases hs : sgn t
      · simp
      · have : rung t = 0 := by rw [hs] at kt0; simp at kt0; omega
        rw [this]; simp
    have e2 : R = rung t := by omega
    rwa [e2] at hR
  have fS : fin S := by
    unfold fin
    have : rung S ≤ rung t := rS.1.mono (Rnd.exact (Nat.le_of_lt ft)) hU (by decide) (by
      rw [Nat.mul_one, Nat.mul_comm]
      exact Nat.mul_le_mul_left _ hc9)
    have h3 : rung t < II := ft
    omega
  -- how far the gap is off
  have hoff : mv g ≤ (mv n - mv o) + mv S ∧ (mv n - mv o) - mv S ≤ mv g := by
    obtain ⟨R, hR, h1, h2⟩ := kg
    have hRg : R = rung g := by
      have hk : key g = R ∨ key g = -(R : Int) := by
        rcases Int.lt_or_le (mv n - mv o) 0 with q | q
        · exact .inr (h2 (by omega))
        · exact .inl (h1 q)
      unfold key at hk
      cases hs : sgn g <;> rw [hs] at hk <;> simp at hk <;> omega
    obtain ⟨⟨d1, d2⟩, d3⟩ := rnd_err hR (by rw [hRg]; exact fg)
    have hmg : mv g = if 0 ≤ mv n - mv o then (mg R : Int) else -(mg R : Int) := by
      by_cases h : 0 ≤ mv n - mv o
      · rw [if_pos h]
        have := h1 h
        unfold mv key at *
        rw [hRg] at this ⊢
        cases hs : sgn g
        · simp
        · have : rung g = 0 := by rw [hs] at this; simp at this; omega
          rw [this, mg_zero]; simp
      · rw [if_neg h]
        have := h2 (by omega)
        unfold mv key at *
        rw [hRg] at this ⊢
        cases hs : sgn g
        · have : rung g = 0 := by rw [hs] at this; simp at this; omega
          rw [this, mg_zero]; simp
        · simp
    have hA : (mv n - mv o).natAbs ≤ mg (rung o) + mg (rung n) := by rw [← mv_natAbs o, ← mv_natAbs n]; omega
    have hslack : mg R = (mv n - mv o).natAbs ∨ (mv n - mv o).natAbs / 2 ^ 42 ≤ mg (rung S) := by
      by_cases hsm : (mv n - mv o).natAbs < 2 ^ 52
      · exact .inl (d3 hsm)
      · right
        have := slack_least hU h9 rfl rT ft rS.1 (by omega) (by
          refine Nat.lt_of_le_of_lt ?_ (e150_uu rfl)
          rw [← mv_natAbs o, ← mv_natAbs n]; omega)
        exact Nat.le_trans (Nat.div_le_div_right hA) this
    have h5 : (mv n - mv o).natAbs / 2 ^ 50 ≤ (mv n - mv o).natAbs / 2 ^ 42 := Nat.div_le_div_left (by decide) (by decide)
    have h6 := rS.2
    generalize (mv n - mv o).natAbs / 2 ^ 50 = E1 at *
    generalize (mv n - mv o).natAbs / 2 ^ 42 = E2 at *
    by_cases h : 0 ≤ mv n - mv o
    · rw [if_pos h] at hmg; omega
    · rw [if_neg h] at hmg; omega
  have mS0 : 0 ≤ mv S := by rw [rS.2]; omega
  have hmv : ∀ {u v : Nat}, key u = key v → mv u = mv v := fun h => (mv_lt_iff _ _).2.2 h
  have hq' : (0 ≤ mv g → 0 ≤ mv q) ∧ (mv g ≤ 0 → mv q ≤ 0 ∧ mv g ≤ mv q) ∧ (0 ≤ mv g → mv q ≤ mv g) := by
    refine ⟨fun h => ?_, fun h => ⟨?_, mv_mono (hq.2 h).2⟩, fun h => mv_mono (hq.1 h).2⟩
    · have := @mv_neg_iff q; have := (hq.1 h).1; omega
    · have h1 := mv_mono (x := q) (y := 0) (by rw [key_zero]; exact (hq.2 h).1)
      rwa [show mv 0 = 0 by decide +kernel] at h1
  have hfin : ∀ {a : Nat}, (a = o ∨ a = n) → fin a := fun h => by rcases h with rfl | rfl; exact fo; exact fn
  refine ⟨m, t, S, ?_, nm, ?_, et, eS, ?_, ?_⟩
  · unfold meanX
    rw [eg]
    show (double.mul p g).bind _ = _
    rw [eq]
    exact em
  · intro h0
    have p0 := mv_key_zero h0
    rw [p0, Int.zero_mul] at kq
    have k0 : key q = 0 := kq.uniq (⟨0, Rnd.zero hU, fun _ => rfl, fun _ => rfl⟩) hU
    rw [mv_key_zero k0, Int.add_zero] at km
    exact km.uniq (RndZ.exact fo.not_nan) (by decide)
  · intro a ha hk
    obtain ⟨r, er, nr, kr⟩ := sub_fin (hfin ha) fS
    refine ⟨r, er, nr, kr.mono km (by decide) (by decide) ?_⟩
    have a1 : mv a ≤ mv o := mv_mono (by omega)
    have a2 : mv a ≤ mv n := mv_mono (by omega)
    rcases Int.lt_or_le (mv g) 0 with h | h
    · have := (hq'.2.1 (by omega)).2
      have := hoff.2
      omega
    · have := hq'.1 h
      omega
  · intro a ha hk
    obtain ⟨r, er, nr, kr⟩ := add_fin (hfin ha) fS
    refine ⟨r, er, nr, km.mono kr (by decide) (by decide) ?_⟩
    have a1 : mv o ≤ mv a := mv_mono (by omega)
    have a2 : mv n ≤ mv a := mv_mono (by omega)
    rcases Int.lt_or_le (mv g) 0 with h | h
    · have := (hq'.2.1 (by omega)).1
      omega
    · have := hq'.2.2 h
      have := hoff.1
      omega
end Go.Proofs.Ytdeallaohfbceaa.Flt
