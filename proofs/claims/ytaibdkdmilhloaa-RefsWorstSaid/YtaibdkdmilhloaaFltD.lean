/- Floats: quotients. No program in sight. -/
import Derived.Test.YtaibdkdmilhloaaFltC
namespace Go.Proofs.Ytaibdkdmilhloaa.Flt
open Ieee
set_option linter.unusedVariables false
set_option linter.unusedSimpArgs false
theorem mid_form (r : Nat) : ∃ e k, mg r + mg (r + 1) = (2 * k + 1) * 2 ^ e ∧ 2 * k + 1 < 4 * BB := by
  by_cases h : r < BB
  · refine ⟨0, r, ?_, by omega⟩
    have h0 := mg_at 0 r (by omega) (Or.inl rfl)
    have h1 := mg_at 0 (r + 1) (by omega) (Or.inl rfl)
    rw [Nat.zero_mul, Nat.zero_add] at h0 h1
    rw [h0, h1, ← Nat.add_mul]; congr 1; omega
  · refine ⟨r / BB - 1, BB + r % BB, ?_, by have := Nat.mod_lt r (show 0 < BB by decide); omega⟩
    have hlt := Nat.mod_lt r (show 0 < BB by decide)
    have er : r = (r / BB - 1) * BB + (BB + r % BB) := by simp only [BB] at *; omega
    have h0 := mg_at (r / BB - 1) (BB + r % BB) (by omega) (by omega)
    have h1 := mg_at (r / BB - 1) (BB + r % BB + 1) (by omega) (by omega)
    rw [show (r / BB - 1) * BB + (BB + r % BB + 1) = r + 1 by omega] at h1
    rw [← er] at h0
    rw [h0, h1, ← Nat.add_mul]; congr 1; omega
theorem Above.same {a b a' b' r : Nat} (hb : 0 < b) (hb' : 0 < b') (h : a * b' = a' * b) : Above a b r ↔ Above a' b' r :=
  ⟨fun g => g.mono hb hb' (by omega), fun g => g.mono hb' hb (by omega)⟩
theorem Rnd.same {a b a' b' R : Nat} (hb : 0 < b) (hb' : 0 < b') (h : a * b' = a' * b) (hR : Rnd a b R) : Rnd a' b' R :=
  ⟨hR.1, fun r hr => (hR.2 r hr).trans (Above.same hb hb' h)⟩
/-- a quotient that is told down to a digit that says whether anything is left over -/
theorem sticky (a b n D Q r : Nat) (ha : 0 < a) (hb : 0 < b) (h1 : Q * n < D) (h2 : D < (Q + 1) * n)
    (hT : (∃ k, b * (mg r + mg (r + 1)) = 4 * a * k) ∨ b * (mg r + mg (r + 1)) < 4 * a * Q) : Above ((2 * Q + 1) * a) b r ↔ Above (2 * D * a) (n * b) r := by
  have hn : 0 < n := by
    rcases Nat.eq_zero_or_pos n with h | h
    · rw [h] at h2; omega
    · exact h
  unfold Above
  generalize mg r + mg (r + 1) = T at *
  have e1 : 2 * ((2 * Q + 1) * a) = 4 * a * Q + 2 * a := by
    rw [Nat.add_mul, Nat.one_mul, Nat.mul_add, show 2 * (2 * Q * a) = 4 * a * Q by rw [Nat.mul_assoc 2 Q, ← Nat.mul_assoc 2 2, Nat.mul_comm Q a, ← Nat.mul_assoc]]
  have e2 : 2 * (2 * D * a) = 4 * a * D := by
    rw [Nat.mul_assoc 2 D, ← Nat.mul_assoc 2 2, Nat.mul_comm D a, ← Nat.mul_assoc]
  rw [e1, e2, Nat.mul_assoc n b T]
  rcases hT with ⟨k, hk⟩ | hk
  · rw [hk]
    have e3 : n * (4 * a * k) = 4 * a * (k * n) := by rw [Nat.mul_comm n, Nat.mul_assoc]
    rw [e3]
    have h4 : 0 < 4 * a := by omega
    have c1 : 4 * a * k < 4 * a * Q + 2 * a ↔ k ≤ Q := by
      constructor
      · intro h
        rcases Nat.lt_or_ge Q k with g | g
        · exfalso
          have : 4 * a * (Q + 1) ≤ 4 * a * k := Nat.mul_le_mul_left _ g
          rw [Nat.mul_add, Nat.mul_one] at this; omega
        · exact g
      · intro h
        have : 4 * a * k ≤ 4 * a * Q := Nat.mul_le_mul_left _ h
        omega
    have c2 : 4 * a * k ≠ 4 * a * Q + 2 * a := by
      intro h
      rcases Nat.lt_or_ge Q k with g | g
      · have : 4 * a * (Q + 1) ≤ 4 * a * k := Nat.mul_le_mul_left _ g
        rw [Nat.mul_add, Nat.mul_one] at this; omega
      · have : 4 * a * k ≤ 4 * a * Q := Nat.mul_le_mul_left _ g
        omega
    have c3 : 4 * a * (k * n) < 4 * a * D ↔ k ≤ Q := by
      constructor
      · intro h
        have h' := Nat.lt_of_mul_lt_mul_left h
        rcases Nat.lt_or_ge Q k with g | g
        · exfalso
          have : (Q + 1) * n ≤ k * n := Nat.mul_le_mul_right _ g
          omega
        · exact g
      · intro h
        have : k * n ≤ Q * n := Nat.mul_le_mul_right _ h
        exact Nat.mul_lt_mul_of_pos_left (by omega) h4
    have c4 : 4 * a * (k * n) ≠ 4 * a * D := by
      intro h
      have h' := Nat.eq_of_mul_eq_mul_left h4 h
      rcases Nat.lt_or_ge Q k with g | g
      · have : (Q + 1) * n ≤ k * n := Nat.mul_le_mul_right _ g
        omega
      · have : k * n ≤ Q * n := Nat.mul_le_mul_right _ g
        omega
    constructor
    · rintro (h | ⟨h, _⟩)
      · exact .inl (c3.2 (c1.1 h))
      · exact absurd h c2
    · rintro (h | ⟨h, _⟩)
      · exact .inl (c1.2 (c3.1 h))
      · exact absurd h c4
  · have g1 : b * T < 4 * a * Q + 2 * a := by omega
    have g2 : n * (b * T) < 4 * a * D := by
      calc n * (b * T) < n * (4 * a * Q) := Nat.mul_lt_mul_of_pos_left hk hn
        _ = 4 * a * (Q * n) := by rw [Nat.mul_comm n, Nat.mul_assoc]
        _ ≤ 4 * a * D := Nat.mul_le_mul_left _ (by omega)
    exact ⟨fun _ => .inl g2, fun _ => .inl g1⟩
theorem read_fin2 {x : Nat} (h : fin x) : ∃ m p, double.read x = .number (sgn x) m p ∧ -1074 ≤ p ∧ m * 2 ^ (p + 1074).toNat = mg (rung x) ∧ m < 2 * BB := by
  rw [read_eq]
  unfold mg
  by_cases h1 : rung x < BB
  · refine ⟨rung x, -1074, by rw [if_pos h1], Int.le_refl _, ?_, by omega⟩
    rw [if_pos h1]; simp
  · refine ⟨_, _, by rw [if_neg h1, if_pos (show rung x < II from h)], by omega, ?_, by have := Nat.mod_lt (rung x) (show 0 < BB by decide); omega⟩
    rw [if_neg h1, show (-1074 + ((rung x / BB - 1 : Nat) : Int) + 1074).toNat = rung x / BB - 1 by omega]
theorem quot_core (m n : Nat) (hm : m ≠ 0) (hn : n ≠ 0) (hm2 : m < 2 * BB) (h : Int) (R : Nat)
    (hR : Rnd (fa (2 * (m <<< (54 + n.log2 - m.log2) / n) + (m <<< (54 + n.log2 - m.log2) % n != 0).toNat) (h - 1)) (fb (h - 1)) R) :
    Rnd (2 * (m <<< (54 + n.log2 - m.log2)) * 2 ^ (h - 1 + 1074).toNat) (n * 2 ^ (-1074 - (h - 1)).toNat) R := by
  have hm53 : m.log2 ≤ 52 := by
    have h1 : 2 ^ m.log2 ≤ m := Nat.log2_self_le hm
    rcases Nat.lt_or_ge 52 m.log2 with g | g
    · exfalso
      have : 2 ^ 53 ≤ 2 ^ m.log2 := Nat.pow_le_pow_right (by omega) g
      simp only [BB] at hm2
      omega
    · exact g
  have hQ : 2 ^ 53 ≤ m <<< (54 + n.log2 - m.log2) / n := by
    rw [Nat.le_div_iff_mul_le (by omega), Nat.shiftLeft_eq]
    have h1 : 2 ^ m.log2 ≤ m := Nat.log2_self_le hm
    have h2 : n < 2 ^ (n.log2 + 1) := Nat.lt_log2_self
    calc 2 ^ 53 * n ≤ 2 ^ 53 * 2 ^ (n.log2 + 1) := Nat.mul_le_mul_left _ (by omega)
      _ = 2 ^ m.log2 * 2 ^ (54 + n.log2 - m.log2) := by rw [← Nat.pow_add, ← Nat.pow_add, show 53 + (n.log2 + 1) = m.log2 + (54 + n.log2 - m.log2) by omega]
      _ ≤ _ := Nat.mul_le_mul_right _ h1
  generalize m <<< (54 + n.log2 - m.log2) = D at *
  have hdm := Nat.div_add_mod D n
  have hml := Nat.mod_lt D (Nat.pos_of_ne_zero hn)
  generalize D / n = Q at *
  generalize D % n = ρ at *
  unfold fa fb at hR
  have ha : 0 < 2 ^ (h - 1 + 1074).toNat := Nat.two_pow_pos _
  have hb : 0 < 2 ^ (-1074 - (h - 1)).toNat := Nat.two_pow_pos _
  by_cases h0 : ρ = 0
  · have hz : (ρ != 0).toNat = 0 := by simp [h0]
    rw [hz, Nat.add_zero] at hR
    generalize 2 ^ (h - 1 + 1074).toNat = a at *
    generalize 2 ^ (-1074 - (h - 1)).toNat = b at *
    refine Rnd.same hb (Nat.mul_pos (Nat.pos_of_ne_zero hn) hb) ?_ hR
    rw [← hdm, h0, Nat.add_zero]
    simp only [Nat.mul_assoc, Nat.mul_comm, Nat.mul_left_comm]
  · have hz : (ρ != 0).toNat = 1 := by simp [h0]
    rw [hz] at hR
    refine ⟨hR.1, fun r hr => (hR.2 r hr).trans ?_⟩
    have d1 : Q * n < D := by rw [Nat.mul_comm]; omega
    have d2 : D < (Q + 1) * n := by rw [Nat.add_mul, Nat.one_mul, Nat.mul_comm]; omega
    refine sticky _ _ n D Q r ha hb d1 d2 ?_
    obtain ⟨e, k, hT, hk⟩ := mid_form r
    rw [hT]
    by_cases g0 : h + 1075 ≤ 0
    · left
      refine ⟨(2 * k + 1) * 2 ^ e * 2 ^ (-(h + 1075)).toNat, ?_⟩
      rw [show (h - 1 + 1074).toNat = 0 by omega, show (-1074 - (h - 1)).toNat = 2 + (-(h + 1075)).toNat by omega, Nat.pow_add]
      generalize (2 * k + 1) * 2 ^ e = T
      rw [Nat.pow_zero, Nat.mul_one, Nat.mul_assoc, Nat.mul_comm T]
    · have hab : 4 * 2 ^ (h - 1 + 1074).toNat = 2 ^ (h + 1075).toNat * 2 ^ (-1074 - (h - 1)).toNat := by
        rw [show (4 : Nat) = 2 ^ 2 by decide, ← Nat.pow_add, ← Nat.pow_add, show 2 + (h - 1 + 1074).toNat = (h + 1075).toNat + (-1074 - (h - 1)).toNat by omega]
      rw [hab]
      generalize 2 ^ (-1074 - (h - 1)).toNat = b at *
      generalize (h + 1075).toNat = G at *
      by_cases g1 : G ≤ e
      · left
        refine ⟨(2 * k + 1) * 2 ^ (e - G), ?_⟩
        rw [show 2 ^ e = 2 ^ G * 2 ^ (e - G) by rw [← Nat.pow_add, show G + (e - G) = e by omega]]
        generalize 2 ^ G = A
        generalize 2 ^ (e - G) = C
        simp only [Nat.mul_assoc, Nat.mul_comm, Nat.mul_left_comm]
      · right
        calc b * ((2 * k + 1) * 2 ^ e) < b * (4 * BB * 2 ^ e) := Nat.mul_lt_mul_of_pos_left (Nat.mul_lt_mul_of_pos_right hk (Nat.two_pow_pos _)) hb
          _ = b * (2 ^ (54 + e)) := by rw [show 4 * BB = 2 ^ 54 by decide, ← Nat.pow_add]
          _ ≤ b * 2 ^ (G + 53) := Nat.mul_le_mul_left _ (Nat.pow_le_pow_right (by omega) (by omega))
          _ = 2 ^ G * b * 2 ^ 53 := by rw [Nat.pow_add]; simp only [Nat.mul_assoc, Nat.mul_left_comm]
          _ ≤ 2 ^ G * b * Q := Nat.mul_le_mul_left _ hQ
theorem div_fin {x y : Nat} (hx : fin x) (hy : fin y) (h0 : 0 < rung y) : ∃ r, double.div x y = some r ∧ nanb r = false ∧ ∃ R, Rnd (mg (rung x) * uu 1074) (mg (rung y)) R ∧ key r = if (sgn x ^^ sgn y) then -(R : Int) else R := by
  obtain ⟨m, p, e, hp, hm, hm2⟩ := read_fin2 hx
  obtain ⟨n, q, e', hq, hn, _⟩ := read_fin2 hy
  have hn0 : n ≠ 0 := by
    intro h
    rw [h, Nat.zero_mul] at hn
    have := mg_lt h0
    rw [mg_zero] at this; omega
  unfold Format.div
  rw [e, e']
  unfold Datum.quotient
  dsimp only
  rw [if_neg hn0]
  refine ⟨_, rfl, ?_⟩
  rw [show double.fractionBits + 2 = 54 from rfl]
  show nanb (double.nearest _ _ _) = false ∧ ∃ R, _ ∧ key (double.nearest _ _ _) = _
  obtain ⟨R, h1, h2, h3⟩ := nearest_s (sgn x ^^ sgn y) (2 * (m <<< (54 + n.log2 - m.log2) / n) + (m <<< (54 + n.log2 - m.log2) % n != 0).toNat) (p - q - ((54 + n.log2 - m.log2 : Nat) : Int) - 1)
  refine ⟨h1, R, ?_, h3⟩
  have hmy : 0 < mg (rung y) := by have := mg_lt h0; rw [mg_zero] at this; exact this
  by_cases hm0 : m = 0
  · subst hm0
    rw [Nat.zero_mul] at hm
    rw [← hm, Nat.zero_mul]
    have hz : 2 * (0 <<< (54 + n.log2 - Nat.log2 0) / n) + (0 <<< (54 + n.log2 - Nat.log2 0) % n != 0).toNat = 0 := by
      rw [Nat.shiftLeft_eq, Nat.zero_mul, Nat.zero_div, Nat.zero_mod]; rfl
    rw [hz] at h2
    unfold fa at h2
    rw [Nat.zero_mul] at h2
    have := h2.uniq (Rnd.zero (fb_pos _)) (fb_pos _)
    rw [this]
    exact Rnd.zero hmy
  · have h4 := quot_core m n hm0 hn0 hm2 _ R h2
    refine Rnd.same (Nat.mul_pos (Nat.pos_of_ne_zero hn0) (Nat.two_pow_pos _)) hmy ?_ h4
    rw [← hm, ← hn, Nat.shiftLeft_eq]
    obtain ⟨cc, hcc⟩ : ∃ cc : Nat, cc = 1074 := ⟨_, rfl⟩
    rw [show uu 1074 = 2 ^ cc by rw [hcc]; rfl]
    have hpw : ∀ a b c d f g : Nat, 1 + a + b + c = d + f + g → 2 * (m * 2 ^ a) * 2 ^ b * (n * 2 ^ c) = m * 2 ^ d * 2 ^ f * (n * 2 ^ g) := by
      intro a b c d f g hh
      have : 2 ^ (1 + a + b + c) = 2 ^ (d + f + g) := by rw [hh]
      rw [Nat.pow_add, Nat.pow_add, Nat.pow_add, Nat.pow_add, Nat.pow_add] at this
      calc 2 * (m * 2 ^ a) * 2 ^ b * (n * 2 ^ c) = (m * n) * (2 ^ 1 * 2 ^ a * 2 ^ b * 2 ^ c) := by simp only [Nat.pow_one, Nat.mul_assoc, Nat.mul_comm, Nat.mul_left_comm]
        _ = (m * n) * (2 ^ d * 2 ^ f * 2 ^ g) := by rw [this]
        _ = _ := by simp only [Nat.mul_assoc, Nat.mul_comm, Nat.mul_left_comm]
    refine hpw _ _ _ _ _ _ ?_
    omega
end Go.Proofs.Ytaibdkdmilhloaa.Flt
