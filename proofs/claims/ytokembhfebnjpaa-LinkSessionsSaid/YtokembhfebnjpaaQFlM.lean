/- Floats: the words of a double by their rungs; comparing; the nearest word of a fraction; sums and products. No program in sight. -/
import Derived.Test.YtokembhfebnjpaaQBsM
import Derived.Laws.FloatArith
import Derived.KernelRfl
import Derived.Laws.Rows
import Derived.Outline
import Derived.Laws.Externs
import Derived.Laws.BitsAllLaws
import Derived.Lib.Hide
namespace Go.Proofs.Ytokembhfebnjpaa.Flt
open Ieee
set_option linter.unusedVariables false
/-! rungs of a double, as magnitudes in units of the least place -/
theorem pow52 : (2 : Nat) ^ 52 = 4503599627370496 := by decide
abbrev BB : Nat := 4503599627370496
abbrev II : Nat := 9218868437227405312
def mg (r : Nat) : Nat := if r < BB then r else (BB + r % BB) * 2 ^ (r / BB - 1)
theorem mg_lt_succ (r : Nat) : mg r < mg (r + 1) := by
  unfold mg
  by_cases h : r + 1 < BB
  · rw [if_pos (by omega), if_pos h]; omega
  · by_cases h2 : r < BB
    · have : r = 4503599627370495 := by simp only [BB] at *; omega
      subst this; decide
    · rw [if_neg h2, if_neg h]
      have hq : 1 ≤ r / BB := by simp only [BB] at *; omega
      have hp : 0 < 2 ^ (r / BB - 1) := Nat.two_pow_pos _
      by_cases h3 : r % BB + 1 < BB
      · have e1 : (r + 1) / BB = r / BB := by simp only [BB] at *; omega
        have e2 : (r + 1) % BB = r % BB + 1 := by simp only [BB] at *; omega
        rw [e1, e2]
        exact Nat.mul_lt_mul_of_pos_right (by omega) hp
      · have e1 : (r + 1) / BB = r / BB + 1 := by simp only [BB] at *; omega
        have e2 : (r + 1) % BB = 0 := by simp only [BB] at *; omega
        rw [e1, e2]
        have e3 : 2 ^ (r / BB + 1 - 1) = 2 * 2 ^ (r / BB - 1) := by
          rw [show r / BB + 1 - 1 = (r / BB - 1) + 1 by omega, Nat.pow_succ, Nat.mul_comm]
        rw [e3]
        have e4 : r % BB = BB - 1 := by simp only [BB] at *; omega
        rw [e4]
        calc (BB + (BB - 1)) * 2 ^ (r / BB - 1) < (BB * 2) * 2 ^ (r / BB - 1) := Nat.mul_lt_mul_of_pos_right (by decide) hp
          _ = _ := by rw [Nat.add_zero, Nat.mul_assoc]
theorem mg_lt {r s : Nat} (h : r < s) : mg r < mg s := by
  induction s with
  | zero => omega
  | succ s ih =>
    rcases Nat.lt_or_eq_of_le (Nat.lt_succ_iff.1 h) with h | h
    · exact Nat.lt_trans (ih h) (mg_lt_succ s)
    · rw [h]; exact mg_lt_succ s
theorem mg_le {r s : Nat} (h : r ≤ s) : mg r ≤ mg s := by
  rcases Nat.lt_or_eq_of_le h with h | h
  · exact Nat.le_of_lt (mg_lt h)
  · rw [h]; exact Nat.le_refl _
theorem mg_lt_iff {r s : Nat} : mg r < mg s ↔ r < s := ⟨fun h => by
  rcases Nat.lt_or_ge r s with g | g
  · exact g
  · have := mg_le g; omega, mg_lt⟩
theorem mg_zero : mg 0 = 0 := by decide
/-- the magnitude of a rung given by its place and its significand -/
theorem mg_at (e k : Nat) (h1 : k ≤ 2 * BB) (h2 : e = 0 ∨ BB ≤ k) : mg (e * BB + k) = k * 2 ^ e := by
  unfold mg
  by_cases hk : k < BB
  · have : e = 0 := by omega
    subst this
    rw [Nat.zero_mul, Nat.zero_add, if_pos hk, Nat.pow_zero, Nat.mul_one]
  · rw [if_neg (by simp only [BB] at *; omega)]
    by_cases h3 : k = 2 * BB
    · have e1 : (e * BB + k) / BB = e + 2 := by simp only [BB] at *; omega
      have e2 : (e * BB + k) % BB = 0 := by simp only [BB] at *; omega
      rw [e1, e2, h3, show e + 2 - 1 = e + 1 by omega, Nat.pow_succ, Nat.add_zero, Nat.mul_comm (2 ^ e) 2, ← Nat.mul_assoc, Nat.mul_comm BB 2]
    · have e1 : (e * BB + k) / BB = e + 1 := by simp only [BB] at *; omega
      have e2 : (e * BB + k) % BB = k - BB := by simp only [BB] at *; omega
      rw [e1, e2, show e + 1 - 1 = e by omega, show BB + (k - BB) = k by omega]
/-! the nearest rung -/
/-- the fraction a / b lies above the middle of the rungs r and r + 1 (or on it, and r is odd) -/
def Above (a b r : Nat) : Prop := b * (mg r + mg (r + 1)) < 2 * a ∨ (b * (mg r + mg (r + 1)) = 2 * a ∧ r % 2 = 1)
def Rnd (a b R : Nat) : Prop := R ≤ II ∧ ∀ r, r < II → (r < R ↔ Above a b r)
theorem Above.mono {a b a' b' r : Nat} (h : Above a b r) (hb : 0 < b) (hb' : 0 < b') (hab : a * b' ≤ a' * b) : Above a' b' r := by
  unfold Above at *
  generalize mg r + mg (r + 1) = S at *
  have key : b * (b' * S) ≤ b * (2 * a') := by
    have h1 : b * S ≤ 2 * a := by rcases h with h | h <;> omega
    calc b * (b' * S) = (b * S) * b' := by rw [Nat.mul_comm b' S, Nat.mul_assoc]
      _ ≤ (2 * a) * b' := Nat.mul_le_mul_right _ h1
      _ = 2 * (a * b') := Nat.mul_assoc ..
      _ ≤ 2 * (a' * b) := Nat.mul_le_mul_left _ hab
      _ = b * (2 * a') := by rw [← Nat.mul_assoc, Nat.mul_comm]
  have key2 : b' * S ≤ 2 * a' := Nat.le_of_mul_le_mul_left key hb
  rcases h with h | ⟨h, hr⟩
  · left
    have k2 : b * (b' * S) < b * (2 * a') := by
      calc b * (b' * S) = (b * S) * b' := by rw [Nat.mul_comm b' S, Nat.mul_assoc]
        _ < (2 * a) * b' := Nat.mul_lt_mul_of_pos_right h hb'
        _ = 2 * (a * b') := Nat.mul_assoc ..
        _ ≤ 2 * (a' * b) := Nat.mul_le_mul_left _ hab
        _ = b * (2 * a') := by rw [← Nat.mul_assoc, Nat.mul_comm]
    exact Nat.lt_of_mul_lt_mul_left k2
  · rcases Nat.lt_or_eq_of_le key2 with g | g
    · exact .inl g
    · exact .inr ⟨g, hr⟩
theorem Rnd.mono {a b a' b' R R' : Nat} (h : Rnd a b R) (h' : Rnd a' b' R') (hb : 0 < b) (hb' : 0 < b') (hab : a * b' ≤ a' * b) : R ≤ R' := by
  rcases Nat.lt_or_ge R' R with g | g
  · exfalso
    have hI : R' < II := Nat.lt_of_lt_of_le g h.1
    have := (h'.2 R' hI).2 (((h.2 R' hI).1 g).mono hb hb' hab)
    omega
  · exact g
theorem Rnd.exact {s : Nat} (hs : s ≤ II) : Rnd (mg s) 1 s := by
  refine ⟨hs, fun r hr => ?_⟩
  unfold Above
  constructor
  · intro h
    have h1 := mg_lt h
    have h2 := mg_le (show r + 1 ≤ s from h)
    left; omega
  · intro h
    rcases Nat.lt_or_ge r s with g | g
    · exact g
    · exfalso
      have h1 := mg_le g
      have h2 := mg_lt (show s < r + 1 by omega)
      omega
theorem Rnd.scale {a b R : Nat} (h : Rnd a b R) (c : Nat) (hc : 0 < c) : Rnd (a * c) (b * c) R := by
  refine ⟨h.1, fun r hr => (h.2 r hr).trans ?_⟩
  unfold Above
  generalize mg r + mg (r + 1) = S
  have e1 : b * c * S = (b * S) * c := by rw [Nat.mul_assoc, Nat.mul_comm c S, ← Nat.mul_assoc]
  have e2 : 2 * (a * c) = (2 * a) * c := (Nat.mul_assoc ..).symm
  rw [e1, e2]
  constructor
  · rintro (h | ⟨h, g⟩)
    · exact .inl (Nat.mul_lt_mul_of_pos_right h hc)
    · exact .inr ⟨by rw [h], g⟩
  · rintro (h | ⟨h, g⟩)
    · exact .inl (Nat.lt_of_mul_lt_mul_right h)
    · exact .inr ⟨Nat.eq_of_mul_eq_mul_right hc h, g⟩
/-- the cut to the nearest, between two the even one -/
theorem cut_even (neg : Bool) (n drop : Nat) :
    2 * (Toward.even.cut neg n drop) * 2 ^ drop ≤ 2 * n + 2 ^ drop ∧ 2 * n ≤ 2 * (Toward.even.cut neg n drop) * 2 ^ drop + 2 ^ drop ∧
    (2 * (Toward.even.cut neg n drop) * 2 ^ drop = 2 * n + 2 ^ drop → (Toward.even.cut neg n drop) % 2 = 0) ∧ (2 * n = 2 * (Toward.even.cut neg n drop) * 2 ^ drop + 2 ^ drop → (Toward.even.cut neg n drop) % 2 = 0) := by
  obtain ⟨g, hg⟩ : ∃ g, g = min drop (n.log2 + 2) := ⟨_, rfl⟩
  have hcut : Toward.even.cut neg n drop = n / 2 ^ g + (decide (2 ^ g < 2 * (n % 2 ^ g)) || (2 ^ g == 2 * (n % 2 ^ g) && n / 2 ^ g % 2 == 1)).toNat := by
    unfold Toward.cut
    simp only [Nat.one_shiftLeft, hg]
  rw [hcut]
  have hp : 0 < 2 ^ g := Nat.two_pow_pos _
  by_cases hd : drop ≤ n.log2 + 2
  · have e : g = drop := by omega
    subst e
    have hdiv := Nat.div_add_mod n (2 ^ g)
    have hmod := Nat.mod_lt n hp
    generalize hG : 2 ^ g = G at *
    generalize n / G = q at *
    generalize n % G = r at *
    have hm : 2 * q * G = 2 * (G * q) := by rw [Nat.mul_assoc, Nat.mul_comm q G]
    have hm2 : 2 * (q + 1) * G = 2 * (G * q) + 2 * G := by rw [Nat.mul_assoc, Nat.mul_comm (q + 1) G, Nat.mul_add, Nat.mul_one, Nat.mul_add]
    generalize G * q = Y at *
    by_cases h1 : G < 2 * r
    · simp only [h1, decide_true, Bool.true_or, Bool.toNat_true, hm2]
      refine ⟨by omega, by omega, fun _ => by omega, fun _ => by omega⟩
    · by_cases h2 : G = 2 * r
      · by_cases h3 : q % 2 = 1
        · have : (decide (G < 2 * r) || (G == 2 * r && q % 2 == 1)).toNat = 1 := by simp [← h2, h3]
          rw [this, hm2]
          refine ⟨by omega, by omega, fun _ => by omega, fun _ => by omega⟩
        · have : (decide (G < 2 * r) || (G == 2 * r && q % 2 == 1)).toNat = 0 := by simp [← h2, h3]
          rw [this, Nat.add_zero, hm]
          refine ⟨by omega, by omega, fun _ => by omega, fun _ => by omega⟩
      · have : (decide (G < 2 * r) || (G == 2 * r && q % 2 == 1)).toNat = 0 := by simp [h1, h2]
        rw [this, Nat.add_zero, hm]
        refine ⟨by omega, by omega, fun _ => by omega, fun _ => by omega⟩
  · have e : g = n.log2 + 2 := by omega
    have hn : n < 2 ^ (n.log2 + 1) := Nat.lt_log2_self
    have h2 : 2 ^ g = 2 * 2 ^ (n.log2 + 1) := by rw [e, show n.log2 + 2 = (n.log2 + 1) + 1 by omega, Nat.pow_succ, Nat.mul_comm]
    have h3 : 2 ^ g ≤ 2 ^ drop := Nat.pow_le_pow_right (by omega) (by omega)
    have q0 : n / 2 ^ g = 0 := Nat.div_eq_of_lt (by omega)
    have r0 : n % 2 ^ g = n := Nat.mod_eq_of_lt (by omega)
    have : (decide (2 ^ g < 2 * (n % 2 ^ g)) || (2 ^ g == 2 * (n % 2 ^ g) && n / 2 ^ g % 2 == 1)).toNat = 0 := by
      rw [r0]; simp; omega
    rw [this, q0]
    refine ⟨by omega, by omega, fun _ => by omega, fun _ => by omega⟩
theorem Above.down {a b r r' : Nat} (h : Above a b r) (hb : 0 < b) (hr : r' < r) : Above a b r' := by
  left
  have h1 := mg_lt hr
  have h2 := mg_lt (show r' + 1 < r + 1 by omega)
  have h3 : b * (mg r' + mg (r' + 1)) < b * (mg r + mg (r + 1)) := Nat.mul_lt_mul_of_pos_left (by omega) hb
  rcases h with h | ⟨h, _⟩ <;> omega
set_option maxHeartbeats 2000000 in
theorem rnd_core (a b n G e k : Nat) (hb : 0 < b) (hG : 0 < G) (hrel : n * 2 ^ e * b = a * G) (c1 : 2 * k * G ≤ 2 * n + G) (c2 : 2 * n ≤ 2 * k * G + G)
    (c3 : 2 * k * G = 2 * n + G → k % 2 = 0) (c4 : 2 * n = 2 * k * G + G → k % 2 = 0) (hn : n < 2 * BB * G) (he : e = 0 ∨ BB * G ≤ n) : Rnd a b (min (e * BB + k) II) := by
  have hE : 0 < 2 ^ e := Nat.two_pow_pos _
  have hEb : 0 < 2 ^ e * b := Nat.mul_pos hE hb
  have hk : k ≤ 2 * BB := by
    apply Nat.le_of_lt_succ
    apply Nat.lt_of_mul_lt_mul_right (a := 2 * G)
    have e1 : k * (2 * G) = 2 * k * G := by rw [← Nat.mul_assoc, Nat.mul_comm k 2]
    have e2 : (2 * BB + 1) * (2 * G) = 2 * (2 * BB * G) + 2 * G := by rw [Nat.add_mul, Nat.one_mul, Nat.mul_left_comm]
    rw [e1, Nat.succ_eq_add_one, e2]; omega
  have hk2 : e = 0 ∨ BB ≤ k := by
    rcases he with he | he
    · exact .inl he
    · right
      apply Nat.le_of_lt_succ
      apply Nat.lt_of_mul_lt_mul_right (a := 2 * G)
      have e1 : BB * (2 * G) = 2 * (BB * G) := by rw [Nat.mul_left_comm]
      have e2 : (k + 1) * (2 * G) = 2 * k * G + 2 * G := by rw [Nat.add_mul, Nat.one_mul, ← Nat.mul_assoc, Nat.mul_comm k 2]
      rw [e1, Nat.succ_eq_add_one, e2]; omega
  have hmid := mg_at e k hk hk2
  -- what lies above
  have hup : ¬ Above a b (e * BB + k) := by
    have hS : (2 * k + 1) * 2 ^ e ≤ mg (e * BB + k) + mg (e * BB + k + 1) := by
      have h1 : (k + 1) * 2 ^ e ≤ mg (e * BB + k + 1) := by
        by_cases h : k < 2 * BB
        · rw [show e * BB + k + 1 = e * BB + (k + 1) by omega, mg_at e (k + 1) (by omega) (by omega)]; exact Nat.le_refl _
        · have hk' : k = 2 * BB := by omega
          rw [show e * BB + k + 1 = (e + 1) * BB + (BB + 1) by rw [hk', Nat.add_mul]; omega, mg_at (e + 1) (BB + 1) (by decide) (by omega), hk', Nat.pow_succ, Nat.mul_comm (2 ^ e) 2, ← Nat.mul_assoc]
          exact Nat.mul_le_mul_right _ (by decide)
      rw [hmid]
      calc (2 * k + 1) * 2 ^ e = k * 2 ^ e + (k + 1) * 2 ^ e := by rw [← Nat.add_mul]; congr 1; omega
        _ ≤ _ := Nat.add_le_add_left h1 _
    unfold Above
    generalize mg (e * BB + k) + mg (e * BB + k + 1) = S at *
    have h2 : 2 * a * G ≤ (2 * k + 1) * 2 ^ e * b * G := by
      calc 2 * a * G = (2 * n) * (2 ^ e * b) := by rw [Nat.mul_assoc, ← hrel]; simp only [Nat.mul_assoc]
        _ ≤ (2 * k * G + G) * (2 ^ e * b) := Nat.mul_le_mul_right _ c2
        _ = _ := by rw [show 2 * k * G + G = (2 * k + 1) * G by rw [Nat.add_mul, Nat.one_mul], Nat.mul_assoc, Nat.mul_comm G, ← Nat.mul_assoc, ← Nat.mul_assoc]
    have h3 : 2 * a ≤ (2 * k + 1) * 2 ^ e * b := Nat.le_of_mul_le_mul_right h2 hG
    have h4 : (2 * k + 1) * 2 ^ e * b ≤ b * S := by rw [Nat.mul_comm]; exact Nat.mul_le_mul_left _ hS
    rintro (h | ⟨h, hodd⟩)
    · omega
    · have h5 : 2 * a = (2 * k + 1) * 2 ^ e * b := by omega
      have h6 : (2 * n) * (2 ^ e * b) = (2 * k * G + G) * (2 ^ e * b) := by
        calc (2 * n) * (2 ^ e * b) = 2 * a * G := by rw [Nat.mul_assoc 2 a, ← hrel]; simp only [Nat.mul_assoc]
          _ = (2 * k + 1) * 2 ^ e * b * G := by rw [h5]
          _ = _ := by rw [show 2 * k * G + G = (2 * k + 1) * G by rw [Nat.add_mul, Nat.one_mul], Nat.mul_assoc _ G, Nat.mul_comm G, ← Nat.mul_assoc, ← Nat.mul_assoc]
      have h7 := c4 (Nat.eq_of_mul_eq_mul_right hEb h6)
      simp only [BB] at hodd; omega
  have hdn : ∀ r0, r0 + 1 = e * BB + k → Above a b r0 := by
    intro r0 hr0
    by_cases hA : 1 ≤ k ∧ (e = 0 ∨ BB ≤ k - 1)
    · have e1 : r0 = e * BB + (k - 1) := by omega
      have m0 := mg_at e (k - 1) (by omega) hA.2
      have hS : mg r0 + mg (r0 + 1) = (2 * k - 1) * 2 ^ e := by
        rw [hr0, hmid, e1, m0, ← Nat.add_mul]; congr 1; omega
      unfold Above
      rw [hS]
      have h2 : b * ((2 * k - 1) * 2 ^ e) * G ≤ 2 * a * G := by
        calc b * ((2 * k - 1) * 2 ^ e) * G = ((2 * k - 1) * G) * (2 ^ e * b) := by rw [Nat.mul_comm b, Nat.mul_assoc, Nat.mul_assoc, Nat.mul_assoc, Nat.mul_left_comm G, Nat.mul_comm b G]
          _ ≤ (2 * n) * (2 ^ e * b) := Nat.mul_le_mul_right _ (by rw [Nat.sub_mul, Nat.one_mul]; omega)
          _ = 2 * a * G := by rw [Nat.mul_assoc 2 a, ← hrel]; simp only [Nat.mul_assoc]
      rcases Nat.lt_or_eq_of_le (Nat.le_of_mul_le_mul_right h2 hG) with h | h
      · exact .inl h
      · right
        refine ⟨h, ?_⟩
        have h6 : ((2 * k - 1) * G) * (2 ^ e * b) = (2 * n) * (2 ^ e * b) := by
          calc ((2 * k - 1) * G) * (2 ^ e * b) = b * ((2 * k - 1) * 2 ^ e) * G := by rw [Nat.mul_comm b, Nat.mul_assoc, Nat.mul_assoc, Nat.mul_assoc, Nat.mul_left_comm G, Nat.mul_comm b G]
            _ = 2 * a * G := by rw [h]
            _ = (2 * n) * (2 ^ e * b) := by rw [Nat.mul_assoc 2 a, ← hrel]; simp only [Nat.mul_assoc]
        have h7 := Nat.eq_of_mul_eq_mul_right hEb h6
        have h8 : 2 * k * G = 2 * n + G := by
          have hg : G ≤ 2 * k * G := Nat.le_mul_of_pos_left _ (by omega)
          rw [Nat.sub_mul, Nat.one_mul] at h7
          generalize 2 * k * G = T at *
          omega
        have h9 := c3 h8
        have h10 := hA.1
        simp only [BB] at e1; omega
    · by_cases hk0 : k = 0
      · rcases hk2 with h | h
        · subst h; omega
        · simp only [BB] at h; omega
      · obtain ⟨e', rfl⟩ : ∃ e', e = e' + 1 := ⟨e - 1, by omega⟩
        have hkB : k = BB := by omega
        have e1 : r0 = e' * BB + (2 * BB - 1) := by rw [Nat.add_mul] at hr0; simp only [BB] at *; omega
        have m0 := mg_at e' (2 * BB - 1) (by decide) (by right; decide)
        have hn2 : BB * G ≤ n := by rcases he with h | h; omega; exact h
        left
        rw [hr0, hmid, e1, m0, hkB]
        have h2 : (4 * BB * 2 ^ e' * b) * G ≤ (2 * a) * G := by
          calc (4 * BB * 2 ^ e' * b) * G = (2 * (BB * G)) * (2 ^ (e' + 1) * b) := by
                rw [Nat.pow_succ, show 4 * BB = 2 * BB * 2 by decide]
                simp only [Nat.mul_assoc, Nat.mul_comm, Nat.mul_left_comm]
            _ ≤ (2 * n) * (2 ^ (e' + 1) * b) := Nat.mul_le_mul_right _ (Nat.mul_le_mul_left _ hn2)
            _ = (2 * a) * G := by rw [Nat.mul_assoc 2 a, ← hrel]; simp only [Nat.mul_assoc]
        have h3 := Nat.le_of_mul_le_mul_right h2 hG
        refine Nat.lt_of_lt_of_le ?_ h3
        rw [Nat.pow_succ, Nat.mul_comm b, Nat.mul_comm (2 ^ e') 2, ← Nat.mul_assoc BB, ← Nat.add_mul]
        exact Nat.mul_lt_mul_of_pos_right (Nat.mul_lt_mul_of_pos_right (by decide) (Nat.two_pow_pos _)) hb
  refine ⟨Nat.min_le_right .., fun r hr => ?_⟩
  constructor
  · intro h
    have h' : r < e * BB + k := Nat.lt_of_lt_of_le h (Nat.min_le_left ..)
    obtain ⟨r0, hr0⟩ : ∃ r0, r0 + 1 = e * BB + k := ⟨e * BB + k - 1, Nat.succ_pred_eq_of_pos (Nat.lt_of_le_of_lt (Nat.zero_le _) h')⟩
    rcases Nat.lt_or_eq_of_le (show r ≤ r0 from Nat.le_of_lt_succ (by rw [Nat.succ_eq_add_one, hr0]; exact h')) with g | g
    · exact (hdn r0 hr0).down hb g
    · rw [g]; exact hdn r0 hr0
  · intro h
    rcases Nat.lt_or_ge r (e * BB + k) with g | g
    · exact Nat.lt_min.2 ⟨g, hr⟩
    · exfalso
      rcases Nat.lt_or_eq_of_le g with g | g
      · exact hup (h.down hb g)
      · exact hup (by rw [g]; exact h)
def fa (m : Nat) (p : Int) : Nat := m * 2 ^ (p + 1074).toNat
def fb (p : Int) : Nat := 2 ^ (-1074 - p).toNat
theorem fb_pos (p : Int) : 0 < fb p := Nat.two_pow_pos _
theorem nearest_rnd (neg : Bool) (m : Nat) (p : Int) : ∃ R, double.nearest neg m p = double.word neg R ∧ Rnd (fa m p) (fb p) R := by
  by_cases hm : m = 0
  · subst hm
    refine ⟨0, by unfold Format.nearest; rw [if_pos rfl], ?_⟩
    have := (Rnd.exact (s := 0) (by decide)).scale (fb p) (fb_pos p)
    rw [mg_zero, Nat.zero_mul, Nat.one_mul] at this
    unfold fa; rw [Nat.zero_mul]; exact this
  · have hL : double.leastPlace = -1074 := by decide
    have hB : double.binade = BB := by decide
    have hI : double.infRung = II := by decide
    have hF : double.fractionBits = 52 := rfl
    unfold Format.nearest
    rw [if_neg hm]
    dsimp only
    rw [hL, hB, hI, hF]
    obtain ⟨last, hlast⟩ : ∃ last, last = max (p + (m.log2 : Int) - (52 : Nat)) (-1074) := ⟨_, rfl⟩
    rw [← hlast]
    refine ⟨_, rfl, ?_⟩
    obtain ⟨c1, c2, c3, c4⟩ := cut_even neg (m <<< (p - last).toNat) (last - p).toNat
    have hpw : ∀ x y z u v : Nat, x + y + z = u + v → m * 2 ^ x * 2 ^ y * 2 ^ z = m * 2 ^ u * 2 ^ v := by
      intro x y z u v h
      rw [Nat.mul_assoc, Nat.mul_assoc, Nat.mul_assoc, ← Nat.pow_add, ← Nat.pow_add, ← Nat.pow_add, show x + (y + z) = u + v by omega]
    refine rnd_core _ _ _ (2 ^ (last - p).toNat) _ _ (fb_pos p) (Nat.two_pow_pos _) ?_ c1 c2 c3 c4 ?_ ?_
    · rw [Nat.shiftLeft_eq]; unfold fa fb
      refine hpw _ _ _ _ _ ?_
      omega
    · rw [Nat.shiftLeft_eq]
      have h1 : m < 2 ^ (m.log2 + 1) := Nat.lt_log2_self
      have h2 : m * 2 ^ (p - last).toNat < 2 ^ (m.log2 + 1) * 2 ^ (p - last).toNat := Nat.mul_lt_mul_of_pos_right h1 (Nat.two_pow_pos _)
      refine Nat.lt_of_lt_of_le h2 ?_
      rw [show 2 * BB = 2 ^ 53 by decide, ← Nat.pow_add, ← Nat.pow_add]
      exact Nat.pow_le_pow_right (by omega) (by omega)
    · by_cases he : (last - -1074).toNat = 0
      · exact .inl he
      · right
        rw [Nat.shiftLeft_eq]
        have h1 : 2 ^ m.log2 ≤ m := Nat.log2_self_le hm
        have h2 : 2 ^ m.log2 * 2 ^ (p - last).toNat ≤ m * 2 ^ (p - last).toNat := Nat.mul_le_mul_right _ h1
        refine Nat.le_trans ?_ h2
        rw [show BB = 2 ^ 52 by decide, ← Nat.pow_add, ← Nat.pow_add]
        exact Nat.pow_le_pow_right (by omega) (by omega)
/-! words -/
abbrev SW : Nat := 9223372036854775808
def rung (x : Nat) : Nat := x % SW
def sgn (x : Nat) : Bool := x / SW % 2 == 1
def nanb (x : Nat) : Bool := decide (II < rung x)
def inf (x : Nat) : Prop := rung x = II
def fin (x : Nat) : Prop := rung x < II
def key (x : Nat) : Int := if sgn x then -(rung x : Int) else (rung x : Int)
def mv (x : Nat) : Int := if sgn x then -(mg (rung x) : Int) else (mg (rung x) : Int)
theorem cases3 (x : Nat) : nanb x = true ∨ inf x ∨ fin x := by unfold nanb inf fin; simp only [decide_eq_true_eq]; omega
theorem fin.not_nan {x : Nat} (h : fin x) : nanb x = false := by unfold nanb fin at *; simp only [decide_eq_false_iff_not]; omega
theorem inf.not_nan {x : Nat} (h : inf x) : nanb x = false := by unfold nanb inf at *; simp only [decide_eq_false_iff_not]; omega
theorem read_eq (x : Nat) : double.read x = if rung x < BB then .number (sgn x) (rung x) (-1074) else if rung x < II then .number (sgn x) (BB + rung x % BB) (-1074 + ((rung x / BB - 1 : Nat) : Int)) else if rung x = II then .infinity (sgn x) else .nan (sgn x) (rung x - II) := by
  have hL : double.leastPlace = -1074 := by decide
  have hB : double.binade = BB := by decide
  have hI : double.infRung = II := by decide
  have hS : double.signWeight = SW := by decide
  unfold Format.read
  dsimp only
  rw [hL, hB, hI, hS]
  rfl
theorem read_fin {x : Nat} (h : fin x) : ∃ m p, double.read x = .number (sgn x) m p ∧ -1074 ≤ p ∧ m * 2 ^ (p + 1074).toNat = mg (rung x) := by
  rw [read_eq]
  unfold mg
  by_cases h1 : rung x < BB
  · refine ⟨rung x, -1074, by rw [if_pos h1], Int.le_refl _, ?_⟩
    rw [if_pos h1]; simp
  · refine ⟨_, _, by rw [if_neg h1, if_pos (show rung x < II from h)], by omega, ?_⟩
    rw [if_neg h1, show (-1074 + ((rung x / BB - 1 : Nat) : Int) + 1074).toNat = rung x / BB - 1 by omega]
theorem read_inf {x : Nat} (h : inf x) : double.read x = .infinity (sgn x) := by
  have h' : rung x = II := h
  rw [read_eq, if_neg (by rw [h']; decide), if_neg (by omega), if_pos h']
theorem read_nan {x : Nat} (h : nanb x = true) : double.read x = .nan (sgn x) (rung x - II) := by
  have h' : II < rung x := by simpa [nanb] using h
  rw [read_eq, if_neg (by simp only [BB, II] at *; omega), if_neg (by omega), if_neg (by omega)]
theorem word_eq (s : Bool) (R : Nat) : double.word s R = if s then SW + R else R := by
  have hS : double.signWeight = SW := by decide
  unfold Format.word; rw [hS]
theorem rung_word (s : Bool) {R : Nat} (h : R ≤ II) : rung (double.word s R) = R := by
  rw [word_eq]; unfold rung; simp only [SW, II] at *; cases s <;> simp <;> omega
theorem sgn_word (s : Bool) {R : Nat} (h : R ≤ II) : sgn (double.word s R) = s := by
  rw [word_eq]; unfold sgn; simp only [SW, II] at *; cases s <;> simp <;> omega
theorem key_word (s : Bool) {R : Nat} (h : R ≤ II) : key (double.word s R) = if s then -(R : Int) else R := by
  unfold key; rw [rung_word s h, sgn_word s h]
theorem nanb_word (s : Bool) {R : Nat} (h : R ≤ II) : nanb (double.word s R) = false := by
  unfold nanb; rw [rung_word s h]; simp; omega
/-! comparing -/
theorem cmp_of {a b a' b' : Int} (h1 : a < b ↔ a' < b') (h2 : a = b ↔ a' = b') : compare a b = compare a' b' := by
  show compareOfLessAndEq a b = compareOfLessAndEq a' b'
  unfold compareOfLessAndEq
  by_cases g1 : a < b
  · rw [if_pos g1, if_pos (h1.1 g1)]
  · rw [if_neg g1, if_neg (fun g => g1 (h1.2 g))]
    by_cases g2 : a = b
    · rw [if_pos g2, if_pos (h2.1 g2)]
    · rw [if_neg g2, if_neg (fun g => g2 (h2.2 g))]
theorem signed_val {s : Bool} {m : Nat} {i base : Int} (h1 : -1074 ≤ base) (h2 : base ≤ i) : signed s m (i - base).toNat * ((2 ^ (base + 1074).toNat : Nat) : Int) = if s then -((m * 2 ^ (i + 1074).toNat : Nat) : Int) else ((m * 2 ^ (i + 1074).toNat : Nat) : Int) := by
  have e : m * 2 ^ (i - base).toNat * 2 ^ (base + 1074).toNat = m * 2 ^ (i + 1074).toNat := by
    rw [Nat.mul_assoc, ← Nat.pow_add]; congr 2; omega
  unfold signed
  rw [Nat.shiftLeft_eq, ← e]
  cases s
  · simp
  · simp [Int.neg_mul]
theorem mg_key {r s : Nat} : ((mg r : Int) < mg s ↔ (r : Int) < s) ∧ ((mg r : Int) = mg s ↔ (r : Int) = s) := by
  constructor
  · rw [Int.ofNat_lt, Int.ofNat_lt]; exact mg_lt_iff
  · constructor
    · intro h
      have h' : mg r = mg s := by omega
      rcases Nat.lt_trichotomy r s with g | g | g
      · have := mg_lt g; omega
      · omega
      · have := mg_lt g; omega
    · intro h
      have : r = s := by omega
      rw [this]
theorem mv_lt_iff (x y : Nat) : (mv x < mv y ↔ key x < key y) ∧ (mv x = mv y ↔ key x = key y) := by
  have p1 : ∀ r, 0 < r → 0 < mg r := fun r h => by have := mg_lt h; rw [mg_zero] at this; exact this
  have h1 := @mg_key (rung x) (rung y)
  have h2 := @mg_key (rung y) (rung x)
  have a1 : rung x = 0 → mg (rung x) = 0 := fun h => by rw [h]; exact mg_zero
  have a2 : rung y = 0 → mg (rung y) = 0 := fun h => by rw [h]; exact mg_zero
  have b1 := p1 (rung x)
  have b2 := p1 (rung y)
  unfold mv key
  generalize rung x = r at *
  generalize rung y = s at *
  generalize mg r = u at *
  generalize mg s = v at *
  cases sgn x <;> cases sgn y <;> simp <;> omega
theorem order_key (x y : Nat) : double.order x y = if nanb x || nanb y then none else some (compare (key x) (key y)) := by
  unfold Format.order
  rcases cases3 x with hx | hx | hx
  · rw [read_nan hx, hx]; rfl
  · rw [hx.not_nan, read_inf hx]
    rcases cases3 y with hy | hy | hy
    · rw [read_nan hy, hy]; rfl
    · rw [hy.not_nan, read_inf hy]
      unfold key
      rw [show rung x = II from hx, show rung y = II from hy]
      cases sgn x <;> cases sgn y <;> rfl
    · obtain ⟨m, p, e, _⟩ := read_fin hy
      rw [hy.not_nan, e]
      have hx' : rung x = II := hx
      have hy' : rung y < II := hy
      show some (if sgn x then Ordering.lt else .gt) = some _
      congr 1
      show _ = compareOfLessAndEq _ _
      unfold compareOfLessAndEq key
      simp only [II] at *
      cases sgn x <;> cases sgn y <;> simp <;> (repeat rw [if_neg (by omega)]) <;> (try rw [if_pos (by omega)]) <;> (try simp) <;> (try omega)
  · obtain ⟨m, p, e, hp, hm⟩ := read_fin hx
    rw [hx.not_nan, e]
    rcases cases3 y with hy | hy | hy
    · rw [read_nan hy, hy]; rfl
    · rw [hy.not_nan, read_inf hy]
      have hx' : rung x < II := hx
      have hy' : rung y = II := hy
      show some (if sgn y then Ordering.gt else .lt) = some _
      congr 1
      show _ = compareOfLessAndEq _ _
      unfold compareOfLessAndEq key
      simp only [II] at *
      cases sgn x <;> cases sgn y <;> simp <;> (repeat rw [if_neg (by omega)]) <;> (try rw [if_pos (by omega)]) <;> (try simp) <;> (try omega)
    · obtain ⟨n, q, e', hq, hn⟩ := read_fin hy
      rw [hy.not_nan, e']
      show some (compare _ _) = some _
      congr 1
      have hb : -1074 ≤ min p q := by omega
      have v1 := signed_val (s := sgn x) (m := m) (i := p) hb (by omega)
      have v2 := signed_val (s := sgn y) (m := n) (i := q) hb (by omega)
      rw [hm] at v1
      rw [hn] at v2
      have hc : (0 : Int) < ((2 ^ (min p q + 1074).toNat : Nat) : Int) := by have := Nat.two_pow_pos (min p q + 1074).toNat; omega
      obtain ⟨k1, k2⟩ := mv_lt_iff x y
      refine cmp_of ((?_ : _ ↔ mv x < mv y).trans k1) ((?_ : _ ↔ mv x = mv y).trans k2)
      · unfold mv; rw [← v1, ← v2]; exact ⟨fun h => Int.mul_lt_mul_of_pos_right h hc, fun h => Int.lt_of_mul_lt_mul_right h (by omega)⟩
      · unfold mv; rw [← v1, ← v2]; exact ⟨fun h => by rw [h], fun h => Int.eq_of_mul_eq_mul_right (by omega) h⟩
/-! rounding with a sign -/
def RndZ (A : Int) (b : Nat) (k : Int) : Prop := ∃ R, Rnd A.natAbs b R ∧ (0 ≤ A → k = R) ∧ (A ≤ 0 → k = -(R : Int))
theorem Rnd.uniq {a b R R' : Nat} (h : Rnd a b R) (h' : Rnd a b R') (hb : 0 < b) : R = R' := Nat.le_antisymm (h.mono h' hb hb (Nat.le_refl _)) (h'.mono h hb hb (Nat.le_refl _))
theorem Rnd.zero {b : Nat} (hb : 0 < b) : Rnd 0 b 0 := by
  have := (Rnd.exact (s := 0) (by decide)).scale b hb
  rwa [mg_zero, Nat.zero_mul, Nat.one_mul] at this
theorem RndZ.mono {A A' : Int} {b b' : Nat} {k k' : Int} (h : RndZ A b k) (h' : RndZ A' b' k') (hb : 0 < b) (hb' : 0 < b') (hab : A * b' ≤ A' * b) : k ≤ k' := by
  obtain ⟨R, hR, h1, h2⟩ := h
  obtain ⟨R', hR', h1', h2'⟩ := h'
  have hbi : (0 : Int) < b := by omega
  have hbi' : (0 : Int) < b' := by omega
  rcases Int.lt_or_le A 0 with g | g
  · have e1 := h2 (by omega)
    rcases Int.lt_or_le 0 A' with g' | g'
    · have e2 := h1' (by omega); omega
    · have e2 := h2' g'
      have : R' ≤ R := by
        refine hR'.mono hR hb' hb ?_
        have e3 : (A.natAbs : Int) = -A := by omega
        have e4 : (A'.natAbs : Int) = -A' := by omega
        have : ((A'.natAbs * b : Nat) : Int) ≤ ((A.natAbs * b' : Nat) : Int) := by
          rw [Int.natCast_mul, Int.natCast_mul, e3, e4, Int.neg_mul, Int.neg_mul]; omega
        omega
      omega
  · have e1 := h1 g
    have g' : 0 ≤ A' := by
      rcases Int.lt_or_le A' 0 with q | q
      · exfalso
        have q1 : A' * b < 0 := Int.mul_neg_of_neg_of_pos q hbi
        have q2 : 0 ≤ A * b' := Int.mul_nonneg g (by omega)
        omega
      · exact q
    have e2 := h1' g'
    have : R ≤ R' := by
      refine hR.mono hR' hb hb' ?_
      have e3 : (A.natAbs : Int) = A := by omega
      have e4 : (A'.natAbs : Int) = A' := by omega
      have : ((A.natAbs * b' : Nat) : Int) ≤ ((A'.natAbs * b : Nat) : Int) := by
        rw [Int.natCast_mul, Int.natCast_mul, e3, e4]; omega
      omega
    omega
theorem RndZ.exact {x : Nat} (h : nanb x = false) : RndZ (mv x) 1 (key x) := by
  have h' : rung x ≤ II := by unfold nanb at h; simp at h; omega
  refine ⟨rung x, ?_, ?_, ?_⟩
  · have e : (mv x).natAbs = mg (rung x) := by unfold mv; cases sgn x <;> simp
    rw [e]; exact Rnd.exact h'
  · intro g
    unfold mv at g; unfold key
    cases hs : sgn x
    · simp
    · rw [hs] at g
      have : mg (rung x) = 0 := by simp at g; omega
      have h0 : rung x = 0 := by
        rcases Nat.eq_zero_or_pos (rung x) with q | q
        · exact q
        · have := mg_lt q; rw [mg_zero] at this; omega
      simp [h0]
  · intro g
    unfold mv at g; unfold key
    cases hs : sgn x
    · rw [hs] at g
      have : mg (rung x) = 0 := by simp at g; omega
      have h0 : rung x = 0 := by
        rcases Nat.eq_zero_or_pos (rung x) with q | q
        · exact q
        · have := mg_lt q; rw [mg_zero] at this; omega
      simp [h0]
    · simp
/-- a nearest word, by its value as a fraction in units of the least place -/
theorem nearest_z (neg : Bool) (m : Nat) (p : Int) : nanb (double.nearest neg m p) = false ∧ RndZ (if neg then -(fa m p : Int) else fa m p) (fb p) (key (double.nearest neg m p)) := by
  obtain ⟨R, e, hR⟩ := nearest_rnd neg m p
  rw [e]
  refine ⟨nanb_word _ hR.1, R, ?_, ?_, ?_⟩
  · have : (if neg then -(fa m p : Int) else fa m p).natAbs = fa m p := by cases neg <;> simp
    rw [this]; exact hR
  · intro g
    rw [key_word _ hR.1]
    cases neg
    · simp
    · have h0 : fa m p = 0 := by simp at g; omega
      rw [h0] at hR
      have := hR.uniq (Rnd.zero (fb_pos p)) (fb_pos p)
      simp [this]
  · intro g
    rw [key_word _ hR.1]
    cases neg
    · have h0 : fa m p = 0 := by simp at g; omega
      rw [h0] at hR
      have := hR.uniq (Rnd.zero (fb_pos p)) (fb_pos p)
      simp [this]
    · simp
theorem natAbs_scale (t : Int) (b : Int) : (if t < 0 then -(fa t.natAbs b : Int) else fa t.natAbs b) = t * ((2 ^ (b + 1074).toNat : Nat) : Int) := by
  unfold fa
  rw [Int.natCast_mul]
  by_cases h : t < 0
  · rw [if_pos h, show (t.natAbs : Int) = -t by omega, Int.neg_mul, Int.neg_neg]
  · rw [if_neg h, show (t.natAbs : Int) = t by omega]
theorem fb_one {p : Int} (h : -1074 ≤ p) : fb p = 1 := by
  unfold fb; rw [show (-1074 - p).toNat = 0 by omega]
/-- two finite words, the second one's sign as told: their sum -/
theorem sum_fin {s t : Bool} {m n : Nat} {p q : Int} (hp : -1074 ≤ p) (hq : -1074 ≤ q) {A B : Nat} (hm : m * 2 ^ (p + 1074).toNat = A) (hn : n * 2 ^ (q + 1074).toNat = B) :
    ∃ r, ((Datum.number s m p).sum (.number t n q)).map double.write = some r ∧ nanb r = false ∧ RndZ ((if s then -(A : Int) else A) + (if t then -(B : Int) else B)) 1 (key r) := by
  have hb : -1074 ≤ min p q := by omega
  have v1 := signed_val (s := s) (m := m) (i := p) hb (by omega)
  have v2 := signed_val (s := t) (m := n) (i := q) hb (by omega)
  rw [hm] at v1
  rw [hn] at v2
  refine ⟨_, rfl, ?_⟩
  show nanb (double.nearest _ _ _) = false ∧ RndZ _ 1 (key (double.nearest _ _ _))
  generalize hT : signed s m (p - min p q).toNat + signed t n (q - min p q).toNat = T
  have hv : T * ((2 ^ (min p q + 1074).toNat : Nat) : Int) = (if s then -(A : Int) else A) + (if t then -(B : Int) else B) := by
    rw [← hT, Int.add_mul, v1, v2]
  obtain ⟨h1, h2⟩ := nearest_z (if T = 0 then s && t else T < 0) T.natAbs (min p q)
  refine ⟨h1, ?_⟩
  rw [fb_one hb] at h2
  by_cases h0 : T = 0
  · subst h0
    rw [Int.zero_mul] at hv
    rw [← hv]
    have e : fa (Int.natAbs 0) (min p q) = 0 := by unfold fa; simp
    rw [e] at h2
    simpa using h2
  · simp only [if_neg h0] at h2 ⊢
    rw [← hv, ← natAbs_scale]
    simpa using h2
theorem map_none {α β : Type} (f : α → β) : (none : Option α).map f = none := rfl
theorem mv_def (x : Nat) : mv x = if sgn x then -(mg (rung x) : Int) else (mg (rung x) : Int) := rfl
theorem add_fin {x y : Nat} (hx : fin x) (hy : fin y) : ∃ r, double.add x y = some r ∧ nanb r = false ∧ RndZ (mv x + mv y) 1 (key r) := by
  obtain ⟨m, p, e, hp, hm⟩ := read_fin hx
  obtain ⟨n, q, e', hq, hn⟩ := read_fin hy
  unfold Format.add
  rw [e, e', mv_def, mv_def]
  exact sum_fin hp hq hm hn
theorem sub_fin {x y : Nat} (hx : fin x) (hy : fin y) : ∃ r, double.sub x y = some r ∧ nanb r = false ∧ RndZ (mv x - mv y) 1 (key r) := by
  obtain ⟨m, p, e, hp, hm⟩ := read_fin hx
  obtain ⟨n, q, e', hq, hn⟩ := read_fin hy
  unfold Format.sub
  rw [e, e', mv_def, mv_def]
  have := sum_fin (s := sgn x) (t := !sgn y) hp hq hm hn
  rw [Int.sub_eq_add_neg]
  cases h : sgn y
  · rw [h] at this; simpa [Datum.opposite] using this
  · rw [h] at this; simpa [Datum.opposite] using this
theorem add_nan {x y : Nat} (h : nanb x = true ∨ nanb y = true) : double.add x y = none := by
  unfold Format.add
  rcases h with h | h
  · rw [read_nan h]; rfl
  · rw [read_nan h]; cases double.read x <;> rfl
theorem word_inf (s : Bool) : nanb (double.word s II) = false ∧ key (double.word s II) = if s then -(II : Int) else II := ⟨nanb_word s (Nat.le_refl _), key_word s (Nat.le_refl _)⟩
theorem key_inf {x : Nat} (h : inf x) : key x = if sgn x then -(II : Int) else II := by unfold key; rw [show rung x = II from h]
theorem write_inf (s : Bool) : double.write (.infinity s) = double.word s II := by
  have hI : double.infRung = II := by decide
  show double.word s double.infRung = _; rw [hI]
theorem add_inf_left {x y : Nat} (hx : inf x) (hy : fin y) : ∃ r, double.add x y = some r ∧ nanb r = false ∧ key r = key x := by
  obtain ⟨n, q, e', hq, hn⟩ := read_fin hy
  unfold Format.add
  rw [read_inf hx, e', key_inf hx]
  exact ⟨_, rfl, by rw [write_inf]; exact (word_inf _).1, by rw [write_inf]; exact (word_inf _).2⟩
theorem add_inf_right {x y : Nat} (hx : fin x) (hy : inf y) : ∃ r, double.add x y = some r ∧ nanb r = false ∧ key r = key y := by
  obtain ⟨n, q, e', hq, hn⟩ := read_fin hx
  unfold Format.add
  rw [read_inf hy, e', key_inf hy]
  exact ⟨_, rfl, by rw [write_inf]; exact (word_inf _).1, by rw [write_inf]; exact (word_inf _).2⟩
theorem add_inf_inf {x y : Nat} (hx : inf x) (hy : inf y) : (sgn x ≠ sgn y ∧ double.add x y = none) ∨ (sgn x = sgn y ∧ ∃ r, double.add x y = some r ∧ nanb r = false ∧ key r = key x) := by
  unfold Format.add
  rw [read_inf hx, read_inf hy, key_inf hx]
  by_cases h : sgn x = sgn y
  · right; refine ⟨h, double.word (sgn x) II, ?_, (word_inf _).1, (word_inf _).2⟩
    rw [← write_inf, ← h]; show Option.map double.write (if sgn x = sgn x then _ else _) = _
    rw [if_pos rfl]; rfl
  · left; exact ⟨h, by show Option.map double.write (if sgn x = sgn y then _ else _) = _; rw [if_neg h]; rfl⟩
theorem key_bd {x : Nat} (h : nanb x = false) : -(II : Int) ≤ key x ∧ key x ≤ II := by
  have h' : rung x ≤ II := by unfold nanb at h; simp at h; omega
  unfold key; cases sgn x <;> simp only [if_true, if_false, Bool.false_eq_true] <;> omega
theorem key_fin {x : Nat} (h : fin x) : -(II : Int) < key x ∧ key x < II := by
  have h' : rung x < II := h
  unfold key; cases sgn x <;> simp only [if_true, if_false, Bool.false_eq_true] <;> omega
theorem mv_mono {x y : Nat} (h : key x ≤ key y) : mv x ≤ mv y := by
  obtain ⟨h1, h2⟩ := mv_lt_iff x y
  rcases Int.lt_or_eq_of_le h with g | g
  · have := h1.2 g; omega
  · have := h2.2 g; omega
/-- a sum grows with what is added, wherever it is a number -/
theorem add_mono {x x' y r r' : Nat} (h : double.add x y = some r) (h' : double.add x' y = some r') (hk : key x ≤ key x') : key r ≤ key r' := by
  rcases cases3 y with hy | hy | hy
  · rw [add_nan (.inr hy)] at h; cases h
  · rcases cases3 x with hx | hx | hx
    · rw [add_nan (.inl hx)] at h; cases h
    · rcases add_inf_inf hx hy with ⟨_, e⟩ | ⟨es, r1, e, n1, k1⟩
      · rw [e] at h; cases h
      · rw [e] at h; cases h
        rcases cases3 x' with hx' | hx' | hx'
        · rw [add_nan (.inl hx')] at h'; cases h'
        · rcases add_inf_inf hx' hy with ⟨_, e⟩ | ⟨es', r1', e, n1', k1'⟩
          · rw [e] at h'; cases h'
          · rw [e] at h'; cases h'; omega
        · obtain ⟨r2, e, n2, k2⟩ := add_inf_right hx' hy
          rw [e] at h'; cases h'
          rw [k1, k2, key_inf hx, key_inf hy, es]; exact Int.le_refl _
    · obtain ⟨r1, e, n1, k1⟩ := add_inf_right hx hy
      rw [e] at h; cases h
      rcases cases3 x' with hx' | hx' | hx'
      · rw [add_nan (.inl hx')] at h'; cases h'
      · rcases add_inf_inf hx' hy with ⟨_, e⟩ | ⟨es', r1', e, n1', k1'⟩
        · rw [e] at h'; cases h'
        · rw [e] at h'; cases h'
          rw [k1, k1', key_inf hx', key_inf hy, es']; exact Int.le_refl _
      · obtain ⟨r2, e, n2, k2⟩ := add_inf_right hx' hy
        rw [e] at h'; cases h'; omega
  · rcases cases3 x with hx | hx | hx
    · rw [add_nan (.inl hx)] at h; cases h
    · obtain ⟨r1, e, n1, k1⟩ := add_inf_left hx hy
      rw [e] at h; cases h
      rcases cases3 x' with hx' | hx' | hx'
      · rw [add_nan (.inl hx')] at h'; cases h'
      · obtain ⟨r2, e, n2, k2⟩ := add_inf_left hx' hy
        rw [e] at h'; cases h'; omega
      · obtain ⟨r2, e, n2, k2⟩ := add_fin hx' hy
        rw [e] at h'; cases h'
        have := key_fin hx'
        have := key_bd n2
        have e1 := key_inf hx
        rw [k1]
        split at e1 <;> omega
    · obtain ⟨r1, e, n1, k1⟩ := add_fin hx hy
      rw [e] at h; cases h
      rcases cases3 x' with hx' | hx' | hx'
      · rw [add_nan (.inl hx')] at h'; cases h'
      · obtain ⟨r2, e, n2, k2⟩ := add_inf_left hx' hy
        rw [e] at h'; cases h'
        have := key_fin hx
        have := key_bd n1
        have e1 := key_inf hx'
        rw [k2]
        split at e1 <;> omega
      · obtain ⟨r2, e, n2, k2⟩ := add_fin hx' hy
        rw [e] at h'; cases h'
        have := mv_mono hk
        exact k1.mono k2 (by decide) (by decide) (by omega)
theorem sum_comm (a b : Datum) : a.sum b = b.sum a := by
  cases a <;> cases b <;> try rfl
  · rename_i s m i t n j
    show some _ = some _
    rw [show min i j = min j i from Int.min_comm ..]
    generalize signed s m (i - min j i).toNat = A
    generalize signed t n (j - min j i).toNat = B
    rw [Int.add_comm A B, Bool.and_comm s t]
  · rename_i s t
    show (if s = t then _ else _) = (if t = s then _ else _)
    by_cases h : s = t
    · subst h; rfl
    · rw [if_neg h, if_neg (fun e => h e.symm)]
theorem add_comm (x y : Nat) : double.add x y = double.add y x := by unfold Format.add; rw [sum_comm]
theorem nearest_s (neg : Bool) (m : Nat) (p : Int) : ∃ R, nanb (double.nearest neg m p) = false ∧ Rnd (fa m p) (fb p) R ∧ key (double.nearest neg m p) = if neg then -(R : Int) else R := by
  obtain ⟨R, e, hR⟩ := nearest_rnd neg m p
  rw [e]
  exact ⟨R, nanb_word _ hR.1, hR, key_word _ hR.1⟩
theorem RndZ.ofSign {a b R : Nat} (hb : 0 < b) (s : Bool) (h : Rnd a b R) : RndZ (if s then -(a : Int) else a) b (if s then -(R : Int) else R) := by
  have h0 : a = 0 → R = 0 := fun e => by subst e; exact h.uniq (Rnd.zero hb) hb
  refine ⟨R, by cases s <;> simpa using h, fun g => ?_, fun g => ?_⟩
  · cases s
    · simp
    · have : a = 0 := by simp at g; omega
      simp [h0 this]
  · cases s
    · have : a = 0 := by simp at g; omega
      simp [h0 this]
    · simp
theorem sign_mul (s t : Bool) (a b : Int) : (if s then -a else a) * (if t then -b else b) = if (s ^^ t) then -(a * b) else a * b := by
  cases s <;> cases t <;> simp [Int.neg_mul, Int.mul_neg]
def uu (n : Nat) : Nat := 2 ^ n
theorem uu_pos (n : Nat) : 0 < uu n := Nat.two_pow_pos _
/-- the product of two finite words -/
theorem mul_fin {x y : Nat} (hx : fin x) (hy : fin y) : ∃ r, double.mul x y = some r ∧ nanb r = false ∧ RndZ (mv x * mv y) (uu 1074) (key r) := by
  obtain ⟨m, p, e, hp, hm⟩ := read_fin hx
  obtain ⟨n, q, e', hq, hn⟩ := read_fin hy
  unfold Format.mul
  rw [e, e']
  refine ⟨_, rfl, ?_⟩
  show nanb (double.nearest _ _ _) = false ∧ RndZ _ _ (key (double.nearest _ _ _))
  obtain ⟨R, h1, h2, h3⟩ := nearest_s (sgn x ^^ sgn y) (m * n) (p + q)
  refine ⟨h1, ?_⟩
  rw [h3, mv_def, mv_def, sign_mul, ← Int.natCast_mul]
  refine RndZ.ofSign (uu_pos _) _ ?_
  rw [← hm, ← hn]
  have hs := h2.scale (2 ^ (p + q + 2148 - ((p + q + 1074).toNat : Int)).toNat) (Nat.two_pow_pos _)
  have e3 : fa (m * n) (p + q) * 2 ^ (p + q + 2148 - ((p + q + 1074).toNat : Int)).toNat = m * 2 ^ (p + 1074).toNat * (n * 2 ^ (q + 1074).toNat) := by
    unfold fa
    rw [Nat.mul_assoc, ← Nat.pow_add, Nat.mul_mul_mul_comm, ← Nat.pow_add]
    congr 2; omega
  have e4 : fb (p + q) * 2 ^ (p + q + 2148 - ((p + q + 1074).toNat : Int)).toNat = uu 1074 := by
    unfold fb uu
    rw [← Nat.pow_add]
    congr 1; omega
  rw [e3, e4] at hs
  exact hs
theorem mul_nan {x y : Nat} (h : nanb x = true ∨ nanb y = true) : double.mul x y = none := by
  unfold Format.mul
  rcases h with h | h
  · rw [read_nan h]; rfl
  · rw [read_nan h]; cases double.read x <;> rfl
end Go.Proofs.Ytokembhfebnjpaa.Flt
/- Floats: a number made whole upwards; what a wait comes to. No program in sight. -/
namespace Go.Proofs.Ytokembhfebnjpaa.Flt
open Ieee
set_option linter.unusedVariables false
theorem cut_up (n drop : Nat) : n ≤ (Toward.up.cut false n drop) * 2 ^ drop ∧ (Toward.up.cut false n drop) * 2 ^ drop < n + 2 ^ drop := by
  obtain ⟨g, hg⟩ : ∃ g, g = min drop (n.log2 + 2) := ⟨_, rfl⟩
  have hcut : Toward.up.cut false n drop = n / 2 ^ g + (n % 2 ^ g != 0).toNat := by
    unfold Toward.cut
    simp only [Nat.one_shiftLeft, hg, Bool.not_false, Bool.true_and]
  rw [hcut]
  have hp : 0 < 2 ^ g := Nat.two_pow_pos _
  by_cases hd : drop ≤ n.log2 + 2
  · have e : g = drop := by omega
    subst e
    have hdiv := Nat.div_add_mod n (2 ^ g)
    have hmod := Nat.mod_lt n hp
    generalize hG : 2 ^ g = G at *
    generalize n / G = q at *
    generalize n % G = r at *
    by_cases h1 : r = 0
    · have : (r != 0).toNat = 0 := by simp [h1]
      rw [this, Nat.add_zero, Nat.mul_comm]; omega
    · have : (r != 0).toNat = 1 := by simp [h1]
      rw [this, Nat.add_mul, Nat.one_mul, Nat.mul_comm q]; omega
  · have e : g = n.log2 + 2 := by omega
    have hn : n < 2 ^ (n.log2 + 1) := Nat.lt_log2_self
    have h2 : 2 ^ g = 2 * 2 ^ (n.log2 + 1) := by rw [e, show n.log2 + 2 = (n.log2 + 1) + 1 by omega, Nat.pow_succ, Nat.mul_comm]
    have h3 : 2 ^ g ≤ 2 ^ drop := Nat.pow_le_pow_right (by omega) (by omega)
    have q0 : n / 2 ^ g = 0 := Nat.div_eq_of_lt (by omega)
    have r0 : n % 2 ^ g = n := Nat.mod_eq_of_lt (by omega)
    rw [q0, r0]
    by_cases h1 : n = 0
    · have : (n != 0).toNat = 0 := by simp [h1]
      rw [this]; omega
    · have : (n != 0).toNat = 1 := by simp [h1]
      rw [this]; omega
theorem ceil_char (x : Nat) (h : fin x) (hs : sgn x = false) : ∃ c : Nat, (double.read x).integral .up = .number false c 0 ∧ mg (rung x) ≤ c * uu 1074 ∧ c * uu 1074 < mg (rung x) + uu 1074 := by
  obtain ⟨m, p, e, hp, hm⟩ := read_fin h
  rw [e, hs]
  refine ⟨_, rfl, ?_⟩
  obtain ⟨c1, c2⟩ := cut_up (m <<< p.toNat) (-p).toNat
  rw [Nat.shiftLeft_eq] at c1 c2 ⊢
  generalize Toward.up.cut false (m * 2 ^ p.toNat) (-p).toNat = c at *
  have hU : uu 1074 = 2 ^ (-p).toNat * 2 ^ (1074 - (-p).toNat) := by
    unfold uu; rw [← Nat.pow_add, show (-p).toNat + (1074 - (-p).toNat) = 1074 by omega]
  have hM : mg (rung x) = m * 2 ^ p.toNat * 2 ^ (1074 - (-p).toNat) := by
    rw [← hm, Nat.mul_assoc, ← Nat.pow_add, show p.toNat + (1074 - (-p).toNat) = (p + 1074).toNat by omega]
  have hq : 0 < 2 ^ (1074 - (-p).toNat) := Nat.two_pow_pos _
  rw [hU, hM, ← Nat.mul_assoc, ← Nat.add_mul]
  exact ⟨Nat.mul_le_mul_right _ c1, Nat.mul_lt_mul_of_pos_right c2 hq⟩
theorem small_back : ∀ c : Fin 61, (double.read (double.write (.number false c.val 0))).toInt .zero = some (c.val : Int) := by decide +kernel
def f2 : Nat := 4611686018427387904
def f4 : Nat := 4616189618054758400
def f60 : Nat := 4633641066610819072
theorem mv_f2 : mv f2 = 2 * (uu 1074 : Int) := by kernel_rfl
theorem mv_f60 : mv f60 = 60 * (uu 1074 : Int) := by kernel_rfl
theorem mv_f4 : mv f4 = 4 * (uu 1074 : Int) := by kernel_rfl
theorem key_f2 : key f2 = 4611686018427387904 := by decide +kernel
theorem key_f60 : key f60 = 4633641066610819072 := by decide +kernel
def ceilF (x : Nat) : Int := ((double.read (double.write ((double.read x).integral .up))).toInt .zero).getD 0
theorem between (x : Nat) (hn : nanb x = false) (h2 : key f2 ≤ key x) (h60 : key x ≤ key f60) :
    ∃ c : Nat, 2 ≤ c ∧ c ≤ 60 ∧ (double.read (double.write ((double.read x).integral .up))).toInt .zero = some (c : Int) ∧ ceilF x = c ∧ mv x ≤ c * (uu 1074 : Int) ∧ (c : Int) * (uu 1074 : Int) < mv x + uu 1074 := by
  have k2 := mv_mono h2
  have k60 := mv_mono h60
  rw [mv_f2] at k2
  rw [mv_f60] at k60
  rw [key_f2] at h2
  rw [key_f60] at h60
  have hU := uu_pos 1074
  have hs : sgn x = false := by
    cases h : sgn x
    · rfl
    · unfold key at h2; rw [h] at h2; simp at h2; omega
  have hf : fin x := by unfold fin; unfold key at h60; rw [hs] at h60; simp only [II]; simp at h60; omega
  obtain ⟨c, e, c1, c2⟩ := ceil_char x hf hs
  have hmv : mv x = mg (rung x) := by unfold mv; rw [hs]; simp
  rw [hmv] at k2 k60 ⊢
  generalize uu 1074 = U at *
  generalize mg (rung x) = M at *
  have c2' : 2 ≤ c := by
    rcases Nat.lt_or_ge c 2 with g | g
    · exfalso
      have : c * U ≤ 1 * U := Nat.mul_le_mul_right _ (by omega)
      omega
    · exact g
  have c60 : c ≤ 60 := by
    rcases Nat.lt_or_ge 60 c with g | g
    · exfalso
      have : 61 * U ≤ c * U := Nat.mul_le_mul_right _ (by omega)
      omega
    · exact g
  have hb := small_back ⟨c, by omega⟩
  rw [← e] at hb
  refine ⟨c, c2', c60, hb, ?_, ?_, ?_⟩
  · unfold ceilF; rw [hb]; rfl
  · rw [← Int.natCast_mul]; omega
  · rw [← Int.natCast_mul]; omega
/-! waits -/
def waitX (m s : Nat) : Option Nat := (double.mul f4 s).bind fun p => double.add m p
def waitF (m s : Nat) : Int := match waitX m s with
  | none => 60
  | some x => if nanb x then 60 else if key f60 < key x then 60 else if key x < key f2 then 2 else ceilF x
theorem wait_range (m s : Nat) : 2 ≤ waitF m s ∧ waitF m s ≤ 60 := by
  unfold waitF
  split
  · omega
  · rename_i x _
    by_cases hn : nanb x = true
    · rw [if_pos hn]; omega
    · rw [if_neg hn]
      by_cases h1 : key f60 < key x
      · rw [if_pos h1]; omega
      · rw [if_neg h1]
        by_cases h2 : key x < key f2
        · rw [if_pos h2]; omega
        · rw [if_neg h2]
          obtain ⟨c, g1, g2, _, g4, _⟩ := between x (by simpa using hn) (by omega) (by omega)
          omega
/-- a wait grows with what it waits for -/
theorem wait_mono {m s m' s' x x' : Nat} (h : waitX m s = some x) (h' : waitX m' s' = some x') (hn : nanb x = false) (hn' : nanb x' = false) (hk : key x ≤ key x') : waitF m s ≤ waitF m' s' := by
  have r1 := wait_range m s
  have r2 := wait_range m' s'
  unfold waitF at *
  rw [h, h'] at *
  simp only [hn, hn', if_false, Bool.false_eq_true] at r1 r2 ⊢
  by_cases h1 : key f60 < key x'
  · rw [if_pos h1]; omega
  · rw [if_neg h1]
    rw [if_neg (by omega : ¬ key f60 < key x)]
    by_cases h2 : key x < key f2
    · rw [if_pos h2]
      by_cases h3 : key x' < key f2
      · rw [if_pos h3]; omega
      · rw [if_neg h3]
        obtain ⟨c, g1, g2, _, g4, _⟩ := between x' hn' (by omega) (by omega)
        omega
    · rw [if_neg h2, if_neg (by omega : ¬ key x' < key f2)]
      obtain ⟨c, g1, g2, _, g4, g5, g6⟩ := between x hn (by omega) (by omega)
      obtain ⟨d, q1, q2, _, q4, q5, q6⟩ := between x' hn' (by omega) (by omega)
      rw [g4, q4]
      have hm := mv_mono hk
      rcases Nat.lt_or_ge d c with g | g
      · exfalso
        have : ((d + 1 : Nat) : Int) * (uu 1074 : Int) ≤ (c : Int) * (uu 1074 : Int) := Int.mul_le_mul_of_nonneg_right (by omega) (by omega)
        rw [show ((d + 1 : Nat) : Int) = (d : Int) + 1 by omega, Int.add_mul, Int.one_mul] at this
        omega
      · omega
end Go.Proofs.Ytokembhfebnjpaa.Flt
/- Floats: comparing; what the language's operations on floats give. -/
namespace Go.Proofs.Ytokembhfebnjpaa
set_option maxRecDepth 20000
open Go.RowKit Flt
set_option linter.unusedVariables false
def bef (a b : Nat) : Bool := if nanb a then false else if nanb b then true else decide (key b < key a)
theorem cmp_int (a b : Int) : compare a b = if a < b then .lt else if a = b then .eq else .gt := rfl
theorem ord_nan (a : Nat) : (FloatKind.f64.format.order a a != some .eq) = nanb a := by
  show (Ieee.double.order a a != some .eq) = _
  rw [order_key, cmp_int]
  cases nanb a <;> simp
theorem ord_gt (a b : Nat) : (FloatKind.f64.format.order a b == some .gt) = (!nanb a && !nanb b && decide (key b < key a)) := by
  show (Ieee.double.order a b == some .gt) = _
  rw [order_key, cmp_int]
  cases nanb a <;> cases nanb b <;> simp
  by_cases h : key a < key b
  · rw [if_pos h, decide_eq_false (by omega)]; rfl
  · rw [if_neg h]
    by_cases h2 : key a = key b
    · rw [if_pos h2, decide_eq_false (by omega)]; rfl
    · rw [if_neg h2, decide_eq_true (by omega)]; rfl
theorem ord_lt (a b : Nat) : (FloatKind.f64.format.order a b == some .lt) = (!nanb a && !nanb b && decide (key a < key b)) := by
  show (Ieee.double.order a b == some .lt) = _
  rw [order_key, cmp_int]
  cases nanb a <;> cases nanb b <;> simp
  by_cases h : key a < key b
  · rw [if_pos h, decide_eq_true h]; rfl
  · rw [if_neg h, decide_eq_false h]
    by_cases h2 : key a = key b
    · rw [if_pos h2]; rfl
    · rw [if_neg h2]; rfl
theorem ord_eq (a b : Nat) : (FloatKind.f64.format.order a b == some .eq) = (!nanb a && !nanb b && decide (key a = key b)) := by
  show (Ieee.double.order a b == some .eq) = _
  rw [order_key, cmp_int]
  cases nanb a <;> cases nanb b <;> simp
  by_cases h : key a < key b
  · rw [if_pos h, decide_eq_false (by omega)]; rfl
  · rw [if_neg h]
    by_cases h2 : key a = key b
    · rw [if_pos h2, decide_eq_true h2]; rfl
    · rw [if_neg h2, decide_eq_false h2]; rfl
theorem isnan_any (a : Nat) (w : World) : Calls Try.prog 102 #[.float .f64 a] w fun e w' => e = .returned (.bool (nanb a)) ∧ w = w' := by
  have ha := ord_nan a
  go_enter Try.func102, Try.ntmps102
  go_wp2
  go_ret
  exact ⟨rfl, rfl⟩
end Go.Proofs.Ytokembhfebnjpaa
/- Floats: what an operation gives. -/
namespace Go.Proofs.Ytokembhfebnjpaa
set_option maxRecDepth 20000
open Go.RowKit Flt
set_option linter.unusedVariables false
theorem bits_arith (op : BinOp) (t : TypeId) (x y : Nat) (w : World) (h : op = .add ∨ op = .sub ∨ op = .mul ∨ op = .quo) : ∃ r k, (binOp op t (.float .f64 x) (.float .f64 y)).run Try.prog w = .ok (.float .f64 r) (w.drewN k) ∧ (∀ q, floatBits op .f64 x y = some q → r = q ∧ k = 0) ∧ (floatBits op .f64 x y = none → nanb r = true) := by
  cases hb : floatBits op .f64 x y with
  | some q => exact ⟨q, 0, run_float_arith w op t .f64 x y q hb, fun q' h => by cases h; exact ⟨rfl, rfl⟩, fun h => by cases h⟩
  | none =>
    refine ⟨(Question.nanBits .f64 x y).cut (w.tape w.drawn (.nanBits .f64 x y)), 1, ?_, (fun q h => by cases h), fun _ => ?_⟩
    · rcases h with rfl | rfl | rfl | rfl <;> (simp only [floatBits] at hb; simp [binOp, Op.floatArith, hb, go_sem]; rfl)
    · generalize w.tape w.drawn (.nanBits .f64 x y) = t
      show nanb ((t % 2) * 2 ^ 63 + 0x7ff0000000000000 + 1 + (t / 2) % (2 ^ 52 - 1)) = true
      unfold nanb rung
      have hr : t / 2 % (2 ^ 52 - 1) < 2 ^ 52 - 1 := Nat.mod_lt _ (by decide)
      generalize t / 2 % (2 ^ 52 - 1) = r at *
      simp only [decide_eq_true_eq, SW, II]
      rcases Nat.mod_two_eq_zero_or_one t with h | h <;> rw [h] <;> omega
end Go.Proofs.Ytokembhfebnjpaa
/- Package ratio: Wait. -/
namespace Go.Proofs.Ytokembhfebnjpaa
set_option maxRecDepth 20000
open Go.RowKit Flt
set_option linter.unusedVariables false
def ceilT (d : Ieee.Datum) (x : Nat) : Sem Value := match d with
  | .nan s t =>
    if FloatKind.f64.format.quiet t = t then pure (.float .f64 x) else do
    let kept ← choose (.extern "math.Floor,Ceil,Trunc,RoundToEven.signallingNaN kept" 2)
    pure (.float .f64 (if kept == 1 then x else FloatKind.f64.encode (.nan s (FloatKind.f64.format.quiet t))))
  | d => pure (.float .f64 (FloatKind.f64.encode (d.integral .up)))
theorem run_ceil (x : Nat) (w : World) (h : nanb x = false) : (callFunc 97 #[.float .f64 x]).run Try.prog w = .ok (.value (.float .f64 (Ieee.double.write ((Ieee.double.read x).integral .up)))) w := by
  rw [run_callFunc_extern Try.func97 (by kernel_rfl) (by kernel_rfl) (by kernel_rfl) (e := Extern.MathFloor.toIntegral "math.archCeil" .up) (by kernel_rfl)]
  rcases cases3 x with g | g | g
  · rw [h] at g; cases g
  · have e := read_inf g
    rw [show Extern.MathFloor.toIntegral "math.archCeil" .up #[.float .f64 x] = ceilT (Ieee.double.read x) x from rfl, e]
    rfl
  · obtain ⟨m, p, e, _⟩ := read_fin g
    rw [show Extern.MathFloor.toIntegral "math.archCeil" .up #[.float .f64 x] = ceilT (Ieee.double.read x) x from rfl, e]
    rfl
theorem ceil_any (x : Nat) (w : World) (h : nanb x = false) : Calls Try.prog 96 #[.float .f64 x] w fun e w' => e = .returned (.float .f64 (Ieee.double.write ((Ieee.double.read x).integral .up))) ∧ w = w' := by
  have hc := run_ceil x w h
  go_enter Try.func96, Try.ntmps96
  go_wp2
  go_ret
  exact ⟨rfl, rfl⟩
theorem wait_any (m s : Nat) (w : World) : Calls Try.prog 93 #[.float .f64 m, .float .f64 s] w fun e w' => e = .returned (.int .i64 (waitF m s)) ∧ ∃ k, w' = w.drewN k := by
  obtain ⟨p, k1, h1, p1, p2⟩ := bits_arith .mul 79 4616189618054758400 s w (by simp)
  obtain ⟨x, k2, h2, x1, x2⟩ := bits_arith .add 79 m p (w.drewN k1) (by simp)
  have hx : waitX m s = some x ∨ (waitX m s = none ∧ nanb x = true) := by
    unfold waitX
    show (floatBits .mul .f64 4616189618054758400 s).bind _ = _ ∨ _
    cases hm : floatBits .mul .f64 4616189618054758400 s with
    | none =>
      right
      have hm' : Ieee.double.mul f4 s = none := hm
      refine ⟨by rw [hm']; rfl, x2 ?_⟩
      exact add_nan (.inr (p2 hm))
    | some q =>
      obtain ⟨rfl, _⟩ := p1 q hm
      have hm' : Ieee.double.mul f4 s = some p := hm
      rw [hm']
      cases ha : floatBits .add .f64 m p with
      | none => exact .inr ⟨ha, x2 ha⟩
      | some y => obtain ⟨rfl, _⟩ := x1 y ha; exact .inl ha
  have g1 := ord_nan x
  have g2 := ord_gt x 4633641066610819072
  have g3 := ord_lt x 4611686018427387904
  rw [show nanb 4633641066610819072 = false by decide +kernel] at g2
  rw [show nanb 4611686018427387904 = false by decide +kernel] at g3
  cases hn : nanb x
  · rw [hn] at g1 g2 g3
    rcases hx with hx | ⟨_, h⟩
    rotate_left
    · rw [hn] at h; cases h
    simp only [Bool.not_false, Bool.true_and] at g2 g3
    by_cases c1 : key f60 < key x
    · rw [decide_eq_true (show key 4633641066610819072 < key x from c1)] at g2
      have e : waitF m s = 60 := by unfold waitF; rw [hx]; simp [hn, c1]
      rw [e]
      clear e hx p1 p2 x1 x2
      go_enter Try.func93, Try.ntmps93
      go_wp2
      go_ret
      exact ⟨rfl, _, rfl⟩
    · rw [decide_eq_false (show ¬ key 4633641066610819072 < key x from c1)] at g2
      by_cases c2 : key x < key f2
      · rw [decide_eq_true (show key x < key 4611686018427387904 from c2)] at g3
        have e : waitF m s = 2 := by unfold waitF; rw [hx]; simp [hn, c1, c2]
        rw [e]
        clear e hx p1 p2 x1 x2
        go_enter Try.func93, Try.ntmps93
        go_wp2
        go_ret
        exact ⟨rfl, _, rfl⟩
      · rw [decide_eq_false (show ¬ key x < key 4611686018427387904 from c2)] at g3
        obtain ⟨c, b1, b2, b3, b4, _⟩ := between x hn (by omega) (by omega)
        have e : waitF m s = c := by unfold waitF; rw [hx]; simp [hn, c1, c2, b4]
        have hcv : floatToIntVal .f64 (Ieee.double.write ((Ieee.double.read x).integral .up)) .i64 = some (c : Int) := by
          unfold floatToIntVal
          rw [show (FloatKind.f64.decode (Ieee.double.write ((Ieee.double.read x).integral .up))) = Ieee.double.read (Ieee.double.write ((Ieee.double.read x).integral .up)) from rfl, b3]
          simp only [IntKind.min, IntKind.max, IntKind.signed, IntKind.bits]
          rw [if_pos (by simp; omega)]
        have CC := Lib.hid (fun w' => ceil_any x w' hn)
        generalize Ieee.double.write ((Ieee.double.read x).integral .up) = y at *
        have hc := fun w' => run_convert_float_int (P := Try.prog) (w := w') 79 3 .f64 .i64 y c (by kernel_rfl) Try.underlying3 hcv
        rw [e]
        clear e hx p1 p2 x1 x2 b3 b4 hcv
        go_enter Try.func93, Try.ntmps93
        go_wp2_with (go_at_call 96; refine (CC.out _).mono ?_; rintro e w1 ⟨rfl, rfl⟩)
        go_ret
        exact ⟨rfl, _, rfl⟩
  · rw [hn] at g1
    have e : waitF m s = 60 := by
      unfold waitF
      rcases hx with hx | ⟨hx, _⟩
      · rw [hx]; simp [hn]
      · rw [hx]
    rw [e]
    clear e hx p1 p2 x1 x2
    go_enter Try.func93, Try.ntmps93
    go_wp2
    go_ret
    exact ⟨rfl, _, rfl⟩
end Go.Proofs.Ytokembhfebnjpaa
/- Package ratio: Mean. -/
namespace Go.Proofs.Ytokembhfebnjpaa
set_option maxRecDepth 20000
open Go.RowKit Flt
set_option linter.unusedVariables false
theorem Flt.add_some {x y r : Nat} (h : Ieee.double.add x y = some r) : nanb r = false := by
  rcases cases3 x with hx | hx | hx
  · rw [add_nan (.inl hx)] at h; cases h
  · rcases cases3 y with hy | hy | hy
    · rw [add_nan (.inr hy)] at h; cases h
    · rcases add_inf_inf hx hy with ⟨_, e⟩ | ⟨_, q, e, hq, _⟩
      · rw [e] at h; cases h
      · rw [e] at h; cases h; exact hq
    · obtain ⟨q, e, hq, _⟩ := add_inf_left hx hy
      rw [e] at h; cases h; exact hq
  · rcases cases3 y with hy | hy | hy
    · rw [add_nan (.inr hy)] at h; cases h
    · obtain ⟨q, e, hq, _⟩ := add_inf_right hx hy
      rw [e] at h; cases h; exact hq
    · obtain ⟨q, e, hq, _⟩ := add_fin hx hy
      rw [e] at h; cases h; exact hq
theorem Flt.sub_nan {x y : Nat} (h : nanb x = true ∨ nanb y = true) : Ieee.double.sub x y = none := by
  unfold Ieee.Format.sub
  rcases h with h | h
  · rw [read_nan h]; rfl
  · rw [read_nan h]; cases Ieee.double.read x <;> rfl
def meanX (old now part : Nat) : Option Nat := (Ieee.double.sub now old).bind fun g => (Ieee.double.mul part g).bind fun p => Ieee.double.add old p
def meanF (old now part : Nat) : Nat := if nanb old then now else match meanX old now part with
  | some x => x
  | none => if nanb now then old else now
theorem mean_any (old now part : Nat) (w : World) : Calls Try.prog 86 #[.float .f64 old, .float .f64 now, .float .f64 part] w fun e w' => e = .returned (.float .f64 (meanF old now part)) ∧ ∃ k, w' = w.drewN k := by
  have g0 := ord_nan old
  cases hn : nanb old
  · rw [hn] at g0
    obtain ⟨g, k1, h1, a1, a2⟩ := bits_arith .sub 79 now old w (by simp)
    obtain ⟨p, k2, h2, b1, b2⟩ := bits_arith .mul 79 part g (w.drewN k1) (by simp)
    obtain ⟨x, k3, h3, c1, c2⟩ := bits_arith .add 79 old p (w.drewN (k1 + k2)) (by simp)
    have hx : (meanX old now part = some x ∧ nanb x = false) ∨ (meanX old now part = none ∧ nanb x = true) := by
      unfold meanX
      have ha : floatBits .sub .f64 now old = Ieee.double.sub now old := rfl
      have hb : floatBits .mul .f64 part g = Ieee.double.mul part g := rfl
      have hc : floatBits .add .f64 old p = Ieee.double.add old p := rfl
      rw [ha] at a1 a2
      rw [hb] at b1 b2
      rw [hc] at c1 c2
      cases hs : Ieee.double.sub now old with
      | none => exact .inr ⟨rfl, c2 (add_nan (.inr (b2 (mul_nan (.inr (a2 hs))))))⟩
      | some q =>
        obtain ⟨rfl, _⟩ := a1 q hs
        show (Option.bind (Ieee.double.mul part g) _ = _ ∧ _) ∨ (Option.bind (Ieee.double.mul part g) _ = _ ∧ _)
        cases hm : Ieee.double.mul part g with
        | none => exact .inr ⟨rfl, c2 (add_nan (.inr (b2 hm)))⟩
        | some q =>
          obtain ⟨rfl, _⟩ := b1 q hm
          show (Ieee.double.add old p = _ ∧ _) ∨ (Ieee.double.add old p = _ ∧ _)
          cases hd : Ieee.double.add old p with
          | none => exact .inr ⟨rfl, c2 hd⟩
          | some q => obtain ⟨rfl, _⟩ := c1 q hd; exact .inl ⟨rfl, add_some hd⟩
    clear a1 a2 b1 b2 c1 c2
    have g1 := ord_eq x x
    have g2 := ord_eq now now
    rcases hx with ⟨hx, hnx⟩ | ⟨hx, hnx⟩
    · have e : meanF old now part = x := by unfold meanF; rw [hn, hx]; rfl
      rw [hnx] at g1
      simp only [Bool.not_false, Bool.true_and, decide_true] at g1
      rw [e]
      clear e hx
      go_enter Try.func86, Try.ntmps86
      go_wp2
      go_ret
      exact ⟨rfl, _, rfl⟩
    · rw [hnx] at g1
      simp only [Bool.not_true, Bool.false_and] at g1
      cases hw : nanb now
      · have e : meanF old now part = now := by unfold meanF; rw [hn, hx]; simp [hw]
        rw [hw] at g2
        simp only [Bool.not_false, Bool.true_and, decide_true] at g2
        rw [e]
        clear e hx
        go_enter Try.func86, Try.ntmps86
        go_wp2
        go_ret
        exact ⟨rfl, _, rfl⟩
      · have e : meanF old now part = old := by unfold meanF; rw [hn, hx]; simp [hw]
        rw [hw] at g2
        simp only [Bool.not_true, Bool.false_and] at g2
        rw [e]
        clear e hx
        go_enter Try.func86, Try.ntmps86
        go_wp2
        go_ret
        exact ⟨rfl, _, rfl⟩
  · rw [hn] at g0
    have e : meanF old now part = now := by unfold meanF; rw [hn]; rfl
    rw [e]
    go_enter Try.func86, Try.ntmps86
    go_wp2
    go_ret
    exact ⟨rfl, 0, rfl⟩
end Go.Proofs.Ytokembhfebnjpaa
/- Chapter 13: floats: a mean and a spread of times stay numbers, from nought on and not great. -/
namespace Go.Proofs.Ytokembhfebnjpaa
set_option maxRecDepth 20000
open Go.RowKit Flt Ieee
set_option linter.unusedVariables false
namespace Flt
theorem rung_rung_w (x : Nat) : rung (rung x) = rung x := by unfold rung; simp only [SW]; omega
theorem sgn_rung_w (x : Nat) : sgn (rung x) = false := by
  have h1 : rung x < 9223372036854775808 := Nat.mod_lt _ (by decide)
  unfold sgn; simp only [SW]; rw [Nat.div_eq_of_lt h1]; rfl
theorem nanb_rung_w (x : Nat) : nanb (rung x) = nanb x := by unfold nanb; rw [rung_rung_w]
theorem key_zero_w : key 0 = 0 := by decide +kernel
theorem mv_neg_iff_w {x : Nat} : (mv x < 0 ↔ key x < 0) := by
  have := (mv_lt_iff x 0).1
  rwa [key_zero_w, show mv 0 = 0 by decide +kernel] at this
theorem mv_natAbs_w (x : Nat) : (mv x).natAbs = mg (rung x) := by unfold mv; cases sgn x <;> simp
theorem mv_rung_w (x : Nat) : mv (rung x) = mg (rung x) := by unfold mv; rw [sgn_rung_w, rung_rung_w]; rfl
def c31 : Nat := 4746794007248502784
def c32 : Nat := 4751297606875873280
def c33 : Nat := 4755801206503243776
theorem mv_c31 : mv c31 = 2147483648 * (uu 1074 : Int) := by kernel_rfl
theorem mv_c32 : mv c32 = 4294967296 * (uu 1074 : Int) := by kernel_rfl
theorem mv_c33 : mv c33 = 8589934592 * (uu 1074 : Int) := by kernel_rfl
theorem fin_c31 : fin c31 := by unfold fin; decide +kernel
theorem fin_c32 : fin c32 := by unfold fin; decide +kernel
theorem fin_c33 : fin c33 := by unfold fin; decide +kernel
/-- A number from nought to c. -/
structure Bw (c x : Nat) : Prop where
  num : nanb x = false
  lo : 0 ≤ mv x
  hi : mv x ≤ mv c
  fc : fin c
theorem key_of_mv {x y : Nat} (h : mv x ≤ mv y) : key x ≤ key y := by
  rcases Int.lt_or_le (key y) (key x) with g | g
  · have := (mv_lt_iff y x).1.2 g; omega
  · exact g
theorem key_zero' {x : Nat} (h : 0 ≤ mv x) : 0 ≤ key x := by have := @mv_neg_iff_w x; omega
theorem key_zero'' {x : Nat} (h : 0 ≤ key x) : 0 ≤ mv x := by have := @mv_neg_iff_w x; omega
theorem fin_of_key {x : Nat} {K : Int} (h1 : -K ≤ key x) (h2 : key x ≤ K) (hK : K < (II : Int)) : fin x := by
  unfold fin
  unfold key at h1 h2
  cases hs : sgn x <;> rw [hs] at h1 h2 <;> simp at h1 h2 <;> omega
theorem Bw.fin {c x : Nat} (h : Bw c x) : fin x := by
  have h1 := key_of_mv h.hi
  have h2 := key_zero' h.lo
  have h3 := key_fin h.fc
  exact fin_of_key (K := key c) (by omega) h1 h3.2
theorem RndZ.neg {A : Int} {b : Nat} {k : Int} (h : RndZ A b k) : RndZ (-A) b (-k) := by
  obtain ⟨R, h1, h2, h3⟩ := h
  refine ⟨R, by rwa [Int.natAbs_neg], fun h => ?_, fun h => ?_⟩
  · have := h3 (by omega); omega
  · have := h2 (by omega); omega
/-- The word of the other sign. -/
def ng (x : Nat) : Nat := if sgn x then rung x else SW + rung x
theorem rung_lt (x : Nat) : rung x < SW := Nat.mod_lt _ (by decide)
theorem key_ng (x : Nat) : key (ng x) = -key x ∧ mv (ng x) = -mv x := by
  have h1 := rung_lt x
  have h2 : rung (rung x) = rung x := Nat.mod_eq_of_lt h1
  have h3 : rung (SW + rung x) = rung x := by unfold rung; simp only [SW]; omega
  have h4 : sgn (rung x) = false := by unfold sgn; simp only [SW] at *; rw [Nat.div_eq_of_lt h1]; rfl
  have h5 : sgn (SW + rung x) = true := by
    unfold sgn; simp only [SW] at *
    rw [show (9223372036854775808 + rung x) / 9223372036854775808 = 1 by omega]; rfl
  unfold ng key mv
  cases hs : sgn x
  · simp [h3, h5]
  · simp [h2, h4]
theorem neg_of_key {x y : Nat} (h : -key y ≤ key x) : -mv y ≤ mv x := by
  have := mv_mono (x := ng y) (y := x) (by rw [(key_ng y).1]; exact h)
  rwa [(key_ng y).2] at this
theorem kz1 {b : Nat} (hb : 0 < b) : RndZ 0 b 0 := ⟨0, Rnd.zero hb, fun _ => rfl, fun _ => rfl⟩
theorem nearest_lt (s : Bool) (m : Nat) (p : Int) : double.nearest s m p < 18446744073709551616 := by
  obtain ⟨R, e, hR⟩ := nearest_rnd s m p
  rw [e, word_eq]
  have := hR.1
  simp only [II] at this
  simp only [SW]
  cases s <;> simp <;> omega
theorem sub_lt {x y r : Nat} (hx : fin x) (hy : fin y) (h : double.sub x y = some r) : r < 18446744073709551616 := by
  obtain ⟨m, p, e, _⟩ := read_fin hx
  obtain ⟨n, q, e', _⟩ := read_fin hy
  unfold Format.sub at h
  rw [e, e'] at h
  simp only [Datum.opposite, Datum.sum, Option.map_some, Option.some.injEq] at h
  subst h
  exact nearest_lt _ _ _
theorem sub_bw {C D x y : Nat} (hx : Bw D x) (hy : Bw C y) : ∃ g, double.sub x y = some g ∧ g < 18446744073709551616 ∧ nanb g = false ∧ fin g ∧ (mv y ≤ mv x → 0 ≤ mv g ∧ mv g ≤ mv x) ∧ (mv x ≤ mv y → mv g ≤ 0 ∧ -mv y ≤ mv g) := by
  obtain ⟨g, e, n, k⟩ := sub_fin hx.fin hy.fin
  have h1 := hx.lo
  have h2 := hy.lo
  have p1 : mv y ≤ mv x → 0 ≤ key g ∧ key g ≤ key x := fun h => ⟨(kz1 (b := 1) (by decide)).mono k (by decide) (by decide) (by omega), k.mono (RndZ.exact hx.num) (by decide) (by decide) (by omega)⟩
  have p2 : mv x ≤ mv y → key g ≤ 0 ∧ -key y ≤ key g := fun h => ⟨k.mono (kz1 (b := 1) (by decide)) (by decide) (by decide) (by omega), (RndZ.exact hy.num).neg.mono k (by decide) (by decide) (by omega)⟩
  have fx := key_fin hx.fin
  have fy := key_fin hy.fin
  have nz : ∀ z, key z ≤ 0 → mv z ≤ 0 := fun z hz => by
    have := mv_mono (x := z) (y := 0) (by rw [key_zero_w]; exact hz)
    rwa [show mv 0 = 0 by decide +kernel] at this
  refine ⟨g, e, sub_lt hx.fin hy.fin e, n, ?_, fun h => ⟨key_zero'' (p1 h).1, mv_mono (p1 h).2⟩, fun h => ⟨nz g (p2 h).1, neg_of_key (p2 h).2⟩⟩
  rcases Int.le_total (mv y) (mv x) with h | h
  · have := p1 h; exact fin_of_key (K := key x) (by omega) (by omega) fx.2
  · have := p2 h; exact fin_of_key (K := key y) (by omega) (by omega) fy.2
theorem mean_bw {C D old d p : Nat} (ho : Bw C old) (hd : Bw D d) (hCD : 2 * mv D ≤ mv C) (fp : fin p) (mp0 : 0 ≤ mv p) (mp1 : mv p ≤ uu 1074) : ∃ x, meanX old d p = some x ∧ meanF old d p = x ∧ Bw C x := by
  obtain ⟨g, eg, _, ng', fg, g1, g2⟩ := sub_bw hd ho
  have hU := uu_pos 1074
  obtain ⟨q, eq, nq, kq⟩ := mul_fin fp fg
  obtain ⟨U, hUd⟩ : ∃ U, U = uu 1074 := ⟨_, rfl⟩
  rw [← hUd] at hU mp1 kq
  have q1 : 0 ≤ mv g → 0 ≤ key q ∧ key q ≤ key g := fun h => ⟨(kz1 (b := 1) (by decide)).mono kq (by decide) hU (by rw [Int.zero_mul, Int.natCast_one, Int.mul_one]; exact Int.mul_nonneg mp0 h), by
    refine kq.mono (RndZ.exact ng') hU (by decide) ?_
    rw [Int.natCast_one, Int.mul_one, Int.mul_comm]
    exact Int.mul_le_mul_of_nonneg_left mp1 h⟩
  have q2 : mv g ≤ 0 → key q ≤ 0 ∧ key g ≤ key q := fun h => ⟨by
    refine kq.mono (kz1 (b := 1) (by decide)) hU (by decide) ?_
    rw [Int.natCast_one, Int.mul_one, Int.zero_mul]
    exact Int.mul_nonpos_of_nonneg_of_nonpos mp0 h, by
    refine (RndZ.exact ng').mono kq (by decide) hU ?_
    rw [Int.natCast_one, Int.mul_one, Int.mul_comm (mv p)]
    exact Int.mul_le_mul_of_nonpos_left h mp1⟩
  have fk := key_fin fg
  have nz : ∀ z, key z ≤ 0 → mv z ≤ 0 := fun z hz => by
    have := mv_mono (x := z) (y := 0) (by rw [key_zero_w]; exact hz)
    rwa [show mv 0 = 0 by decide +kernel] at this
  have hsum : fin q ∧ 0 ≤ mv old + mv q ∧ mv old + mv q ≤ mv C := by
    rcases Int.le_total (mv old) (mv d) with h | h
    · have a1 := g1 h
      have a2 := q1 a1.1
      have a3 := mv_mono a2.2
      have a4 := key_zero'' a2.1
      have a5 := ho.lo
      have a6 := hd.hi
      exact ⟨fin_of_key (K := key g) (by omega) a2.2 fk.2, by omega, by omega⟩
    · have a1 := g2 h
      have a2 := q2 a1.1
      have a3 := mv_mono a2.2
      have a4 := nz q a2.1
      have a5 := ho.lo
      have a6 := ho.hi
      exact ⟨fin_of_key (K := -key g) (by omega) (by omega) (by omega), by omega, by omega⟩
  obtain ⟨x, ex, nx, kx⟩ := add_fin ho.fin hsum.1
  have hx : meanX old d p = some x := by unfold meanX; rw [eg]; show (double.mul p g).bind _ = _; rw [eq]; exact ex
  refine ⟨x, hx, by unfold meanF; rw [ho.num, hx]; rfl, nx, ?_, ?_, ho.fc⟩
  · exact key_zero'' ((kz1 (b := 1) (by decide)).mono kx (by decide) (by decide) (by omega))
  · refine mv_mono (kx.mono (RndZ.exact ho.fc.not_nan) (by decide) (by decide) (by omega))
/-- A time as a float. -/
theorem time_bw {n : Nat} (h : n ≤ 2147483648) : Bw c31 (floatOfInt .f64 (n : Nat)) := by
  have e2 : floatOfInt .f64 (n : Int) = double.nearest false (n : Int).natAbs 0 := by
    show double.nearest (decide ((n : Int) < 0)) (n : Int).natAbs 0 = _
    rw [decide_eq_false (by omega)]
  obtain ⟨h1, h2⟩ := nearest_z false (n : Int).natAbs 0
  rw [← e2] at h1 h2
  have e3 : fa (n : Int).natAbs 0 = n * uu 1074 := by
    rw [Int.natAbs_natCast]
    unfold fa uu
    rw [show (0 + 1074 : Int).toNat = 1074 by decide]
  have e4 : fb 0 = 1 := by unfold fb; decide
  rw [e3, e4] at h2
  simp only [Bool.false_eq_true, if_false] at h2
  refine ⟨h1, key_zero'' ((kz1 (b := 1) (by decide)).mono h2 (by decide) (by decide) (by omega)), mv_mono (h2.mono (RndZ.exact fin_c31.not_nan) (by decide) (by decide) ?_), fin_c31⟩
  rw [mv_c31, Int.natCast_mul]
  have := Int.mul_le_mul_of_nonneg_right (show (n : Int) ≤ 2147483648 by omega) (show (0 : Int) ≤ (uu 1074 : Nat) by omega)
  omega
def quarter : Nat := 4598175219545276416
def eighth : Nat := 4593671619917905920
theorem quarter_fin : fin quarter ∧ 0 ≤ mv quarter ∧ mv quarter ≤ uu 1074 := ⟨by unfold fin; decide +kernel, by decide +kernel, by decide +kernel⟩
theorem eighth_fin : fin eighth ∧ 0 ≤ mv eighth ∧ mv eighth ≤ uu 1074 := ⟨by unfold fin; decide +kernel, by decide +kernel, by decide +kernel⟩
/-- A mean and a spread. -/
structure Ms (m s : Nat) : Prop where
  m : Bw c32 m
  s : Bw c33 s
theorem Ms.start : Ms 4616189618054758400 4607182418800017408 := ⟨⟨by decide +kernel, by decide +kernel, by decide +kernel, fin_c32⟩, ⟨by decide +kernel, by decide +kernel, by decide +kernel, fin_c33⟩⟩
/-- The gap of a time from the mean. -/
theorem Ms.gap {m s : Nat} (h : Ms m s) {n : Nat} (hn : n ≤ 2147483648) : ∃ g, double.sub (floatOfInt .f64 (n : Nat)) m = some g ∧ g < 18446744073709551616 ∧ nanb g = false ∧ Bw c32 (rung g) := by
  obtain ⟨g, e, l, n', fg, g1, g2⟩ := sub_bw (time_bw hn) h.m
  have a1 := (time_bw hn).hi
  have a2 := h.m.hi
  have a3 := mv_c31
  have a4 := mv_c32
  have hU := uu_pos 1074
  refine ⟨g, e, l, n', ⟨by rw [nanb_rung_w]; exact n', by rw [mv_rung_w]; omega, ?_, fin_c32⟩⟩
  rw [mv_rung_w, ← mv_natAbs_w]
  rcases Int.le_total (mv m) (mv (floatOfInt .f64 (n : Nat))) with c | c
  · have := g1 c; omega
  · have := g2 c; omega
theorem Ms.step {m s : Nat} (h : Ms m s) {n : Nat} (hn : n ≤ 2147483648) : ∃ g, double.sub (floatOfInt .f64 (n : Nat)) m = some g ∧ g < 18446744073709551616 ∧ Ms (meanF m (floatOfInt .f64 (n : Nat)) eighth) (meanF s (rung g) quarter) := by
  obtain ⟨g, e, l, n', hg⟩ := h.gap hn
  have a3 := mv_c31
  have a4 := mv_c32
  have a5 := mv_c33
  have hU := uu_pos 1074
  obtain ⟨x, _, e1, b1⟩ := mean_bw h.m (time_bw hn) (by omega) eighth_fin.1 eighth_fin.2.1 eighth_fin.2.2
  obtain ⟨y, _, e2, b2⟩ := mean_bw h.s hg (by omega) quarter_fin.1 quarter_fin.2.1 quarter_fin.2.2
  exact ⟨g, e, l, ⟨by rw [e1]; exact b1, by rw [e2]; exact b2⟩⟩
end Flt
end Go.Proofs.Ytokembhfebnjpaa
/- Package ratio: Spread. -/
namespace Go.Proofs.Ytokembhfebnjpaa
set_option maxRecDepth 20000
open Go.RowKit Flt
set_option linter.unusedVariables false
theorem run_frombits (n : Int) (w : World) : (callFunc 94 #[.int .u64 n]).run Try.prog w = .ok (.value (.float .f64 n.toNat)) w := by
  rw [run_callFunc_extern Try.func94 (by kernel_rfl) (by kernel_rfl) (by kernel_rfl) (e := Extern.MathFloatBits.float64frombits) (by kernel_rfl)]
  rfl
theorem run_bits (x : Nat) (w : World) : (callFunc 95 #[.float .f64 x]).run Try.prog w = .ok (.value (.int .u64 x)) w := by
  rw [run_callFunc_extern Try.func95 (by kernel_rfl) (by kernel_rfl) (by kernel_rfl) (e := Extern.MathFloatBits.float64bits) (by kernel_rfl)]
  rfl
theorem andNot_rung (x : Nat) (h : x < 18446744073709551616) : bits .andNot .u64 (x : Int) 9223372036854775808 = ((rung x : Nat) : Int) := by
  have h1 := u64_andNot_nat x 9223372036854775808 h (by decide)
  have h2 : x &&& (18446744073709551615 - 9223372036854775808) = rung x := by
    have := Nat.and_two_pow_sub_one_eq_mod x 63
    unfold rung
    exact this
  rw [h2] at h1
  exact h1
theorem sign_p1 : bits .and .u64 4607182418800017408 9223372036854775808 = 0 := by decide +kernel
theorem or_zero (x : Nat) (h : x < 18446744073709551616) : bits .or .u64 (x : Int) 0 = (x : Int) := by
  have := u64_or_nat x 0 h (by decide)
  simpa using this
theorem cs_one (x : Nat) (w : World) (h : x < 18446744073709551616) : Calls Try.prog 92 #[.float .f64 x, .float .f64 4607182418800017408] w fun e w' => e = .returned (.float .f64 (rung x)) ∧ w = w' := by
  have h1 := fun x w' => run_bits x w'
  have h2 := andNot_rung x h
  have h3 := sign_p1
  have h4 := or_zero (rung x) (Nat.lt_of_lt_of_le (Nat.mod_lt _ (by decide)) (by decide))
  have h5 := fun w' => run_frombits ((rung x : Nat) : Int) w'
  simp only [Int.toNat_natCast] at h5
  generalize rung x = r at *
  go_enter Try.func92, Try.ntmps92
  go_wp2
  go_ret
  exact ⟨rfl, rfl⟩
theorem spread_at (old mean now part g : Nat) (w : World) (hg : floatBits .sub .f64 now mean = some g) (hl : g < 18446744073709551616) : Calls Try.prog 85 #[.float .f64 old, .float .f64 mean, .float .f64 now, .float .f64 part] w fun e w' => e = .returned (.float .f64 (meanF old (rung g) part)) ∧ ∃ k, w' = w.drewN k := by
  have h1 := fun w' => run_float_arith (P := Try.prog) w' .sub 79 .f64 now mean g hg
  have C1 := Lib.hid (fun w' => cs_one g w' hl)
  have C2 := Lib.hid (fun w' => mean_any old (rung g) part w')
  go_enter Try.func85, Try.ntmps85
  go_wp2_with (first | (go_at_call 92; refine (C1.out _).mono ?_; rintro e w1 ⟨rfl, rfl⟩) | (go_at_call 86; refine (C2.out _).mono ?_; rintro e w1 ⟨rfl, k, rfl⟩))
  go_ret
  exact ⟨rfl, _, rfl⟩
end Go.Proofs.Ytokembhfebnjpaa
