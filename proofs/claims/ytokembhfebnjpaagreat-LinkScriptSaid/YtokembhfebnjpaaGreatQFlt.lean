/- Floats: the words of a double by their rungs; comparing; the nearest word of a fraction; sums and products. No program in sight. -/
import Derived.Laws.FloatArith
namespace Go.Proofs.YtokembhfebnjpaaGreat.Flt
open Ieee
set_option linter.unusedVariables false
abbrev BB : Nat := 4503599627370496
abbrev II : Nat := 9218868437227405312
def mg (r : Nat) : Nat := if r < BB then r else (BB + r % BB) * 2 ^ (r / BB - 1)
theorem mg_lt_succ (r : Nat) : mg r < mg (r + 1) := by
  unfold mg
  by_cases h : r + 1 < BB
  · rw [if_pos (by omega), if_pos h]; omega
  · by_cases h2 : r < BB
    · have : r = 4503599627370495 := by simp only [BB] at *; omega
      subst this; decide
    · rw [if_neg h2, if_neg h]
      have hq : 1 ≤ r / BB := by simp only [BB] at *; omega
      have hp : 0 < 2 ^ (r / BB - 1) := Nat.two_pow_pos _
      by_cases h3 : r % BB + 1 < BB
      · have e1 : (r + 1) / BB = r / BB := by simp only [BB] at *; omega
        have e2 : (r + 1) % BB = r % BB + 1 := by simp only [BB] at *; omega
        rw [e1, e2]
        exact Nat.mul_lt_mul_of_pos_right (by omega) hp
      · have e1 : (r + 1) / BB = r / BB + 1 := by simp only [BB] at *; omega
        have e2 : (r + 1) % BB = 0 := by simp only [BB] at *; omega
        rw [e1, e2]
        have e3 : 2 ^ (r / BB + 1 - 1) = 2 * 2 ^ (r / BB - 1) := by
          rw [show r / BB + 1 - 1 = (r / BB - 1) + 1 by omega, Nat.pow_succ, Nat.mul_comm]
        rw [e3]
        have e4 : r % BB = BB - 1 := by simp only [BB] at *; omega
        rw [e4]
        calc (BB + (BB - 1)) * 2 ^ (r / BB - 1) < (BB * 2) * 2 ^ (r / BB - 1) := Nat.mul_lt_mul_of_pos_right (by decide) hp
          _ = _ := by rw [Nat.add_zero, Nat.mul_assoc]
theorem mg_lt {r s : Nat} (h : r < s) : mg r < mg s := by
  induction s with
  | zero => omega
  | succ s ih =>
    rcases Nat.lt_or_eq_of_le (Nat.lt_succ_iff.1 h) with h | h
    · exact Nat.lt_trans (ih h) (mg_lt_succ s)
    · rw [h]; exact mg_lt_succ s
theorem mg_le {r s : Nat} (h : r ≤ s) : mg r ≤ mg s := by
  rcases Nat.lt_or_eq_of_le h with h | h
  · exact Nat.le_of_lt (mg_lt h)
  · rw [h]; exact Nat.le_refl _
theorem mg_lt_iff {r s : Nat} : mg r < mg s ↔ r < s := ⟨fun h => by
  rcases Nat.lt_or_ge r s with g | g
  · exact g
  · have := mg_le g; omega, mg_lt⟩
theorem mg_zero : mg 0 = 0 := by decide
theorem mg_at (e k : Nat) (h1 : k ≤ 2 * BB) (h2 : e = 0 ∨ BB ≤ k) : mg (e * BB + k) = k * 2 ^ e := by
  unfold mg
  by_cases hk : k < BB
  · have : e = 0 := by omega
    subst this
    rw [Nat.zero_mul, Nat.zero_add, if_pos hk, Nat.pow_zero, Nat.mul_one]
  · rw [if_neg (by simp only [BB] at *; omega)]
    by_cases h3 : k = 2 * BB
    · have e1 : (e * BB + k) / BB = e + 2 := by simp only [BB] at *; omega
      have e2 : (e * BB + k) % BB = 0 := by simp only [BB] at *; omega
      rw [e1, e2, h3, show e + 2 - 1 = e + 1 by omega, Nat.pow_succ, Nat.add_zero, Nat.mul_comm (2 ^ e) 2, ← Nat.mul_assoc, Nat.mul_comm BB 2]
    · have e1 : (e * BB + k) / BB = e + 1 := by simp only [BB] at *; omega
      have e2 : (e * BB + k) % BB = k - BB := by simp only [BB] at *; omega
      rw [e1, e2, show e + 1 - 1 = e by omega, show BB + (k - BB) = k by omega]
def Above (a b r : Nat) : Prop := b * (mg r + mg (r + 1)) < 2 * a ∨ (b * (mg r + mg (r + 1)) = 2 * a ∧ r % 2 = 1)
def Rnd (a b R : Nat) : Prop := R ≤ II ∧ ∀ r, r < II → (r < R ↔ Above a b r)
theorem Above.mono {a b a' b' r : Nat} (h : Above a b r) (hb : 0 < b) (hb' : 0 < b') (hab : a * b' ≤ a' * b) : Above a' b' r := by
  unfold Above at *
  generalize mg r + mg (r + 1) = S at *
  have key : b * (b' * S) ≤ b * (2 * a') := by
    have h1 : b * S ≤ 2 * a := by rcases h with h | h <;> omega
    calc b * (b' * S) = (b * S) * b' := by rw [Nat.mul_comm b' S, Nat.mul_assoc]
      _ ≤ (2 * a) * b' := Nat.mul_le_mul_right _ h1
      _ = 2 * (a * b') := Nat.mul_assoc ..
      _ ≤ 2 * (a' * b) := Nat.mul_le_mul_left _ hab
      _ = b * (2 * a') := by rw [← Nat.mul_assoc, Nat.mul_comm]
  have key2 : b' * S ≤ 2 * a' := Nat.le_of_mul_le_mul_left key hb
  rcases h with h | ⟨h, hr⟩
  · left
    have k2 : b * (b' * S) < b * (2 * a') := by
      calc b * (b' * S) = (b * S) * b' := by rw [Nat.mul_comm b' S, Nat.mul_assoc]
        _ < (2 * a) * b' := Nat.mul_lt_mul_of_pos_right h hb'
        _ = 2 * (a * b') := Nat.mul_assoc ..
        _ ≤ 2 * (a' * b) := Nat.mul_le_mul_left _ hab
        _ = b * (2 * a') := by rw [← Nat.mul_assoc, Nat.mul_comm]
    exact Nat.lt_of_mul_lt_mul_left k2
  · rcases Nat.lt_or_eq_of_le key2 with g | g
    · exact .inl g
    · exact .inr ⟨g, hr⟩
theorem Rnd.mono {a b a' b' R R' : Nat} (h : Rnd a b R) (h' : Rnd a' b' R') (hb : 0 < b) (hb' : 0 < b') (hab : a * b' ≤ a' * b) : R ≤ R' := by
  rcases Nat.lt_or_ge R' R with g | g
  · exfalso
    have hI : R' < II := Nat.lt_of_lt_of_le g h.1
    have := (h'.2 R' hI).2 (((h.2 R' hI).1 g).mono hb hb' hab)
    omega
  · exact g
theorem Rnd.exact {s : Nat} (hs : s ≤ II) : Rnd (mg s) 1 s := by
  refine ⟨hs, fun r hr => ?_⟩
  unfold Above
  constructor
  · intro h
    have h1 := mg_lt h
    have h2 := mg_le (show r + 1 ≤ s from h)
    left; omega
  · intro h
    rcases Nat.lt_or_ge r s with g | g
    · exact g
    · exfalso
      have h1 := mg_le g
      have h2 := mg_lt (show s < r + 1 by omega)
      omega
theorem Rnd.scale {a b R : Nat} (h : Rnd a b R) (c : Nat) (hc : 0 < c) : Rnd (a * c) (b * c) R := by
  refine ⟨h.1, fun r hr => (h.2 r hr).trans ?_⟩
  unfold Above
  generalize mg r + mg (r + 1) = S
  have e1 : b * c * S = (b * S) * c := by rw [Nat.mul_assoc, Nat.mul_comm c S, ← Nat.mul_assoc]
  have e2 : 2 * (a * c) = (2 * a) * c := (Nat.mul_assoc ..).symm
  rw [e1, e2]
  constructor
  · rintro (h | ⟨h, g⟩)
    · exact .inl (Nat.mul_lt_mul_of_pos_right h hc)
    · exact .inr ⟨by rw [h], g⟩
  · rintro (h | ⟨h, g⟩)
    · exact .inl (Nat.lt_of_mul_lt_mul_right h)
    · exact .inr ⟨Nat.eq_of_mul_eq_mul_right hc h, g⟩
theorem cut_even (neg : Bool) (n drop : Nat) :
    2 * (Toward.even.cut neg n drop) * 2 ^ drop ≤ 2 * n + 2 ^ drop ∧ 2 * n ≤ 2 * (Toward.even.cut neg n drop) * 2 ^ drop + 2 ^ drop ∧
    (2 * (Toward.even.cut neg n drop) * 2 ^ drop = 2 * n + 2 ^ drop → (Toward.even.cut neg n drop) % 2 = 0) ∧ (2 * n = 2 * (Toward.even.cut neg n drop) * 2 ^ drop + 2 ^ drop → (Toward.even.cut neg n drop) % 2 = 0) := by
  obtain ⟨g, hg⟩ : ∃ g, g = min drop (n.log2 + 2) := ⟨_, rfl⟩
  have hcut : Toward.even.cut neg n drop = n / 2 ^ g + (decide (2 ^ g < 2 * (n % 2 ^ g)) || (2 ^ g == 2 * (n % 2 ^ g) && n / 2 ^ g % 2 == 1)).toNat := by
    unfold Toward.cut
    simp only [Nat.one_shiftLeft, hg]
  rw [hcut]
  have hp : 0 < 2 ^ g := Nat.two_pow_pos _
  by_cases hd : drop ≤ n.log2 + 2
  · have e : g = drop := by omega
    subst e
    have hdiv := Nat.div_add_mod n (2 ^ g)
    have hmod := Nat.mod_lt n hp
    generalize hG : 2 ^ g = G at *
    generalize n / G = q at *
    generalize n % G = r at *
    have hm : 2 * q * G = 2 * (G * q) := by rw [Nat.mul_assoc, Nat.mul_comm q G]
    have hm2 : 2 * (q + 1) * G = 2 * (G * q) + 2 * G := by rw [Nat.mul_assoc, Nat.mul_comm (q + 1) G, Nat.mul_add, Nat.mul_one, Nat.mul_add]
    generalize G * q = Y at *
    by_cases h1 : G < 2 * r
    · simp only [h1, decide_true, Bool.true_or, Bool.toNat_true, hm2]
      refine ⟨by omega, by omega, fun _ => by omega, fun _ => by omega⟩
    · by_cases h2 : G = 2 * r
      · by_cases h3 : q % 2 = 1
        · have : (decide (G < 2 * r) || (G == 2 * r && q % 2 == 1)).toNat = 1 := by simp [← h2, h3]
          rw [this, hm2]
          refine ⟨by omega, by omega, fun _ => by omega, fun _ => by omega⟩
        · have : (decide (G < 2 * r) || (G == 2 * r && q % 2 == 1)).toNat = 0 := by simp [← h2, h3]
          rw [this, Nat.add_zero, hm]
          refine ⟨by omega, by omega, fun _ => by omega, fun _ => by omega⟩
      · have : (decide (G < 2 * r) || (G == 2 * r && q % 2 == 1)).toNat = 0 := by simp [h1, h2]
        rw [this, Nat.add_zero, hm]
        refine ⟨by omega, by omega, fun _ => by omega, fun _ => by omega⟩
  · have e : g = n.log2 + 2 := by omega
    have hn : n < 2 ^ (n.log2 + 1) := Nat.lt_log2_self
    have h2 : 2 ^ g = 2 * 2 ^ (n.log2 + 1) := by rw [e, show n.log2 + 2 = (n.log2 + 1) + 1 by omega, Nat.pow_succ, Nat.mul_comm]
    have h3 : 2 ^ g ≤ 2 ^ drop := Nat.pow_le_pow_right (by omega) (by omega)
    have q0 : n / 2 ^ g = 0 := Nat.div_eq_of_lt (by omega)
    have r0 : n % 2 ^ g = n := Nat.mod_eq_of_lt (by omega)
    have : (decide (2 ^ g < 2 * (n % 2 ^ g)) || (2 ^ g == 2 * (n % 2 ^ g) && n / 2 ^ g % 2 == 1)).toNat = 0 := by
      rw [r0]; simp; omega
    rw [this, q0]
    refine ⟨by omega, by omega, fun _ => by omega, fun _ => by omega⟩
theorem Above.down {a b r r' : Nat} (h : Above a b r) (hb : 0 < b) (hr : r' < r) : Above a b r' := by
  left
  have h1 := mg_lt hr
  have h2 := mg_lt (show r' + 1 < r + 1 by omega)
  have h3 : b * (mg r' + mg (r' + 1)) < b * (mg r + mg (r + 1)) := Nat.mul_lt_mul_of_pos_left (by omega) hb
  rcases h with h | ⟨h, _⟩ <;> omega
set_option maxHeartbeats 2000000 in
theorem rnd_core (a b n G e k : Nat) (hb : 0 < b) (hG : 0 < G) (hrel : n * 2 ^ e * b = a * G) (c1 : 2 * k * G ≤ 2 * n + G) (c2 : 2 * n ≤ 2 * k * G + G)
    (c3 : 2 * k * G = 2 * n + G → k % 2 = 0) (c4 : 2 * n = 2 * k * G + G → k % 2 = 0) (hn : n < 2 * BB * G) (he : e = 0 ∨ BB * G ≤ n) : Rnd a b (min (e * BB + k) II) := by
  have hE : 0 < 2 ^ e := Nat.two_pow_pos _
  have hEb : 0 < 2 ^ e * b := Nat.mul_pos hE hb
  have hk : k ≤ 2 * BB := by
    apply Nat.le_of_lt_succ
    apply Nat.lt_of_mul_lt_mul_right (a := 2 * G)
    have e1 : k * (2 * G) = 2 * k * G := by rw [← Nat.mul_assoc, Nat.mul_comm k 2]
    have e2 : (2 * BB + 1) * (2 * G) = 2 * (2 * BB * G) + 2 * G := by rw [Nat.add_mul, Nat.one_mul, Nat.mul_left_comm]
    rw [e1, Nat.succ_eq_add_one, e2]; omega
  have hk2 : e = 0 ∨ BB ≤ k := by
    rcases he with he | he
    · exact .inl he
    · right
      apply Nat.le_of_lt_succ
      apply Nat.lt_of_mul_lt_mul_right (a := 2 * G)
      have e1 : BB * (2 * G) = 2 * (BB * G) := by rw [Nat.mul_left_comm]
      have e2 : (k + 1) * (2 * G) = 2 * k * G + 2 * G := by rw [Nat.add_mul, Nat.one_mul, ← Nat.mul_assoc, Nat.mul_comm k 2]
      rw [e1, Nat.succ_eq_add_one, e2]; omega
  have hmid := mg_at e k hk hk2
  -- what lies above
  have hup : ¬ Above a b (e * BB + k) := by
    have hS : (2 * k + 1) * 2 ^ e ≤ mg (e * BB + k) + mg (e * BB + k + 1) := by
      have h1 : (k + 1) * 2 ^ e ≤ mg (e * BB + k + 1) := by
        by_cases h : k < 2 * BB
        · rw [show e * BB + k + 1 = e * BB + (k + 1) by omega, mg_at e (k + 1) (by omega) (by omega)]; exact Nat.le_refl _
        · have hk' : k = 2 * BB := by omega
          rw [show e * BB + k + 1 = (e + 1) * BB + (BB + 1) by rw [hk', Nat.add_mul]; omega, mg_at (e + 1) (BB + 1) (by decide) (by omega), hk', Nat.pow_succ, Nat.mul_comm (2 ^ e) 2, ← Nat.mul_assoc]
          exact Nat.mul_le_mul_right _ (by decide)
      rw [hmid]
      calc (2 * k + 1) * 2 ^ e = k * 2 ^ e + (k + 1) * 2 ^ e := by rw [← Nat.add_mul]; congr 1; omega
        _ ≤ _ := Nat.add_le_add_left h1 _
    unfold Above
    generalize mg (e * BB + k) + mg (e * BB + k + 1) = S at *
    have h2 : 2 * a * G ≤ (2 * k + 1) * 2 ^ e * b * G := by
      calc 2 * a * G = (2 * n) * (2 ^ e * b) := by rw [Nat.mul_assoc, ← hrel]; simp only [Nat.mul_assoc]
        _ ≤ (2 * k * G + G) * (2 ^ e * b) := Nat.mul_le_mul_right _ c2
        _ = _ := by rw [show 2 * k * G + G = (2 * k + 1) * G by rw [Nat.add_mul, Nat.one_mul], Nat.mul_assoc, Nat.mul_comm G, ← Nat.mul_assoc, ← Nat.mul_assoc]
    have h3 : 2 * a ≤ (2 * k + 1) * 2 ^ e * b := Nat.le_of_mul_le_mul_right h2 hG
    have h4 : (2 * k + 1) * 2 ^ e * b ≤ b * S := by rw [Nat.mul_comm]; exact Nat.mul_le_mul_left _ hS
    rintro (h | ⟨h, hodd⟩)
    · omega
    · have h5 : 2 * a = (2 * k + 1) * 2 ^ e * b := by omega
      have h6 : (2 * n) * (2 ^ e * b) = (2 * k * G + G) * (2 ^ e * b) := by
        calc (2 * n) * (2 ^ e * b) = 2 * a * G := by rw [Nat.mul_assoc 2 a, ← hrel]; simp only [Nat.mul_assoc]
          _ = (2 * k + 1) * 2 ^ e * b * G := by rw [h5]
          _ = _ := by rw [show 2 * k * G + G = (2 * k + 1) * G by rw [Nat.add_mul, Nat.one_mul], Nat.mul_assoc _ G, Nat.mul_comm G, ← Nat.mul_assoc, ← Nat.mul_assoc]
      have h7 := c4 (Nat.eq_of_mul_eq_mul_right hEb h6)
      simp only [BB] at hodd; omega
  have hdn : ∀ r0, r0 + 1 = e * BB + k → Above a b r0 := by
    intro r0 hr0
    by_cases hA : 1 ≤ k ∧ (e = 0 ∨ BB ≤ k - 1)
    · have e1 : r0 = e * BB + (k - 1) := by omega
      have m0 := mg_at e (k - 1) (by omega) hA.2
      have hS : mg r0 + mg (r0 + 1) = (2 * k - 1) * 2 ^ e := by
        rw [hr0, hmid, e1, m0, ← Nat.add_mul]; congr 1; omega
      unfold Above
      rw [hS]
      have h2 : b * ((2 * k - 1) * 2 ^ e) * G ≤ 2 * a * G := by
        calc b * ((2 * k - 1) * 2 ^ e) * G = ((2 * k - 1) * G) * (2 ^ e * b) := by rw [Nat.mul_comm b, Nat.mul_assoc, Nat.mul_assoc, Nat.mul_assoc, Nat.mul_left_comm G, Nat.mul_comm b G]
          _ ≤ (2 * n) * (2 ^ e * b) := Nat.mul_le_mul_right _ (by rw [Nat.sub_mul, Nat.one_mul]; omega)
          _ = 2 * a * G := by rw [Nat.mul_assoc 2 a, ← hrel]; simp only [Nat.mul_assoc]
      rcases Nat.lt_or_eq_of_le (Nat.le_of_mul_le_mul_right h2 hG) with h | h
      · exact .inl h
      · right
        refine ⟨h, ?_⟩
        have h6 : ((2 * k - 1) * G) * (2 ^ e * b) = (2 * n) * (2 ^ e * b) := by
          calc ((2 * k - 1) * G) * (2 ^ e * b) = b * ((2 * k - 1) * 2 ^ e) * G := by rw [Nat.mul_comm b, Nat.mul_assoc, Nat.mul_assoc, Nat.mul_assoc, Nat.mul_left_comm G, Nat.mul_comm b G]
            _ = 2 * a * G := by rw [h]
            _ = (2 * n) * (2 ^ e * b) := by rw [Nat.mul_assoc 2 a, ← hrel]; simp only [Nat.mul_assoc]
        have h7 := Nat.eq_of_mul_eq_mul_right hEb h6
        have h8 : 2 * k * G = 2 * n + G := by
          have hg : G ≤ 2 * k * G := Nat.le_mul_of_pos_left _ (by omega)
          rw [Nat.sub_mul, Nat.one_mul] at h7
          generalize 2 * k * G = T at *
          omega
        have h9 := c3 h8
        have h10 := hA.1
        simp only [BB] at e1; omega
    · by_cases hk0 : k = 0
      · rcases hk2 with h | h
        · subst h; omega
        · simp only [BB] at h; omega
      · obtain ⟨e', rfl⟩ : ∃ e', e = e' + 1 := ⟨e - 1, by omega⟩
        have hkB : k = BB := by omega
        have e1 : r0 = e' * BB + (2 * BB - 1) := by rw [Nat.add_mul] at hr0; simp only [BB] at *; omega
        have m0 := mg_at e' (2 * BB - 1) (by decide) (by right; decide)
        have hn2 : BB * G ≤ n := by rcases he with h | h; omega; exact h
        left
        rw [hr0, hmid, e1, m0, hkB]
        have h2 : (4 * BB * 2 ^ e' * b) * G ≤ (2 * a) * G := by
          calc (4 * BB * 2 ^ e' * b) * G = (2 * (BB * G)) * (2 ^ (e' + 1) * b) := by
                rw [Nat.pow_succ, show 4 * BB = 2 * BB * 2 by decide]
                simp only [Nat.mul_assoc, Nat.mul_comm, Nat.mul_left_comm]
            _ ≤ (2 * n) * (2 ^ (e' + 1) * b) := Nat.mul_le_mul_right _ (Nat.mul_le_mul_left _ hn2)
            _ = (2 * a) * G := by rw [Nat.mul_assoc 2 a, ← hrel]; simp only [Nat.mul_assoc]
        have h3 := Nat.le_of_mul_le_mul_right h2 hG
        refine Nat.lt_of_lt_of_le ?_ h3
        rw [Nat.pow_succ, Nat.mul_comm b, Nat.mul_comm (2 ^ e') 2, ← Nat.mul_assoc BB, ← Nat.add_mul]
        exact Nat.mul_lt_mul_of_pos_right (Nat.mul_lt_mul_of_pos_right (by decide) (Nat.two_pow_pos _)) hb
  refine ⟨Nat.min_le_right .., fun r hr => ?_⟩
  constructor
  · intro h
    have h' : r < e * BB + k := Nat.lt_of_lt_of_le h (Nat.min_le_left ..)
    obtain ⟨r0, hr0⟩ : ∃ r0, r0 + 1 = e * BB + k := ⟨e * BB + k - 1, Nat.succ_pred_eq_of_pos (Nat.lt_of_le_of_lt (Nat.zero_le _) h')⟩
    rcases Nat.lt_or_eq_of_le (show r ≤ r0 from Nat.le_of_lt_succ (by rw [Nat.succ_eq_add_one, hr0]; exact h')) with g | g
    · exact (hdn r0 hr0).down hb g
    · rw [g]; exact hdn r0 hr0
  · intro h
    rcases Nat.lt_or_ge r (e * BB + k) with g | g
    · exact Nat.lt_min.2 ⟨g, hr⟩
    · exfalso
      rcases Nat.lt_or_eq_of_le g with g | g
      · exact hup (h.down hb g)
      · exact hup (by rw [g]; exact h)
def fa (m : Nat) (p : Int) : Nat := m * 2 ^ (p + 1074).toNat
def fb (p : Int) : Nat := 2 ^ (-1074 - p).toNat
theorem fb_pos (p : Int) : 0 < fb p := Nat.two_pow_pos _
theorem nearest_rnd (neg : Bool) (m : Nat) (p : Int) : ∃ R, double.nearest neg m p = double.word neg R ∧ Rnd (fa m p) (fb p) R := by
  by_cases hm : m = 0
  · subst hm
    refine ⟨0, by unfold Format.nearest; rw [if_pos rfl], ?_⟩
    have := (Rnd.exact (s := 0) (by decide)).scale (fb p) (fb_pos p)
    rw [mg_zero, Nat.zero_mul, Nat.one_mul] at this
    unfold fa; rw [Nat.zero_mul]; exact this
  · have hL : double.leastPlace = -1074 := by decide
    have hB : double.binade = BB := by decide
    have hI : double.infRung = II := by decide
    have hF : double.fractionBits = 52 := rfl
    unfold Format.nearest
    rw [if_neg hm]
    dsimp only
    rw [hL, hB, hI, hF]
    obtain ⟨last, hlast⟩ : ∃ last, last = max (p + (m.log2 : Int) - (52 : Nat)) (-1074) := ⟨_, rfl⟩
    rw [← hlast]
    refine ⟨_, rfl, ?_⟩
    obtain ⟨c1, c2, c3, c4⟩ := cut_even neg (m <<< (p - last).toNat) (last - p).toNat
    have hpw : ∀ x y z u v : Nat, x + y + z = u + v → m * 2 ^ x * 2 ^ y * 2 ^ z = m * 2 ^ u * 2 ^ v := by
      intro x y z u v h
      rw [Nat.mul_assoc, Nat.mul_assoc, Nat.mul_assoc, ← Nat.pow_add, ← Nat.pow_add, ← Nat.pow_add, show x + (y + z) = u + v by omega]
    refine rnd_core _ _ _ (2 ^ (last - p).toNat) _ _ (fb_pos p) (Nat.two_pow_pos _) ?_ c1 c2 c3 c4 ?_ ?_
    · rw [Nat.shiftLeft_eq]; unfold fa fb
      refine hpw _ _ _ _ _ ?_
      omega
    · rw [Nat.shiftLeft_eq]
      have h1 : m < 2 ^ (m.log2 + 1) := Nat.lt_log2_self
      have h2 : m * 2 ^ (p - last).toNat < 2 ^ (m.log2 + 1) * 2 ^ (p - last).toNat := Nat.mul_lt_mul_of_pos_right h1 (Nat.two_pow_pos _)
      refine Nat.lt_of_lt_of_le h2 ?_
      rw [show 2 * BB = 2 ^ 53 by decide, ← Nat.pow_add, ← Nat.pow_add]
      exact Nat.pow_le_pow_right (by omega) (by omega)
    · by_cases he : (last - -1074).toNat = 0
      · exact .inl he
      · right
        rw [Nat.shiftLeft_eq]
        have h1 : 2 ^ m.log2 ≤ m := Nat.log2_self_le hm
        have h2 : 2 ^ m.log2 * 2 ^ (p - last).toNat ≤ m * 2 ^ (p - last).toNat := Nat.mul_le_mul_right _ h1
        refine Nat.le_trans ?_ h2
        rw [show BB = 2 ^ 52 by decide, ← Nat.pow_add, ← Nat.pow_add]
        exact Nat.pow_le_pow_right (by omega) (by omega)
abbrev SW : Nat := 9223372036854775808
def rung (x : Nat) : Nat := x % SW
def sgn (x : Nat) : Bool := x / SW % 2 == 1
def nanb (x : Nat) : Bool := decide (II < rung x)
def inf (x : Nat) : Prop := rung x = II
def fin (x : Nat) : Prop := rung x < II
def key (x : Nat) : Int := if sgn x then -(rung x : Int) else (rung x : Int)
def mv (x : Nat) : Int := if sgn x then -(mg (rung x) : Int) else (mg (rung x) : Int)
theorem cases3 (x : Nat) : nanb x = true ∨ inf x ∨ fin x := by unfold nanb inf fin; simp only [decide_eq_true_eq]; omega
theorem fin.not_nan {x : Nat} (h : fin x) : nanb x = false := by unfold nanb fin at *; simp only [decide_eq_false_iff_not]; omega
theorem inf.not_nan {x : Nat} (h : inf x) : nanb x = false := by unfold nanb inf at *; simp only [decide_eq_false_iff_not]; omega
theorem read_eq (x : Nat) : double.read x = if rung x < BB then .number (sgn x) (rung x) (-1074) else if rung x < II then .number (sgn x) (BB + rung x % BB) (-1074 + ((rung x / BB - 1 : Nat) : Int)) else if rung x = II then .infinity (sgn x) else .nan (sgn x) (rung x - II) := by
  have hL : double.leastPlace = -1074 := by decide
  have hB : double.binade = BB := by decide
  have hI : double.infRung = II := by decide
  have hS : double.signWeight = SW := by decide
  unfold Format.read
  dsimp only
  rw [hL, hB, hI, hS]
  rfl
theorem read_fin {x : Nat} (h : fin x) : ∃ m p, double.read x = .number (sgn x) m p ∧ -1074 ≤ p ∧ m * 2 ^ (p + 1074).toNat = mg (rung x) := by
  rw [read_eq]
  unfold mg
  by_cases h1 : rung x < BB
  · refine ⟨rung x, -1074, by rw [if_pos h1], Int.le_refl _, ?_⟩
    rw [if_pos h1]; simp
  · refine ⟨_, _, by rw [if_neg h1, if_pos (show rung x < II from h)], by omega, ?_⟩
    rw [if_neg h1, show (-1074 + ((rung x / BB - 1 : Nat) : Int) + 1074).toNat = rung x / BB - 1 by omega]
theorem read_inf {x : Nat} (h : inf x) : double.read x = .infinity (sgn x) := by
  have h' : rung x = II := h
  rw [read_eq, if_neg (by rw [h']; decide), if_neg (by omega), if_pos h']
theorem read_nan {x : Nat} (h : nanb x = true) : double.read x = .nan (sgn x) (rung x - II) := by
  have h' : II < rung x := by simpa [nanb] using h
  rw [read_eq, if_neg (by simp only [BB, II] at *; omega), if_neg (by omega), if_neg (by omega)]
theorem word_eq (s : Bool) (R : Nat) : double.word s R = if s then SW + R else R := by
  have hS : double.signWeight = SW := by decide
  unfold Format.word; rw [hS]
theorem rung_word (s : Bool) {R : Nat} (h : R ≤ II) : rung (double.word s R) = R := by
  rw [word_eq]; unfold rung; simp only [SW, II] at *; cases s <;> simp <;> omega
theorem sgn_word (s : Bool) {R : Nat} (h : R ≤ II) : sgn (double.word s R) = s := by
  rw [word_eq]; unfold sgn; simp only [SW, II] at *; cases s <;> simp <;> omega
theorem key_word (s : Bool) {R : Nat} (h : R ≤ II) : key (double.word s R) = if s then -(R : Int) else R := by
  unfold key; rw [rung_word s h, sgn_word s h]
theorem nanb_word (s : Bool) {R : Nat} (h : R ≤ II) : nanb (double.word s R) = false := by
  unfold nanb; rw [rung_word s h]; simp; omega
theorem cmp_of {a b a' b' : Int} (h1 : a < b ↔ a' < b') (h2 : a = b ↔ a' = b') : compare a b = compare a' b' := by
  show compareOfLessAndEq a b = compareOfLessAndEq a' b'
  unfold compareOfLessAndEq
  by_cases g1 : a < b
  · rw [if_pos g1, if_pos (h1.1 g1)]
  · rw [if_neg g1, if_neg (fun g => g1 (h1.2 g))]
    by_cases g2 : a = b
    · rw [if_pos g2, if_pos (h2.1 g2)]
    · rw [if_neg g2, if_neg (fun g => g2 (h2.2 g))]
theorem signed_val {s : Bool} {m : Nat} {i base : Int} (h1 : -1074 ≤ base) (h2 : base ≤ i) : signed s m (i - base).toNat * ((2 ^ (base + 1074).toNat : Nat) : Int) = if s then -((m * 2 ^ (i + 1074).toNat : Nat) : Int) else ((m * 2 ^ (i + 1074).toNat : Nat) : Int) := by
  have e : m * 2 ^ (i - base).toNat * 2 ^ (base + 1074).toNat = m * 2 ^ (i + 1074).toNat := by
    rw [Nat.mul_assoc, ← Nat.pow_add]; congr 2; omega
  unfold signed
  rw [Nat.shiftLeft_eq, ← e]
  cases s
  · simp
  · simp [Int.neg_mul]
theorem mg_key {r s : Nat} : ((mg r : Int) < mg s ↔ (r : Int) < s) ∧ ((mg r : Int) = mg s ↔ (r : Int) = s) := by
  constructor
  · rw [Int.ofNat_lt, Int.ofNat_lt]; exact mg_lt_iff
  · constructor
    · intro h
      have h' : mg r = mg s := by omega
      rcases Nat.lt_trichotomy r s with g | g | g
      · have := mg_lt g; omega
      · omega
      · have := mg_lt g; omega
    · intro h
      have : r = s := by omega
      rw [this]
theorem mv_lt_iff (x y : Nat) : (mv x < mv y ↔ key x < key y) ∧ (mv x = mv y ↔ key x = key y) := by
  have p1 : ∀ r, 0 < r → 0 < mg r := fun r h => by have := mg_lt h; rw [mg_zero] at this; exact this
  have h1 := @mg_key (rung x) (rung y)
  have h2 := @mg_key (rung y) (rung x)
  have a1 : rung x = 0 → mg (rung x) = 0 := fun h => by rw [h]; exact mg_zero
  have a2 : rung y = 0 → mg (rung y) = 0 := fun h => by rw [h]; exact mg_zero
  have b1 := p1 (rung x)
  have b2 := p1 (rung y)
  unfold mv key
  generalize rung x = r at *
  generalize rung y = s at *
  generalize mg r = u at *
  generalize mg s = v at *
  cases sgn x <;> cases sgn y <;> simp <;> omega
theorem order_key (x y : Nat) : double.order x y = if nanb x || nanb y then none else some (compare (key x) (key y)) := by
  unfold Format.order
  rcases cases3 x with hx | hx | hx
  · rw [read_nan hx, hx]; rfl
  · rw [hx.not_nan, read_inf hx]
    rcases cases3 y with hy | hy | hy
    · rw [read_nan hy, hy]; rfl
    · rw [hy.not_nan, read_inf hy]
      unfold key
      rw [show rung x = II from hx, show rung y = II from hy]
      cases sgn x <;> cases sgn y <;> rfl
    · obtain ⟨m, p, e, _⟩ := read_fin hy
      rw [hy.not_nan, e]
      have hx' : rung x = II := hx
      have hy' : rung y < II := hy
      show some (if sgn x then Ordering.lt else .gt) = some _
      congr 1
      show _ = compareOfLessAndEq _ _
      unfold compareOfLessAndEq key
      simp only [II] at *
      cases sgn x <;> cases sgn y <;> simp <;> (repeat rw [if_neg (by omega)]) <;> (try rw [if_pos (by omega)]) <;> (try simp) <;> (try omega)
  · obtain ⟨m, p, e, hp, hm⟩ := read_fin hx
    rw [hx.not_nan, e]
    rcases cases3 y with hy | hy | hy
    · rw [read_nan hy, hy]; rfl
    · rw [hy.not_nan, read_inf hy]
      have hx' : rung x < II := hx
      have hy' : rung y = II := hy
      show some (if sgn y then Ordering.gt else .lt) = some _
      congr 1
      show _ = compareOfLessAndEq _ _
      unfold compareOfLessAndEq key
      simp only [II] at *
      cases sgn x <;> cases sgn y <;> simp <;> (repeat rw [if_neg (by omega)]) <;> (try rw [if_pos (by omega)]) <;> (try simp) <;> (try omega)
    · obtain ⟨n, q, e', hq, hn⟩ := read_fin hy
      rw [hy.not_nan, e']
      show some (compare _ _) = some _
      congr 1
      have hb : -1074 ≤ min p q := by omega
      have v1 := signed_val (s := sgn x) (m := m) (i := p) hb (by omega)
      have v2 := signed_val (s := sgn y) (m := n) (i := q) hb (by omega)
      rw [hm] at v1
      rw [hn] at v2
      have hc : (0 : Int) < ((2 ^ (min p q + 1074).toNat : Nat) : Int) := by have := Nat.two_pow_pos (min p q + 1074).toNat; omega
      obtain ⟨k1, k2⟩ := mv_lt_iff x y
      refine cmp_of ((?_ : _ ↔ mv x < mv y).trans k1) ((?_ : _ ↔ mv x = mv y).trans k2)
      · unfold mv; rw [← v1, ← v2]; exact ⟨fun h => Int.mul_lt_mul_of_pos_right h hc, fun h => Int.lt_of_mul_lt_mul_right h (by omega)⟩
      · unfold mv; rw [← v1, ← v2]; exact ⟨fun h => by rw [h], fun h => Int.eq_of_mul_eq_mul_right (by omega) h⟩
def RndZ (A : Int) (b : Nat) (k : Int) : Prop := ∃ R, Rnd A.natAbs b R ∧ (0 ≤ A → k = R) ∧ (A ≤ 0 → k = -(R : Int))
theorem Rnd.uniq {a b R R' : Nat} (h : Rnd a b R) (h' : Rnd a b R') (hb : 0 < b) : R = R' := Nat.le_antisymm (h.mono h' hb hb (Nat.le_refl _)) (h'.mono h hb hb (Nat.le_refl _))
theorem Rnd.zero {b : Nat} (hb : 0 < b) : Rnd 0 b 0 := by
  have := (Rnd.exact (s := 0) (by decide)).scale b hb
  rwa [mg_zero, Nat.zero_mul, Nat.one_mul] at this
theorem RndZ.mono {A A' : Int} {b b' : Nat} {k k' : Int} (h : RndZ A b k) (h' : RndZ A' b' k') (hb : 0 < b) (hb' : 0 < b') (hab : A * b' ≤ A' * b) : k ≤ k' := by
  obtain ⟨R, hR, h1, h2⟩ := h
  obtain ⟨R', hR', h1', h2'⟩ := h'
  have hbi : (0 : Int) < b := by omega
  have hbi' : (0 : Int) < b' := by omega
  rcases Int.lt_or_le A 0 with g | g
  · have e1 := h2 (by omega)
    rcases Int.lt_or_le 0 A' with g' | g'
    · have e2 := h1' (by omega); omega
    · have e2 := h2' g'
      have : R' ≤ R := by
        refine hR'.mono hR hb' hb ?_
        have e3 : (A.natAbs : Int) = -A := by omega
        have e4 : (A'.natAbs : Int) = -A' := by omega
        have : ((A'.natAbs * b : Nat) : Int) ≤ ((A.natAbs * b' : Nat) : Int) := by
          rw [Int.natCast_mul, Int.natCast_mul, e3, e4, Int.neg_mul, Int.neg_mul]; omega
        omega
      omega
  · have e1 := h1 g
    have g' : 0 ≤ A' := by
      rcases Int.lt_or_le A' 0 with q | q
      · exfalso
        have q1 : A' * b < 0 := Int.mul_neg_of_neg_of_pos q hbi
        have q2 : 0 ≤ A * b' := Int.mul_nonneg g (by omega)
        omega
      · exact q
    have e2 := h1' g'
    have : R ≤ R' := by
      refine hR.mono hR' hb hb' ?_
      have e3 : (A.natAbs : Int) = A := by omega
      have e4 : (A'.natAbs : Int) = A' := by omega
      have : ((A.natAbs * b' : Nat) : Int) ≤ ((A'.natAbs * b : Nat) : Int) := by
        rw [Int.natCast_mul, Int.natCast_mul, e3, e4]; omega
      omega
    omega
theorem RndZ.exact {x : Nat} (h : nanb x = false) : RndZ (mv x) 1 (key x) := by
  have h' : rung x ≤ II := by unfold nanb at h; simp at h; omega
  refine ⟨rung x, ?_, ?_, ?_⟩
  · have e : (mv x).natAbs = mg (rung x) := by unfold mv; cases sgn x <;> simp
    rw [e]; exact Rnd.exact h'
  · intro g
    unfold mv at g; unfold key
    cases hs : sgn x
    · simp
    · rw [hs] at g
      have : mg (rung x) = 0 := by simp at g; omega
      have h0 : rung x = 0 := by
        rcases Nat.eq_zero_or_pos (rung x) with q | q
        · exact q
        · have := mg_lt q; rw [mg_zero] at this; omega
      simp [h0]
  · intro g
    unfold mv at g; unfold key
    cases hs : sgn x
    · rw [hs] at g
      have : mg (rung x) = 0 := by simp at g; omega
      have h0 : rung x = 0 := by
        rcases Nat.eq_zero_or_pos (rung x) with q | q
        · exact q
        · have := mg_lt q; rw [mg_zero] at this; omega
      simp [h0]
    · simp
theorem nearest_z (neg : Bool) (m : Nat) (p : Int) : nanb (double.nearest neg m p) = false ∧ RndZ (if neg then -(fa m p : Int) else fa m p) (fb p) (key (double.nearest neg m p)) := by
  obtain ⟨R, e, hR⟩ := nearest_rnd neg m p
  rw [e]
  refine ⟨nanb_word _ hR.1, R, ?_, ?_, ?_⟩
  · have : (if neg then -(fa m p : Int) else fa m p).natAbs = fa m p := by cases neg <;> simp
    rw [this]; exact hR
  · intro g
    rw [key_word _ hR.1]
    cases neg
    · simp
    · have h0 : fa m p = 0 := by simp at g; omega
      rw [h0] at hR
      have := hR.uniq (Rnd.zero (fb_pos p)) (fb_pos p)
      simp [this]
  · intro g
    rw [key_word _ hR.1]
    cases neg
    · have h0 : fa m p = 0 := by simp at g; omega
      rw [h0] at hR
      have := hR.uniq (Rnd.zero (fb_pos p)) (fb_pos p)
      simp [this]
    · simp
theorem natAbs_scale (t : Int) (b : Int) : (if t < 0 then -(fa t.natAbs b : Int) else fa t.natAbs b) = t * ((2 ^ (b + 1074).toNat : Nat) : Int) := by
  unfold fa
  rw [Int.natCast_mul]
  by_cases h : t < 0
  · rw [if_pos h, show (t.natAbs : Int) = -t by omega, Int.neg_mul, Int.neg_neg]
  · rw [if_neg h, show (t.natAbs : Int) = t by omega]
theorem fb_one {p : Int} (h : -1074 ≤ p) : fb p = 1 := by
  unfold fb; rw [show (-1074 - p).toNat = 0 by omega]
theorem sum_fin {s t : Bool} {m n : Nat} {p q : Int} (hp : -1074 ≤ p) (hq : -1074 ≤ q) {A B : Nat} (hm : m * 2 ^ (p + 1074).toNat = A) (hn : n * 2 ^ (q + 1074).toNat = B) :
    ∃ r, ((Datum.number s m p).sum (.number t n q)).map double.write = some r ∧ nanb r = false ∧ RndZ ((if s then -(A : Int) else A) + (if t then -(B : Int) else B)) 1 (key r) := by
  have hb : -1074 ≤ min p q := by omega
  have v1 := signed_val (s := s) (m := m) (i := p) hb (by omega)
  have v2 := signed_val (s := t) (m := n) (i := q) hb (by omega)
  rw [hm] at v1
  rw [hn] at v2
  refine ⟨_, rfl, ?_⟩
  show nanb (double.nearest _ _ _) = false ∧ RndZ _ 1 (key (double.nearest _ _ _))
  generalize hT : signed s m (p - min p q).toNat + signed t n (q - min p q).toNat = T
  have hv : T * ((2 ^ (min p q + 1074).toNat : Nat) : Int) = (if s then -(A : Int) else A) + (if t then -(B : Int) else B) := by
    rw [← hT, Int.add_mul, v1, v2]
  obtain ⟨h1, h2⟩ := nearest_z (if T = 0 then s && t else T < 0) T.natAbs (min p q)
  refine ⟨h1, ?_⟩
  rw [fb_one hb] at h2
  by_cases h0 : T = 0
  · subst h0
    rw [Int.zero_mul] at hv
    rw [← hv]
    have e : fa (Int.natAbs 0) (min p q) = 0 := by unfold fa; simp
    rw [e] at h2
    simpa using h2
  · simp only [if_neg h0] at h2 ⊢
    rw [← hv, ← natAbs_scale]
    simpa using h2
theorem mv_def (x : Nat) : mv x = if sgn x then -(mg (rung x) : Int) else (mg (rung x) : Int) := rfl
theorem add_fin {x y : Nat} (hx : fin x) (hy : fin y) : ∃ r, double.add x y = some r ∧ nanb r = false ∧ RndZ (mv x + mv y) 1 (key r) := by
  obtain ⟨m, p, e, hp, hm⟩ := read_fin hx
  obtain ⟨n, q, e', hq, hn⟩ := read_fin hy
  unfold Format.add
  rw [e, e', mv_def, mv_def]
  exact sum_fin hp hq hm hn
theorem sub_fin {x y : Nat} (hx : fin x) (hy : fin y) : ∃ r, double.sub x y = some r ∧ nanb r = false ∧ RndZ (mv x - mv y) 1 (key r) := by
  obtain ⟨m, p, e, hp, hm⟩ := read_fin hx
  obtain ⟨n, q, e', hq, hn⟩ := read_fin hy
  unfold Format.sub
  rw [e, e', mv_def, mv_def]
  have := sum_fin (s := sgn x) (t := !sgn y) hp hq hm hn
  rw [Int.sub_eq_add_neg]
  cases h : sgn y
  · rw [h] at this; simpa [Datum.opposite] using this
  · rw [h] at this; simpa [Datum.opposite] using this
theorem add_nan {x y : Nat} (h : nanb x = true ∨ nanb y = true) : double.add x y = none := by
  unfold Format.add
  rcases h with h | h
  · rw [read_nan h]; rfl
  · rw [read_nan h]; cases double.read x <;> rfl
theorem word_inf (s : Bool) : nanb (double.word s II) = false ∧ key (double.word s II) = if s then -(II : Int) else II := ⟨nanb_word s (Nat.le_refl _), key_word s (Nat.le_refl _)⟩
theorem key_inf {x : Nat} (h : inf x) : key x = if sgn x then -(II : Int) else II := by unfold key; rw [show rung x = II from h]
theorem write_inf (s : Bool) : double.write (.infinity s) = double.word s II := by
  have hI : double.infRung = II := by decide
  show double.word s double.infRung = _; rw [hI]
theorem add_inf_left {x y : Nat} (hx : inf x) (hy : fin y) : ∃ r, double.add x y = some r ∧ nanb r = false ∧ key r = key x := by
  obtain ⟨n, q, e', hq, hn⟩ := read_fin hy
  unfold Format.add
  rw [read_inf hx, e', key_inf hx]
  exact ⟨_, rfl, by rw [write_inf]; exact (word_inf _).1, by rw [write_inf]; exact (word_inf _).2⟩
theorem add_inf_right {x y : Nat} (hx : fin x) (hy : inf y) : ∃ r, double.add x y = some r ∧ nanb r = false ∧ key r = key y := by
  obtain ⟨n, q, e', hq, hn⟩ := read_fin hx
  unfold Format.add
  rw [read_inf hy, e', key_inf hy]
  exact ⟨_, rfl, by rw [write_inf]; exact (word_inf _).1, by rw [write_inf]; exact (word_inf _).2⟩
theorem add_inf_inf {x y : Nat} (hx : inf x) (hy : inf y) : (sgn x ≠ sgn y ∧ double.add x y = none) ∨ (sgn x = sgn y ∧ ∃ r, double.add x y = some r ∧ nanb r = false ∧ key r = key x) := by
  unfold Format.add
  rw [read_inf hx, read_inf hy, key_inf hx]
  by_cases h : sgn x = sgn y
  · right; refine ⟨h, double.word (sgn x) II, ?_, (word_inf _).1, (word_inf _).2⟩
    rw [← write_inf, ← h]; show Option.map double.write (if sgn x = sgn x then _ else _) = _
    rw [if_pos rfl]; rfl
  · left; exact ⟨h, by show Option.map double.write (if sgn x = sgn y then _ else _) = _; rw [if_neg h]; rfl⟩
theorem key_fin {x : Nat} (h : fin x) : -(II : Int) < key x ∧ key x < II := by
  have h' : rung x < II := h
  unfold key; cases sgn x <;> simp only [if_true, if_false, Bool.false_eq_true] <;> omega
theorem mv_mono {x y : Nat} (h : key x ≤ key y) : mv x ≤ mv y := by
  obtain ⟨h1, h2⟩ := mv_lt_iff x y
  rcases Int.lt_or_eq_of_le h with g | g
  · have := h1.2 g; omega
  · have := h2.2 g; omega
theorem nearest_s (neg : Bool) (m : Nat) (p : Int) : ∃ R, nanb (double.nearest neg m p) = false ∧ Rnd (fa m p) (fb p) R ∧ key (double.nearest neg m p) = if neg then -(R : Int) else R := by
  obtain ⟨R, e, hR⟩ := nearest_rnd neg m p
  rw [e]
  exact ⟨R, nanb_word _ hR.1, hR, key_word _ hR.1⟩
theorem RndZ.ofSign {a b R : Nat} (hb : 0 < b) (s : Bool) (h : Rnd a b R) : RndZ (if s then -(a : Int) else a) b (if s then -(R : Int) else R) := by
  have h0 : a = 0 → R = 0 := fun e => by subst e; exact h.uniq (Rnd.zero hb) hb
  refine ⟨R, by cases s <;> simpa using h, fun g => ?_, fun g => ?_⟩
  · cases s
    · simp
    · have : a = 0 := by simp at g; omega
      simp [h0 this]
  · cases s
    · have : a = 0 := by simp at g; omega
      simp [h0 this]
    · simp
theorem sign_mul (s t : Bool) (a b : Int) : (if s then -a else a) * (if t then -b else b) = if (s ^^ t) then -(a * b) else a * b := by
  cases s <;> cases t <;> simp [Int.neg_mul, Int.mul_neg]
def uu (n : Nat) : Nat := 2 ^ n
theorem uu_pos (n : Nat) : 0 < uu n := Nat.two_pow_pos _
theorem mul_fin {x y : Nat} (hx : fin x) (hy : fin y) : ∃ r, double.mul x y = some r ∧ nanb r = false ∧ RndZ (mv x * mv y) (uu 1074) (key r) := by
  obtain ⟨m, p, e, hp, hm⟩ := read_fin hx
  obtain ⟨n, q, e', hq, hn⟩ := read_fin hy
  unfold Format.mul
  rw [e, e']
  refine ⟨_, rfl, ?_⟩
  show nanb (double.nearest _ _ _) = false ∧ RndZ _ _ (key (double.nearest _ _ _))
  obtain ⟨R, h1, h2, h3⟩ := nearest_s (sgn x ^^ sgn y) (m * n) (p + q)
  refine ⟨h1, ?_⟩
  rw [h3, mv_def, mv_def, sign_mul, ← Int.natCast_mul]
  refine RndZ.ofSign (uu_pos _) _ ?_
  rw [← hm, ← hn]
  have hs := h2.scale (2 ^ (p + q + 2148 - ((p + q + 1074).toNat : Int)).toNat) (Nat.two_pow_pos _)
  have e3 : fa (m * n) (p + q) * 2 ^ (p + q + 2148 - ((p + q + 1074).toNat : Int)).toNat = m * 2 ^ (p + 1074).toNat * (n * 2 ^ (q + 1074).toNat) := by
    unfold fa
    rw [Nat.mul_assoc, ← Nat.pow_add, Nat.mul_mul_mul_comm, ← Nat.pow_add]
    congr 2; omega
  have e4 : fb (p + q) * 2 ^ (p + q + 2148 - ((p + q + 1074).toNat : Int)).toNat = uu 1074 := by
    unfold fb uu
    rw [← Nat.pow_add]
    congr 1; omega
  rw [e3, e4] at hs
  exact hs
theorem mul_nan {x y : Nat} (h : nanb x = true ∨ nanb y = true) : double.mul x y = none := by
  unfold Format.mul
  rcases h with h | h
  · rw [read_nan h]; rfl
  · rw [read_nan h]; cases double.read x <;> rfl
end Go.Proofs.YtokembhfebnjpaaGreat.Flt
