/- The guard's sum: bits within 32 in a row that are turned are seen. No program in sight. -/
import Derived.Test.YtjjoancnkjlaeaaGrdM
namespace Go.Proofs.Ytjjoancnkjlaeaa
open Go.RowKit
set_option linter.unusedVariables false
theorem pow_xor (k a b : Nat) : 2 ^ k * (a ^^^ b) = 2 ^ k * a ^^^ 2 ^ k * b := by
  apply Nat.eq_of_testBit_eq
  intro i
  rw [Nat.testBit_xor, Nat.testBit_two_pow_mul, Nat.testBit_two_pow_mul, Nat.testBit_two_pow_mul, Nat.testBit_xor]
  by_cases h : k ≤ i <;> simp [h]
/-- The number of bytes, the lowest first. -/
def gnum : List Int → Nat
  | [] => 0
  | c :: r => c.toNat ^^^ 2 ^ 8 * gnum r
/-- A register behind bytes, by their number. -/
theorem reg_num : ∀ (l : List Int) (n : Nat), reg n l = stn (8 * l.length) (n ^^^ gnum l)
  | [], n => by simp [reg, gnum, stn]
  | c :: r, n => by
    have h1 : reg n (c :: r) = reg (byt n c.toNat) r := rfl
    rw [h1, reg_num r, gnum, List.length_cons, show 8 * (r.length + 1) = 8 * r.length + 8 by omega, stn_add]
    congr 1
    rw [← Nat.xor_assoc, stn_xor 8, stn_pow]
    rfl
theorem st_ne {n : Nat} (h : n < M32) (h0 : n ≠ 0) : st n ≠ 0 := by
  unfold st
  rcases Nat.mod_two_eq_zero_or_one n with hp | hp
  · rw [if_neg (by omega), Nat.xor_zero]; omega
  · rw [if_pos hp]
    intro e
    have e2 : n / 2 = P32 := by
      have := congrArg (· ^^^ P32) e
      simp only [Nat.xor_assoc, Nat.xor_self, Nat.xor_zero, Nat.zero_xor] at this
      exact this
    unfold M32 at h; unfold P32 at e2; omega
theorem stn_ne : ∀ (k : Nat) {n : Nat}, n < M32 → n ≠ 0 → stn k n ≠ 0
  | 0, n, _, h0 => h0
  | k + 1, n, h, h0 => stn_ne k (st_lt h) (st_ne h h0)
/-- Bits within 32 that are turned turn the register. -/
theorem reg_turned {l m : List Int} (hlen : m.length = l.length) {p mask : Nat} (hm : mask < M32) (h0 : mask ≠ 0) (hp : p ≤ 8 * l.length) (hn : gnum m = gnum l ^^^ 2 ^ p * mask) (n : Nat) : reg n m ≠ reg n l := by
  rw [reg_num, reg_num, hlen, hn, ← Nat.xor_assoc, stn_xor]
  intro e
  have e2 : stn (8 * l.length) (2 ^ p * mask) = 0 := by
    have := congrArg (stn (8 * l.length) (n ^^^ gnum l) ^^^ ·) e
    simp only [← Nat.xor_assoc, Nat.xor_self, Nat.zero_xor] at this
    exact this
  rw [show 8 * l.length = (8 * l.length - p) + p by omega, stn_add, stn_pow] at e2
  exact stn_ne _ hm h0 e2
theorem num_four {s : Nat} (h : s < M32) : gnum (four s) = s := by
  have e1 := split256 s
  have e2 := split256 (s / 256)
  have e3 := split256 (s / 256 / 256)
  have e4 : s / 256 / 256 / 256 < 256 := by unfold M32 at h; omega
  unfold four
  simp only [gnum, Int.toNat_natCast, Nat.mul_zero, Nat.xor_zero]
  rw [show s / 16777216 % 256 = s / 256 / 256 / 256 by omega, show s / 65536 % 256 = s / 256 / 256 % 256 by omega]
  rw [show (2 : Nat) ^ 8 = 256 from rfl, ← e3, ← e2, ← e1]
theorem xor_neg {r : Nat} (h : r < M32) : r ^^^ neg r = 4294967295 := by
  have h2 := congrArg BitVec.toNat (BitVec.xor_allOnes (x := BitVec.ofNat 32 r))
  simp only [BitVec.toNat_xor, BitVec.toNat_not, BitVec.toNat_ofNat, BitVec.toNat_allOnes] at h2
  rw [Nat.mod_eq_of_lt (show r < 2 ^ 32 from h)] at h2
  have e : neg r = r ^^^ (2 ^ 32 - 1) := by rw [h2]; rfl
  rw [e, ← Nat.xor_assoc, Nat.xor_self, Nat.zero_xor]
/-- Guarded bytes leave one register. -/
theorem reg_ok {l : List Int} (hb : Byt l) (h : ok4 l = true) : reg 4294967295 l = stn 32 4294967295 := by
  unfold ok4 at h
  simp only [Bool.and_eq_true, decide_eq_true_eq] at h
  obtain ⟨h4, h5⟩ := h
  obtain ⟨a, ha⟩ : ∃ a, a = l.take (l.length - 4) := ⟨_, rfl⟩
  rw [← ha] at h5
  have hba : Byt a := by rw [ha]; exact hb.take _
  rw [← h5, put4, reg_append, reg_num (four (sum4 a)), num_four (show sum4 a < M32 from more_lt 0 a)]
  have hr : reg 4294967295 a < M32 := reg_lt hba (by decide)
  have e : sum4 a = neg (reg 4294967295 a) := rfl
  rw [e, xor_neg hr]
  rfl
/-- A bit is turned. -/
theorem num_set : ∀ (l : List Int) (j t : Nat), j < l.length → Byt l → gnum (l.set j (((l.getD j 0).toNat ^^^ 2 ^ t : Nat) : Int)) = gnum l ^^^ 2 ^ (8 * j + t)
  | [], j, t, h, _ => by simp at h
  | c :: r, 0, t, h, hb => by
    rw [List.set_cons_zero, gnum, gnum, List.getD_cons_zero, Int.toNat_natCast, Nat.mul_zero, Nat.zero_add, Nat.xor_assoc, Nat.xor_assoc, Nat.xor_comm (2 ^ t)]
  | c :: r, j + 1, t, h, hb => by
    rw [List.set_cons_succ, gnum, gnum, List.getD_cons_succ, num_set r j t (by simpa using h) (fun x hx => hb x (by simp [hx])), pow_xor, ← Nat.xor_assoc, ← Nat.pow_add]
    congr 2
    omega
theorem mod_bit (m k : Nat) : m % 2 ^ (k + 1) = (m % 2 ^ k) ^^^ (if m / 2 ^ k % 2 = 1 then 2 ^ k else 0) := by
  apply Nat.eq_of_testBit_eq
  intro i
  rw [Nat.testBit_xor, Nat.testBit_mod_two_pow, Nat.testBit_mod_two_pow]
  have hb : m.testBit k = decide (m / 2 ^ k % 2 = 1) := by
    rw [Nat.testBit_eq_decide_div_mod_eq]
  by_cases hik : i = k
  · subst hik
    by_cases hq : m / 2 ^ i % 2 = 1
    · rw [if_pos hq, Nat.testBit_two_pow_self]; simp [hb, hq]
    · rw [if_neg hq]; simp [hb, hq]
  · have h2 : (if m / 2 ^ k % 2 = 1 then 2 ^ k else 0).testBit i = false := by
      split
      · rw [Nat.testBit_two_pow]; simp; omega
      · simp
    rw [h2]
    by_cases h3 : i < k
    · simp [h3, show i < k + 1 by omega]
    · simp [h3, show ¬ i < k + 1 by omega]
/-- Behind k of the bits. -/
theorem num_step {l y : List Int} {p k mask : Nat} (hy : gnum y = gnum l ^^^ 2 ^ p * (mask % 2 ^ k)) (hb : Byt y) (hj : (p + k) / 8 < y.length) (hm : mask / 2 ^ k % 2 = 1) :
    gnum (y.set ((p + k) / 8) (((y.getD ((p + k) / 8) 0).toNat ^^^ 2 ^ ((p + k) % 8) : Nat) : Int)) = gnum l ^^^ 2 ^ p * (mask % 2 ^ (k + 1)) := by
  rw [num_set y _ _ hj hb, hy, mod_bit mask k, if_pos hm, pow_xor, Nat.xor_assoc, ← Nat.pow_add]
  congr 3
  omega
theorem num_keep {l y : List Int} {p k mask : Nat} (hy : gnum y = gnum l ^^^ 2 ^ p * (mask % 2 ^ k)) (hm : ¬ mask / 2 ^ k % 2 = 1) : gnum y = gnum l ^^^ 2 ^ p * (mask % 2 ^ (k + 1)) := by
  rw [hy, mod_bit mask k, if_neg hm, Nat.xor_zero]
/-- The burst is seen. -/
theorem burst_seen {l y : List Int} (hl : Byt l) (hy : Byt y) (hok : ok4 l = true) (hlen : y.length = l.length) {p mask : Nat} (hm : mask < M32) (h0 : mask ≠ 0) (hp : p ≤ 8 * l.length) (hn : gnum y = gnum l ^^^ 2 ^ p * (mask % 2 ^ 32)) : ok4 y = false := by
  rw [Nat.mod_eq_of_lt (show mask < 2 ^ 32 from hm)] at hn
  cases h : ok4 y with
  | false => rfl
  | true => exact absurd ((reg_ok hy h).trans (reg_ok hl hok).symm) (reg_turned hlen hm h0 hp hn _)
end Go.Proofs.Ytjjoancnkjlaeaa
