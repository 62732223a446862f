/- The guard's sum: plain law on numbers below 2^32. No program in sight. -/
import Derived.Test.YtokembhfebnjpaaGreatQBaseM
import Derived.Laws.BitsAllLaws
namespace Go.Proofs.YtokembhfebnjpaaGreat
set_option maxRecDepth 20000
open Go.RowKit
set_option linter.unusedVariables false
def P32 : Nat := 3988292384
def st (n : Nat) : Nat := n / 2 ^^^ (if n % 2 = 1 then P32 else 0)
def stn : Nat → Nat → Nat
 | 0, n => n
 | k + 1, n => stn k (st n)
theorem stn_succ : ∀ (k n : Nat), stn (k + 1) n = st (stn k n)
 | 0, n => rfl
 | k + 1, n => by rw [stn, stn_succ k (st n)]; rfl
def M32 : Nat := 4294967296
theorem xor_lt {a b : Nat} (ha : a < M32) (hb : b < M32) : a ^^^ b < M32 := Nat.xor_lt_two_pow (n := 32) ha hb
theorem st_lt {n : Nat} (h : n < M32) : st n < M32 := by
 unfold st
 refine xor_lt (by unfold M32 at *; omega) ?_
 split
 · decide
 · decide
theorem stn_lt : ∀ (k : Nat) {n : Nat}, n < M32 → stn k n < M32
 | 0, n, h => h
 | k + 1, n, h => stn_lt k (st_lt h)
theorem xor_div2 (a b : Nat) : (a ^^^ b) / 2 = a / 2 ^^^ b / 2 := by
 apply Nat.eq_of_testBit_eq
 intro i
 simp [Nat.testBit_xor, Nat.testBit_div_two]
theorem st_xor (a b : Nat) : st (a ^^^ b) = st a ^^^ st b := by
 unfold st
 rw [xor_div2]
 have hm : (a ^^^ b) % 2 = (a + b) % 2 := by
  rcases Nat.mod_two_eq_zero_or_one a with ha | ha <;> rcases Nat.mod_two_eq_zero_or_one b with hb | hb <;>
  · have := Nat.xor_mod_two_eq_one (a := a) (b := b)
    have h3 := Nat.mod_two_eq_zero_or_one (a ^^^ b)
    omega
 have e : ∀ x y p q : Nat, (x ^^^ y) ^^^ (p ^^^ q) = (x ^^^ p) ^^^ (y ^^^ q) := fun x y p q => by
  rw [Nat.xor_assoc, Nat.xor_assoc, ← Nat.xor_assoc y, Nat.xor_comm y p, Nat.xor_assoc p]
 rcases Nat.mod_two_eq_zero_or_one a with ha | ha <;> rcases Nat.mod_two_eq_zero_or_one b with hb | hb
 · rw [if_neg (by omega), if_neg (by omega), if_neg (by omega), Nat.xor_zero, Nat.xor_zero, Nat.xor_zero]
 · rw [if_pos (by omega), if_neg (by omega), if_pos (by omega), ← e, Nat.zero_xor]
 · rw [if_pos (by omega), if_pos (by omega), if_neg (by omega), ← e, Nat.xor_zero]
 · rw [if_neg (by omega), if_pos (by omega), if_pos (by omega), ← e, Nat.xor_self]
theorem stn_xor : ∀ (k a b : Nat), stn k (a ^^^ b) = stn k a ^^^ stn k b
 | 0, a, b => rfl
 | k + 1, a, b => by rw [stn, st_xor, stn_xor k]; rfl
theorem st_zero : st 0 = 0 := rfl
theorem stn_zero : ∀ k, stn k 0 = 0
 | 0 => rfl
 | k + 1 => by rw [stn, st_zero]; exact stn_zero k
theorem st_even (n : Nat) : st (2 * n) = n := by
 unfold st
 rw [if_neg (by omega), Nat.xor_zero]; omega
theorem stn_pow : ∀ (k n : Nat), stn k (2 ^ k * n) = n
 | 0, n => by simp [stn]
 | k + 1, n => by rw [stn, Nat.pow_succ, Nat.mul_comm (2 ^ k) 2, Nat.mul_assoc, st_even]; exact stn_pow k n
def byt (n c : Nat) : Nat := stn 8 (n ^^^ c)
theorem byt_lt {n c : Nat} (h : n < M32) (hc : c < 256) : byt n c < M32 := stn_lt 8 (xor_lt h (by unfold M32; omega))
theorem split256 (n : Nat) : n = (n % 256) ^^^ (256 * (n / 256)) := by
 apply Nat.eq_of_testBit_eq
 intro i
 rw [Nat.testBit_xor, show (256 : Nat) = 2 ^ 8 from rfl, Nat.testBit_mod_two_pow, Nat.testBit_two_pow_mul, Nat.testBit_div_two_pow]
 by_cases h : i < 8
 · simp [h, show ¬ 8 ≤ i by omega]
 · simp [h, show 8 ≤ i by omega, show i - 8 + 8 = i by omega]
theorem byt_table (n c : Nat) : stn 8 ((n % 256) ^^^ c) ^^^ (n / 256) = byt n c := by
 unfold byt
 conv => rhs; rw [split256 n, Nat.xor_assoc, Nat.xor_comm (256 * (n / 256)) c, ← Nat.xor_assoc, stn_xor]
 congr 1
 exact (stn_pow 8 (n / 256)).symm
theorem bit_step (n d : Nat) : (n / 2 ^^^ (if n % 2 = d % 2 then 0 else P32)) ^^^ d / 2 = st (n ^^^ d) := by
 unfold st
 rw [xor_div2]
 have hm : (n ^^^ d) % 2 = (n + d) % 2 := by
  rcases Nat.mod_two_eq_zero_or_one n with ha | ha <;> rcases Nat.mod_two_eq_zero_or_one d with hb | hb <;>
  · have := Nat.xor_mod_two_eq_one (a := n) (b := d)
    have h3 := Nat.mod_two_eq_zero_or_one (n ^^^ d)
    omega
 by_cases h : n % 2 = d % 2
 · rw [if_pos h, if_neg (by omega), Nat.xor_zero, Nat.xor_zero]
 · rw [if_neg h, if_pos (by omega), Nat.xor_assoc, Nat.xor_comm P32, ← Nat.xor_assoc]
def bits8 (c : Nat) : Nat → Nat → Nat
 | 0, n => n
 | k + 1, n => (bits8 c k n) / 2 ^^^ (if (bits8 c k n) % 2 = (c / 2 ^ k) % 2 then 0 else P32)
theorem bits8_st (c n : Nat) : ∀ k, bits8 c k n ^^^ c / 2 ^ k = stn k (n ^^^ c)
 | 0 => by simp [bits8, stn]
 | k + 1 => by
  rw [stn_succ, ← bits8_st c n k, ← bit_step, bits8, Nat.pow_succ, Nat.div_div_eq_div_mul]
theorem bits8_byt (c n : Nat) (hc : c < 256) : bits8 c 8 n = byt n c := by
 have := bits8_st c n 8
 rw [Nat.div_eq_of_lt (show c < 2 ^ 8 by omega), Nat.xor_zero] at this
 exact this
theorem bits8_lt (c n : Nat) (h : n < M32) : ∀ k, bits8 c k n < M32
 | 0 => h
 | k + 1 => by
  have := bits8_lt c n h k
  rw [bits8]
  refine xor_lt (by unfold M32 at *; omega) ?_
  split <;> decide
def reg (n : Nat) (l : List Int) : Nat := l.foldl (fun n c => byt n c.toNat) n
theorem reg_append (n : Nat) (a b : List Int) : reg n (a ++ b) = reg (reg n a) b := List.foldl_append
theorem reg_lt {l : List Int} (hl : Byt l) : ∀ {n : Nat}, n < M32 → reg n l < M32 := by
 induction l with
 | nil => intro n h; exact h
 | cons c r ih => intro n h; exact ih (fun x hx => hl x (by simp [hx])) (byt_lt h (by have := hl c (by simp); omega))
theorem reg_snoc (n : Nat) (l : List Int) (c : Int) : reg n (l ++ [c]) = byt (reg n l) c.toNat := by rw [reg_append]; rfl
def neg (n : Nat) : Nat := 4294967295 - n
theorem neg_neg {n : Nat} (h : n < M32) : neg (neg n) = n := by unfold neg M32 at *; omega
theorem neg_lt (n : Nat) : neg n < M32 := by unfold neg M32; omega
def more (s : Nat) (l : List Int) : Nat := neg (reg (neg s) l)
def sum4 (l : List Int) : Nat := more 0 l
theorem more_lt (s : Nat) (l : List Int) : more s l < M32 := neg_lt _
def four (s : Nat) : List Int := [((s % 256 : Nat) : Int), ((s / 256 % 256 : Nat) : Int), ((s / 65536 % 256 : Nat) : Int), ((s / 16777216 % 256 : Nat) : Int)]
theorem byt_four (s : Nat) : Byt (four s) := by
 intro x hx; simp only [four, List.mem_cons, List.not_mem_nil, or_false] at hx; omega
def put4 (l : List Int) : List Int := l ++ four (sum4 l)
theorem byt_put4 {l : List Int} (h : Byt l) : Byt (put4 l) := h.append (byt_four _)
theorem put4_len (l : List Int) : (put4 l).length = l.length + 4 := by simp [put4, four]
def ok4 (l : List Int) : Bool := decide (4 ≤ l.length) && decide (put4 (l.take (l.length - 4)) = l)
structure Fr where
 ty : Int
 se : Int
 bo : Int
 sq : Int
 ac : Int
 bd : List Int
def frA (f : Fr) (a : Option Addr) (c : Nat) : Array Value := #[.int .i64 f.ty, .int .i64 f.se, .int .i64 f.bo, .int .i64 f.sq, .int .i64 f.ac, .slice a f.bd.length c]
def typedP (ty : Int) : Prop := 1 ≤ ty ∧ ty ≤ 5
def rangeP (se bo sq ac : Int) : Prop := (0 ≤ se ∧ se ≤ 2147483647) ∧ (0 ≤ bo ∧ bo ≤ 2147483647) ∧ (0 ≤ sq ∧ sq ≤ 2147483647) ∧ (0 ≤ ac ∧ ac ≤ 2147483647)
def sayP (ty se bo sq ac n : Int) : Prop :=
 1 ≤ se ∧ (ty = 1 → bo = 0 ∧ sq = 0 ∧ n = 0 ∧ ac = 0) ∧ (ty = 2 → 1 ≤ bo ∧ sq = 0 ∧ n = 0 ∧ ac = 0) ∧ (ty = 3 → 1 ≤ bo ∧ 1 ≤ sq) ∧ (ty = 4 → 1 ≤ bo ∧ sq = 0 ∧ n = 0) ∧ (ty = 5 → sq = 0 ∧ n = 0 ∧ ac = 0)
instance (ty : Int) : Decidable (typedP ty) := by unfold typedP; infer_instance
instance (se bo sq ac : Int) : Decidable (rangeP se bo sq ac) := by unfold rangeP; infer_instance
instance (ty se bo sq ac n : Int) : Decidable (sayP ty se bo sq ac n) := by unfold sayP; infer_instance
def says (f : Fr) : Bool := decide (sayP f.ty f.se f.bo f.sq f.ac f.bd.length)
def errF (f : Fr) : Int :=
 if ¬ typedP f.ty then 213 else if ¬ rangeP f.se f.bo f.sq f.ac then 5 else if (1400 : Int) < f.bd.length then 3 else if says f = false then 2 else 0
def be4 (n : Int) : List Int := [n / 16777216 % 256, n / 65536 % 256, n / 256 % 256, n % 256]
def be2 (n : Int) : List Int := [n / 256 % 256, n % 256]
theorem byt_be4 (n : Int) : Byt (be4 n) := by intro x hx; simp [be4] at hx; omega
theorem byt_be2 (n : Int) : Byt (be2 n) := by intro x hx; simp [be2] at hx; omega
def head4 (f : Fr) : List Int := [83, 75, 1, f.ty % 256] ++ be4 f.se ++ be4 f.bo ++ be4 f.sq ++ be4 f.ac ++ be2 f.bd.length ++ f.bd
theorem head4_len (f : Fr) : (head4 f).length = f.bd.length + 22 := by simp [head4, be4, be2]
def layF (f : Fr) : List Int := put4 (head4 f)
end Go.Proofs.YtokembhfebnjpaaGreat
