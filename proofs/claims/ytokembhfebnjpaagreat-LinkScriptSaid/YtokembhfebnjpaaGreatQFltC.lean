/- Floats: a number made whole upwards; what a wait comes to. No program in sight. -/
import Derived.Test.YtokembhfebnjpaaGreatQFlt
import Derived.KernelRfl
namespace Go.Proofs.YtokembhfebnjpaaGreat.Flt
open Ieee
set_option linter.unusedVariables false
theorem cut_up (n drop : Nat) : n ≤ (Toward.up.cut false n drop) * 2 ^ drop ∧ (Toward.up.cut false n drop) * 2 ^ drop < n + 2 ^ drop := by
 obtain ⟨g, hg⟩ : ∃ g, g = min drop (n.log2 + 2) := ⟨_, rfl⟩
 have hcut : Toward.up.cut false n drop = n / 2 ^ g + (n % 2 ^ g != 0).toNat := by
  unfold Toward.cut
  simp only [Nat.one_shiftLeft, hg, Bool.not_false, Bool.true_and]
 rw [hcut]
 have hp : 0 < 2 ^ g := Nat.two_pow_pos _
 by_cases hd : drop ≤ n.log2 + 2
 · have e : g = drop := by omega
   subst e
   have hdiv := Nat.div_add_mod n (2 ^ g)
   have hmod := Nat.mod_lt n hp
   generalize hG : 2 ^ g = G at *
   generalize n / G = q at *
   generalize n % G = r at *
   by_cases h1 : r = 0
   · have : (r != 0).toNat = 0 := by simp [h1]
     rw [this, Nat.add_zero, Nat.mul_comm]; omega
   · have : (r != 0).toNat = 1 := by simp [h1]
     rw [this, Nat.add_mul, Nat.one_mul, Nat.mul_comm q]; omega
 · have e : g = n.log2 + 2 := by omega
   have hn : n < 2 ^ (n.log2 + 1) := Nat.lt_log2_self
   have h2 : 2 ^ g = 2 * 2 ^ (n.log2 + 1) := by rw [e, show n.log2 + 2 = (n.log2 + 1) + 1 by omega, Nat.pow_succ, Nat.mul_comm]
   have h3 : 2 ^ g ≤ 2 ^ drop := Nat.pow_le_pow_right (by omega) (by omega)
   have q0 : n / 2 ^ g = 0 := Nat.div_eq_of_lt (by omega)
   have r0 : n % 2 ^ g = n := Nat.mod_eq_of_lt (by omega)
   rw [q0, r0]
   by_cases h1 : n = 0
   · have : (n != 0).toNat = 0 := by simp [h1]
     rw [this]; omega
   · have : (n != 0).toNat = 1 := by simp [h1]
     rw [this]; omega
theorem ceil_char (x : Nat) (h : fin x) (hs : sgn x = false) : ∃ c : Nat, (double.read x).integral .up = .number false c 0 ∧ mg (rung x) ≤ c * uu 1074 ∧ c * uu 1074 < mg (rung x) + uu 1074 := by
 obtain ⟨m, p, e, hp, hm⟩ := read_fin h
 rw [e, hs]
 refine ⟨_, rfl, ?_⟩
 obtain ⟨c1, c2⟩ := cut_up (m <<< p.toNat) (-p).toNat
 rw [Nat.shiftLeft_eq] at c1 c2 ⊢
 generalize Toward.up.cut false (m * 2 ^ p.toNat) (-p).toNat = c at *
 have hU : uu 1074 = 2 ^ (-p).toNat * 2 ^ (1074 - (-p).toNat) := by
  unfold uu; rw [← Nat.pow_add, show (-p).toNat + (1074 - (-p).toNat) = 1074 by omega]
 have hM : mg (rung x) = m * 2 ^ p.toNat * 2 ^ (1074 - (-p).toNat) := by
  rw [← hm, Nat.mul_assoc, ← Nat.pow_add, show p.toNat + (1074 - (-p).toNat) = (p + 1074).toNat by omega]
 have hq : 0 < 2 ^ (1074 - (-p).toNat) := Nat.two_pow_pos _
 rw [hU, hM, ← Nat.mul_assoc, ← Nat.add_mul]
 exact ⟨Nat.mul_le_mul_right _ c1, Nat.mul_lt_mul_of_pos_right c2 hq⟩
theorem small_back : ∀ c : Fin 61, (double.read (double.write (.number false c.val 0))).toInt .zero = some (c.val : Int) := by decide +kernel
def f2 : Nat := 4611686018427387904
def f4 : Nat := 4616189618054758400
def f60 : Nat := 4633641066610819072
theorem mv_f2 : mv f2 = 2 * (uu 1074 : Int) := by kernel_rfl
theorem mv_f60 : mv f60 = 60 * (uu 1074 : Int) := by kernel_rfl
theorem key_f2 : key f2 = 4611686018427387904 := by decide +kernel
theorem key_f60 : key f60 = 4633641066610819072 := by decide +kernel
def ceilF (x : Nat) : Int := ((double.read (double.write ((double.read x).integral .up))).toInt .zero).getD 0
theorem between (x : Nat) (hn : nanb x = false) (h2 : key f2 ≤ key x) (h60 : key x ≤ key f60) :
 ∃ c : Nat, 2 ≤ c ∧ c ≤ 60 ∧ (double.read (double.write ((double.read x).integral .up))).toInt .zero = some (c : Int) ∧ ceilF x = c ∧ mv x ≤ c * (uu 1074 : Int) ∧ (c : Int) * (uu 1074 : Int) < mv x + uu 1074 := by
 have k2 := mv_mono h2
 have k60 := mv_mono h60
 rw [mv_f2] at k2
 rw [mv_f60] at k60
 rw [key_f2] at h2
 rw [key_f60] at h60
 have hU := uu_pos 1074
 have hs : sgn x = false := by
  cases h : sgn x
  · rfl
  · unfold key at h2; rw [h] at h2; simp at h2; omega
 have hf : fin x := by unfold fin; unfold key at h60; rw [hs] at h60; simp only [II]; simp at h60; omega
 obtain ⟨c, e, c1, c2⟩ := ceil_char x hf hs
 have hmv : mv x = mg (rung x) := by unfold mv; rw [hs]; simp
 rw [hmv] at k2 k60 ⊢
 generalize uu 1074 = U at *
 generalize mg (rung x) = M at *
 have c2' : 2 ≤ c := by
  rcases Nat.lt_or_ge c 2 with g | g
  · exfalso
    have : c * U ≤ 1 * U := Nat.mul_le_mul_right _ (by omega)
    omega
  · exact g
 have c60 : c ≤ 60 := by
  rcases Nat.lt_or_ge 60 c with g | g
  · exfalso
    have : 61 * U ≤ c * U := Nat.mul_le_mul_right _ (by omega)
    omega
  · exact g
 have hb := small_back ⟨c, by omega⟩
 rw [← e] at hb
 refine ⟨c, c2', c60, hb, ?_, ?_, ?_⟩
 · unfold ceilF; rw [hb]; rfl
 · rw [← Int.natCast_mul]; omega
 · rw [← Int.natCast_mul]; omega
def waitX (m s : Nat) : Option Nat := (double.mul f4 s).bind fun p => double.add m p
def waitF (m s : Nat) : Int := match waitX m s with
 | none => 60
 | some x => if nanb x then 60 else if key f60 < key x then 60 else if key x < key f2 then 2 else ceilF x
theorem wait_range (m s : Nat) : 2 ≤ waitF m s ∧ waitF m s ≤ 60 := by
 unfold waitF
 split
 · omega
 · rename_i x _
   by_cases hn : nanb x = true
   · rw [if_pos hn]; omega
   · rw [if_neg hn]
     by_cases h1 : key f60 < key x
     · rw [if_pos h1]; omega
     · rw [if_neg h1]
       by_cases h2 : key x < key f2
       · rw [if_pos h2]; omega
       · rw [if_neg h2]
         obtain ⟨c, g1, g2, _, g4, _⟩ := between x (by simpa using hn) (by omega) (by omega)
         omega
end Go.Proofs.YtokembhfebnjpaaGreat.Flt
