/- Frames: the number of some bytes (frame.number, satchelref11.number). -/
import Derived.Test.YtjjoancnkjlaeaaFrmQ
namespace Go.Proofs.Ytjjoancnkjlaeaa
open Go.RowKit
set_option linter.unusedVariables false
set_option linter.unusedSimpArgs false
theorem i64_or_nat (a b : Nat) (ha : a < 9223372036854775808) (hb : b < 9223372036854775808) : bits .or .i64 (a : Int) (b : Int) = ((a ||| b : Nat) : Int) := by
  have hx : a ||| b < 2 ^ 63 := Nat.or_lt_two_pow (by omega) (by omega)
  have h1 : (BitVec.ofInt 64 (a : Int)).toNat = a := by
    rw [BitVec.ofInt_natCast, BitVec.toNat_ofNat]; exact Nat.mod_eq_of_lt (by omega)
  have h2 : (BitVec.ofInt 64 (b : Int)).toNat = b := by
    rw [BitVec.ofInt_natCast, BitVec.toNat_ofNat]; exact Nat.mod_eq_of_lt (by omega)
  show IntKind.i64.wrap ((BitVec.ofInt 64 (a : Int) ||| BitVec.ofInt 64 (b : Int)).toNat : Int) = _
  rw [BitVec.toNat_or, h1, h2]
  rw [IntKind.wrap_i64]
  omega
theorem i64_or_sh (k n c : Nat) (hc : c < 2 ^ k) (hn : n * 2 ^ k < 9223372036854775808) (hk : k ≤ 32) : bits .or .i64 ((n * 2 ^ k : Nat) : Int) (c : Int) = ((n * 2 ^ k + c : Nat) : Int) := by
  have h2 : 2 ^ k ≤ 2 ^ 32 := Nat.pow_le_pow_right (by decide) hk
  rw [i64_or_nat _ _ hn (by omega)]
  congr 1
  rw [← Nat.shiftLeft_eq, Nat.shiftLeft_add_eq_or_of_lt hc]
/-- The number of some bytes, the highest first. -/
def num (l : List Int) : Nat := l.foldl (fun n c => n * 256 + c.toNat) 0
theorem num_snoc (l : List Int) (c : Int) : num (l ++ [c]) = num l * 256 + c.toNat := by simp [num, List.foldl_append]
theorem num_take {l : List Int} (hb : Byt l) (k : Nat) (hk : k ≤ l.length) : num (l.take k) < 256 ^ k := by
  induction k with
  | zero => simp [num]
  | succ k ih =>
    have hlt : k < l.length := by omega
    rw [take_snoc l 0 k hlt, num_snoc, Nat.pow_succ]
    have := ih (by omega)
    have := hb.getD k
    omega
theorem number_any (a : Option Addr) (cap : Nat) (l : List Int) (w : World) (h : RdB w a l) (hl : l.length ≤ 4) :
    Calls Try.prog 35 #[.slice a l.length cap] w fun e w' => e = .returned (.int .i64 ((num l : Nat) : Int)) ∧ w = w' := by
  go_enter Try.func35, Try.ntmps35
  go_wp2_with fail
  go_loopw [3, 8] (fun n i wr => ∃ k : Nat, k ≤ l.length ∧ i = .int .i64 k ∧ n = .int .i64 ((num (l.take k) : Nat) : Int) ∧ w = wr) (fun _ i _ => l.length - (intOf i).toNat)
  case atStart => exact ⟨0, by omega, rfl, rfl, rfl⟩
  case round =>
    obtain ⟨k, hk, rfl, rfl, rfl⟩ := hrel
    by_cases hlt : k < l.length
    · obtain ⟨b, off, rfl, hcell⟩ := h.cell k hlt
      have hb := h.bd.getD k
      have hx : num (l.take k) < 16777216 := by
        have h1 := num_take h.bd k hk
        have h2 : 256 ^ k ≤ 256 ^ 3 := Nat.pow_le_pow_right (by decide) (by omega)
        omega
      have HN : Hid (num (l.take (k + 1)) = num (l.take k) * 256 + (l.getD k 0).toNat) := by
        show _ = _
        rw [take_snoc l 0 k hlt, num_snoc]
      generalize l.getD k 0 = c at *
      obtain ⟨c, rfl⟩ := Int.eq_ofNat_of_zero_le hb.1
      generalize num (l.take k) = x at *
      have hc8 : c < 256 := by omega
      have e1 : bits .or .i64 ((x : Int) * 256) (c : Int) = ((x * 256 + c : Nat) : Int) := by
        have := i64_or_sh 8 x c hc8 (by omega) (by omega)
        rwa [show ((x * 2 ^ 8 : Nat) : Int) = (x : Int) * 256 by omega] at this
      rw [Int.toNat_natCast] at HN
      generalize x * 256 + c = x' at *
      have i1 : (k : Int) < l.length := by omega
      go_wp2_with fail
      go_roundw
      case rel => exact ⟨k + 1, by omega, by go_num, by rw [HN.out], trivial⟩
      case measure => simp [intOf]; omega
    · obtain rfl : k = l.length := by omega
      rw [List.take_length] at *
      go_wp2_with fail
      go_ret
      exact ⟨rfl, rfl⟩
theorem num_take4 (l : List Int) (h : 4 ≤ l.length) : num (l.take 4) = (l.getD 0 0).toNat * 16777216 + (l.getD 1 0).toNat * 65536 + (l.getD 2 0).toNat * 256 + (l.getD 3 0).toNat := by
  obtain _ | ⟨c0, _ | ⟨c1, _ | ⟨c2, _ | ⟨c3, l⟩⟩⟩⟩ := l <;> simp at h
  simp [num]
  omega
set_option maxRecDepth 20000 in
theorem rnumber_any (a : Option Addr) (cap : Nat) (l : List Int) (w : World) (h : RdB w a l) (h4 : 4 ≤ l.length) :
    Calls Try.prog 37 #[.slice a l.length cap] w fun e w' => e = .returned (.int .i64 ((num (l.take 4) : Nat) : Int)) ∧ ∃ m, w' = w.drewN m := by
  have HN := Lib.hid (num_take4 l h4)
  obtain ⟨b, off, rfl, g0⟩ := h.cell 0 (by omega)
  obtain ⟨_, _, q1, g1⟩ := h.cell 1 (by omega)
  obtain ⟨_, _, q2, g2⟩ := h.cell 2 (by omega)
  obtain ⟨_, _, q3, g3⟩ := h.cell 3 (by omega)
  cases q1; cases q2; cases q3
  rw [Nat.add_zero] at g0
  have b0 := h.bd.getD 0
  have b1 := h.bd.getD 1
  have b2 := h.bd.getD 2
  have b3 := h.bd.getD 3
  generalize l.getD 0 0 = c0 at *
  generalize l.getD 1 0 = c1 at *
  generalize l.getD 2 0 = c2 at *
  generalize l.getD 3 0 = c3 at *
  obtain ⟨c0, rfl⟩ := Int.eq_ofNat_of_zero_le b0.1
  obtain ⟨c1, rfl⟩ := Int.eq_ofNat_of_zero_le b1.1
  obtain ⟨c2, rfl⟩ := Int.eq_ofNat_of_zero_le b2.1
  obtain ⟨c3, rfl⟩ := Int.eq_ofNat_of_zero_le b3.1
  simp only [Int.toNat_natCast] at HN
  obtain ⟨n1, q1⟩ : ∃ n, n = c0 * 16777216 + c1 * 65536 := ⟨_, rfl⟩
  obtain ⟨n2, q2⟩ : ∃ n, n = n1 + c2 * 256 := ⟨_, rfl⟩
  obtain ⟨n3, q3⟩ : ∃ n, n = num (l.take 4) := ⟨_, rfl⟩
  have q4 : n3 = n2 + c3 := by rw [q3, HN.out, q2, q1]
  rw [← q3]
  clear q3 HN
  have e1 : bits .or .i64 ((c0 : Int) * 16777216) ((c1 : Int) * 65536) = ((n1 : Nat) : Int) := by
    have := i64_or_sh 24 c0 (c1 * 65536) (by omega) (by omega) (by omega)
    rw [q1]
    rwa [show ((c0 * 2 ^ 24 : Nat) : Int) = (c0 : Int) * 16777216 by omega, show ((c1 * 65536 : Nat) : Int) = (c1 : Int) * 65536 by omega] at this
  have e2 : bits .or .i64 ((n1 : Nat) : Int) ((c2 : Int) * 256) = ((n2 : Nat) : Int) := by
    have := i64_or_sh 16 (c0 * 256 + c1) (c2 * 256) (by omega) (by omega) (by omega)
    rwa [show ((c0 * 256 + c1) * 2 ^ 16 : Nat) = n1 by omega, show ((c2 * 256 : Nat) : Int) = (c2 : Int) * 256 by omega, ← q2] at this
  have e3 : bits .or .i64 ((n2 : Nat) : Int) (c3 : Int) = ((n3 : Nat) : Int) := by
    have := i64_or_sh 8 (c0 * 65536 + c1 * 256 + c2) c3 (by omega) (by omega) (by omega)
    rwa [show ((c0 * 65536 + c1 * 256 + c2) * 2 ^ 8 : Nat) = n2 by omega, ← q4] at this
  clear q1 q2 q4
  have j0 : 0 < l.length := by omega
  have j1 : 1 < l.length := by omega
  have j2 : 2 < l.length := by omega
  have j3 : 3 < l.length := by omega
  clear h
  generalize l.length = n at *
  have i0 : (0 : Int) < n := by omega
  have i1 : (1 : Int) < n := by omega
  have i2 : (2 : Int) < n := by omega
  have i3 : (3 : Int) < n := by omega
  go_enter Try.func37, Try.ntmps37
  go_wp2
  go_quiet (fail)
  go_wp2
  go_ret
  exact ⟨rfl, _, rfl⟩
end Go.Proofs.Ytjjoancnkjlaeaa
