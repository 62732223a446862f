/- Floats: comparing; what the language's operations on floats give. -/
import Derived.Test.YtaibdkdmilhloaaQFlM
import Derived.Test.YtaibdkdmilhloaaQBase
import Derived.Laws.Rows
import Derived.Outline
import Derived.Laws.Externs
import Derived.WalkKit
namespace Go.Proofs.Ytaibdkdmilhloaa
open Go.RowKit Flt
set_option linter.unusedVariables false
def bef (a b : Nat) : Bool := if nanb a then false else if nanb b then true else decide (key b < key a)
theorem cmp_int (a b : Int) : compare a b = if a < b then .lt else if a = b then .eq else .gt := rfl
theorem ord_nan (a : Nat) : (FloatKind.f64.format.order a a != some .eq) = nanb a := by
  show (Ieee.double.order a a != some .eq) = _
  rw [order_key, cmp_int]
  cases nanb a <;> simp
theorem ord_gt (a b : Nat) : (FloatKind.f64.format.order a b == some .gt) = (!nanb a && !nanb b && decide (key b < key a)) := by
  show (Ieee.double.order a b == some .gt) = _
  rw [order_key, cmp_int]
  cases nanb a <;> cases nanb b <;> simp
  by_cases h : key a < key b
  · rw [if_pos h, decide_eq_false (by omega)]; rfl
  · rw [if_neg h]
    by_cases h2 : key a = key b
    · rw [if_pos h2, decide_eq_false (by omega)]; rfl
    · rw [if_neg h2, decide_eq_true (by omega)]; rfl
theorem ord_lt (a b : Nat) : (FloatKind.f64.format.order a b == some .lt) = (!nanb a && !nanb b && decide (key a < key b)) := by
  show (Ieee.double.order a b == some .lt) = _
  rw [order_key, cmp_int]
  cases nanb a <;> cases nanb b <;> simp
  by_cases h : key a < key b
  · rw [if_pos h, decide_eq_true h]; rfl
  · rw [if_neg h, decide_eq_false h]
    by_cases h2 : key a = key b
    · rw [if_pos h2]; rfl
    · rw [if_neg h2]; rfl
theorem ord_eq (a b : Nat) : (FloatKind.f64.format.order a b == some .eq) = (!nanb a && !nanb b && decide (key a = key b)) := by
  show (Ieee.double.order a b == some .eq) = _
  rw [order_key, cmp_int]
  cases nanb a <;> cases nanb b <;> simp
  by_cases h : key a < key b
  · rw [if_pos h, decide_eq_false (by omega)]; rfl
  · rw [if_neg h]
    by_cases h2 : key a = key b
    · rw [if_pos h2, decide_eq_true h2]; rfl
    · rw [if_neg h2, decide_eq_false h2]; rfl
theorem isnan_any (a : Nat) (w : World) : Calls Try.prog 34 #[.float .f64 a] w fun e w' => e = .returned (.bool (nanb a)) ∧ w = w' := by
  have ha := ord_nan a
  go_enter Try.func34, Try.ntmps34
  go_wp2
  go_ret
  exact ⟨rfl, rfl⟩
end Go.Proofs.Ytaibdkdmilhloaa
/- Package ratio: comparing. -/
namespace Go.Proofs.Ytaibdkdmilhloaa
open Go.RowKit Flt
set_option linter.unusedVariables false
theorem before_any (a b : Nat) (w : World) : Calls Try.prog 20 #[.float .f64 a, .float .f64 b] w fun e w' => e = .returned (.bool (bef a b)) ∧ w = w' := by
  have ha := ord_nan a
  have hb := ord_nan b
  have hg := ord_gt a b
  unfold bef
  cases hA : nanb a
  · rw [hA] at ha hg
    cases hB : nanb b
    · rw [hB] at hb hg
      go_enter Try.func20, Try.ntmps20
      go_wp2
      go_ret
      exact ⟨by simp, rfl⟩
    · rw [hB] at hb
      go_enter Try.func20, Try.ntmps20
      go_wp2
      go_ret
      exact ⟨rfl, rfl⟩
  · rw [hA] at ha
    go_enter Try.func20, Try.ntmps20
    go_wp2
    go_ret
    exact ⟨rfl, rfl⟩
end Go.Proofs.Ytaibdkdmilhloaa
/- Floats: what an operation gives. -/
namespace Go.Proofs.Ytaibdkdmilhloaa
open Go.RowKit Flt
set_option linter.unusedVariables false
theorem bits_arith (op : BinOp) (t : TypeId) (x y : Nat) (w : World) (h : op = .add ∨ op = .sub ∨ op = .mul ∨ op = .quo) : ∃ r k, (binOp op t (.float .f64 x) (.float .f64 y)).run Try.prog w = .ok (.float .f64 r) (w.drewN k) ∧ (∀ q, floatBits op .f64 x y = some q → r = q ∧ k = 0) ∧ (floatBits op .f64 x y = none → nanb r = true) := by
  cases hb : floatBits op .f64 x y with
  | some q => exact ⟨q, 0, run_float_arith w op t .f64 x y q hb, fun q' h => by cases h; exact ⟨rfl, rfl⟩, fun h => by cases h⟩
  | none =>
    refine ⟨(Question.nanBits .f64 x y).cut (w.tape w.drawn (.nanBits .f64 x y)), 1, ?_, (fun q h => by cases h), fun _ => ?_⟩
    · rcases h with rfl | rfl | rfl | rfl <;> (simp only [floatBits] at hb; simp [binOp, Op.floatArith, hb, go_sem]; rfl)
    · generalize w.tape w.drawn (.nanBits .f64 x y) = t
      show nanb ((t % 2) * 2 ^ 63 + 0x7ff0000000000000 + 1 + (t / 2) % (2 ^ 52 - 1)) = true
      unfold nanb rung
      have hr : t / 2 % (2 ^ 52 - 1) < 2 ^ 52 - 1 := Nat.mod_lt _ (by decide)
      generalize t / 2 % (2 ^ 52 - 1) = r at *
      simp only [decide_eq_true_eq, SW, II]
      rcases Nat.mod_two_eq_zero_or_one t with h | h <;> rw [h] <;> omega
end Go.Proofs.Ytaibdkdmilhloaa
/- Package ratio: Part. -/
namespace Go.Proofs.Ytaibdkdmilhloaa
open Go.RowKit Flt
set_option linter.unusedVariables false
def partF (n m : Int) : Option Nat := floatBits .quo .f64 (floatOfInt .f64 n) (floatOfInt .f64 m)
theorem part_any (n m : Int) (w : World) : Calls Try.prog 37 #[.int .i64 n, .int .i64 m] w fun e w' => ∃ r k, e = .returned (.float .f64 r) ∧ w' = w.drewN k ∧ (∀ q, partF n m = some q → r = q ∧ k = 0) ∧ (partF n m = none → nanb r = true) := by
  obtain ⟨r, k, h1, h2, h3⟩ := bits_arith .quo 23 (floatOfInt .f64 n) (floatOfInt .f64 m) w (by simp)
  go_enter Try.func37, Try.ntmps37
  go_wp2
  go_ret
  exact ⟨r, k, rfl, rfl, h2, h3⟩
end Go.Proofs.Ytaibdkdmilhloaa
/- Slices of floats. -/
namespace Go.Proofs.Ytaibdkdmilhloaa
open Go.RowKit Flt
set_option linter.unusedVariables false
def RdF (w : World) (a : Option Addr) (l : List Nat) : Prop := ∀ i, i < l.length → ∃ b off, a = some ⟨b, off, none⟩ ∧ w.cell? ⟨b, off + i, none⟩ = some (.float .f64 (l.getD i 0))
theorem RdF.kp0 {S : Nat → Prop} {w w' : World} {a : Option Addr} {l : List Nat} (h : RdF w a l) (hk : Kp S w w') (hs : ∀ i, i < w.heap.size → ¬ S i) : RdF w' a l := fun i hi => by
  obtain ⟨b, off, e, hc⟩ := h i hi
  have hlt : b < w.heap.size := by
    rcases Nat.lt_or_ge b w.heap.size with g | g
    · exact g
    · exfalso; unfold World.cell? at hc; simp [Array.getElem?_eq_none g] at hc
  exact ⟨b, off, e, hk.cell hc (hs b hlt)⟩
end Go.Proofs.Ytaibdkdmilhloaa
