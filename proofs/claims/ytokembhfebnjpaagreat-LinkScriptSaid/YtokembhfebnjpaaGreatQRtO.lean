/- Floats: comparing; what the language's operations on floats give. -/
import Derived.Test.YtokembhfebnjpaaGreatQFlt
import Derived.Test.YtokembhfebnjpaaGreatQBaseM
import Derived.Laws.Rows
import Derived.Outline
namespace Go.Proofs.YtokembhfebnjpaaGreat
set_option maxRecDepth 20000
open Go.RowKit Flt
set_option linter.unusedVariables false
theorem cmp_int (a b : Int) : compare a b = if a < b then .lt else if a = b then .eq else .gt := rfl
theorem ord_nan (a : Nat) : (FloatKind.f64.format.order a a != some .eq) = nanb a := by
 show (Ieee.double.order a a != some .eq) = _
 rw [order_key, cmp_int]
 cases nanb a <;> simp
theorem ord_gt (a b : Nat) : (FloatKind.f64.format.order a b == some .gt) = (!nanb a && !nanb b && decide (key b < key a)) := by
 show (Ieee.double.order a b == some .gt) = _
 rw [order_key, cmp_int]
 cases nanb a <;> cases nanb b <;> simp
 by_cases h : key a < key b
 · rw [if_pos h, decide_eq_false (by omega)]; rfl
 · rw [if_neg h]
   by_cases h2 : key a = key b
   · rw [if_pos h2, decide_eq_false (by omega)]; rfl
   · rw [if_neg h2, decide_eq_true (by omega)]; rfl
theorem ord_lt (a b : Nat) : (FloatKind.f64.format.order a b == some .lt) = (!nanb a && !nanb b && decide (key a < key b)) := by
 show (Ieee.double.order a b == some .lt) = _
 rw [order_key, cmp_int]
 cases nanb a <;> cases nanb b <;> simp
 by_cases h : key a < key b
 · rw [if_pos h, decide_eq_true h]; rfl
 · rw [if_neg h, decide_eq_false h]
   by_cases h2 : key a = key b
   · rw [if_pos h2]; rfl
   · rw [if_neg h2]; rfl
theorem ord_eq (a b : Nat) : (FloatKind.f64.format.order a b == some .eq) = (!nanb a && !nanb b && decide (key a = key b)) := by
 show (Ieee.double.order a b == some .eq) = _
 rw [order_key, cmp_int]
 cases nanb a <;> cases nanb b <;> simp
 by_cases h : key a < key b
 · rw [if_pos h, decide_eq_false (by omega)]; rfl
 · rw [if_neg h]
   by_cases h2 : key a = key b
   · rw [if_pos h2, decide_eq_true h2]; rfl
   · rw [if_neg h2, decide_eq_false h2]; rfl
end Go.Proofs.YtokembhfebnjpaaGreat
