/- Floats: what an operation gives. -/
import Derived.Test.YtnapokdipelmiaaRtO
import Derived.Test.YtnapokdipelmiaaFltC
import Derived.Laws.Externs
namespace Go.Proofs.Ytnapokdipelmiaa
open Go.RowKit Flt
set_option linter.unusedVariables false
theorem bits_arith (op : BinOp) (t : TypeId) (x y : Nat) (w : World) (h : op = .add ∨ op = .sub ∨ op = .mul ∨ op = .quo) : ∃ r k, (binOp op t (.float .f64 x) (.float .f64 y)).run Try.prog w = .ok (.float .f64 r) (w.drewN k) ∧ (∀ q, floatBits op .f64 x y = some q → r = q ∧ k = 0) ∧ (floatBits op .f64 x y = none → nanb r = true) := by
  cases hb : floatBits op .f64 x y with
  | some q => exact ⟨q, 0, run_float_arith w op t .f64 x y q hb, fun q' h => by cases h; exact ⟨rfl, rfl⟩, fun h => by cases h⟩
  | none =>
    refine ⟨(Question.nanBits .f64 x y).cut (w.tape w.drawn (.nanBits .f64 x y)), 1, ?_, (fun q h => by cases h), fun _ => ?_⟩
    · rcases h with rfl | rfl | rfl | rfl <;> (simp only [floatBits] at hb; simp [binOp, Op.floatArith, hb, go_sem]; rfl)
    · generalize w.tape w.drawn (.nanBits .f64 x y) = t
      show nanb ((t % 2) * 2 ^ 63 + 0x7ff0000000000000 + 1 + (t / 2) % (2 ^ 52 - 1)) = true
      unfold nanb rung
      have hr : t / 2 % (2 ^ 52 - 1) < 2 ^ 52 - 1 := Nat.mod_lt _ (by decide)
      generalize t / 2 % (2 ^ 52 - 1) = r at *
      simp only [decide_eq_true_eq, SW, II]
      rcases Nat.mod_two_eq_zero_or_one t with h | h <;> rw [h] <;> omega
end Go.Proofs.Ytnapokdipelmiaa
