/- A load, a store (of many cells), told by its run laid before: in a plain list of operations, in a round, in a region that draws its order. (Written by wip/ref20r.py.) -/
import Derived.Test.YtokembhfebnjpaaGreatQRegL
import Derived.Test.YtokembhfebnjpaaGreatQBaseM
import Derived.OwnWalkIn
namespace Go.Proofs.YtokembhfebnjpaaGreat
set_option linter.unusedVariables false
section
variable {P : Program} {ops : Array Oper} {rest : List Oper} {o : Oper} {a : Act} {w w' : World} {Q : Exit → Act → World → Prop} {K : Act → World → Prop}
theorem exec_store {t : TypeId} {x y : Operand} {p v : Value} (ho : o.op = .store t x y) (hx : a.eval x = p) (hy : a.eval y = v) (h : (Instr.storeAt t p v).run P w = .ok () w') : (execOp a.eval o).run P w = .ok .skip w' := by
 unfold execOp
 simp only [ho, hx, hy, Sem.run_bind, Sem.run_pure, h, Result.andThen_ok]
theorem wp_store_run {t : TypeId} {x y : Operand} {p v : Value} (hr : (Instr.storeAt t p v).run P w = .ok () w') (ho : o.op = .store t x y) (hx : a.eval x = p) (hy : a.eval y = v) (h : K (a.put o.dst undef) w') : Oper.wp P o a w K Q := by
 unfold Oper.wp
 rw [exec_store ho hx hy hr]
 exact h
variable {F : Fence} {n : Nat}
theorem wpListIn_append_run {t tx : TypeId} {s x : Operand} {v X v' : Value} (hrun : (Builtin.append_ #[t, tx] o.type #[v, X]).run P w = .ok v' w') (hg : o.guard = none) (hop : o.op = Op.call { callee := Callee.builtin Builtin.append, args := #[s, x], argTypes := #[t, tx] })
 (hs : a.eval s = v) (hx : a.eval x = X) (h : wpListIn F n P ops Q rest (a.put o.dst v') w') : wpListIn F n P ops Q (o :: rest) a w := by
 refine wpListIn_plain hg fun K hK' => ?_
 unfold Oper.wpIn
 refine ⟨?_, ?_⟩
 · simp [Oper.about, hop, resolve, Target.leads, Sem.run_pure]
 · rw [Oper.semAt_plain F _ _ (by rw [hop]; intro c hc'; cases hc')]
   simp [execOp, hop, resolve, invoke, builtin, hs, hx, hrun, Result.andThen]
   exact hK' _ _ h
theorem wp_append_run {s x : Operand} {t tx : TypeId} {v X v' : Value} (hrun : (Builtin.append_ #[t, tx] o.type #[v, X]).run P w = .ok v' w') (ho : o.op = .call { callee := .builtin .append, args := #[s, x], argTypes := #[t, tx] })
 (hs : a.eval s = v) (hx : a.eval x = X) (h : K (a.put o.dst v') w') : Oper.wp P o a w K Q := by
 unfold Oper.wp execOp
 simp only [ho, resolve, invoke, builtin, Sem.run_bind, Sem.run_pure, Result.andThen_ok, List.map_toArray, List.map_cons, List.map_nil, hs, hx, hrun]
 exact h
end
end Go.Proofs.YtokembhfebnjpaaGreat
