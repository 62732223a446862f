/- A load, a store (of many cells), told by its run laid before: in a plain list of operations, in a round, in a region that draws its order. (Written by wip/ref20r.py.) -/
import Derived.Test.YtnapokdipelmiaaRegL
import Derived.Test.YtnapokdipelmiaaBase
import Derived.OwnWalkIn
namespace Go.Proofs.Ytnapokdipelmiaa
set_option linter.unusedVariables false
section
variable {P : Program} {ops : Array Oper} {rest : List Oper} {o : Oper} {a : Act} {w w' : World} {Q : Exit → Act → World → Prop} {K : Act → World → Prop}
theorem exec_load {t : TypeId} {x : Operand} {p v : Value} (ho : o.op = .load t x) (hx : a.eval x = p) (h : (Instr.loadAt t p).run P w = .ok v w) : (execOp a.eval o).run P w = .ok (.value v) w := by
  unfold execOp
  simp only [ho, hx, Sem.run_bind, Sem.run_pure, h, Result.andThen_ok]
theorem exec_store {t : TypeId} {x y : Operand} {p v : Value} (ho : o.op = .store t x y) (hx : a.eval x = p) (hy : a.eval y = v) (h : (Instr.storeAt t p v).run P w = .ok () w') : (execOp a.eval o).run P w = .ok .skip w' := by
  unfold execOp
  simp only [ho, hx, hy, Sem.run_bind, Sem.run_pure, h, Result.andThen_ok]
theorem exec_eql {t t' : TypeId} {x y : Operand} {xs ys : Array Value} {b : Bool} (ho : o.op = .binOp .eql t x y t') (hx : a.eval x = .agg xs) (hy : a.eval y = .agg ys) (hg : P.eqGuardType P.depth t = false) (h : (Op.equalIn 10000 t (.agg xs) (.agg ys)).run P w = .ok b w) : (execOp a.eval o).run P w = .ok (.value (.bool b)) w := by
  have h' : (Op.equal t (.agg xs) (.agg ys)).run P w = .ok b w := h
  unfold execOp
  simp only [ho, hx, hy, Sem.run_bind, Sem.run_pure, run_eqGuard_agg w .eql t x y xs ys hg, Result.andThen_ok, binOp, h']
theorem exec_neq {t t' : TypeId} {x y : Operand} {xs ys : Array Value} {b : Bool} (ho : o.op = .binOp .neq t x y t') (hx : a.eval x = .agg xs) (hy : a.eval y = .agg ys) (hg : P.eqGuardType P.depth t = false) (h : (Op.equalIn 10000 t (.agg xs) (.agg ys)).run P w = .ok b w) : (execOp a.eval o).run P w = .ok (.value (.bool (!b))) w := by
  have h' : (Op.equal t (.agg xs) (.agg ys)).run P w = .ok b w := h
  unfold execOp
  simp only [ho, hx, hy, Sem.run_bind, Sem.run_pure, run_eqGuard_agg w .neq t x y xs ys hg, Result.andThen_ok, binOp, h']
theorem wp_load_run {t : TypeId} {x : Operand} {p v : Value} (hr : (Instr.loadAt t p).run P w = .ok v w) (ho : o.op = .load t x) (hx : a.eval x = p) (h : K (a.put o.dst v) w) : Oper.wp P o a w K Q := by
  unfold Oper.wp
  rw [exec_load ho hx hr]
  exact h
theorem wp_store_run {t : TypeId} {x y : Operand} {p v : Value} (hr : (Instr.storeAt t p v).run P w = .ok () w') (ho : o.op = .store t x y) (hx : a.eval x = p) (hy : a.eval y = v) (h : K (a.put o.dst undef) w') : Oper.wp P o a w K Q := by
  unfold Oper.wp
  rw [exec_store ho hx hy hr]
  exact h
theorem wpList_load_run {t : TypeId} {x : Operand} {p v : Value} (hr : (Instr.loadAt t p).run P w = .ok v w) (hg : o.guard = none) (ho : o.op = .load t x) (hx : a.eval x = p) (h : wpList P ops Q rest (a.put o.dst v) w) : wpList P ops Q (o :: rest) a w :=
  wpList_plain hg fun _ hK => wp_load_run hr ho hx (hK _ _ h)
theorem wpList_store_run {t : TypeId} {x y : Operand} {p v : Value} (hr : (Instr.storeAt t p v).run P w = .ok () w') (hg : o.guard = none) (ho : o.op = .store t x y) (hx : a.eval x = p) (hy : a.eval y = v) (h : wpList P ops Q rest (a.put o.dst undef) w') : wpList P ops Q (o :: rest) a w :=
  wpList_plain hg fun _ hK => wp_store_run hr ho hx hy (hK _ _ h)
variable {F : Fence} {n : Nat}
theorem wpListIn_load_run {t : TypeId} {x : Operand} {p v : Value} (hr : (Instr.loadAt t p).run P w = .ok v w) (hg : o.guard = none) (ho : o.op = .load t x) (hx : a.eval x = p) (h : wpListIn F n P ops Q rest (a.put o.dst v) w) : wpListIn F n P ops Q (o :: rest) a w := by
  refine wpListIn_plain hg fun K hK' => ?_
  unfold Oper.wpIn
  refine ⟨?_, ?_⟩
  · simp [Oper.about, ho]
  · rw [Oper.semAt_plain F _ _ (by rw [ho]; intro c hc'; cases hc')]
    rw [exec_load ho hx hr]
    exact hK' _ _ h
theorem wpListIn_store_run {t : TypeId} {x y : Operand} {p v : Value} (hr : (Instr.storeAt t p v).run P w = .ok () w') (hg : o.guard = none) (ho : o.op = .store t x y) (hx : a.eval x = p) (hy : a.eval y = v) (h : wpListIn F n P ops Q rest (a.put o.dst undef) w') : wpListIn F n P ops Q (o :: rest) a w := by
  refine wpListIn_plain hg fun K hK' => ?_
  unfold Oper.wpIn
  refine ⟨?_, ?_⟩
  · simp [Oper.about, ho]
  · rw [Oper.semAt_plain F _ _ (by rw [ho]; intro c hc'; cases hc')]
    rw [exec_store ho hx hy hr]
    exact hK' _ _ h
theorem exec_mapUpdate {t : TypeId} {m x y : Operand} {M X Y : Value} (ho : o.op = .mapUpdate t m x y) (hm : a.eval m = M) (hx : a.eval x = X) (hy : a.eval y = Y) (h : (Instr.mapUpdate t M X Y).run P w = .ok () w') : (execOp a.eval o).run P w = .ok .skip w' := by
  unfold execOp
  simp only [ho, hm, hx, hy, Sem.run_bind, Sem.run_pure, h, Result.andThen_ok]
theorem wpListIn_mapUpdate_run {t : TypeId} {m x y : Operand} {M X Y : Value} (hr : (Instr.mapUpdate t M X Y).run P w = .ok () w') (hg : o.guard = none) (ho : o.op = .mapUpdate t m x y) (hm : a.eval m = M) (hx : a.eval x = X) (hy : a.eval y = Y) (h : wpListIn F n P ops Q rest (a.put o.dst undef) w') : wpListIn F n P ops Q (o :: rest) a w := by
  refine wpListIn_plain hg fun K hK' => ?_
  unfold Oper.wpIn
  refine ⟨?_, ?_⟩
  · simp [Oper.about, ho]
  · rw [Oper.semAt_plain F _ _ (by rw [ho]; intro c hc'; cases hc')]
    rw [exec_mapUpdate ho hm hx hy hr]
    exact hK' _ _ h
theorem exec_lookup {t : TypeId} {m x : Operand} {c : Bool} {M X v : Value} (ho : o.op = .lookup t m x c) (hm : a.eval m = M) (hx : a.eval x = X) (h : (Instr.lookup t M X c).run P w = .ok v w) : (execOp a.eval o).run P w = .ok (.value v) w := by
  unfold execOp
  simp only [ho, hm, hx, Sem.run_bind, Sem.run_pure, h, Result.andThen_ok]
theorem wpListIn_lookup_run {t : TypeId} {m x : Operand} {c : Bool} {M X v : Value} (hr : (Instr.lookup t M X c).run P w = .ok v w) (hg : o.guard = none) (ho : o.op = .lookup t m x c) (hm : a.eval m = M) (hx : a.eval x = X) (h : wpListIn F n P ops Q rest (a.put o.dst v) w) : wpListIn F n P ops Q (o :: rest) a w := by
  refine wpListIn_plain hg fun K hK' => ?_
  unfold Oper.wpIn
  refine ⟨?_, ?_⟩
  · simp [Oper.about, ho]
  · rw [Oper.semAt_plain F _ _ (by rw [ho]; intro c hc'; cases hc')]
    rw [exec_lookup ho hm hx hr]
    exact hK' _ _ h
theorem wpListIn_append_run {t tx : TypeId} {s x : Operand} {v X v' : Value} (hrun : (Builtin.append_ #[t, tx] o.type #[v, X]).run P w = .ok v' w') (hg : o.guard = none) (hop : o.op = Op.call { callee := Callee.builtin Builtin.append, args := #[s, x], argTypes := #[t, tx] })
    (hs : a.eval s = v) (hx : a.eval x = X) (h : wpListIn F n P ops Q rest (a.put o.dst v') w') : wpListIn F n P ops Q (o :: rest) a w := by
  refine wpListIn_plain hg fun K hK' => ?_
  unfold Oper.wpIn
  refine ⟨?_, ?_⟩
  · simp [Oper.about, hop, resolve, Target.leads, Sem.run_pure]
  · rw [Oper.semAt_plain F _ _ (by rw [hop]; intro c hc'; cases hc')]
    simp [execOp, hop, resolve, invoke, builtin, hs, hx, hrun, Result.andThen]
    exact hK' _ _ h
theorem exec_buildSlice {t : TypeId} {len : Nat} {parts : Array (Nat × Operand)} {ps : Array (Nat × Value)} {v : Value} (ho : o.op = .buildSlice t len parts) (hp : (parts.toList.map fun p => (p.1, a.eval p.2)) = ps.toList) (h : (Instr.buildSlice t len ps).run P w = .ok v w') : (execOp a.eval o).run P w = .ok (.value v) w' := by
  have hp' : (parts.map fun (i, x) => (i, a.eval x)) = ps := Array.toList_inj.1 (by rw [Array.toList_map]; exact hp)
  subst hp'
  unfold execOp
  simp only [ho, Sem.run_bind, Sem.run_pure, h, Result.andThen_ok]
theorem wpList_buildSlice_run {t : TypeId} {len : Nat} {parts : Array (Nat × Operand)} {ps : Array (Nat × Value)} {v : Value} (hg : o.guard = none) (ho : o.op = .buildSlice t len parts) (hp : (parts.toList.map fun p => (p.1, a.eval p.2)) = ps.toList) (hr : (Instr.buildSlice t len ps).run P w = .ok v w') (h : wpList P ops Q rest (a.put o.dst v) w') : wpList P ops Q (o :: rest) a w :=
  wpList_plain hg fun _ hK => by
    unfold Oper.wp
    rw [exec_buildSlice ho hp hr]
    exact hK _ _ h
/-- An operation that is wanted (whatever its guard), as a step of a plain list. -/
theorem wpList_wanted (hw : Region.wanted o (yielded ops a.tmps) = true) (h : Oper.wp P o a w (wpList P ops Q rest) Q) : wpList P ops Q (o :: rest) a w := by
  show (if Region.wanted o (yielded ops a.tmps) then o.wp P a w (wpList P ops Q rest) Q ∨ (o.asks P a w ∧ LetsOut Q) else wpList P ops Q rest (a.put o.dst undef) w)
  rw [if_pos hw]
  exact .inl h
theorem wp_buildSlice_run {t : TypeId} {len : Nat} {parts : Array (Nat × Operand)} {ps : Array (Nat × Value)} {v : Value} (ho : o.op = .buildSlice t len parts) (hp : (parts.toList.map fun p => (p.1, a.eval p.2)) = ps.toList) (hr : (Instr.buildSlice t len ps).run P w = .ok v w') (h : K (a.put o.dst v) w') : Oper.wp P o a w K Q := by
  unfold Oper.wp
  rw [exec_buildSlice ho hp hr]
  exact h
theorem wpListIn_buildSlice_run {t : TypeId} {len : Nat} {parts : Array (Nat × Operand)} {ps : Array (Nat × Value)} {v : Value} (hg : o.guard = none) (ho : o.op = .buildSlice t len parts) (hp : (parts.toList.map fun p => (p.1, a.eval p.2)) = ps.toList) (hr : (Instr.buildSlice t len ps).run P w = .ok v w') (h : wpListIn F n P ops Q rest (a.put o.dst v) w') : wpListIn F n P ops Q (o :: rest) a w := by
  refine wpListIn_plain hg fun K hK' => ?_
  unfold Oper.wpIn
  refine ⟨?_, ?_⟩
  · simp [Oper.about, ho]
  · rw [Oper.semAt_plain F _ _ (by rw [ho]; intro c hc'; cases hc')]
    rw [exec_buildSlice ho hp hr]
    exact hK' _ _ h
theorem exec_build {t : TypeId} {parts : Array (Nat × Operand)} {ps : Array (Nat × Value)} {v : Value} (ho : o.op = .build t parts) (hp : (parts.toList.map fun p => (p.1, a.eval p.2)) = ps.toList) (h : (Instr.build t ps).run P w = .ok v w) : (execOp a.eval o).run P w = .ok (.value v) w := by
  have hp' : (parts.map fun (i, x) => (i, a.eval x)) = ps := Array.toList_inj.1 (by rw [Array.toList_map]; exact hp)
  subst hp'
  unfold execOp
  simp only [ho, Sem.run_bind, Sem.run_pure, h, Result.andThen_ok]
theorem wpList_build_run {t : TypeId} {parts : Array (Nat × Operand)} {ps : Array (Nat × Value)} {v : Value} (hg : o.guard = none) (ho : o.op = .build t parts) (hp : (parts.toList.map fun p => (p.1, a.eval p.2)) = ps.toList) (hr : (Instr.build t ps).run P w = .ok v w) (h : wpList P ops Q rest (a.put o.dst v) w) : wpList P ops Q (o :: rest) a w :=
  wpList_plain hg fun _ hK => by
    unfold Oper.wp
    rw [exec_build ho hp hr]
    exact hK _ _ h
theorem wp_append_run {s x : Operand} {t tx : TypeId} {v X v' : Value} (hrun : (Builtin.append_ #[t, tx] o.type #[v, X]).run P w = .ok v' w') (ho : o.op = .call { callee := .builtin .append, args := #[s, x], argTypes := #[t, tx] })
    (hs : a.eval s = v) (hx : a.eval x = X) (h : K (a.put o.dst v') w') : Oper.wp P o a w K Q := by
  unfold Oper.wp execOp
  simp only [ho, resolve, invoke, builtin, Sem.run_bind, Sem.run_pure, Result.andThen_ok, List.map_toArray, List.map_cons, List.map_nil, hs, hx, hrun]
  exact h
theorem wp_mapEntry_run {t : TypeId} {m x : Operand} {M X v : Value} (hr : (Instr.mapEntry t M X).run P w = .ok v w') (ho : o.op = .mapEntry t m x) (hm : a.eval m = M) (hx : a.eval x = X) (h : K (a.put o.dst v) w') : Oper.wp P o a w K Q := by
  unfold Oper.wp execOp
  simp only [ho, hm, hx, Sem.run_bind, Sem.run_pure, hr, Result.andThen_ok]
  exact h
theorem wp_entryStore_run {t : TypeId} {m s x : Operand} {M T X : Value} (hr : (Instr.entryStore t M T X).run P w = .ok () w') (ho : o.op = .entryStore t m s x) (hm : a.eval m = M) (hs : a.eval s = T) (hx : a.eval x = X) (h : K (a.put o.dst undef) w') : Oper.wp P o a w K Q := by
  unfold Oper.wp execOp
  simp only [ho, hm, hs, hx, Sem.run_bind, Sem.run_pure, hr, Result.andThen_ok]
  exact h
end
end Go.Proofs.Ytnapokdipelmiaa
