/- Package chunk: a cutter's New, End, Left, and what takes nothing. -/
import Derived.Test.YtlabkldpcbmjbaaChkV
namespace Go.Proofs.Ytlabkldpcbmjbaa
open Go.RowKit
set_option linter.unusedVariables false
set_option linter.unusedSimpArgs false
theorem wpList_build2 {P : Program} {w : World} {ops : Array Oper} {rest : List Oper} {o : Oper} {a : Act} {Q : Exit → Act → World → Prop} {t : TypeId} {i j : Nat} {x y : Operand} {X Y v : Value}
    (hrun : (Instr.build t #[(i, X), (j, Y)]).run P w = .ok v w) (hgd : Region.wanted o (yielded ops a.tmps) = true) (ho : o.op = .build t #[(i, x), (j, y)]) (hx : a.eval x = X) (hy : a.eval y = Y)
    (h : wpList P ops Q rest (a.put o.dst v) w) : wpList P ops Q (o :: rest) a w := by
  refine wpList_step fun K hK => ?_
  rw [if_pos hgd]
  unfold Oper.wp execOp
  simp only [ho, Sem.run_bind, Sem.run_pure, Result.andThen_ok, List.map_toArray, List.map_cons, List.map_nil, hx, hy, hrun]
  exact hK _ _ h
def cutC : List Value := freshC ++ cutT (.slice none 0 0) true false
theorem cut_build (w : World) : (Instr.build 56 #[(0, .agg freshC.toArray), (2, .bool true)]).run Try.prog w = .ok (.agg cutC.toArray) w := by kernel_rfl
theorem new_cut (w : World) : Calls Try.prog 21 #[] w fun e w' => ∃ cb, e = .returned (.pointer (some ⟨cb, 0, none⟩)) ∧ w.heap.size ≤ cb ∧ EdgeAt w' cb [] (cutT (.slice none 0 0) true false) ∧ Kp (fun _ => False) w w' := by
  have HF := Lib.hid fresh_any
  have HB := Lib.hid cut_build
  have hat : ∀ (w' : World) (T : TypeId), EdgeAt (w'.alloc (.cells cutC.toArray T)) w'.heap.size [] (cutT (.slice none 0 0) true false) := fun w' T => EdgeAt.fresh (At.new w' cutC T)
  have HAT := Lib.hid hat
  clear hat
  obtain ⟨A, hA⟩ : ∃ A, A = freshC.toArray := ⟨_, rfl⟩
  obtain ⟨C, hC⟩ : ∃ C, C = cutC.toArray := ⟨_, rfl⟩
  rw [← hA] at HF HB
  rw [← hC] at HB HAT
  clear hA hC
  go_enter Try.func21, Try.ntmps21
  go_wp2_with (first | (go_at_call 33; (with_reducible refine (HF.out _).mono ?_); rintro e w1 ⟨rfl, k1⟩) | (refine wpList_build2 (HB.out _) rfl rfl rfl rfl ?_))
  go_ret
  exact ⟨_, rfl, k1.size, HAT.out _ _, k1.alloc _⟩
theorem out_cells (cb : Nat) (made over : Bool) (w : World) (c1 : w.cell? ⟨cb, 21, none⟩ = some (.bool made)) (c2 : w.cell? ⟨cb, 22, none⟩ = some (.bool over)) :
    Calls Try.prog 36 #[.pointer (some ⟨cb, 0, none⟩)] w fun e w' => e = .returned (.int .i64 (if made then (if over then 9 else 0) else 1)) ∧ w = w' := by
  cases made <;> cases over
  all_goals (go_enter Try.func36, Try.ntmps36; go_wp2; go_ret; exact ⟨rfl, rfl⟩)
/-- What is refused. -/
theorem push_no (p : Option Addr) (a : Option Addr) (n cap : Nat) (k : Int) (hk : k = 1 ∨ k = 9) (w : World)
    (hout : ∀ w', Kp (fun _ => False) w w' → Calls Try.prog 36 #[.pointer p] w' fun e w'' => e = .returned (.int .i64 k) ∧ w' = w'') :
    Calls Try.prog 26 #[.pointer p, .slice a n cap] w fun e w' => e = .returned (.tuple #[.slice none 0 0, .int .i64 k]) ∧ Kp (fun _ => False) w w' := by
  have HO := Lib.hid hout
  clear hout
  have e1 : (k != 0) = true := by rcases hk with rfl | rfl <;> rfl
  clear hk
  go_enter Try.func26, Try.ntmps26
  go_upto_region 1 with fail
  refine wp_world (fun wx => At wx w.heap.size [.pointer p] ∧ Kp (fun _ => False) w wx) ⟨(At.new w [.pointer p] _).alloc _, ((Kp.refl _ w).alloc _).alloc _⟩ ?_
  rintro w1 ⟨ha, k1⟩
  have cc := (ha.cell 0).trans (show _ = some (.pointer p) from rfl)
  have K1 := Lib.hid k1
  clear ha k1
  go_wp2_with (go_at_call 36; (with_reducible refine (HO.out _ K1.out).mono ?_); rintro e w' ⟨rfl, rfl⟩)
  go_ret2
  exact ⟨rfl, K1.out⟩
theorem end_no (p : Option Addr) (k : Int) (hk : k = 1 ∨ k = 9) (w : World)
    (hout : Calls Try.prog 36 #[.pointer p] w fun e w'' => e = .returned (.int .i64 k) ∧ w = w'') :
    Calls Try.prog 22 #[.pointer p] w fun e w' => e = .returned (.tuple #[.slice none 0 0, .int .i64 k]) ∧ w = w' := by
  have HO := Lib.hid hout
  clear hout
  have e1 : (k != 0) = true := by rcases hk with rfl | rfl <;> rfl
  clear hk
  go_enter Try.func22, Try.ntmps22
  go_wp2_with (go_at_call 36; (with_reducible refine HO.out.mono ?_); rintro e w' ⟨rfl, rfl⟩)
  go_ret2
  exact ⟨rfl, rfl⟩
theorem end_cut (cb : Nat) (cur : List Int) (left : Value) (w : World) (h : EdgeAt w cb cur (cutT left true false)) :
    Calls Try.prog 22 #[.pointer (some ⟨cb, 0, none⟩)] w fun e w' => e = .returned (.tuple #[left, .int .i64 0]) ∧ EdgeAt w' cb cur (cutT (.slice none 0 0) true true) ∧ Kp (· = cb) w w' := by
  have c0 : w.cell? ⟨cb, 20, none⟩ = some left := (edge_tail h 0).1
  have f0 : w.frozen? ⟨cb, 20, none⟩ = false := (edge_tail h 0).2
  have c2 : w.cell? ⟨cb, 22, none⟩ = some (.bool false) := (edge_tail h 2).1
  have f2 : w.frozen? ⟨cb, 22, none⟩ = false := (edge_tail h 2).2
  have CO := Lib.hid (out_at cb cur left true false w h)
  have HS := Lib.hid ((h.setTail 0 (.slice none 0 0)).setTail 2 (.bool true))
  clear h
  go_enter Try.func22, Try.ntmps22
  go_wp2_with (go_at_call 36; (with_reducible refine CO.out.mono ?_); rintro e w' ⟨rfl, rfl⟩)
  go_ret2
  exact ⟨rfl, HS.out, ((Kp.refl (· = cb) w).setCell (p := ⟨cb, 20, none⟩) (fun _ => rfl) _).setCell (p := ⟨cb, 22, none⟩) (fun _ => rfl) _⟩
theorem left_cells (cb : Nat) (a : Option Addr) (n c : Nat) (w : World) (c0 : w.cell? ⟨cb, 20, none⟩ = some (.slice a n c)) :
    Calls Try.prog 25 #[.pointer (some ⟨cb, 0, none⟩)] w fun e w' => e = .returned (.int .i64 n) ∧ w = w' := by
  go_enter Try.func25, Try.ntmps25
  go_wp2
  go_ret
  exact ⟨rfl, rfl⟩
theorem left_nil (w : World) :
    Calls Try.prog 25 #[.pointer none] w fun e w' => e = .returned (.int .i64 0) ∧ w = w' := by
  go_enter Try.func25, Try.ntmps25
  go_wp2
  go_ret
  exact ⟨rfl, rfl⟩
/-- Cut: how many bytes each chunk has. -/
theorem elem_int : Elem Try.prog 3 (.int .i64 0) 1 8 := Elem.mk' (by kernel_rfl) rfl (by omega) (by simp [Value.cells, Value.oneCell'])
end Go.Proofs.Ytlabkldpcbmjbaa
