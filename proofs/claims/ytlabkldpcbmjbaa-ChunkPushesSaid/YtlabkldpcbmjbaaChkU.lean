/- What abides a loop's book-keeping; one append as a step. -/
import Derived.Test.YtlabkldpcbmjbaaChkC
import Derived.Test.YtlabkldpcbmjbaaChkS
import Derived.Test.YtlabkldpcbmjbaaChkN
namespace Go.Proofs.Ytlabkldpcbmjbaa
open Go.RowKit
set_option linter.unusedVariables false
theorem Own.at' {w : World} {v : Value} {n size : Nat} {vs : List Value} (h : Own w v n size vs) {g : Nat} (hg : v.ownBlock = some g) : ∃ cs, At w g cs := by
  rcases h.2 with ⟨rfl, _⟩ | ⟨g', cap, sp, rfl, hat, r⟩
  · simp [Value.ownBlock] at hg
  · simp [Value.ownBlock] at hg; subst hg; exact ⟨_, hat⟩
theorem Own.notNC {B : Nat} {w : World} {v : Value} {n size : Nat} {vs : List Value} (h : Own w v n size vs) : ∀ g, v.ownBlock = some g → ¬ NC B w g := fun g hg => by
  obtain ⟨cs, ha⟩ := h.at' hg; exact NC.not ha
theorem LLs.abd {B B' : Nat} {w w' : World} {v : Value} {ls : List (List Int)} {vs : List Value} (h : LLs B w v ls vs) (k : Kp (NC B' w) w w') : LLs B w' v ls vs :=
  h.kp k h.own.notNC (fun i g hi hg => (h.each i hi).own.notNC g hg)
theorem EdgeAt.abd {B' : Nat} {w w' : World} {b : Nat} {cur : List Int} {T : List Value} (h : EdgeAt w b cur T) (k : Kp (NC B' w) w w') : EdgeAt w' b cur T := by
  obtain ⟨r, n, s, h, i⟩ := h
  exact ⟨r, n, s, k.at h (NC.not h), i⟩
theorem KeepsFrom.of_kp {S : Nat → Prop} {B : Nat} {W W' : World} (k : Kp S W W') (h : ∀ i, S i → i < B ∨ ∃ cs, At W i cs) : KeepsFrom B W W' :=
  ⟨k.size, fun i o hB ho hc => by
    by_cases hs : S i
    · rcases h i hs with h1 | ⟨cs, e, h1⟩
      · omega
      · rw [h1] at ho; cases ho; cases hc
    · exact (k.block i (Array.getElem?_eq_some_iff.1 ho).1 hs).trans ho⟩
theorem RdB.keeps {S : Nat → Prop} {w0 A A' : World} {a : Option Addr} {l : List Int} (h0 : RdB w0 a l) (h : RdB A a l) (k : Kp S A A') (hs : ∀ i, i < w0.heap.size → ¬ S i) : RdB A' a l := by
  by_cases hl : l = []
  · subst hl; exact RdB.nil _ _
  · obtain ⟨b, o, rfl, hc⟩ := h0.cell 0 (by cases l with | nil => exact absurd rfl hl | cons => simp)
    exact h.kp k (fun y hy => by cases hy; exact hs b (World.block_lt_of_cell? w0 _ hc))
theorem TI.abd {eb bB bE B : Nat} {a : Option Addr} {cap : Nat} {l cur : List Int} {w0 W W' : World} (h : TI eb bB bE a cap l cur W) (k : Kp (NC B W) W W') (h0 : RdB w0 a l) (hw : w0.heap.size ≤ B) (h1 : bB < B) (h2 : bE < B) :
    TI eb bB bE a cap l cur W' := by
  obtain ⟨⟨T, he⟩, hb, hE, hr⟩ := h
  exact ⟨⟨T, he.abd k⟩, k.cell hb (fun e => by have := e.1; simp at this; omega), k.cell hE (fun e => by have := e.1; simp at this; omega), h0.keeps hr k (fun i hi e => by have := e.1; omega)⟩
section
variable {P : Program}
theorem wp_append_go {o : Oper} {a : Act} {w : World} {K : Act → World → Prop} {Q : Exit → Act → World → Prop} {s x : Operand} {t tx : TypeId} {w' : World} {v X v' : Value}
    (hrun : (Builtin.append_ #[t, tx] o.type #[v, X]).run P w = .ok v' w') (ho : o.op = .call { callee := .builtin .append, args := #[s, x], argTypes := #[t, tx] })
    (hs : a.eval s = v) (hx : a.eval x = X) (h : K (a.put o.dst v') w') : Oper.wp P o a w K Q := by
  unfold Oper.wp execOp
  simp only [ho, resolve, invoke, builtin, Sem.run_bind, Sem.run_pure, Result.andThen_ok, List.map_toArray, List.map_cons, List.map_nil, hs, hx, hrun]
  exact h
end
theorem elem_sl : Elem Try.prog 22 (.slice none 0 0) 1 24 := Elem.mk' (by kernel_rfl) rfl (by omega) (by simp [Value.cells, Value.oneCell'])
end Go.Proofs.Ytlabkldpcbmjbaa
