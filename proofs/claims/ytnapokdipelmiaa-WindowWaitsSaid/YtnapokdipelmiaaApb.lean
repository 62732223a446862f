/- append to a slice of bytes of one's own (as in XSlc, whose other contracts not every seat reaches). -/
import Derived.Test.YtnapokdipelmiaaKt0
import Derived.Test.YtnapokdipelmiaaBytes
namespace Go.Proofs.Ytnapokdipelmiaa
open Go.RowKit
set_option linter.unusedVariables false
theorem run_append_b {P : Program} (w : World) {t tx ty e e' : TypeId} (ht : P.underlying t = some (.slice e)) (he : Elem P e (.int .u8 0) 1 1) (hk : P.underlying tx = some (.slice e')) {v : Value} {l : List Int} (ho : OwnB w v l)
    {a : Option Addr} {c : Nat} {m : List Int} (hr : RdB w a m) (hn : l.length + m.length ≤ 1000000000) :
    ∃ v' w', (Builtin.append_ #[t, tx] ty #[v, .slice a m.length c]).run P w = .ok v' w' ∧ OwnB w' v' (l ++ m) ∧ Kp (fun k => v.ownBlock = some k) w w' ∧ (v'.ownBlock = v.ownBlock ∨ v'.ownBlock = some w.heap.size) := by
  obtain ⟨v', w', h1, h2, h3, h4, h5⟩ := run_append_at (P := P) (ty := ty) w ht he hk ho.own (a := a) (m := m.length) (c := c) (news := m.map (Value.int .u8)) (by simp) hr.rd (oneCell_u8 m) (by unfold maxLen; omega) (by omega)
  refine ⟨v', w', h1, ⟨?_, h5 isB isB_zero (by rw [← List.map_append]; exact isB_map (ho.byt.append hr.bd)) ho.blk, ho.byt.append hr.bd, by simp; omega⟩, h3, h4⟩
  rw [List.length_append, List.map_append]; exact h2
theorem OwnB.nil' (w : World) : OwnB w (.slice none 0 0) [] := ⟨Own.nil w 1, BlkP.nil _ _ _ _, fun x hx => by simp at hx, by simp⟩
theorem OwnB.rdb {w : World} {a : Option Addr} {n c : Nat} {l : List Int} (h : OwnB w (.slice a n c) l) : RdB w a l := by
  obtain ⟨a', c', e, hr, _⟩ := h.form
  simp only [Value.slice.injEq] at e
  obtain ⟨rfl, _, rfl⟩ := e
  exact hr
end Go.Proofs.Ytnapokdipelmiaa
