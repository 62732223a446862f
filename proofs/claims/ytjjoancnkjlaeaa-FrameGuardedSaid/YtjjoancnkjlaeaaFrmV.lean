/- A frame that came in as an argument. -/
import Derived.Test.YtjjoancnkjlaeaaFrmU
import Derived.Test.YtjjoancnkjlaeaaOpen
namespace Go.Proofs.Ytjjoancnkjlaeaa
open Go.RowKit
set_option linter.unusedVariables false
theorem wf_i64 {n : Int} (h : (Lit.int .i64 n).wf = true) : -9223372036854775808 ≤ n ∧ n ≤ 9223372036854775807 := by
  simp [Lit.wf, IntKind.min, IntKind.max, IntKind.signed, IntKind.bits] at h
  omega
theorem open_frame {w : World} {c0 : Array Value} (h : Rdg Try.prog w 24 (Value.agg c0).cells.toList) :
    ∃ f a c, c0 = frA f a c ∧ frI f ∧ (-9223372036854775808 ≤ f.ty ∧ f.ty ≤ 9223372036854775807) ∧ RdB w a f.bd ∧ f.bd.length ≤ c ∧ c ≤ 140737488351232 := by
  have e0 : (Value.agg c0).cells.toList = c0.toList := rfl
  rw [e0] at h
  obtain ⟨hl, hf⟩ := h.struct Try.underlying24
  rw [show Try.prog.cellsOf 24 = 6 by kernel_rfl] at hl
  obtain ⟨cs, rfl⟩ : ∃ cs, c0 = cs.toArray := ⟨c0.toList, by simp⟩
  simp only at hl hf
  obtain _ | ⟨v0, _ | ⟨v1, _ | ⟨v2, _ | ⟨v3, _ | ⟨v4, _ | ⟨v5, _ | ⟨v6, cs⟩⟩⟩⟩⟩⟩⟩ := cs <;> simp at hl
  have hi : Try.prog.cellsOf 3 = 1 := by kernel_rfl
  have hb : Try.prog.cellsOf 22 = 1 := by kernel_rfl
  have f0 : Rdg Try.prog w 3 [v0] := by have h := hf 0 _ rfl; change Rdg Try.prog w 3 (List.take (Try.prog.cellsOf 3) (List.drop 0 [v0, v1, v2, v3, v4, v5])) at h; rw [hi] at h; exact h
  have f1 : Rdg Try.prog w 3 [v1] := by have h := hf 1 _ rfl; change Rdg Try.prog w 3 (List.take (Try.prog.cellsOf 3) (List.drop 1 [v0, v1, v2, v3, v4, v5])) at h; rw [hi] at h; exact h
  have f2 : Rdg Try.prog w 3 [v2] := by have h := hf 2 _ rfl; change Rdg Try.prog w 3 (List.take (Try.prog.cellsOf 3) (List.drop 2 [v0, v1, v2, v3, v4, v5])) at h; rw [hi] at h; exact h
  have f3 : Rdg Try.prog w 3 [v3] := by have h := hf 3 _ rfl; change Rdg Try.prog w 3 (List.take (Try.prog.cellsOf 3) (List.drop 3 [v0, v1, v2, v3, v4, v5])) at h; rw [hi] at h; exact h
  have f4 : Rdg Try.prog w 3 [v4] := by have h := hf 4 _ rfl; change Rdg Try.prog w 3 (List.take (Try.prog.cellsOf 3) (List.drop 4 [v0, v1, v2, v3, v4, v5])) at h; rw [hi] at h; exact h
  have f5 : Rdg Try.prog w 22 [v5] := by have h := hf 5 _ rfl; change Rdg Try.prog w 22 (List.take (Try.prog.cellsOf 22) (List.drop 5 [v0, v1, v2, v3, v4, v5])) at h; rw [hb] at h; exact h
  obtain ⟨n0, e0, k0⟩ := f0.int Try.underlying3
  obtain ⟨n1, e1, k1⟩ := f1.int Try.underlying3
  obtain ⟨n2, e2, k2⟩ := f2.int Try.underlying3
  obtain ⟨n3, e3, k3⟩ := f3.int Try.underlying3
  obtain ⟨n4, e4, k4⟩ := f4.int Try.underlying3
  obtain ⟨a, l, c, e5, hr, hc, hm⟩ := f5.bytes Try.underlying22 Try.underlying5 (by kernel_rfl) (by kernel_rfl)
  cases e0; cases e1; cases e2; cases e3; cases e4; cases e5
  exact ⟨⟨n0, n1, n2, n3, n4, l⟩, a, c, rfl, ⟨wf_i64 k1, wf_i64 k2, wf_i64 k3, wf_i64 k4⟩, wf_i64 k0, hr, hc, hm⟩
end Go.Proofs.Ytjjoancnkjlaeaa
