/- Chapter 12: what comes in, opened: datagrams, and acts. -/
import Derived.Test.YtgcgcdgjooaipaaNetKn
import Derived.Test.YtgcgcdgjooaipaaOpen
namespace Go.Proofs.Ytgcgcdgjooaipaa
open Go.RowKit
set_option linter.unusedVariables false
theorem wf_i64' {n : Int} (h : (Lit.int .i64 n).wf = true) : -9223372036854775808 ≤ n ∧ n ≤ 9223372036854775807 := by
  simp [Lit.wf, IntKind.min, IntKind.max, IntKind.signed, IntKind.bits] at h; omega
theorem rdg_int {w : World} {n : Int} (r : Rdg Try.prog w 3 (Value.int .i64 n).cells.toList) : -9223372036854775808 ≤ n ∧ n ≤ 9223372036854775807 := by
  obtain ⟨k, e1, hk⟩ := Rdg.int Try.underlying3 r
  have e2 : n = k := by have : [Value.int .i64 n] = [.int .i64 k] := e1; simpa using this
  subst e2
  exact wf_i64' hk
theorem open_dg {w : World} {cs : List Value} (h : Rdg Try.prog w 28 cs) :
    ∃ fr to a l c, cs = dgC fr to (.slice a l.length c) ∧ RdB w a l ∧ l.length ≤ c ∧ c ≤ 140737488351232 := by
  obtain ⟨hl, hf⟩ := h.struct Try.underlying28
  rw [show Try.prog.cellsOf 28 = 3 by kernel_rfl] at hl
  have hi : Try.prog.cellsOf 3 = 1 := by kernel_rfl
  have hb : Try.prog.cellsOf 26 = 1 := by kernel_rfl
  match cs, hl with
  | [v0, v1, v2], _ =>
    have r0 : Rdg Try.prog w 3 ((([v0, v1, v2] : List Value).drop 0).take (Try.prog.cellsOf 3)) := hf 0 _ rfl
    have r1 : Rdg Try.prog w 3 ((([v0, v1, v2] : List Value).drop 1).take (Try.prog.cellsOf 3)) := hf 1 _ rfl
    have r2 : Rdg Try.prog w 26 ((([v0, v1, v2] : List Value).drop 2).take (Try.prog.cellsOf 26)) := hf 2 _ rfl
    simp only [hi, hb, List.drop_zero, List.drop_succ_cons, List.take_succ_cons, List.take_zero] at r0 r1 r2
    obtain ⟨n0, e0, _⟩ := r0.int Try.underlying3
    obtain ⟨n1, e1, _⟩ := r1.int Try.underlying3
    obtain ⟨a, l, c, e2, hr, hc, hm⟩ := r2.bytes Try.underlying26 Try.underlying5 (by kernel_rfl) (by kernel_rfl)
    cases e0; cases e1; cases e2
    exact ⟨n0, n1, a, l, c, rfl, hr, hc, hm⟩
theorem rdd_open {w : World} {cs : List Value} (h : Rdg Try.prog w 22 cs) : ∃ a ds cap, cs = [.slice a ds.length cap] ∧ RdD w a ds ∧ ds.length ≤ cap ∧ cap ≤ 140737488351232 ∧ ∀ i, (nd ds i).l.length ≤ 140737488351232 := by
  have hC : Try.prog.cellsOf 28 = 3 := by kernel_rfl
  have hB : Try.prog.bytesOf 28 = 40 := by kernel_rfl
  obtain ⟨a, len, cap, rfl, hle, hm, hb, hi⟩ := h.slice Try.underlying22 (by rw [hC]; omega)
  rw [hB] at hb
  obtain ⟨l, hlen, hp⟩ := list_of (α := Nd) len (fun i d => ∃ b off ai ci, a = some ⟨b, off, none⟩ ∧ w.cell? ⟨b, off + i * 3, none⟩ = some (.int .i64 d.fr) ∧ w.cell? ⟨b, off + i * 3 + 1, none⟩ = some (.int .i64 d.to) ∧
    w.cell? ⟨b, off + i * 3 + 2, none⟩ = some (.slice ai d.l.length ci) ∧ RdB w ai d.l ∧ d.l.length ≤ ci ∧ ci ≤ 140737488351232) (fun i hil => by
    obtain ⟨b, off, cs', ha, _, hlc, hc, hr⟩ := hi i (by omega)
    rw [hC] at hlc hc
    obtain ⟨fr, to, ai, li, ci, rfl, hrd, hl1, hl2⟩ := open_dg hr
    have c0 := hc 0 (by omega)
    have c1 := hc 1 (by omega)
    have c2 := hc 2 (by omega)
    simp only [Nat.add_zero] at c0
    exact ⟨⟨0, fr, to, .slice ai li.length ci, li⟩, b, off, ai, ci, ha, c0, by rw [Nat.add_assoc]; exact c1, by rw [Nat.add_assoc]; exact c2, hrd, hl1, hl2⟩)
  subst hlen
  have hp' := fun i hi => hp i hi default
  refine ⟨a, l, cap, rfl, fun i hi => ?_, hle, by omega, fun i => ?_⟩
  · obtain ⟨b, off, ai, ci, h1, h2, h3, h4, h5, h6, h7⟩ := hp' i hi
    exact ⟨b, off, ai, ci, h1, h2, h3, h4, h5, h6⟩
  · by_cases hi : i < l.length
    · obtain ⟨b, off, ai, ci, h1, h2, h3, h4, h5, h6, h7⟩ := hp' i hi
      exact Nat.le_trans h6 h7
    · unfold nd
      rw [List.getD_eq_getElem?_getD, List.getElem?_eq_none (by omega)]
      exact Nat.zero_le _
end Go.Proofs.Ytgcgcdgjooaipaa
