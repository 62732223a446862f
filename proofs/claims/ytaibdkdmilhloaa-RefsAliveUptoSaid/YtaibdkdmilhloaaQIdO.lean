/- IDs, items and manifests that come in, opened. -/
import Derived.Test.YtaibdkdmilhloaaQBig
import Derived.Test.YtaibdkdmilhloaaQIdM
import Derived.Test.YtaibdkdmilhloaaQOpU
namespace Go.Proofs.Ytaibdkdmilhloaa
open Go.RowKit
set_option linter.unusedVariables false
set_option linter.unusedSimpArgs false
theorem rdg_byte {w : World} {cs : List Value} (h : Rdg Try.prog w 5 cs) : ∃ b : UInt8, cs = [Extern.Stop.cell b] := by
  obtain ⟨n, rfl, hw⟩ := h.int Try.underlying5
  simp [Lit.wf, IntKind.min, IntKind.max, IntKind.signed, IntKind.bits] at hw
  obtain ⟨k, rfl⟩ := Int.eq_ofNat_of_zero_le hw.1
  refine ⟨UInt8.ofNat k, ?_⟩
  unfold Extern.Stop.cell
  have : (UInt8.ofNat k).toNat = k := by simp [UInt8.toNat_ofNat']; omega
  rw [this]; rfl
theorem open_id {w : World} {cs : List Value} (h : Rdg Try.prog w 41 cs) : ∃ x : Id, cs = idW x ∧ x.length = 16 := by
  obtain ⟨hl, hf⟩ := h.array id_und
  rw [show Try.prog.cellsOf 41 = 16 by kernel_rfl] at hl
  rw [show Try.prog.cellsOf 5 = 1 by kernel_rfl] at hf
  obtain ⟨x, hx, hp⟩ := list_of (α := UInt8) 16 (fun i b => cs[i]? = some (Extern.Stop.cell b)) (fun i hi => by
    obtain ⟨b, hb⟩ := rdg_byte (hf i hi)
    refine ⟨b, ?_⟩
    have h1 : ((cs.drop (i * 1)).take 1)[0]? = cs[i]? := by
      rw [List.getElem?_take, if_pos (by omega), List.getElem?_drop, Nat.mul_one, Nat.add_zero]
    rw [← h1, hb]; rfl)
  refine ⟨x, ?_, hx⟩
  apply List.ext_getElem?
  intro i
  by_cases hi : i < 16
  · rw [hp i hi 0]
    simp [idW, List.getElem?_map, List.getD_eq_getElem?_getD, hx, hi]
  · rw [List.getElem?_eq_none (by omega), List.getElem?_eq_none (by rw [idW_len]; omega)]
theorem le_sum_mem {x : Nat} : ∀ {l : List Nat}, x ∈ l → x ≤ l.sum
  | y :: r, h => by
    rw [List.sum_cons]
    rcases List.mem_cons.1 h with h | h
    · omega
    · have := le_sum_mem h; omega
theorem sum_ge (N : Nat → Nat) (h : ∀ i, 1 ≤ N i) : ∀ n, n ≤ ((List.range n).map N).sum
  | 0 => by simp
  | n + 1 => by
    rw [List.range_succ, List.map_append, List.sum_append]
    have := sum_ge N h n
    have := h n
    simp
    omega
theorem sum_le (N M : Nat → Nat) : ∀ n, (∀ i, i < n → M i ≤ N i) → ((List.range n).map M).sum ≤ ((List.range n).map N).sum
  | 0, _ => by simp
  | n + 1, h => by
    rw [List.range_succ, List.map_append, List.map_append, List.sum_append, List.sum_append]
    have := sum_le N M n (fun i hi => h i (by omega))
    have := h n (by omega)
    simp
    omega
theorem open_ids {w : World} {cs : List Value} {B : Nat} (h : Rdu Try.prog w 34 cs B) : ∃ a l cap, cs = [.slice a (List.length l) cap] ∧ RdI w a l ∧ l.length ≤ cap ∧ l.length < B := by
  have hC : Try.prog.cellsOf 41 = 16 := by kernel_rfl
  obtain ⟨a, len, cap, N, rfl, hle, hm, hb, hs, hi⟩ := h.slice Try.underlying34 (by rw [hC]; omega)
  obtain ⟨l, hlen, hp⟩ := list_of (α := Id) len (fun i x => (∃ b off, a = some ⟨b, off, none⟩ ∧ w.rangeAt b (off + i * 16) (idW x)) ∧ x.length = 16) (fun i hil => by
    obtain ⟨b, off, cs', ha, _, hlc, hc, hr⟩ := hi i hil
    rw [hC] at hc
    obtain ⟨x, rfl, hx⟩ := open_id hr.rdg
    refine ⟨x, ⟨b, off, ha, fun j v hv => ?_⟩, hx⟩
    have hj : j < 16 := by have := (List.getElem?_eq_some_iff.1 hv).1; rw [idW_len, hx] at this; exact this
    rw [Nat.add_assoc, hc j hj, hv])
  subst hlen
  refine ⟨a, l, cap, rfl, ⟨fun x hx => ?_, fun i hi => (hp i hi []).1⟩, hle, ?_⟩
  · obtain ⟨i, hil, rfl⟩ := List.getElem_of_mem hx
    have := (hp i hil []).2
    rwa [List.getD_eq_getElem?_getD, List.getElem?_eq_getElem hil] at this
  · have h1 : ((List.range l.length).map fun _ => 1).sum ≤ ((List.range l.length).map N).sum := sum_le N (fun _ => 1) l.length (fun i hil => by
      obtain ⟨b, off, cs', ha, _, hlc, hc, hr⟩ := hi i hil
      exact hr.pos)
    have h2 := sum_ge (fun _ => 1) (fun _ => Nat.le_refl _) l.length
    omega
theorem open_item {w : World} {cs : List Value} {B : Nat} (h : Rdu Try.prog w 56 cs B) :
    ∃ p kd md sz t ac ch cc, cs = [.string p, .int .i64 kd, .int .i64 md, .int .i64 sz, .string t, .slice ac (List.length ch) cc] ∧ RdI w ac ch ∧ ch.length ≤ cc ∧ ch.length + 1 ≤ B := by
  obtain ⟨hl, hf⟩ := h.struct Try.underlying56
  rw [show Try.prog.cellsOf 56 = 6 by kernel_rfl] at hl
  have hi : Try.prog.cellsOf 3 = 1 := by kernel_rfl
  have hs : Try.prog.cellsOf 9 = 1 := by kernel_rfl
  have hb : Try.prog.cellsOf 34 = 1 := by kernel_rfl
  match cs, hl with
  | [v0, v1, v2, v3, v4, v5], _ =>
    obtain ⟨b0, _, r0⟩ : ∃ b, b < B ∧ Rdu Try.prog w 9 ((([v0, v1, v2, v3, v4, v5] : List Value).drop 0).take (Try.prog.cellsOf 9)) b := hf 0 _ rfl
    obtain ⟨b1, _, r1⟩ : ∃ b, b < B ∧ Rdu Try.prog w 3 ((([v0, v1, v2, v3, v4, v5] : List Value).drop 1).take (Try.prog.cellsOf 3)) b := hf 1 _ rfl
    obtain ⟨b2, _, r2⟩ : ∃ b, b < B ∧ Rdu Try.prog w 3 ((([v0, v1, v2, v3, v4, v5] : List Value).drop 2).take (Try.prog.cellsOf 3)) b := hf 2 _ rfl
    obtain ⟨b3, _, r3⟩ : ∃ b, b < B ∧ Rdu Try.prog w 3 ((([v0, v1, v2, v3, v4, v5] : List Value).drop 3).take (Try.prog.cellsOf 3)) b := hf 3 _ rfl
    obtain ⟨b4, _, r4⟩ : ∃ b, b < B ∧ Rdu Try.prog w 9 ((([v0, v1, v2, v3, v4, v5] : List Value).drop 4).take (Try.prog.cellsOf 9)) b := hf 4 _ rfl
    obtain ⟨b5, q5, r5⟩ : ∃ b, b < B ∧ Rdu Try.prog w 34 ((([v0, v1, v2, v3, v4, v5] : List Value).drop 5).take (Try.prog.cellsOf 34)) b := hf 5 _ rfl
    simp only [hi, hs, hb, List.drop_zero, List.drop_succ_cons, List.take_succ_cons, List.take_zero] at r0 r1 r2 r3 r4 r5
    obtain ⟨s0, e0, _⟩ := r0.rdg.string Try.underlying9
    obtain ⟨n1, e1, _⟩ := r1.rdg.int Try.underlying3
    obtain ⟨n2, e2, _⟩ := r2.rdg.int Try.underlying3
    obtain ⟨n3, e3, _⟩ := r3.rdg.int Try.underlying3
    obtain ⟨s4, e4, _⟩ := r4.rdg.string Try.underlying9
    obtain ⟨a, l, c, e5, hr, hc, hm⟩ := open_ids r5
    cases e0; cases e1; cases e2; cases e3; cases e4; cases e5
    exact ⟨s0, n1, n2, n3, s4, a, l, c, rfl, hr, hc, by omega⟩
theorem open_items {w : World} {cs : List Value} {B : Nat} (h : Rdu Try.prog w 52 cs B) (hB : B ≤ 2000000) : ∃ a its cap, cs = [.slice a (List.length its) cap] ∧ RdT w a its ∧ its.length ≤ cap ∧ bulkT its < B ∧ its.length < B := by
  have hC : Try.prog.cellsOf 56 = 6 := by kernel_rfl
  obtain ⟨a, len, cap, N, rfl, hle, hm, hb, hs, hi⟩ := h.slice Try.underlying52 (by rw [hC]; omega)
  have h1 : ((List.range len).map fun _ => 1).sum ≤ ((List.range len).map N).sum := sum_le N (fun _ => 1) len (fun i hil => by
    obtain ⟨b, off, cs', ha, _, hlc, hc, hr⟩ := hi i hil
    exact hr.pos)
  have h2 := sum_ge (fun _ => 1) (fun _ => Nat.le_refl _) len
  obtain ⟨its, hlen, hp⟩ := list_of (α := List Id) len (fun i ch => (∃ b off p kd md sz t ac cc, a = some ⟨b, off, none⟩ ∧ w.cell? ⟨b, off + i * 6, none⟩ = some (.string p) ∧ w.cell? ⟨b, off + i * 6 + 1, none⟩ = some (.int .i64 kd) ∧ w.cell? ⟨b, off + i * 6 + 2, none⟩ = some (.int .i64 md) ∧ w.cell? ⟨b, off + i * 6 + 3, none⟩ = some (.int .i64 sz) ∧
    w.cell? ⟨b, off + i * 6 + 4, none⟩ = some (.string t) ∧ w.cell? ⟨b, off + i * 6 + 5, none⟩ = some (.slice ac ch.length cc) ∧ RdI w ac ch ∧ ch.length ≤ cc) ∧ ch.length + 1 ≤ N i) (fun i hil => by
    obtain ⟨b, off, cs', ha, _, hlc, hc, hr⟩ := hi i hil
    rw [hC] at hc
    obtain ⟨p, kd, md, sz, t, ac, ch, cc, rfl, q1, q2, q3⟩ := open_item hr
    have c0 := hc 0 (by omega)
    rw [Nat.add_zero] at c0
    exact ⟨ch, ⟨b, off, p, kd, md, sz, t, ac, cc, ha, c0, by rw [Nat.add_assoc]; exact hc 1 (by omega), by rw [Nat.add_assoc]; exact hc 2 (by omega), by rw [Nat.add_assoc]; exact hc 3 (by omega), by rw [Nat.add_assoc]; exact hc 4 (by omega), by rw [Nat.add_assoc]; exact hc 5 (by omega), q1, q2⟩, q3⟩)
  subst hlen
  have hsum : bulkT its ≤ ((List.range its.length).map N).sum := by
    have e : its.map (fun it => it.length + 1) = (List.range its.length).map (fun i => (itn its i).length + 1) := by
      apply List.ext_getElem?
      intro i
      by_cases hil : i < its.length
      · simp [hil, itn, List.getD_eq_getElem?_getD]
      · simp [hil] <;> omega
    unfold bulkT
    rw [e]
    exact sum_le N _ its.length (fun i hil => (hp i hil []).2)
  refine ⟨a, its, cap, rfl, fun i hil => ?_, hle, by omega, by omega⟩
  obtain ⟨⟨b, off, p, kd, md, sz, t, ac, cc, q⟩, q3⟩ := hp i hil []
  have hN : N i ≤ ((List.range its.length).map N).sum := le_sum_mem (List.mem_map.2 ⟨i, by simpa using hil, rfl⟩)
  have q3' : (itn its i).length + 1 ≤ N i := q3
  exact ⟨b, off, p, kd, md, sz, t, ac, cc, q.1, q.2.1, q.2.2.1, q.2.2.2.1, q.2.2.2.2.1, q.2.2.2.2.2.1, q.2.2.2.2.2.2.1, q.2.2.2.2.2.2.2.1, q.2.2.2.2.2.2.2.2, by omega⟩
theorem open_man {w : World} {cs : List Value} {B : Nat} (h : Rdu Try.prog w 54 cs B) (hB : B ≤ 2000000) :
    ∃ x0 x1 x2 x3 ai m ci, cs = [.int .i64 x0, .int .i64 x1, .int .i64 x2, .int .i64 x3, .slice ai (List.length m) ci] ∧ RdT w ai m ∧ m.length ≤ ci ∧ m.length ≤ 2000000 ∧ bulkT m + 1 ≤ B := by
  obtain ⟨hl, hf⟩ := h.struct Try.underlying54
  rw [show Try.prog.cellsOf 54 = 5 by kernel_rfl] at hl
  have hi : Try.prog.cellsOf 3 = 1 := by kernel_rfl
  have hb : Try.prog.cellsOf 52 = 1 := by kernel_rfl
  match cs, hl with
  | [v0, v1, v2, v3, v4], _ =>
    obtain ⟨b0, _, r0⟩ : ∃ b, b < B ∧ Rdu Try.prog w 3 ((([v0, v1, v2, v3, v4] : List Value).drop 0).take (Try.prog.cellsOf 3)) b := hf 0 _ rfl
    obtain ⟨b1, _, r1⟩ : ∃ b, b < B ∧ Rdu Try.prog w 3 ((([v0, v1, v2, v3, v4] : List Value).drop 1).take (Try.prog.cellsOf 3)) b := hf 1 _ rfl
    obtain ⟨b2, _, r2⟩ : ∃ b, b < B ∧ Rdu Try.prog w 3 ((([v0, v1, v2, v3, v4] : List Value).drop 2).take (Try.prog.cellsOf 3)) b := hf 2 _ rfl
    obtain ⟨b3, _, r3⟩ : ∃ b, b < B ∧ Rdu Try.prog w 3 ((([v0, v1, v2, v3, v4] : List Value).drop 3).take (Try.prog.cellsOf 3)) b := hf 3 _ rfl
    obtain ⟨b4, q4, r4⟩ : ∃ b, b < B ∧ Rdu Try.prog w 52 ((([v0, v1, v2, v3, v4] : List Value).drop 4).take (Try.prog.cellsOf 52)) b := hf 4 _ rfl
    simp only [hi, hb, List.drop_zero, List.drop_succ_cons, List.take_succ_cons, List.take_zero] at r0 r1 r2 r3 r4
    obtain ⟨n0, e0, _⟩ := r0.rdg.int Try.underlying3
    obtain ⟨n1, e1, _⟩ := r1.rdg.int Try.underlying3
    obtain ⟨n2, e2, _⟩ := r2.rdg.int Try.underlying3
    obtain ⟨n3, e3, _⟩ := r3.rdg.int Try.underlying3
    obtain ⟨a, m, c, e4, hr, hc, hm, hm2⟩ := open_items r4 (by omega)
    cases e0; cases e1; cases e2; cases e3; cases e4
    exact ⟨n0, n1, n2, n3, a, m, c, rfl, hr, hc, by omega, by omega⟩
theorem open_mans {w : World} {cs : List Value} {B : Nat} (h : Rdu Try.prog w 33 cs B) (hB : B ≤ 2000000) : ∃ a ms cap, cs = [.slice a (List.length ms) cap] ∧ RdM w a ms ∧ ms.length ≤ cap ∧ bulkM ms < B ∧ ms.length < B := by
  have hC : Try.prog.cellsOf 54 = 5 := by kernel_rfl
  obtain ⟨a, len, cap, N, rfl, hle, hm, hb, hs, hi⟩ := h.slice Try.underlying33 (by rw [hC]; omega)
  have h1 : ((List.range len).map fun _ => 1).sum ≤ ((List.range len).map N).sum := sum_le N (fun _ => 1) len (fun i hil => by
    obtain ⟨b, off, cs', ha, _, hlc, hc, hr⟩ := hi i hil
    exact hr.pos)
  have h2 := sum_ge (fun _ => 1) (fun _ => Nat.le_refl _) len
  obtain ⟨ms, hlen, hp⟩ := list_of (α := List (List Id)) len (fun i m => (∃ b off x0 x1 x2 x3 ai ci, a = some ⟨b, off, none⟩ ∧ w.cell? ⟨b, off + i * 5, none⟩ = some (.int .i64 x0) ∧ w.cell? ⟨b, off + i * 5 + 1, none⟩ = some (.int .i64 x1) ∧ w.cell? ⟨b, off + i * 5 + 2, none⟩ = some (.int .i64 x2) ∧ w.cell? ⟨b, off + i * 5 + 3, none⟩ = some (.int .i64 x3) ∧
    w.cell? ⟨b, off + i * 5 + 4, none⟩ = some (.slice ai m.length ci) ∧ RdT w ai m ∧ m.length ≤ ci ∧ m.length ≤ 2000000) ∧ bulkT m ≤ N i) (fun i hil => by
    obtain ⟨b, off, cs', ha, _, hlc, hc, hr⟩ := hi i hil
    rw [hC] at hc
    have hN : N i ≤ ((List.range len).map N).sum := le_sum_mem (List.mem_map.2 ⟨i, by simpa using hil, rfl⟩)
    obtain ⟨x0, x1, x2, x3, ai, m, ci, rfl, q1, q2, q3, q4⟩ := open_man hr (by omega)
    have c0 := hc 0 (by omega)
    rw [Nat.add_zero] at c0
    exact ⟨m, ⟨b, off, x0, x1, x2, x3, ai, ci, ha, c0, by rw [Nat.add_assoc]; exact hc 1 (by omega), by rw [Nat.add_assoc]; exact hc 2 (by omega), by rw [Nat.add_assoc]; exact hc 3 (by omega), by rw [Nat.add_assoc]; exact hc 4 (by omega), q1, q2, q3⟩, by omega⟩)
  subst hlen
  have hsum : bulkM ms ≤ ((List.range ms.length).map N).sum := by
    have e : ms.map bulkT = (List.range ms.length).map (fun i => bulkT (mn ms i)) := by
      apply List.ext_getElem?
      intro i
      by_cases hil : i < ms.length
      · simp [hil, mn, List.getD_eq_getElem?_getD]
      · simp [hil] <;> omega
    unfold bulkM
    rw [e]
    exact sum_le N _ ms.length (fun i hil => (hp i hil []).2)
  exact ⟨a, ms, cap, rfl, fun i hil => (hp i hil []).1, hle, by omega, by omega⟩
end Go.Proofs.Ytaibdkdmilhloaa
