/- Packs that come in, opened; their cells; a copy of them. -/
import Derived.Test.YtaibdkdmilhloaaAwP
import Derived.Test.YtaibdkdmilhloaaOpen
namespace Go.Proofs.Ytaibdkdmilhloaa
open Go.RowKit
set_option linter.unusedVariables false
set_option linter.unusedSimpArgs false
def i64R (n : Int) : Prop := -9223372036854775808 ≤ n ∧ n ≤ 9223372036854775807
theorem wf_i64 {n : Int} (h : (Lit.int .i64 n).wf = true) : i64R n := by
  unfold i64R
  simp [Lit.wf, IntKind.min, IntKind.max, IntKind.signed, IntKind.bits] at h; omega
theorem rdg_int {w : World} {n : Int} (r : Rdg Try.prog w 3 (Value.int .i64 n).cells.toList) : i64R n := by
  obtain ⟨k, e1, hk⟩ := Rdg.int Try.underlying3 r
  have e2 : n = k := by have : [Value.int .i64 n] = [.int .i64 k] := e1; simpa using this
  subst e2
  exact wf_i64 hk
/-- Numbers of a pack are such. -/
def PkR (l : List Pk) : Prop := ∀ i, i64R (pkn l i).num ∧ i64R (pkn l i).bytes ∧ i64R (pkn l i).dead
theorem open_pk {w : World} {cs : List Value} (h : Rdg Try.prog w 27 cs) :
    ∃ p : Pk, cs = pkW p ∧ i64R p.num ∧ i64R p.bytes ∧ i64R p.dead := by
  obtain ⟨hl, hf⟩ := h.struct Try.underlying27
  rw [show Try.prog.cellsOf 27 = 3 by kernel_rfl] at hl
  have hi : Try.prog.cellsOf 3 = 1 := by kernel_rfl
  match cs, hl with
  | [v0, v1, v2], _ =>
    have r0 : Rdg Try.prog w 3 ((([v0, v1, v2] : List Value).drop 0).take (Try.prog.cellsOf 3)) := hf 0 _ rfl
    have r1 : Rdg Try.prog w 3 ((([v0, v1, v2] : List Value).drop 1).take (Try.prog.cellsOf 3)) := hf 1 _ rfl
    have r2 : Rdg Try.prog w 3 ((([v0, v1, v2] : List Value).drop 2).take (Try.prog.cellsOf 3)) := hf 2 _ rfl
    simp only [hi, List.drop_zero, List.drop_succ_cons, List.take_succ_cons, List.take_zero] at r0 r1 r2
    obtain ⟨n0, e0, h0⟩ := r0.int Try.underlying3
    obtain ⟨n1, e1, h1⟩ := r1.int Try.underlying3
    obtain ⟨n2, e2, h2⟩ := r2.int Try.underlying3
    cases e0; cases e1; cases e2
    exact ⟨⟨n0, n1, n2⟩, rfl, wf_i64 h0, wf_i64 h1, wf_i64 h2⟩
theorem open_pks {w : World} {cs : List Value} (h : Rdg Try.prog w 22 cs) : ∃ a l cap, cs = [.slice a (List.length l) cap] ∧ RdP w a l ∧ PkR l ∧ l.length ≤ cap ∧ cap ≤ 140737488351232 := by
  have hC : Try.prog.cellsOf 27 = 3 := by kernel_rfl
  have hB : Try.prog.bytesOf 27 = 24 := by kernel_rfl
  obtain ⟨a, len, cap, rfl, hle, hm, hb, hi⟩ := h.slice Try.underlying22 (by rw [hC]; omega)
  rw [hB] at hb
  haveI : Inhabited Pk := ⟨⟨0, 0, 0⟩⟩
  obtain ⟨l, hlen, hp⟩ := list_of (α := Pk) len (fun i p => (∃ b off, a = some ⟨b, off, none⟩ ∧ w.cell? ⟨b, off + i * 3, none⟩ = some (.int .i64 p.num) ∧ w.cell? ⟨b, off + i * 3 + 1, none⟩ = some (.int .i64 p.bytes) ∧ w.cell? ⟨b, off + i * 3 + 2, none⟩ = some (.int .i64 p.dead)) ∧ i64R p.num ∧ i64R p.bytes ∧ i64R p.dead) (fun i hil => by
    obtain ⟨b, off, cs', ha, _, hlc, hc, hr⟩ := hi i (by omega)
    rw [hC] at hlc hc
    obtain ⟨p, rfl, q⟩ := open_pk hr
    have c0 := hc 0 (by omega)
    have c1 := hc 1 (by omega)
    have c2 := hc 2 (by omega)
    simp only [Nat.add_zero] at c0
    exact ⟨p, ⟨b, off, ha, c0, by rw [Nat.add_assoc]; exact c1, by rw [Nat.add_assoc]; exact c2⟩, q⟩)
  subst hlen
  refine ⟨a, l, cap, rfl, fun i hi => (hp i hi ⟨0, 0, 0⟩).1, fun i => ?_, hle, by omega⟩
  by_cases hi : i < l.length
  · exact (hp i hi ⟨0, 0, 0⟩).2
  · unfold pkn
    rw [List.getD_eq_getElem?_getD, List.getElem?_eq_none (by omega)]
    unfold i64R
    simp
/-- The packs' cells. -/
def pkC : List Pk → List Value
  | [] => []
  | p :: r => pkW p ++ pkC r
theorem pkC_len : ∀ l : List Pk, (pkC l).length = l.length * 3
  | [] => rfl
  | p :: r => by rw [pkC, List.length_append, pkC_len r]; simp [pkW]; omega
theorem pkC_get : ∀ (l : List Pk) (i j : Nat), i < l.length → j < 3 → (pkC l)[i * 3 + j]? = (pkW (pkn l i))[j]?
  | [], i, j, h, _ => absurd h (Nat.not_lt_zero _)
  | d :: r, 0, j, _, hj => by
    rw [pkC, List.getElem?_append_left (by simp [pkW]; omega), Nat.zero_mul, Nat.zero_add]; rfl
  | d :: r, i + 1, j, h, hj => by
    rw [pkC, List.getElem?_append_right (by simp [pkW]; omega), show (i + 1) * 3 + j - (pkW d).length = i * 3 + j by simp [pkW]; omega]
    exact pkC_get r i j (by simpa using h) hj
theorem pkC_one : ∀ (l : List Pk), ∀ u ∈ pkC l, u.oneCell' = true
  | [], u, hu => by cases hu
  | d :: r, u, hu => by
    rw [pkC] at hu
    rcases List.mem_append.1 hu with hu | hu
    · simp only [pkW, List.mem_cons, List.not_mem_nil, or_false] at hu
      rcases hu with rfl | rfl | rfl <;> rfl
    · exact pkC_one r u hu
theorem RdP.rd {w : World} {a : Option Addr} {l : List Pk} (h : RdP w a l) : Rd w a (pkC l) := fun i hi => by
  have hl := pkC_len l
  have hq : i / 3 < l.length := by omega
  obtain ⟨b, off, e, c0, c1, c2⟩ := h (i / 3) hq
  refine ⟨b, off, e, ?_⟩
  have hg := pkC_get l (i / 3) (i % 3) hq (Nat.mod_lt _ (by omega))
  have hi3 : i / 3 * 3 + i % 3 = i := by omega
  rw [hi3] at hg
  rw [List.getD_eq_getElem?_getD, hg]
  have hm : i % 3 = 0 ∨ i % 3 = 1 ∨ i % 3 = 2 := by omega
  rcases hm with hm | hm | hm
  · rw [hm, show off + i = off + i / 3 * 3 by omega]; exact c0
  · rw [hm, show off + i = off + i / 3 * 3 + 1 by omega]; exact c1
  · rw [hm, show off + i = off + i / 3 * 3 + 2 by omega]; exact c2
theorem RdP.of_own {w : World} {a : Option Addr} {n c : Nat} {l : List Pk} (h : Own w (.slice a n c) n 3 (pkC l)) : RdP w a l := fun i hi => by
  have hr := h.rd
  have hlen := pkC_len l
  obtain ⟨b, off, e, h0⟩ := hr (i * 3) (by omega)
  obtain ⟨b1, off1, e1, h1⟩ := hr (i * 3 + 1) (by omega)
  obtain ⟨b2, off2, e2, h2⟩ := hr (i * 3 + 2) (by omega)
  rw [e] at e1 e2; cases e1; cases e2
  have g0 := pkC_get l i 0 hi (by omega)
  have g1 := pkC_get l i 1 hi (by omega)
  have g2 := pkC_get l i 2 hi (by omega)
  rw [List.getD_eq_getElem?_getD] at h0 h1 h2
  rw [Nat.add_zero] at g0
  rw [g0] at h0; rw [g1] at h1; rw [g2] at h2
  exact ⟨b, off, e, h0, h1, h2⟩
theorem elem_pk : Elem Try.prog 27 (.agg #[.int .i64 0, .int .i64 0, .int .i64 0]) 3 24 := Elem.mk' (by kernel_rfl) (by simp [Value.cells]) (by omega) (by simp [Value.cells, Value.oneCell'])
theorem Own.empty (w : World) (size : Nat) (T : TypeId) : Own (w.alloc (.cells #[] T)) (.slice (some ⟨w.heap.size, 0, none⟩) 0 0) 0 size [] :=
  ⟨by simp, .inr ⟨w.heap.size, 0, [], rfl, At.new w [] T, by simp, Nat.le_refl _, by simp [maxLen]⟩⟩
/-- A copy of some packs. -/
theorem copy_pks {w : World} {a : Option Addr} (c : Nat) {l : List Pk} (h : RdP w a l) (hn : l.length ≤ 1000000) :
    ∃ a' c' w', (Builtin.append_ #[22, 22] 22 #[.slice (some ⟨w.heap.size, 0, none⟩) 0 0, .slice a l.length c]).run Try.prog (w.alloc (.cells #[] 27)) = .ok (.slice a' l.length c') w' ∧ RdP w' a' l ∧ Kp (fun _ => False) w w' := by
  have k0 := (Kp.refl (fun _ => False) w).alloc (.cells #[] 27)
  obtain ⟨v', w', hr, ho, k, hb, _⟩ := run_append_at (P := Try.prog) (t := 22) (tx := 22) (ty := 22) (w.alloc (.cells #[] 27)) Try.underlying22 elem_pk Try.underlying22 (Own.empty w 3 27) (a := a) (m := l.length) (c := c) (news := pkC l) (pkC_len l)
    ((h.kp0 k0).rd) (pkC_one l) (by unfold maxLen; omega) (by omega)
  rw [Nat.zero_add] at ho
  obtain ⟨a', c', rfl, _⟩ := ho.form
  exact ⟨a', c', w', hr, RdP.of_own ho, k0.then k (fun i hi e => by
    have e : some w.heap.size = some i := e
    have e := Option.some.inj e
    omega)⟩
theorem Like.trans {a b c : Nat} (h : Like a b) (k : Like b c) : Like a c := by
  rcases h with rfl | ⟨h1, h2⟩
  · exact k
  · rcases k with rfl | ⟨h3, h4⟩
    · exact .inr ⟨h1, h2⟩
    · exact .inr ⟨h1, h4⟩
theorem samefloat_k {x y : Nat} (h : Like x y) (w : World) : Calls Try.prog 10 #[.float .f64 x, .float .f64 y] w fun e w' => e = .returned (.bool true) ∧ Kp (fun _ => False) w w' :=
  (samefloat_like h w).mono fun e w' ⟨h1, h2⟩ => ⟨h1, by rw [h2]; exact Kp.refl _ _⟩
theorem sameints_k (a b : Option Addr) (c c' : Nat) (l : List Int) (n : Nat) (hn : l.length = n) (w : World) (ha : Rd w a (intsZ l)) (hb : Rd w b (intsZ l)) (hl : n ≤ 1000000) :
    Calls Try.prog 13 #[.slice a n c, .slice b n c'] w fun e w' => e = .returned (.bool true) ∧ Kp (fun _ => False) w w' := by
  subst hn
  exact (sameintsZ_eq a b c c' l w ha hb hl).mono fun e w' ⟨h1, k, h2⟩ => ⟨h1, by rw [h2]; exact (Kp.refl _ w).drewN k⟩
end Go.Proofs.Ytaibdkdmilhloaa
