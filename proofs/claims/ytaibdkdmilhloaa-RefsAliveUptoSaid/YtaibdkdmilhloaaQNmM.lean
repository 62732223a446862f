/- Chunks with how often they are named, in memory. (Written by wip/ref20n.py.) -/
import Derived.Test.YtaibdkdmilhloaaQIdW
import Derived.Laws.Tables
import Derived.Laws.StructEq
namespace Go.Proofs.Ytaibdkdmilhloaa
open Go.RowKit Go.Maps
set_option linter.unusedVariables false
set_option linter.unusedSimpArgs false
abbrev Nmd := Id × Nat
def nmW (p : Nmd) : List Value := idW p.1 ++ [.int .i64 (p.2 : Nat)]
def nmV (p : Nmd) : Value := .agg (nmW p).toArray
def nmn (l : List Nmd) (i : Nat) : Nmd := l.getD i ([], 0)
def nmC : List Nmd → List Value
  | [] => []
  | x :: r => nmW x ++ nmC r
def Nmds (l : List Nmd) : Prop := ∀ x ∈ l, x.1.length = 16
theorem nmW_len (p : Nmd) : (nmW p).length = p.1.length + 1 := by simp [nmW, idW_len]
theorem Nmds.nmn {l : List Nmd} (h : Nmds l) {i : Nat} (hi : i < l.length) : (nmn l i).1.length = 16 := by
  unfold Proofs.Ytaibdkdmilhloaa.nmn
  rw [List.getD_eq_getElem?_getD, List.getElem?_eq_getElem hi]; exact h _ (List.getElem_mem hi)
theorem Nmds.app {a b : List Nmd} (h : Nmds a) (k : Nmds b) : Nmds (a ++ b) := fun x hx => by
  rcases List.mem_append.1 hx with h1 | h1
  · exact h x h1
  · exact k x h1
theorem nmC_len : ∀ {l : List Nmd}, Nmds l → (nmC l).length = l.length * 17
  | [], _ => rfl
  | x :: r, h => by
    rw [nmC, List.length_append, nmW_len, h x (by simp), nmC_len (fun y hy => h y (by simp [hy]))]; simp; omega
theorem nmC_app : ∀ a b : List Nmd, nmC (a ++ b) = nmC a ++ nmC b
  | [], b => rfl
  | x :: a, b => by rw [List.cons_append, nmC, nmC, nmC_app a b, List.append_assoc]
theorem nmC_get : ∀ {l : List Nmd}, Nmds l → ∀ i j, i < l.length → j < 17 → (nmC l)[i * 17 + j]? = (nmW (nmn l i))[j]?
  | [], _, i, _, h, _ => absurd h (Nat.not_lt_zero _)
  | x :: r, h, 0, j, _, hj => by
    rw [nmC, Nat.zero_mul, Nat.zero_add, List.getElem?_append_left (by rw [nmW_len, h x (by simp)]; exact hj)]; rfl
  | x :: r, h, i + 1, j, hi, hj => by
    have hx := h x (by simp)
    rw [nmC, List.getElem?_append_right (by rw [nmW_len, hx]; omega), nmW_len, hx, show (i + 1) * 17 + j - (16 + 1) = i * 17 + j by omega,
      nmC_get (fun y hy => h y (by simp [hy])) i j (by simpa using hi) hj]
    simp [nmn]
theorem nmW_one (p : Nmd) : ∀ v ∈ nmW p, v.oneCell' = true := fun v hv => by
  rcases List.mem_append.1 hv with h | h
  · exact idW_one p.1 v h
  · rw [List.mem_singleton.1 h]; rfl
/-- The slice reads as these. -/
structure RdN (w : World) (a : Option Addr) (l : List Nmd) : Prop where
  ids : Nmds l
  at' : ∀ i, i < l.length → ∃ b off, a = some ⟨b, off, none⟩ ∧ w.rangeAt b (off + i * 17) (nmW (nmn l i))
theorem RdN.kp {S : Nat → Prop} {w w' : World} {a : Option Addr} {l : List Nmd} (h : RdN w a l) (k : Kp S w w') (ho : Off S a) : RdN w' a l :=
  ⟨h.ids, fun i hi => by obtain ⟨b, off, e, hc⟩ := h.at' i hi; exact ⟨b, off, e, rangeAt_kp hc k (ho _ e)⟩⟩
theorem RdN.kp0 {w w' : World} {a : Option Addr} {l : List Nmd} (h : RdN w a l) (k : Kp (fun _ => False) w w') : RdN w' a l := h.kp k (fun _ _ h => h)
theorem RdN.of_own {w : World} {a : Option Addr} {n c : Nat} {l : List Nmd} (hl : Nmds l) (h : Own w (.slice a n c) n 17 (nmC l)) : RdN w a l := ⟨hl, fun i hi => by
  have hr := h.rd
  have hlen := nmC_len hl
  have hx := hl.nmn hi
  obtain ⟨b, off, e, _⟩ := hr (i * 17) (by omega)
  refine ⟨b, off, e, fun j v hv => ?_⟩
  have hj : j < 17 := by have := (List.getElem?_eq_some_iff.1 hv).1; rw [nmW_len, hx] at this; exact this
  obtain ⟨b', off', e', hc⟩ := hr (i * 17 + j) (by omega)
  rw [e] at e'; cases e'
  rw [Nat.add_assoc, hc, List.getD_eq_getElem?_getD, nmC_get hl i j hi hj, hv]; rfl⟩
theorem elem_nmd : Elem Try.prog 43 (.agg (List.replicate 16 (Value.int .u8 0) ++ [Value.int .i64 0]).toArray) 17 24 := Elem.mk' (by kernel_rfl) (by simp [Value.cells]) (by omega) (by simp [Value.cells, Value.oneCell'])
/-- Named chunks of the call's own. -/
structure OwnN (w : World) (v : Value) (l : List Nmd) : Prop where
  ids : Nmds l
  own : Own w v l.length 17 (nmC l)
theorem OwnN.nil (w : World) : OwnN w (.slice none 0 0) [] := ⟨fun x hx => (by cases hx), Own.nil w 17⟩
theorem OwnN.kp {S : Nat → Prop} {w w' : World} {v : Value} {l : List Nmd} (h : OwnN w v l) (k : Kp S w w') (hs : ∀ g, v.ownBlock = some g → ¬ S g) : OwnN w' v l := ⟨h.ids, h.own.kp k hs⟩
theorem OwnN.kp0 {w w' : World} {v : Value} {l : List Nmd} (h : OwnN w v l) (k : Kp (fun _ => False) w w') : OwnN w' v l := h.kp k (fun _ _ h => h)
theorem OwnN.form {w : World} {v : Value} {l : List Nmd} (h : OwnN w v l) : ∃ a c, v = .slice a l.length c ∧ RdN w a l ∧ l.length ≤ c := by
  obtain ⟨a, c, rfl, hc, _⟩ := h.own.form
  exact ⟨a, c, rfl, RdN.of_own h.ids h.own, hc⟩
theorem OwnN.app {w : World} {v : Value} {l : List Nmd} (h : OwnN w v l) (hn : l.length ≤ 1000000) {x : Nmd} (hx : x.1.length = 16) {bx : Nat} (hat : At w bx (nmW x)) :
    ∃ v' w', (Builtin.append_ #[37, 37] 37 #[v, .slice (some ⟨bx, 0, none⟩) 1 1]).run Try.prog w = .ok v' w' ∧ OwnN w' v' (l ++ [x]) ∧ Kp (fun k => v.ownBlock = some k) w w' ∧ (v'.ownBlock = v.ownBlock ∨ v'.ownBlock = some w.heap.size) := by
  obtain ⟨v', w', hr, ho, k, hb, _⟩ := run_append_at (P := Try.prog) (t := 37) (tx := 37) (ty := 37) w Try.underlying37 elem_nmd Try.underlying37 h.own (a := some ⟨bx, 0, none⟩) (m := 1) (c := 1) (news := nmW x) (by rw [nmW_len, hx])
    (fun i hi => ⟨bx, 0, rfl, by rw [hat.cell, Nat.zero_add, List.getD_eq_getElem?_getD, List.getElem?_eq_getElem hi]; rfl⟩) (nmW_one x) (by unfold maxLen; omega) (by omega)
  refine ⟨v', w', hr, ⟨h.ids.app (fun y hy => by rw [List.mem_singleton.1 hy]; exact hx), ?_⟩, k, hb⟩
  rw [List.length_append, List.length_singleton, nmC_app]
  simpa [nmC] using ho
theorem build_nmd {x : Id} (hx : x.length = 16) (n : Nat) (w : World) : (Instr.build 43 #[(0, idV x), (1, .int .i64 (n : Nat))]).run Try.prog w = .ok (nmV (x, n)) w := by
  refine run_build w 43 _ (nmW (x, n)).toArray ?_
  match x, hx with
  | [a0, a1, a2, a3, a4, a5, a6, a7, a8, a9, a10, a11, a12, a13, a14, a15], _ => exact (show (Try.prog.built 43 [(0, idV [a0, a1, a2, a3, a4, a5, a6, a7, a8, a9, a10, a11, a12, a13, a14, a15]), (1, .int .i64 (n : Nat))]) = some (nmW ([a0, a1, a2, a3, a4, a5, a6, a7, a8, a9, a10, a11, a12, a13, a14, a15], n)).toArray from by kernel_rfl)
/-- A slice literal of one. -/
theorem bs_nmd {x : Nmd} (hx : x.1.length = 16) (w : World) : (Instr.buildSlice 37 1 #[(0, nmV x)]).run Try.prog w = .ok (.slice (some ⟨w.heap.size, 0, none⟩) 1 1) (w.alloc (.cells (nmW x).toArray 43)) := by
  have h : (Try.prog.info? 43).map (fun i => (i.zero, i.size)) = some (some (.agg (List.replicate 16 (Value.int .u8 0) ++ [Value.int .i64 0]).toArray), 17) := by kernel_rfl
  cases hq : Try.prog.info? 43 with
  | none => rw [hq] at h; cases h
  | some ie =>
    rw [hq] at h
    simp only [Option.map_some, Option.some.injEq, Prod.mk.injEq] at h
    refine run_buildSlice w 37 43 1 _ (nmW x).toArray ie _ Try.underlying37 hq h.1 (by rw [h.2]; omega) (by rw [h.2]; omega) ?_
    rw [h.2]
    have hz : (nmV x).cells.size = 17 := by simp [nmV, nmW_len, Value.cells, hx]
    generalize hZ : (Array.range (1 * 17)).map ((Value.agg (List.replicate 16 (Value.int .u8 0) ++ [Value.int .i64 0]).toArray).cells[· % (Value.agg (List.replicate 16 (Value.int .u8 0) ++ [Value.int .i64 0]).toArray).cells.size]!) = Z
    have hZs : Z.size = 17 := by rw [← hZ]; simp
    obtain ⟨r, hr, hsz, hk⟩ := Great.fill_dense (s := 17) (by omega) [nmV x] 0 Z (by intro v hv; rw [List.mem_singleton.1 hv]; exact hz) (by rw [hZs]; simp)
    have hb : (nmW x).toArray.size = 17 := by simp [nmW_len, hx]
    have hrs : r.size = 17 := by rw [hsz, hZs]
    refine hr.trans (congrArg some (Array.ext_getElem? fun i => ?_))
    rw [hk i]
    by_cases hi : i < 17
    · rw [if_pos (by simpa using hi)]
      have e1 : i / 17 - 0 = 0 := by omega
      have e2 : i % 17 = i := by omega
      rw [e1, e2]
      rfl
    · rw [if_neg (by simpa using hi)]
      rw [Array.getElem?_eq_none (by rw [hZs]; omega), Array.getElem?_eq_none (by rw [hb]; omega)]
end Go.Proofs.Ytaibdkdmilhloaa
/- Named chunks: a load, an equality. -/
namespace Go.Proofs.Ytaibdkdmilhloaa
open Go.RowKit
set_option linter.unusedVariables false
set_option linter.unusedSimpArgs false
theorem nmd_size : (Try.prog.info? 43).map (·.size) = some 17 := by kernel_rfl
theorem load_nmd {w : World} {b o : Nat} {p : Nmd} (h : w.rangeAt b o (nmW p)) (hx : p.1.length = 16) : (Instr.loadAt 43 (.pointer (some ⟨b, o, none⟩))).run Try.prog w = .ok (nmV p) w :=
  run_loadAt_mid w b o 43 (nmW p) _ h Try.underlying43 rfl (by rw [nmW_len, hx]; exact nmd_size)
theorem part_id {x : Id} (hx : x.length = 16) (n : Nat) (w : World) : (part 41 (nmW (x, n)).toArray 0).run Try.prog w = .ok (idV x) w := by
  match x, hx with
  | [a0, a1, a2, a3, a4, a5, a6, a7, a8, a9, a10, a11, a12, a13, a14, a15], _ => exact (show (part 41 (nmW ([a0, a1, a2, a3, a4, a5, a6, a7, a8, a9, a10, a11, a12, a13, a14, a15], n)).toArray 0).run Try.prog w = .ok (idV [a0, a1, a2, a3, a4, a5, a6, a7, a8, a9, a10, a11, a12, a13, a14, a15]) w from by kernel_rfl)
theorem part_n {x : Id} (hx : x.length = 16) (n : Nat) (w : World) : (part 3 (nmW (x, n)).toArray 16).run Try.prog w = .ok (.int .i64 (n : Nat)) w := by
  match x, hx with
  | [a0, a1, a2, a3, a4, a5, a6, a7, a8, a9, a10, a11, a12, a13, a14, a15], _ => exact (show (part 3 (nmW ([a0, a1, a2, a3, a4, a5, a6, a7, a8, a9, a10, a11, a12, a13, a14, a15], n)).toArray 16).run Try.prog w = .ok (.int .i64 (n : Nat)) w from by kernel_rfl)
theorem eq_nmd {x : Id} (hx : x.length = 16) (n : Nat) (w : World) : (Op.equalIn 10000 43 (nmV (x, n)) (nmV (x, n))).run Try.prog w = .ok true w := by
  have hu := Try.underlying43
  unfold nmV
  rw [run_equalIn_struct w 9999 43 _ _ (by simp [Program.fieldsOf, hu]) (by kernel_rfl)]
  simp only [Program.fieldsOf, hu, Op.eqFields]
  have hq := run_equalIn_bytes w 9997 41 5 16 id_und Try.underlying5 (fun w => by kernel_rfl) x x hx hx
  have hi : (Op.equalIn 9999 3 (.int .i64 (n : Nat)) (.int .i64 (n : Nat))).run Try.prog w = .ok true w := (run_equalIn_int w 9998 3 .i64 .i64 _ _ Try.underlying3).trans (by simp)
  have hq' : (Op.equalIn 9999 41 (idV x) (idV x)).run Try.prog w = .ok (x == x) w := hq
  simp [part_id hx, part_n hx, hq', hi, Result.andThen]
end Go.Proofs.Ytaibdkdmilhloaa
