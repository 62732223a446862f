/- A map of ints to functions, made and looked up: its entries, as they stand. -/
import Derived.Test.YtokembhfebnjpaaGreatQBaseM
import Derived.MapKept
import Derived.Carry
namespace Go.Proofs.YtokembhfebnjpaaGreat
set_option maxRecDepth 20000
open Go.RowKit Go.MapKept
set_option linter.unusedVariables false
def FnM (w : World) (mb : Nat) (l : List (Int × Value)) : Prop := ∃ es clock, w.heap[mb]? = some (.map es clock) ∧ es.toList.map (fun e => (e.key, e.val)) = l.map (fun p => (Value.int .i64 p.1, p.2))
theorem FnM.made (w : World) : FnM (w.alloc (.map #[] 0)) w.heap.size [] := ⟨#[], 0, heap_alloc_new w _, rfl⟩
theorem findNow_none (n : Int) : ∀ (es : List MapEntry) (l : List (Int × Value)) (i : Nat), es.map (fun e => (e.key, e.val)) = l.map (fun p => (Value.int .i64 p.1, p.2)) → (∀ p ∈ l, p.1 ≠ n) → Instr.findNow (.int .i64) (.int .i64 n) es i = some none
 | [], _, _, _, _ => rfl
 | e :: es, [], _, h, _ => by simp at h
 | e :: es, p :: l, i, h, hn => by
  simp only [List.map_cons, List.cons.injEq, Prod.mk.injEq] at h
  have hp : (n == p.1) = false := by have := hn p (by simp); simp; exact fun e => this e.symm
  simp only [Instr.findNow, h.1.1, Instr.sameNow, if_true, hp]
  exact findNow_none n es l (i + 1) h.2 (fun q hq => hn q (by simp [hq]))
theorem findNow_some (n : Int) (v : Value) : ∀ (es : List MapEntry) (l : List (Int × Value)) (i : Nat), es.map (fun e => (e.key, e.val)) = l.map (fun p => (Value.int .i64 p.1, p.2)) → l.lookup n = some v → ∃ j, Instr.findNow (.int .i64) (.int .i64 n) es i = some (some (j, v))
 | [], [], _, _, hn => by simp at hn
 | [], p :: l, _, h, _ => by simp at h
 | e :: es, [], _, h, _ => by simp at h
 | e :: es, p :: l, i, h, hn => by
  simp only [List.map_cons, List.cons.injEq, Prod.mk.injEq] at h
  obtain ⟨k, u⟩ := p
  by_cases hk : n = k
  · subst hk
    simp only [List.lookup, beq_self_eq_true] at hn
    obtain rfl := Option.some.inj hn
    exact ⟨i, by simp only [Instr.findNow, h.1.1, h.1.2, Instr.sameNow, if_true, beq_self_eq_true]⟩
  · have hb : (n == k) = false := by simpa using hk
    simp only [List.lookup, hb] at hn
    obtain ⟨j, hj⟩ := findNow_some n v es l (i + 1) h.2 hn
    exact ⟨j, by simp only [Instr.findNow, h.1.1, Instr.sameNow, if_true, hb]; exact hj⟩
variable {P : Program} {w : World} {mb : Nat} {l : List (Int × Value)}
theorem FnM.upd (h : FnM w mb l) {T K E : TypeId} (ht : P.underlying T = some (.map K E)) (hK : P.underlying K = some (.int .i64)) (n : Int) (v : Value) (hn : ∀ p ∈ l, p.1 ≠ n) :
 ∃ w', (Instr.mapUpdate T (.map (some mb)) (.int .i64 n) v).run P w = .ok () w' ∧ FnM w' mb (l ++ [(n, v)]) ∧ Kp (fun k => k = mb) w w' := by
 obtain ⟨es, clock, hb, he⟩ := h
 have hf := run_findKey (P := P) (w := w) hK (findNow_none n es.toList l 0 he hn)
 have hc := run_checkKey (P := P) (w := w) (k := .int .i64 n) hK (by simp [IsKey]) false 9999
 have hg := Go.MapKept.run_getObj_map (P := P) hb
 obtain ⟨ob, hob⟩ : ∃ ob, ob = Obj.map (es.push { key := .int .i64 n, val := v, born := clock }) (clock + 1) := ⟨_, rfl⟩
 have hs := Go.MapKept.run_setObj_map (P := P) ob hb
 have h2 := Go.MapKept.heap_set (o' := ob) hb
 refine ⟨{ w with heap := w.heap.setIfInBounds mb ob }, ?_, ⟨es.push { key := .int .i64 n, val := v, born := clock }, clock + 1, by rw [← hob]; exact h2.1, by simp [he]⟩, ⟨rfl, rfl, rfl, by simp, fun i hi hne => h2.2 i hne⟩⟩
 simp only [Instr.mapUpdate, Sem.run_bind, run_underlying ht, hg, hc, hf, Result.andThen]
 rw [← hob]
 exact hs
theorem FnM.look (h : FnM w mb l) {T K E : TypeId} (ht : P.underlying T = some (.map K E)) (hK : P.underlying K = some (.int .i64)) (n : Int) (v : Value) (hn : l.lookup n = some v) :
 (Instr.lookup T (.map (some mb)) (.int .i64 n) false).run P w = .ok v w := by
 obtain ⟨es, clock, hb, he⟩ := h
 obtain ⟨j, hj⟩ := findNow_some n v es.toList l 0 he hn
 have hf := run_findKey (P := P) (w := w) hK hj
 have hc := run_checkKey (P := P) (w := w) (k := .int .i64 n) hK (by simp [IsKey]) es.isEmpty 9999
 have hg := Go.MapKept.run_getObj_map (P := P) hb
 simp only [Instr.lookup, Sem.run_bind, run_underlying ht, hg, hc, hf, Result.andThen, Sem.run_pure]
 rfl
end Go.Proofs.YtokembhfebnjpaaGreat
