/- Chapter 13: packets that are told: a list of one's own, and what it reads as. -/
import Derived.Test.YtokembhfebnjpaaGreatQKt0M
import Derived.Test.YtokembhfebnjpaaGreatQNcl
namespace Go.Proofs.YtokembhfebnjpaaGreat
set_option maxRecDepth 20000
open Go.RowKit
set_option linter.unusedVariables false
structure Tp where
 seq : Nat
 B : Value
 body : List Int
instance : Inhabited Tp := ⟨⟨0, .slice none 0 0, []⟩⟩
def tp (l : List Tp) (i : Nat) : Tp := l.getD i default
def tpC : List Tp → List Value
 | [] => []
 | t :: r => .int .i64 t.seq :: t.B :: tpC r
theorem tp_app_lt {a b : List Tp} {i : Nat} (h : i < a.length) : tp (a ++ b) i = tp a i := by
 unfold tp; rw [List.getD_eq_getElem?_getD, List.getElem?_append_left h, List.getD_eq_getElem?_getD]
theorem tp_app_at (a : List Tp) (p : Tp) : tp (a ++ [p]) a.length = p := by
 unfold tp; rw [List.getD_eq_getElem?_getD, List.getElem?_append_right (Nat.le_refl _), Nat.sub_self]; rfl
theorem tpC_len : ∀ l : List Tp, (tpC l).length = l.length * 2
 | [] => rfl
 | t :: r => by simp only [tpC, List.length_cons, tpC_len r]; omega
theorem tpC_app : ∀ a b : List Tp, tpC (a ++ b) = tpC a ++ tpC b
 | [], b => rfl
 | t :: r, b => by simp only [tpC, List.cons_append, tpC_app r b]
theorem tpC_get : ∀ {l : List Tp} {i : Nat}, i < l.length → (tpC l)[i * 2]? = some (.int .i64 (tp l i).seq) ∧ (tpC l)[i * 2 + 1]? = some (tp l i).B
 | t :: r, 0, _ => ⟨rfl, rfl⟩
 | t :: r, i + 1, h => by
  have := tpC_get (l := r) (i := i) (by simpa using h)
  have e : tp (t :: r) (i + 1) = tp r i := rfl
  rw [e, show (i + 1) * 2 = i * 2 + 1 + 1 by omega]
  exact this
def isT (u : Value) : Prop := (∃ n : Int, u = .int .i64 n) ∨ ∃ a n c, u = .slice a n c
theorem isT_tpC {l : List Tp} (h : ∀ t ∈ l, isT t.B) : ∀ u ∈ tpC l, isT u := by
 induction l with
 | nil => intro u hu; cases hu
 | cons t r ih =>
  intro u hu
  simp only [tpC, List.mem_cons] at hu
  rcases hu with rfl | rfl | hu
  · exact .inl ⟨_, rfl⟩
  · exact h t (by simp)
  · exact ih (fun t ht => h t (by simp [ht])) u hu
structure OwnT (N : Nat) (w : World) (v : Value) (l : List Tp) : Prop where
 own : Own w v l.length 2 (tpC l)
 nil : l = [] → v.ownBlock = none
 each : ∀ i, i < l.length → OwnB w (tp l i).B (tp l i).body
 lo : ∀ g, v.ownBlock = some g → N ≤ g
 loB : ∀ i g, i < l.length → (tp l i).B.ownBlock = some g → N ≤ g
theorem OwnT.start (N : Nat) (w : World) : OwnT N w (.slice none 0 0) [] := ⟨Own.nil w 2, fun _ => rfl, fun i hi => absurd hi (Nat.not_lt_zero _), fun g hg => (by cases hg), fun i g hi => absurd hi (Nat.not_lt_zero _)⟩
theorem OwnT.kp {S : Nat → Prop} {N : Nat} {w w' : World} {v : Value} {l : List Tp} (h : OwnT N w v l) (k : Kp S w w') (hv : ∀ g, v.ownBlock = some g → ¬ S g) (hB : ∀ i g, i < l.length → (tp l i).B.ownBlock = some g → ¬ S g) : OwnT N w' v l :=
 ⟨h.own.kp k hv, h.nil, fun i hi => (h.each i hi).kp k (fun g hg => hB i g hi hg), h.lo, h.loB⟩
theorem OwnT.kpN {S : Nat → Prop} {N : Nat} {w w' : World} {v : Value} {l : List Tp} (h : OwnT N w v l) (k : Kp S w w') (hS : ∀ g, S g → g < N) : OwnT N w' v l :=
 h.kp k (fun g hg hs => by have := h.lo g hg; have := hS g hs; omega) (fun i g hi hg hs => by have := h.loB i g hi hg; have := hS g hs; omega)
theorem OwnT.kp0 {N : Nat} {w w' : World} {v : Value} {l : List Tp} (h : OwnT N w v l) (k : Kp (fun _ => False) w w') : OwnT N w' v l := h.kpN k (fun _ h => h.elim)
theorem OwnT.notNC {B N : Nat} {w w' : World} {v : Value} {l : List Tp} (h : OwnT N w v l) (k : Kp (NC B w) w w') : OwnT N w' v l :=
 h.kp k (fun g hg => h.own.notNC g hg) (fun i g hi hg => (h.each i hi).own.notNC g hg)
theorem OwnT.lt {N : Nat} {w : World} {v : Value} {l : List Tp} (h : OwnT N w v l) {g : Nat} (hg : v.ownBlock = some g) : g < w.heap.size := h.own.lt g hg
theorem OwnT.form {N : Nat} {w : World} {v : Value} {l : List Tp} (h : OwnT N w v l) : ∃ a c, v = .slice a l.length c ∧ l.length ≤ c := by
 obtain ⟨a, c, e, h1, _⟩ := h.own.form
 exact ⟨a, c, e, h1⟩
theorem OwnT.apart {N : Nat} {w : World} {v : Value} {l : List Tp} (h : OwnT N w v l) {g : Nat} (hg : v.ownBlock = some g) {u : Value} {m : List Int} (hu : OwnB w u m) : u.ownBlock ≠ some g := fun e => by
 rcases h.own.2 with ⟨e1, _⟩ | ⟨g', cap, sp, e1, hat, _⟩
 · rw [e1] at hg; cases hg
 · rw [e1] at hg
   simp only [Value.ownBlock, Option.some.injEq] at hg
   subst hg
   obtain ⟨ds, hd, hp⟩ := hu.blk _ e
   have hne : l ≠ [] := fun hn => by have := h.nil hn; rw [e1] at this; cases this
   cases l with
   | nil => exact hne rfl
   | cons t r =>
    have := hp (.int .i64 t.seq) (by rw [← hat.inj hd]; simp [tpC])
    obtain ⟨n, e2, _⟩ := this
    cases e2
theorem elem_pk : Elem Tryz.prog 90 (.agg #[.int .i64 0, .slice none 0 0]) 2 32 := Elem.mk' (by kernel_rfl) (by simp [Value.cells]) (by omega) (by simp [Value.cells, Value.oneCell'])
theorem OwnT.app {N : Nat} {w : World} {v : Value} {l : List Tp} (h : OwnT N w v l) (hn : l.length ≤ 1000000) (t : Tp) (ht : OwnB w t.B t.body) (htN : ∀ g, t.B.ownBlock = some g → N ≤ g) (hw : N ≤ w.heap.size) {bx : Nat} (hat : At w bx [.int .i64 t.seq, t.B]) :
 ∃ v' w', (Builtin.append_ #[87, 87] 87 #[v, .slice (some ⟨bx, 0, none⟩) 1 1]).run Tryz.prog w = .ok v' w' ∧ OwnT N w' v' (l ++ [t]) ∧ Kp (fun k => v.ownBlock = some k) w w' ∧ (v'.ownBlock = v.ownBlock ∨ v'.ownBlock = some w.heap.size) := by
 obtain ⟨aB, cB, eB, _⟩ := ht.form
 obtain ⟨v', w', hr, ho, k, hb, _⟩ := run_append_at (P := Tryz.prog) (t := 87) (tx := 87) (ty := 87) w Tryz.underlying87 elem_pk Tryz.underlying87 h.own (a := some ⟨bx, 0, none⟩) (m := 1) (c := 1) (news := tpC [t]) rfl
  (fun i hi => ⟨bx, 0, rfl, by rw [hat.cell, Nat.zero_add, List.getD_eq_getElem?_getD]; rw [show [Value.int IntKind.i64 t.seq, t.B] = tpC [t] from rfl, List.getElem?_eq_getElem hi]; rfl⟩)
  (fun u hu => by simp only [tpC, List.mem_cons, List.not_mem_nil, or_false] at hu; rcases hu with rfl | rfl <;> first | rfl | (rw [eB]; rfl)) (by unfold maxLen; omega) (by omega)
 have hv : ∀ g, v'.ownBlock = some g → N ≤ g := fun g hg => by
  rcases hb with e | e
  · exact h.lo g (e ▸ hg)
  · rw [e] at hg; simp only [Option.some.injEq] at hg; omega
 refine ⟨v', w', hr, ⟨by rw [List.length_append, List.length_singleton, tpC_app]; exact ho, fun e => by simp at e, fun i hi => ?_, hv, fun i g hi hg => ?_⟩, k, hb⟩
 · simp only [List.length_append, List.length_singleton] at hi
   by_cases hi' : i < l.length
   · rw [tp_app_lt hi']
     exact (h.each i hi').kp k (fun g hg e => h.apart e (h.each i hi') hg)
   · obtain rfl : i = l.length := by omega
     rw [tp_app_at]
     exact ht.kp k (fun g hg e => h.apart e ht hg)
 · simp only [List.length_append, List.length_singleton] at hi
   by_cases hi' : i < l.length
   · rw [tp_app_lt hi'] at hg; exact h.loB i g hi' hg
   · obtain rfl : i = l.length := by omega
     rw [tp_app_at] at hg; exact htN g hg
theorem OwnT.at' {N : Nat} {w : World} {a : Option Addr} {n c : Nat} {l : List Tp} (h : OwnT N w (.slice a n c) l) {i : Nat} (hi : i < l.length) : ∃ g, a = some ⟨g, 0, none⟩ ∧ N ≤ g ∧ w.cell? ⟨g, i * 2, none⟩ = some (.int .i64 (tp l i).seq) ∧ w.cell? ⟨g, i * 2 + 1, none⟩ = some (tp l i).B := by
 rcases h.own.2 with ⟨_, e⟩ | ⟨g, cap, sp, e, hat, _⟩
 · omega
 · simp only [Value.slice.injEq] at e
   obtain ⟨rfl, rfl, rfl⟩ := e
   have hl := tpC_len l
   have hg := tpC_get hi
   exact ⟨g, rfl, h.lo g rfl, by rw [hat.cell, List.getElem?_append_left (by omega)]; exact hg.1, by rw [hat.cell, List.getElem?_append_left (by omega)]; exact hg.2⟩
end Go.Proofs.YtokembhfebnjpaaGreat
