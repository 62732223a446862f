/- Chapter 20: lists of manifests, copied, and one more behind them. -/
import Derived.Test.YtaibdkdmilhloaaQIdM
import Derived.Test.YtaibdkdmilhloaaQMem
namespace Go.Proofs.Ytaibdkdmilhloaa
open Go.RowKit
set_option linter.unusedVariables false
/-- These cells are a manifest with these items. -/
def RowM (w : World) (cs : List Value) (m : List (List Id)) : Prop :=
  ∃ x0 x1 x2 x3 ai ci, cs = [.int .i64 x0, .int .i64 x1, .int .i64 x2, .int .i64 x3, .slice ai m.length ci] ∧ RdT w ai m ∧ m.length ≤ ci ∧ m.length ≤ 2000000
theorem RowM.kp0 {w w' : World} {cs : List Value} {m : List (List Id)} (h : RowM w cs m) (k : Kp (fun _ => False) w w') : RowM w' cs m := by
  obtain ⟨x0, x1, x2, x3, ai, ci, e, h1, h2, h3⟩ := h
  exact ⟨x0, x1, x2, x3, ai, ci, e, h1.ge (k.mono (fun _ _ h => h.elim)), h2, h3⟩
theorem RowM.len {w : World} {cs : List Value} {m : List (List Id)} (h : RowM w cs m) : cs.length = 5 := by
  obtain ⟨x0, x1, x2, x3, ai, ci, e, _⟩ := h
  rw [e]; rfl
def rowsF : List (List Value) → List Value
  | [] => []
  | r :: l => r ++ rowsF l
theorem rowsF_app : ∀ a b : List (List Value), rowsF (a ++ b) = rowsF a ++ rowsF b
  | [], b => rfl
  | r :: l, b => by simp only [List.cons_append, rowsF, rowsF_app l b, List.append_assoc]
theorem rowsF_len : ∀ {rows : List (List Value)}, (∀ r ∈ rows, r.length = 5) → (rowsF rows).length = rows.length * 5
  | [], _ => rfl
  | r :: l, h => by
    simp only [rowsF, List.length_append, List.length_cons, rowsF_len (rows := l) (fun x hx => h x (by simp [hx])), h r (by simp)]; omega
theorem rowsF_get : ∀ {rows : List (List Value)}, (∀ r ∈ rows, r.length = 5) → ∀ i j, i < rows.length → j < 5 → (rowsF rows)[i * 5 + j]? = (rows.getD i [])[j]?
  | r :: l, h, 0, j, _, hj => by
    have := h r (by simp)
    simp only [rowsF, List.getD_cons_zero, Nat.zero_mul, Nat.zero_add]
    rw [List.getElem?_append_left (by omega)]
  | r :: l, h, i + 1, j, hi, hj => by
    have h5 := h r (by simp)
    simp only [rowsF, List.getD_cons_succ]
    rw [List.getElem?_append_right (by omega), show (i + 1) * 5 + j - r.length = i * 5 + j by omega]
    exact rowsF_get (fun x hx => h x (by simp [hx])) i j (by simpa using hi) hj
theorem all5 {w : World} {rows : List (List Value)} {ms : List (List (List Id))} (hl : rows.length = ms.length) (hr : ∀ i, i < ms.length → RowM w (rows.getD i []) (mn ms i)) : ∀ r ∈ rows, r.length = 5 := fun r h => by
  obtain ⟨i, hi, e⟩ := List.getElem_of_mem h
  have := (hr i (by omega)).len
  rwa [List.getD_eq_getElem?_getD, List.getElem?_eq_getElem hi, Option.getD_some, e] at this
theorem RdM.rows {w : World} {a : Option Addr} {ms : List (List (List Id))} (h : RdM w a ms) : ∃ rows : List (List Value), rows.length = ms.length ∧ (∀ i, i < ms.length → RowM w (rows.getD i []) (mn ms i)) ∧ Rd w a (rowsF rows) := by
  have hc : ∀ i, ∃ cs : List Value, i < ms.length → RowM w cs (mn ms i) ∧ ∃ b off, a = some ⟨b, off, none⟩ ∧ ∀ j, j < 5 → w.cell? ⟨b, off + (i * 5 + j), none⟩ = cs[j]? := fun i => by
    by_cases hi : i < ms.length
    · obtain ⟨b, off, x0, x1, x2, x3, ai, ci, e, h0, h1, h2, h3, h4, h5, h6, h7⟩ := h i hi
      refine ⟨[.int .i64 x0, .int .i64 x1, .int .i64 x2, .int .i64 x3, .slice ai (mn ms i).length ci], fun _ => ⟨⟨x0, x1, x2, x3, ai, ci, rfl, h5, h6, h7⟩, b, off, e, fun j hj => ?_⟩⟩
      rcases (show j = 0 ∨ j = 1 ∨ j = 2 ∨ j = 3 ∨ j = 4 by omega) with rfl | rfl | rfl | rfl | rfl
      · exact h0
      · rw [← Nat.add_assoc]; exact h1
      · rw [← Nat.add_assoc]; exact h2
      · rw [← Nat.add_assoc]; exact h3
      · rw [← Nat.add_assoc]; exact h4
    · exact ⟨[], fun h => absurd h hi⟩
  obtain ⟨f, hf⟩ := Classical.axiomOfChoice hc
  have hat : ∀ i, i < ms.length → ((List.range ms.length).map f).getD i [] = f i := fun i hi => by
    rw [List.getD_eq_getElem?_getD, List.getElem?_map, List.getElem?_range hi]; rfl
  have hr : ∀ i, i < ms.length → RowM w (((List.range ms.length).map f).getD i []) (mn ms i) := fun i hi => by rw [hat i hi]; exact (hf i hi).1
  refine ⟨(List.range ms.length).map f, by simp, hr, fun k hk => ?_⟩
  have h5 := all5 (rows := (List.range ms.length).map f) (by simp) hr
  rw [rowsF_len h5] at hk
  simp only [List.length_map, List.length_range] at hk
  have hi : k / 5 < ms.length := by omega
  obtain ⟨_, b, off, e, hc⟩ := hf (k / 5) hi
  refine ⟨b, off, e, ?_⟩
  have hg := rowsF_get h5 (k / 5) (k % 5) (by simpa using hi) (by omega)
  rw [show k / 5 * 5 + k % 5 = k by omega, hat _ hi] at hg
  have := hc (k % 5) (by omega)
  rw [show k / 5 * 5 + k % 5 = k by omega] at this
  rw [this, ← hg, List.getD_eq_getElem?_getD, List.getElem?_eq_getElem (by rw [rowsF_len h5]; simpa using hk)]
  rfl
theorem RdM.of_own {w : World} {a : Option Addr} {n c : Nat} {rows : List (List Value)} {ms : List (List (List Id))} (hl : rows.length = ms.length) (hr : ∀ i, i < ms.length → RowM w (rows.getD i []) (mn ms i)) (h : Own w (.slice a n c) n 5 (rowsF rows)) : RdM w a ms := fun i hi => by
  have h5 := all5 hl hr
  have hlen := rowsF_len h5
  have hrd := h.rd
  have hc : ∀ j, j < 5 → ∃ b off, a = some ⟨b, off, none⟩ ∧ w.cell? ⟨b, off + (i * 5 + j), none⟩ = (rows.getD i [])[j]? := fun j hj => by
    obtain ⟨b, off, e, hc⟩ := hrd (i * 5 + j) (by omega)
    refine ⟨b, off, e, ?_⟩
    rw [hc, ← rowsF_get h5 i j (by omega) hj, List.getD_eq_getElem?_getD, List.getElem?_eq_getElem (by omega)]
    rfl
  obtain ⟨x0, x1, x2, x3, ai, ci, e, q1, q2, q3⟩ := hr i hi
  rw [e] at hc
  obtain ⟨b, off, ea, c0⟩ := hc 0 (by omega)
  have cc : ∀ j, j < 5 → w.cell? ⟨b, off + (i * 5 + j), none⟩ = ([Value.int .i64 x0, .int .i64 x1, .int .i64 x2, .int .i64 x3, .slice ai (mn ms i).length ci] : List Value)[j]? := fun j hj => by
    obtain ⟨b', off', e', h'⟩ := hc j hj
    rw [ea] at e'
    simp only [Option.some.injEq, Addr.mk.injEq, and_true] at e'
    obtain ⟨rfl, rfl⟩ := e'
    exact h'
  exact ⟨b, off, x0, x1, x2, x3, ai, ci, ea, c0, by have := cc 1 (by omega); rwa [← Nat.add_assoc] at this, by have := cc 2 (by omega); rwa [← Nat.add_assoc] at this, by have := cc 3 (by omega); rwa [← Nat.add_assoc] at this, by have := cc 4 (by omega); rwa [← Nat.add_assoc] at this, q1, q2, q3⟩
theorem row_one {w : World} {rows : List (List Value)} {ms : List (List (List Id))} (hl : rows.length = ms.length) (hr : ∀ i, i < ms.length → RowM w (rows.getD i []) (mn ms i)) : ∀ u ∈ rowsF rows, u.oneCell' = true := by
  have : ∀ r ∈ rows, ∀ u ∈ r, u.oneCell' = true := fun r h u hu => by
    obtain ⟨i, hi, e⟩ := List.getElem_of_mem h
    obtain ⟨x0, x1, x2, x3, ai, ci, q, _⟩ := hr i (by omega)
    rw [List.getD_eq_getElem?_getD, List.getElem?_eq_getElem hi, Option.getD_some, e] at q
    rw [q] at hu
    simp only [List.mem_cons, List.not_mem_nil, or_false] at hu
    rcases hu with rfl | rfl | rfl | rfl | rfl <;> rfl
  clear hl hr
  induction rows with
  | nil => intro u hu; cases hu
  | cons r l ih =>
    intro u hu
    rcases List.mem_append.1 hu with h | h
    · exact this r (by simp) u h
    · exact ih (fun r hr => this r (by simp [hr])) u h
theorem elem_man : Elem Try.prog 54 (.agg #[.int .i64 0, .int .i64 0, .int .i64 0, .int .i64 0, .slice none 0 0]) 5 56 := Elem.mk' (by kernel_rfl) (by simp [Value.cells]) (by omega) (by simp [Value.cells, Value.oneCell'])
/-- A list of manifests of one's own, made since w0; what they name was there in w0. -/
structure OwnM (w0 w : World) (v : Value) (ms : List (List (List Id))) : Prop where
  ex : ∃ rows : List (List Value), rows.length = ms.length ∧ (∀ i, i < ms.length → RowM w0 (rows.getD i []) (mn ms i)) ∧ Own w v ms.length 5 (rowsF rows)
  kp : Kp (fun _ => False) w0 w
  lo : ∀ g, v.ownBlock = some g → w0.heap.size ≤ g
theorem OwnM.empty {w0 w : World} (k : Kp (fun _ => False) w0 w) : OwnM w0 (w.alloc (.cells #[] 54)) (.slice (some ⟨w.heap.size, 0, none⟩) 0 0) [] :=
  ⟨⟨[], rfl, fun i hi => absurd hi (Nat.not_lt_zero _), rfl, .inr ⟨w.heap.size, 0, [], rfl, At.new w [] _, by simp, Nat.le_refl _, by simp [maxLen]⟩⟩, k.alloc _, fun g hg => by simp [Value.ownBlock] at hg; have := k.size; omega⟩
theorem OwnM.kp0 {w0 w w' : World} {v : Value} {ms : List (List (List Id))} (h : OwnM w0 w v ms) (k : Kp (fun _ => False) w w') : OwnM w0 w' v ms := by
  obtain ⟨rows, h1, h2, h3⟩ := h.ex
  exact ⟨⟨rows, h1, h2, h3.kp k (fun _ _ h => h)⟩, h.kp.trans k, h.lo⟩
theorem OwnM.form {w0 w : World} {v : Value} {ms : List (List (List Id))} (h : OwnM w0 w v ms) : ∃ a c, v = .slice a ms.length c ∧ RdM w a ms := by
  obtain ⟨rows, h1, h2, h3⟩ := h.ex
  obtain ⟨a, c, rfl, _, _⟩ := h3.form
  exact ⟨a, c, rfl, RdM.of_own h1 (fun i hi => (h2 i hi).kp0 h.kp) h3⟩
theorem OwnM.apps {w0 w : World} {v : Value} {ms ns : List (List (List Id))} (h : OwnM w0 w v ms) {a : Option Addr} {n : Nat} (c : Nat) (hn : n = ns.length) {rows2 : List (List Value)} (g1 : rows2.length = ns.length) (g2 : ∀ i, i < ns.length → RowM w0 (rows2.getD i []) (mn ns i)) (g3 : Rd w a (rowsF rows2)) (hb : ms.length + ns.length ≤ 1100000) :
    ∃ v' w', (Builtin.append_ #[33, 33] 33 #[v, .slice a n c]).run Try.prog w = .ok v' w' ∧ OwnM w0 w' v' (ms ++ ns) ∧ w.heap.size ≤ w'.heap.size ∧ Kp (fun j => v.ownBlock = some j) w w' := by
  subst hn
  obtain ⟨rows, h1, h2, h3⟩ := h.ex
  have l2 := rowsF_len (all5 g1 g2)
  obtain ⟨v', w', r, ho, k, hbk, _⟩ := run_append_at (P := Try.prog) (t := 33) (tx := 33) (ty := 33) w Try.underlying33 elem_man Try.underlying33 h3 (a := a) (m := ns.length) (c := c) (news := rowsF rows2) (by rw [l2, g1])
    g3 (row_one g1 g2) (by unfold maxLen; omega) (by omega)
  refine ⟨v', w', r, ⟨⟨rows ++ rows2, by simp [h1, g1], fun i hi => ?_, by rw [List.length_append, rowsF_app]; exact ho⟩, h.kp.then k (fun i hi e => by have := h.lo i e; omega), fun g hg => ?_⟩, k.size, k⟩
  · simp only [List.length_append] at hi
    by_cases hi' : i < ms.length
    · have e1 : (rows ++ rows2).getD i [] = rows.getD i [] := by rw [List.getD_eq_getElem?_getD, List.getElem?_append_left (by omega), List.getD_eq_getElem?_getD]
      have e2 : mn (ms ++ ns) i = mn ms i := by unfold mn; rw [List.getD_eq_getElem?_getD, List.getElem?_append_left hi', List.getD_eq_getElem?_getD]
      rw [e1, e2]
      exact h2 i hi'
    · have e1 : (rows ++ rows2).getD i [] = rows2.getD (i - ms.length) [] := by rw [List.getD_eq_getElem?_getD, List.getElem?_append_right (by omega), List.getD_eq_getElem?_getD, h1]
      have e2 : mn (ms ++ ns) i = mn ns (i - ms.length) := by unfold mn; rw [List.getD_eq_getElem?_getD, List.getElem?_append_right (by omega), List.getD_eq_getElem?_getD]
      rw [e1, e2]
      exact g2 _ (by omega)
  · rcases hbk with e | e
    · exact h.lo g (e ▸ hg)
    · rw [e] at hg; simp only [Option.some.injEq] at hg; have := h.kp.size; omega
/-- A list that was there, copied behind. -/
theorem OwnM.copy {w0 w : World} {v : Value} {ms ns : List (List (List Id))} (h : OwnM w0 w v ms) {a : Option Addr} {n : Nat} (c : Nat) (hn : n = ns.length) (hr : RdM w0 a ns) (hb : ms.length + ns.length ≤ 1100000) :
    ∃ v' w', (Builtin.append_ #[33, 33] 33 #[v, .slice a n c]).run Try.prog w = .ok v' w' ∧ OwnM w0 w' v' (ms ++ ns) ∧ w.heap.size ≤ w'.heap.size ∧ Kp (fun j => v.ownBlock = some j) w w' := by
  obtain ⟨rows2, g1, g2, g3⟩ := hr.rows
  exact h.apps c hn g1 g2 (g3.kp h.kp (fun _ _ h => h)) hb
/-- A row beside an empty list stays. -/
theorem keepRow {w0 w w' : World} {p b : Nat} {u : Value} {cs : List Value} (h : OwnM w0 w (.slice (some ⟨p, 0, none⟩) 0 0) []) (hat : At w b (u :: cs)) (k : Kp (fun j => (Value.slice (some ⟨p, 0, none⟩) 0 0).ownBlock = some j) w w') : At w' b (u :: cs) :=
  k.at hat (fun e => by
    simp only [Value.ownBlock, Option.some.injEq] at e
    obtain ⟨rows, h1, h2, h3⟩ := h.ex
    rcases h3.2 with ⟨q, _⟩ | ⟨g, cap, sp, q, hg, hsp, _⟩
    · cases q
    · simp only [Value.slice.injEq, Option.some.injEq, Addr.mk.injEq, and_true] at q
      obtain ⟨rfl, _, rfl⟩ := q
      have hl : sp = [] := List.eq_nil_of_length_eq_zero (by simpa using hsp)
      have hr : rows = [] := List.eq_nil_of_length_eq_zero (by simpa using h1)
      subst hl; subst hr; subst e
      have := hg.inj hat
      cases this)
end Go.Proofs.Ytaibdkdmilhloaa
