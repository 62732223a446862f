/- Chapter 13: a window in memory: its object, a row of pointers, packets, bodies. No program in sight. -/
import Derived.Test.YtokembhfebnjpaaQBsM
import Derived.Test.YtokembhfebnjpaaQCkM
import Derived.Test.YtokembhfebnjpaaQFlM
import Derived.Deep.DeepCutAuto
namespace Go.Proofs.Ytokembhfebnjpaa
set_option maxRecDepth 20000
open Go.RowKit
set_option linter.unusedVariables false
/-- A packet: where it lies, its number, its body's slice, its body; how often it was sent, when last, how long it waits. -/
structure Pk where
  g : Nat
  seq : Nat
  B : Value
  body : List Int
  times : Nat
  att : Nat
  wt : Nat
instance : Inhabited Pk := ⟨⟨0, 0, .slice none 0 0, [], 0, 0, 0⟩⟩
def pk (l : List Pk) (i : Nat) : Pk := l.getD i default
def pkC (p : Pk) : List Value := [.int .i64 p.seq, p.B, .int .i64 p.times, .int .i64 p.att, .int .i64 p.wt]
def isP (u : Value) : Prop := ∃ a, u = .pointer a
/-- A row of pointers, from any place of its block on. -/
def Row (w : World) (V : Value) (gs : List Nat) : Prop :=
  (V = .slice none 0 0 ∧ gs = []) ∨ ∃ g o c cs, V = .slice (some ⟨g, o, none⟩) gs.length c ∧ At w g cs ∧ 0 < cs.length ∧ o + c ≤ cs.length ∧ gs.length ≤ c ∧ c ≤ maxLen ∧
    (∀ i, i < gs.length → cs[o + i]? = some (.pointer (some ⟨gs.getD i 0, 0, none⟩))) ∧ ∀ u ∈ cs, isP u
/-- A window: its size, the last number, the row, the packets, mean, spread, time. -/
structure Wn where
  size : Nat
  last : Nat
  V : Value
  l : List Pk
  m : Nat
  s : Nat
  now : Nat
def winC (x : Wn) : List Value := [.int .i64 x.size, .int .i64 x.last, x.V, .float .f64 x.m, .float .f64 x.s, .int .i64 x.now]
structure WinC (w : World) (b : Nat) (x : Wn) : Prop where
  hat : At w b (winC x)
  row : Row w x.V (x.l.map Pk.g)
  pks : ∀ i, i < x.l.length → At w (pk x.l i).g (pkC (pk x.l i))
  own : ∀ i, i < x.l.length → OwnB w (pk x.l i).B (pk x.l i).body
  size_bd : 1 ≤ x.size ∧ x.size ≤ 64
  len : x.l.length ≤ x.size
  seqs : ∀ i, i < x.l.length → (pk x.l i).seq + x.l.length = x.last + i + 1
  now_bd : x.now ≤ 2147483647
  bd : ∀ i, i < x.l.length → (pk x.l i).att ≤ x.now ∧ (pk x.l i).wt ≤ 60 ∧ (1 ≤ (pk x.l i).times → 2 ≤ (pk x.l i).wt)
/-- The blocks of a window. -/
def Mine (b : Nat) (x : Wn) (k : Nat) : Prop := k = b ∨ x.V.ownBlock = some k ∨ ∃ i, i < x.l.length ∧ ((pk x.l i).g = k ∨ (pk x.l i).B.ownBlock = some k)
theorem pk_at {l : List Pk} {i : Nat} (h : i < l.length) : l[i]? = some (pk l i) := by unfold pk; rw [List.getD_eq_getElem?_getD, List.getElem?_eq_getElem h]; rfl
theorem pk_mem {l : List Pk} {i : Nat} (h : i < l.length) : pk l i ∈ l := List.mem_of_getElem? (pk_at h)
theorem gs_at {l : List Pk} {i : Nat} (h : i < l.length) : (l.map Pk.g).getD i 0 = (pk l i).g := by
  rw [List.getD_eq_getElem?_getD, List.getElem?_map, pk_at h]; rfl
theorem pk_app_lt {a b : List Pk} {i : Nat} (h : i < a.length) : pk (a ++ b) i = pk a i := by
  unfold pk; rw [List.getD_eq_getElem?_getD, List.getElem?_append_left h, List.getD_eq_getElem?_getD]
theorem pk_app_at (a : List Pk) (p : Pk) : pk (a ++ [p]) a.length = p := by
  unfold pk; rw [List.getD_eq_getElem?_getD, List.getElem?_append_right (Nat.le_refl _), Nat.sub_self]; rfl
theorem pk_set {l : List Pk} {i : Nat} (h : i < l.length) (p : Pk) (j : Nat) : pk (l.set i p) j = if j = i then p else pk l j := by
  unfold pk
  rw [List.getD_eq_getElem?_getD, List.getElem?_set]
  by_cases hj : i = j
  · subst hj; simp [h]
  · rw [if_neg hj, if_neg (fun e => hj e.symm), List.getD_eq_getElem?_getD]
theorem pk_drop (l : List Pk) (k i : Nat) : pk (l.drop k) i = pk l (k + i) := by
  unfold pk; rw [List.getD_eq_getElem?_getD, List.getElem?_drop, List.getD_eq_getElem?_getD]
theorem OwnB.notC {w : World} {v : Value} {l : List Int} {b : Nat} {cs : List Value} (h : OwnB w v l) (ha : At w b cs) {u : Value} (hu : u ∈ cs) (hn : ¬ isB u) : v.ownBlock ≠ some b := fun e => by
  obtain ⟨ds, hd, hp⟩ := h.blk b e
  rw [ha.inj hd] at hu
  exact hn (hp u hu)
theorem not_isB_i64 (n : Int) : ¬ isB (.int .i64 n) := fun ⟨m, e, _⟩ => by cases e
theorem not_isB_ptr (a : Option Addr) : ¬ isB (.pointer a) := fun ⟨m, e, _⟩ => by cases e
theorem not_isP_int (k : IntKind) (n : Int) : ¬ isP (.int k n) := fun ⟨m, e⟩ => by cases e
variable {w w' : World} {b : Nat} {x : Wn}
theorem Row.len {V : Value} {gs : List Nat} (h : Row w V gs) : ∃ a c, V = .slice a gs.length c ∧ gs.length ≤ c := by
  rcases h with ⟨rfl, rfl⟩ | ⟨g, o, c, cs, rfl, _, _, _, h1, _⟩
  · exact ⟨none, 0, rfl, Nat.le_refl _⟩
  · exact ⟨_, c, rfl, h1⟩
theorem Row.blk {V : Value} {gs : List Nat} (h : Row w V gs) {g : Nat} (hg : V.ownBlock = some g) : ∃ cs, At w g cs ∧ 0 < cs.length ∧ ∀ u ∈ cs, isP u := by
  rcases h with ⟨rfl, rfl⟩ | ⟨g', o, c, cs, rfl, h1, h0, _, _, _, _, h2⟩
  · cases hg
  · simp only [Value.ownBlock, Option.some.injEq] at hg
    subst hg
    exact ⟨cs, h1, h0, h2⟩
theorem Row.kp {S : Nat → Prop} {V : Value} {gs : List Nat} (h : Row w V gs) (k : Kp S w w') (hs : ∀ g, V.ownBlock = some g → ¬ S g) : Row w' V gs := by
  rcases h with ⟨rfl, rfl⟩ | ⟨g, o, c, cs, rfl, h1, h2⟩
  · exact .inl ⟨rfl, rfl⟩
  · exact .inr ⟨g, o, c, cs, rfl, k.at h1 (hs g rfl), h2⟩
theorem Row.cell {a : Option Addr} {n c : Nat} {gs : List Nat} (h : Row w (.slice a n c) gs) {i : Nat} (hi : i < gs.length) : ∃ g o, a = some ⟨g, o, none⟩ ∧ n = gs.length ∧ w.cell? ⟨g, o + i, none⟩ = some (.pointer (some ⟨gs.getD i 0, 0, none⟩)) := by
  rcases h with ⟨_, rfl⟩ | ⟨g, o, c, cs, e, h1, _, _, _, _, h2, _⟩
  · cases hi
  · simp only [Value.slice.injEq] at e
    obtain ⟨rfl, rfl, rfl⟩ := e
    exact ⟨g, o, rfl, rfl, by rw [h1.cell]; exact h2 i hi⟩
/-- The first one goes. -/
theorem Row.tail {a : Option Addr} {n c g0 : Nat} {gs : List Nat} (h : Row w (.slice a n c) (g0 :: gs)) :
    ∃ g o, a = some ⟨g, o, none⟩ ∧ n = gs.length + 1 ∧ n ≤ c ∧ ∀ a', a' = (if c = 1 then some ⟨g, o, none⟩ else some ⟨g, o + 1, none⟩) → Row w (.slice a' (n - 1) (c - 1)) gs := by
  rcases h with ⟨_, h⟩ | ⟨g, o, c, cs, e, h1, h0, h2, h3, h4, h5, h6⟩
  · cases h
  · simp only [Value.slice.injEq] at e
    obtain ⟨rfl, rfl, rfl⟩ := e
    simp only [List.length_cons] at h3 h5
    refine ⟨g, o, rfl, rfl, h3, fun a' ha => ?_⟩
    subst ha
    by_cases h1c : c = 1
    · rw [if_pos h1c]
      exact .inr ⟨g, o, c - 1, cs, by simp, h1, h0, by omega, by omega, by omega, fun i hi => by omega, h6⟩
    · rw [if_neg h1c]
      refine .inr ⟨g, o + 1, c - 1, cs, by simp, h1, h0, by omega, by omega, by omega, fun i hi => ?_, h6⟩
      have := h5 (i + 1) (by omega)
      rw [show o + 1 + i = o + (i + 1) by omega, this]
      simp [List.getD_eq_getElem?_getD]
theorem WinC.lt (h : WinC w b x) {k : Nat} (hk : Mine b x k) : k < w.heap.size := by
  rcases hk with rfl | hk | ⟨i, hi, hk | hk⟩
  · exact h.hat.lt
  · obtain ⟨cs, hc, _, _⟩ := h.row.blk hk; exact hc.lt
  · rw [← hk]; exact (h.pks i hi).lt
  · exact (h.own i hi).lt k hk
theorem WinC.kp {S : Nat → Prop} (h : WinC w b x) (k : Kp S w w') (hs : ∀ j, Mine b x j → ¬ S j) : WinC w' b x :=
  { h with
    hat := k.at h.hat (hs b (.inl rfl))
    row := h.row.kp k (fun g hg => hs g (.inr (.inl hg)))
    pks := fun i hi => k.at (h.pks i hi) (hs _ (.inr (.inr ⟨i, hi, .inl rfl⟩)))
    own := fun i hi => (h.own i hi).kp k (fun g hg => hs g (.inr (.inr ⟨i, hi, .inr hg⟩))) }
theorem WinC.kp0 (h : WinC w b x) (k : Kp (fun _ => False) w w') : WinC w' b x := h.kp k (fun _ _ h => h)
theorem WinC.drewN (h : WinC w b x) (n : Nat) : WinC (w.drewN n) b x := h.kp0 ((Kp.refl _ w).drewN n)
/-- The row is not the head, no packet, no body. -/
theorem WinC.rowNe (h : WinC w b x) {g : Nat} (hg : x.V.ownBlock = some g) : g ≠ b ∧ (∀ i, i < x.l.length → g ≠ (pk x.l i).g) ∧ ∀ i, i < x.l.length → (pk x.l i).B.ownBlock ≠ some g := by
  obtain ⟨cs, hc, h0, hp⟩ := h.row.blk hg
  refine ⟨fun e => ?_, fun i hi e => ?_, fun i hi e => ?_⟩
  · subst e
    have := hc.inj h.hat
    subst this
    exact not_isP_int .i64 x.size (hp _ (by simp [winC]))
  · subst e
    have := hc.inj (h.pks i hi)
    subst this
    exact not_isP_int .i64 (pk x.l i).seq (hp _ (by simp [pkC]))
  · obtain ⟨u, hu⟩ : ∃ u, u ∈ cs := ⟨_, List.getElem_mem h0⟩
    obtain ⟨a, rfl⟩ := hp u hu
    exact (h.own i hi).notC hc hu (not_isB_ptr a) e
/-- A packet is not the head; two packets are not one; and no body is a packet, or the head. -/
theorem WinC.pkNe (h : WinC w b x) {i : Nat} (hi : i < x.l.length) : (pk x.l i).g ≠ b ∧ (∀ j, j < x.l.length → (pk x.l i).g = (pk x.l j).g → i = j) ∧ ∀ j, j < x.l.length → (pk x.l j).B.ownBlock ≠ some (pk x.l i).g := by
  refine ⟨fun e => ?_, fun j hj e => ?_, fun j hj => ?_⟩
  · have h1 := h.pks i hi
    rw [e] at h1
    have := congrArg List.length (h1.inj h.hat)
    cases this
  · have h1 := h.pks i hi
    rw [e] at h1
    have e2 := h1.inj (h.pks j hj)
    simp only [pkC, List.cons.injEq, Value.int.injEq, true_and] at e2
    have h3 := h.seqs i hi
    have h4 := h.seqs j hj
    have h5 := e2.1
    omega
  · exact (h.own j hj).notC (h.pks i hi) (u := .int .i64 (pk x.l i).seq) (by simp [pkC]) (not_isB_i64 _)
theorem WinC.bodyNe (h : WinC w b x) {j : Nat} (hj : j < x.l.length) : (pk x.l j).B.ownBlock ≠ some b :=
  (h.own j hj).notC h.hat (u := .int .i64 x.size) (by simp [winC]) (not_isB_i64 _)
/-- The head alone turns. -/
theorem WinC.head (h : WinC w b x) {last' m' s' now' : Nat} (hl : last' = x.last) (ha : At w' b (winC { x with last := last', m := m', s := s', now := now' })) (k : Kp (· = b) w w') (hn : x.now ≤ now') (hn2 : now' ≤ 2147483647) : WinC w' b { x with last := last', m := m', s := s', now := now' } :=
  { hat := ha
    row := h.row.kp k (fun g hg => (h.rowNe hg).1)
    pks := fun i hi => k.at (h.pks i hi) (h.pkNe hi).1
    own := fun i hi => (h.own i hi).kp k (fun g hg e => h.bodyNe hi (by rw [hg, e]))
    size_bd := h.size_bd
    len := h.len
    seqs := fun i hi => by rw [hl]; exact h.seqs i hi
    now_bd := hn2
    bd := fun i hi => by have := h.bd i hi; exact ⟨Nat.le_trans this.1 hn, this.2⟩ }
/-- A packet turns. -/
theorem WinC.setPk (h : WinC w b x) {i : Nat} (hi : i < x.l.length) {p : Pk} (hg : p.g = (pk x.l i).g) (hB : p.B = (pk x.l i).B) (hq : p.seq = (pk x.l i).seq) (hb : p.body = (pk x.l i).body) (ha : At w' p.g (pkC p)) (k : Kp (· = p.g) w w')
    (h1 : p.att ≤ x.now ∧ p.wt ≤ 60 ∧ (1 ≤ p.times → 2 ≤ p.wt)) : WinC w' b { x with l := x.l.set i p } := by
  have hne := h.pkNe hi
  have gs : (x.l.set i p).map Pk.g = x.l.map Pk.g := by
    apply List.ext_getElem?
    intro j
    rw [List.getElem?_map, List.getElem?_map, List.getElem?_set]
    by_cases hj : i = j
    · subst hj; rw [if_pos rfl, if_pos hi, pk_at hi]; simp [hg]
    · rw [if_neg hj]
  rw [hg] at k
  exact
  { hat := k.at h.hat (fun e => hne.1 e.symm)
    row := by
      show Row w' x.V ((x.l.set i p).map Pk.g)
      rw [gs]
      exact h.row.kp k (fun g hg' e => (h.rowNe hg').2.1 i hi e)
    pks := fun j hj => by
      simp only [List.length_set] at hj
      show At w' (pk (x.l.set i p) j).g (pkC (pk (x.l.set i p) j))
      rw [pk_set hi]
      by_cases hji : j = i
      · rw [if_pos hji]; exact ha
      · rw [if_neg hji]; exact k.at (h.pks j hj) (fun e => hji (hne.2.1 j hj e.symm).symm)
    own := fun j hj => by
      simp only [List.length_set] at hj
      show OwnB w' (pk (x.l.set i p) j).B (pk (x.l.set i p) j).body
      rw [pk_set hi]
      by_cases hji : j = i
      · subst hji; rw [if_pos rfl, hB, hb]; exact (h.own j hj).kp k (fun g hg' e => hne.2.2 j hj (by rw [hg', e]))
      · rw [if_neg hji]; exact (h.own j hj).kp k (fun g hg' e => hne.2.2 j hj (by rw [hg', e]))
    size_bd := h.size_bd
    len := by simpa using h.len
    seqs := fun j hj => by
      simp only [List.length_set] at hj ⊢
      show (pk (x.l.set i p) j).seq + x.l.length = x.last + j + 1
      rw [pk_set hi]
      by_cases hji : j = i
      · subst hji; rw [if_pos rfl, hq]; exact h.seqs j hj
      · rw [if_neg hji]; exact h.seqs j hj
    now_bd := h.now_bd
    bd := fun j hj => by
      simp only [List.length_set] at hj
      show (pk (x.l.set i p) j).att ≤ x.now ∧ (pk (x.l.set i p) j).wt ≤ 60 ∧ (1 ≤ (pk (x.l.set i p) j).times → 2 ≤ (pk (x.l.set i p) j).wt)
      rw [pk_set hi]
      by_cases hji : j = i
      · rw [if_pos hji]; exact h1
      · rw [if_neg hji]; exact h.bd j hj }
theorem Mine.setPk {b : Nat} {x : Wn} {i : Nat} (hi : i < x.l.length) {p : Pk} (hg : p.g = (pk x.l i).g) (hB : p.B = (pk x.l i).B) (k : Nat) : Mine b { x with l := x.l.set i p } k ↔ Mine b x k := by
  unfold Mine
  simp only [List.length_set]
  constructor
  · rintro (h | h | ⟨j, hj, h⟩)
    · exact .inl h
    · exact .inr (.inl h)
    · rw [pk_set hi] at h
      by_cases hji : j = i
      · subst hji; rw [if_pos rfl, hg, hB] at h; exact .inr (.inr ⟨j, hj, h⟩)
      · rw [if_neg hji] at h; exact .inr (.inr ⟨j, hj, h⟩)
  · rintro (h | h | ⟨j, hj, h⟩)
    · exact .inl h
    · exact .inr (.inl h)
    · refine .inr (.inr ⟨j, hj, ?_⟩)
      rw [pk_set hi]
      by_cases hji : j = i
      · subst hji; rw [if_pos rfl, hg, hB]; exact h
      · rw [if_neg hji]; exact h
/-- The first packet goes. -/
theorem WinC.pop (h : WinC w b x) {V' : Value} {m' s' : Nat} (ha : At w' b (winC { x with V := V', l := x.l.drop 1, m := m', s := s' })) (k : Kp (· = b) w w') (h0 : 0 < x.l.length) (hV : V'.ownBlock = x.V.ownBlock) (hr : Row w V' ((x.l.drop 1).map Pk.g)) :
    WinC w' b { x with V := V', l := x.l.drop 1, m := m', s := s' } :=
  { hat := ha
    row := hr.kp k (fun g hg => (h.rowNe (hV ▸ hg)).1)
    pks := fun i hi => by
      simp only [List.length_drop] at hi
      show At w' (pk (x.l.drop 1) i).g (pkC (pk (x.l.drop 1) i))
      rw [pk_drop]
      exact k.at (h.pks (1 + i) (by omega)) (h.pkNe (by omega)).1
    own := fun i hi => by
      simp only [List.length_drop] at hi
      show OwnB w' (pk (x.l.drop 1) i).B (pk (x.l.drop 1) i).body
      rw [pk_drop]
      exact (h.own (1 + i) (by omega)).kp k (fun g hg e => h.bodyNe (j := 1 + i) (by omega) (by rw [hg, e]))
    size_bd := h.size_bd
    len := by have := h.len; simp only [List.length_drop]; show x.l.length - 1 ≤ x.size; omega
    seqs := fun i hi => by
      simp only [List.length_drop] at hi ⊢
      show (pk (x.l.drop 1) i).seq + (x.l.length - 1) = x.last + i + 1
      rw [pk_drop]
      have := h.seqs (1 + i) (by omega)
      omega
    now_bd := h.now_bd
    bd := fun i hi => by
      simp only [List.length_drop] at hi
      show (pk (x.l.drop 1) i).att ≤ x.now ∧ (pk (x.l.drop 1) i).wt ≤ 60 ∧ (1 ≤ (pk (x.l.drop 1) i).times → 2 ≤ (pk (x.l.drop 1) i).wt)
      rw [pk_drop]
      exact h.bd (1 + i) (by omega) }
theorem Mine.pop {b : Nat} {x : Wn} {V' : Value} {m' s' n' : Nat} (hV : V'.ownBlock = x.V.ownBlock) {d k : Nat} (h : Mine b { x with V := V', l := x.l.drop d, m := m', s := s', now := n' } k) : Mine b x k := by
  rcases h with h | h | ⟨j, hj, h⟩
  · exact .inl h
  · exact .inr (.inl (hV ▸ h))
  · simp only [List.length_drop] at hj
    simp only [pk_drop] at h
    exact .inr (.inr ⟨d + j, by omega, h⟩)
end Go.Proofs.Ytokembhfebnjpaa
/- Chapter 13: a packet more in a window's row. No program in sight. -/
namespace Go.Proofs.Ytokembhfebnjpaa
set_option maxRecDepth 20000
open Go.RowKit
set_option linter.unusedVariables false
def ptr (g : Nat) : Value := .pointer (some ⟨g, 0, none⟩)
theorem ptr_map {gs : List Nat} {i : Nat} (hi : i < gs.length) : (gs.map ptr)[i]? = some (.pointer (some ⟨gs.getD i 0, 0, none⟩)) := by
  rw [List.getElem?_map, List.getElem?_eq_getElem hi, List.getD_eq_getElem?_getD, List.getElem?_eq_getElem hi]; rfl
theorem isP_map (gs : List Nat) : ∀ u ∈ gs.map ptr, isP u := fun u hu => by
  obtain ⟨g, _, rfl⟩ := List.mem_map.1 hu
  exact ⟨_, rfl⟩
theorem row_of_own {w : World} {v : Value} {gs : List Nat} (h0 : 0 < gs.length) (h : Own w v gs.length 1 (gs.map ptr)) (hb : BlkP isP w v) : Row w v gs := by
  rcases h.2 with ⟨_, e⟩ | ⟨g, cap, sp, rfl, hat, hsp, hle, hcm⟩
  · omega
  · refine .inr ⟨g, 0, cap, _, rfl, hat, by simp; omega, by simp; omega, hle, hcm, fun i hi => ?_, ?_⟩
    · rw [Nat.zero_add, List.getElem?_append_left (by simpa using hi), ptr_map hi]
    · obtain ⟨cs, hc, hp⟩ := hb g rfl
      rw [hat.inj hc]; exact hp
theorem getD_app_lt {gs : List Nat} {q i : Nat} (hi : i < gs.length) : (gs ++ [q]).getD i 0 = gs.getD i 0 := by
  rw [List.getD_eq_getElem?_getD, List.getElem?_append_left hi, List.getD_eq_getElem?_getD]
theorem getD_app_at (gs : List Nat) (q : Nat) : (gs ++ [q]).getD gs.length 0 = q := by
  rw [List.getD_eq_getElem?_getD, List.getElem?_append_right (Nat.le_refl _), Nat.sub_self]; rfl
theorem row_app {P : Program} {w : World} {V : Value} {gs : List Nat} (h : Row w V gs) {t tx ty e e' : TypeId} (ht : P.underlying t = some (.slice e)) (he : Elem P e (.pointer none) 1 8) (hk : P.underlying tx = some (.slice e')) (hn : gs.length ≤ 1000) {a : Option Addr} (c1 : Nat) {q : Nat} (hr : Rd w a [ptr q]) :
    ∃ V' w', (Builtin.append_ #[t, tx] ty #[V, .slice a 1 c1]).run P w = .ok V' w' ∧ Row w' V' (gs ++ [q]) ∧ Kp (fun k => V.ownBlock = some k) w w' ∧ (V'.ownBlock = V.ownBlock ∨ V'.ownBlock = some w.heap.size) ∧ Row w' V gs := by
  have h1c : ∀ u ∈ [ptr q], u.oneCell' = true := fun u hu => by
    rw [List.mem_singleton] at hu; subst hu; rfl
  have hz0 : ∀ u ∈ (Value.pointer none).cells, isP u := fun u hu => by
    simp [Value.cells] at hu; subst hu; exact ⟨_, rfl⟩
  rcases h with ⟨rfl, rfl⟩ | ⟨g, o, c, cs, rfl, hat, hz0', hoc, hle, hcm, hce, hP⟩
  · obtain ⟨v', w', r1, r2, r3, r4, r5⟩ := run_append_at (P := P) w (ty := ty) ht he hk (Own.nil w 1) (m := 1) (c := c1) (news := [ptr q]) rfl hr h1c (by simp [maxLen]) (by omega)
    exact ⟨v', w', r1, row_of_own (gs := [q]) (by simp) r2 (r5 isP hz0 (isP_map [q]) (BlkP.nil _ _ _ _)), r3, r4, .inl ⟨rfl, rfl⟩⟩
  · obtain ⟨z1, z2, z3, i, hi, hz, hsz, hby⟩ := he
    have hs : Src P i.size tx (.slice a 1 c1) 1 [ptr q] w := by rw [hsz]; exact src_of_rd w hk rfl (by omega) hr h1c
    by_cases hroom : gs.length + 1 ≤ c
    · have hset : ∀ u ∈ cs.set (o + gs.length) (ptr q), isP u := fun u hu => by
        rcases List.mem_or_eq_of_mem_set hu with h | h
        · exact hP u h
        · subst h; exact ⟨_, rfl⟩
      refine ⟨_, _, run_append_room_src (P := P) w t tx ty e i ht hi g o gs.length c _ 1 _ hs hroom (fun j hj => ?_) (fun j _ => hat.frozen _), .inr ⟨g, o, c, cs.set (o + gs.length) (ptr q), by simp, ?_, by simpa using hz0', by simpa using hoc, by simpa using hroom, hcm, fun j hj => ?_, hset⟩, ?_, .inl rfl, .inr ⟨g, o, c, cs.set (o + gs.length) (ptr q), rfl, ?_, by simpa using hz0', by simpa using hoc, hle, hcm, fun j hj => ?_, hset⟩⟩
      · simp at hj
        rw [hat.cell, List.getElem?_eq_getElem (by rw [hsz]; omega)]; rfl
      · rw [hsz, Nat.mul_one]
        exact hat.set _ _
      · simp only [List.length_append, List.length_singleton] at hj
        rw [List.getElem?_set]
        by_cases hj' : j < gs.length
        · rw [if_neg (by omega), hce j hj', getD_app_lt hj']
        · obtain rfl : gs.length = j := by omega
          rw [if_pos rfl, if_pos (by omega), getD_app_at]; rfl
      · exact Kp.setCells (S := fun k => (Value.slice (some ⟨g, o, none⟩) gs.length c).ownBlock = some k) (fun _ => rfl) _ _ (Kp.refl _ w)
      · rw [hsz, Nat.mul_one]
        exact hat.set _ _
      · rw [List.getElem?_set, if_neg (by omega)]; exact hce j hj
    · have hf : (Builtin.firstCells i.size gs.length (.slice (some ⟨g, o, none⟩) gs.length c)).run P w.drew = .ok (gs.map ptr).toArray w.drew := by
        refine run_firstCells_some (P := P) w.drew i.size gs.length _ gs.length c (gs.map ptr) (by simp [hsz]) (fun j u hu => ?_)
        have hj : j < gs.length := by simpa using (List.getElem?_eq_some_iff.1 hu).1
        rw [Addr.add_mid, World.cell?_drew, hat.cell, hce j hj, ← ptr_map hj]; exact hu
      have hge := grownCap_ge w (gs.length + 1) c e
      have hcm' : grownCap w (gs.length + 1) c e ≤ maxLen := grownCap_le_maxLen w (gs.length + 1) c e (by simp only [maxLen]; omega)
      have hzl : zeros (.pointer none) (grownCap w (gs.length + 1) c e - (gs.length + 1)) = List.replicate (grownCap w (gs.length + 1) c e - (gs.length + 1)) (.pointer none) := zeros_one _ rfl _
      have hh : At (w.drew.alloc (.cells ((gs.map ptr ++ [ptr q]).toArray ++ Builtin.zeroCells (Value.pointer none).cells (grownCap w (gs.length + 1) c e - (gs.length + 1))) e)) w.heap.size ((gs ++ [q]).map ptr ++ List.replicate (grownCap w (gs.length + 1) c e - (gs.length + 1)) (.pointer none)) := by
        refine ⟨e, ?_⟩
        have := heap_alloc_new w.drew (.cells ((gs.map ptr ++ [ptr q]).toArray ++ Builtin.zeroCells (Value.pointer none).cells (grownCap w (gs.length + 1) c e - (gs.length + 1))) e)
        rw [show w.drew.heap.size = w.heap.size from rfl] at this
        rw [this, ← hzl]
        simp [zeros]
      refine ⟨_, _, run_append_grow_src (P := P) w t tx ty e i (.pointer none) ht hi hz (some ⟨g, o, none⟩) gs.length c (gs.map ptr) hf _ 1 _ hs (by omega) (by omega) (growslice_fits (by omega) (by rw [hby]; omega)), .inr ⟨w.heap.size, 0, grownCap w (gs.length + 1) c e, _, by simp, hh, by simp; omega, by simp; omega, by simpa using hge, hcm', fun j hj => ?_, fun u hu => ?_⟩, ((Kp.refl _ w).drew).alloc _, .inr rfl, .inr ⟨g, o, c, cs, rfl, (hat.drew).alloc _, hz0', hoc, hle, hcm, hce, hP⟩⟩
      · rw [Nat.zero_add, List.getElem?_append_left (by simpa using hj), ptr_map hj]
      · rcases List.mem_append.1 hu with h | h
        · exact isP_map _ u h
        · rw [(List.mem_replicate.1 h).2]; exact ⟨_, rfl⟩
variable {w w' : World} {b : Nat} {x : Wn}
/-- A packet more. -/
theorem WinC.push (h : WinC w b x) (p : Pk) (hp : At w' p.g (pkC p)) (ho : OwnB w' p.B p.body) (hq : p.seq = x.last + 1) (ht : p.times = 0 ∧ p.att = 0 ∧ p.wt = 0) {V' : Value} (hV : Row w' V' ((x.l ++ [p]).map Pk.g))
    (ha : At w' b (winC { x with last := x.last + 1, V := V', l := x.l ++ [p] })) (k : Kp (fun j => j = b ∨ x.V.ownBlock = some j) w w') (hlen : x.l.length < x.size) : WinC w' b { x with last := x.last + 1, V := V', l := x.l ++ [p] } := by
  have bV : ∀ {v : Value} {l : List Int}, OwnB w v l → ∀ g, v.ownBlock = some g → ¬ (g = b ∨ x.V.ownBlock = some g) := fun {v l} hv g hg e => by
    rcases e with e | e
    · subst e; exact hv.notC h.hat (u := .int .i64 x.size) (by simp [winC]) (not_isB_i64 _) hg
    · obtain ⟨cs, hc, h0, hP⟩ := h.row.blk e
      obtain ⟨u, hu⟩ : ∃ u, u ∈ cs := ⟨_, List.getElem_mem h0⟩
      obtain ⟨a, rfl⟩ := hP u hu
      exact hv.notC hc hu (not_isB_ptr a) hg
  exact
  { hat := ha
    row := hV
    pks := fun i hi => by
      simp only [List.length_append, List.length_singleton] at hi
      show At w' (pk (x.l ++ [p]) i).g (pkC (pk (x.l ++ [p]) i))
      by_cases hi' : i < x.l.length
      · rw [pk_app_lt hi']
        exact k.at (h.pks i hi') (fun e => by
          rcases e with e | e
          · exact (h.pkNe hi').1 e
          · exact (h.rowNe e).2.1 i hi' rfl)
      · obtain rfl : i = x.l.length := by omega
        rw [pk_app_at]
        exact hp
    own := fun i hi => by
      simp only [List.length_append, List.length_singleton] at hi
      show OwnB w' (pk (x.l ++ [p]) i).B (pk (x.l ++ [p]) i).body
      by_cases hi' : i < x.l.length
      · rw [pk_app_lt hi']
        exact (h.own i hi').kp k (bV (h.own i hi'))
      · obtain rfl : i = x.l.length := by omega
        rw [pk_app_at]
        exact ho
    size_bd := h.size_bd
    len := by simp only [List.length_append, List.length_singleton]; exact hlen
    seqs := fun i hi => by
      simp only [List.length_append, List.length_singleton] at hi ⊢
      show (pk (x.l ++ [p]) i).seq + (x.l.length + 1) = x.last + 1 + i + 1
      by_cases hi' : i < x.l.length
      · rw [pk_app_lt hi']; have := h.seqs i hi'; omega
      · obtain rfl : i = x.l.length := by omega
        rw [pk_app_at]; omega
    now_bd := h.now_bd
    bd := fun i hi => by
      simp only [List.length_append, List.length_singleton] at hi
      show (pk (x.l ++ [p]) i).att ≤ x.now ∧ (pk (x.l ++ [p]) i).wt ≤ 60 ∧ (1 ≤ (pk (x.l ++ [p]) i).times → 2 ≤ (pk (x.l ++ [p]) i).wt)
      by_cases hi' : i < x.l.length
      · rw [pk_app_lt hi']; exact h.bd i hi'
      · obtain rfl : i = x.l.length := by omega
        rw [pk_app_at]; omega }
theorem Mine.push {b : Nat} {x : Wn} {p : Pk} {V' : Value} {l' N : Nat} (hV : V'.ownBlock = x.V.ownBlock ∨ ∃ g, V'.ownBlock = some g ∧ N ≤ g) (hp : N ≤ p.g) (hB : ∀ g, p.B.ownBlock = some g → N ≤ g) {k : Nat} (h : Mine b { x with last := l', V := V', l := x.l ++ [p] } k) : Mine b x k ∨ N ≤ k := by
  rcases h with h | h | ⟨j, hj, h⟩
  · exact .inl (.inl h)
  · rcases hV with e | ⟨g, e, hg⟩
    · exact .inl (.inr (.inl (e ▸ h)))
    · refine .inr ?_
      have := e.symm.trans h
      simp only [Option.some.injEq] at this
      omega
  · simp only [List.length_append, List.length_singleton] at hj
    by_cases hj' : j < x.l.length
    · simp only [pk_app_lt hj'] at h
      exact .inl (.inr (.inr ⟨j, hj', h⟩))
    · obtain rfl : j = x.l.length := by omega
      simp only [pk_app_at] at h
      rcases h with h | h
      · exact .inr (h ▸ hp)
      · exact .inr (hB k h)
end Go.Proofs.Ytokembhfebnjpaa
/- Package window: the contracts of its small methods. -/
namespace Go.Proofs.Ytokembhfebnjpaa
set_option maxRecDepth 20000
open Go.RowKit Flt
set_option linter.unusedVariables false
theorem wnone_nil (w : World) : Calls Try.prog 36 #[.pointer none] w fun e w' => e = .returned (.bool true) ∧ w = w' := by
  go_enter Try.func36, Try.ntmps36
  go_wp2
  go_ret
  exact ⟨rfl, rfl⟩
theorem wnone_at (b : Nat) (s : Int) (w : World) (h : w.cell? ⟨b, 0, none⟩ = some (.int .i64 s)) :
    Calls Try.prog 36 #[.pointer (some ⟨b, 0, none⟩)] w fun e w' => e = .returned (.bool (s == 0)) ∧ w = w' := by
  go_enter Try.func36, Try.ntmps36
  go_wp2
  go_ret
  exact ⟨rfl, rfl⟩
theorem wnone_no (b s : Nat) (w : World) (h : w.cell? ⟨b, 0, none⟩ = some (.int .i64 s)) (hs : 1 ≤ s) :
    Calls Try.prog 36 #[.pointer (some ⟨b, 0, none⟩)] w fun e w' => e = .returned (.bool false) ∧ w = w' := by
  have := wnone_at b s w h
  rwa [show ((s : Int) == 0) = false by rw [beq_eq_false_iff_ne]; omega] at this
def timeB (n : Int) : Bool := decide (0 ≤ n) && decide (n ≤ 2147483647)
theorem timeB_yes {n : Int} (h : timeB n = true) : 0 ≤ n ∧ n ≤ 2147483647 := by simpa [timeB] using h
theorem timeB_of {n : Nat} (h : n ≤ 2147483647) : timeB n = true := by simp [timeB]; omega
theorem wtime_any (n : Int) (w : World) : Calls Try.prog 83 #[.int .i64 n] w fun e w' => e = .returned (.bool (timeB n)) ∧ w = w' := by
  by_cases h : 0 ≤ n
  · have e : timeB n = decide (n ≤ 2147483647) := by simp [timeB, h]
    rw [e]
    go_enter Try.func83, Try.ntmps83
    go_wp2
    go_ret
    exact ⟨rfl, rfl⟩
  · have e : timeB n = false := by simp [timeB, h]
    rw [e]
    go_enter Try.func83, Try.ntmps83
    go_wp2
    go_ret
    exact ⟨rfl, rfl⟩
/-- When a packet is due. -/
def dueA (p : Pk) (now : Nat) : Nat := if p.times = 0 then now else p.att + p.wt
theorem pdue_any (p : Pk) (now : Nat) (w : World) (hat : At w p.g (pkC p)) (ha : p.att ≤ 2147483647) (hw : p.wt ≤ 60) :
    Calls Try.prog 90 #[.pointer (some ⟨p.g, 0, none⟩), .int .i64 now] w fun e w' => e = .returned (.int .i64 (dueA p now)) ∧ ∃ k, w' = w.drewN k := by
  have h2 := hat.cell 2
  have h3 := hat.cell 3
  have h4 := hat.cell 4
  simp only [pkC, List.getElem?_cons_succ, List.getElem?_cons_zero] at h2 h3 h4
  by_cases h0 : p.times = 0
  · have e : dueA p now = now := if_pos h0
    rw [e]
    rw [h0] at h2
    clear e h0
    go_enter Try.func90, Try.ntmps90
    go_wp2
    go_ret
    exact ⟨rfl, 0, rfl⟩
  · have e : ((dueA p now : Nat) : Int) = p.att + p.wt := by unfold dueA; rw [if_neg h0]; simp
    rw [e]
    have hz : ((p.times : Int) == 0) = false := by rw [beq_eq_false_iff_ne]; omega
    have hs : IntKind.i64.wrap ((p.att : Int) + p.wt) = p.att + p.wt := IntWalk.i64_in _ (by omega)
    clear e
    go_enter Try.func90, Try.ntmps90
    go_wp2_with fail
    go_quiet (fail)
    go_wp2
    go_ret
    exact ⟨rfl, _, rfl⟩
/-- The wait of a packet that is sent for the t-th time, where one waits n at first. -/
def wk (n t : Nat) : Nat := min (n * 2 ^ (t - 1)) 60
theorem wk_bd {n t : Nat} (h2 : 2 ≤ n) : 2 ≤ wk n t ∧ wk n t ≤ 60 := by
  have : 1 ≤ 2 ^ (t - 1) := Nat.one_le_two_pow
  have : n * 1 ≤ n * 2 ^ (t - 1) := Nat.mul_le_mul_left _ this
  unfold wk; omega
theorem wk_mono {n t t' : Nat} (h : t ≤ t') : wk n t ≤ wk n t' := by
  have : 2 ^ (t - 1) ≤ 2 ^ (t' - 1) := Nat.pow_le_pow_right (by omega) (by omega)
  have := Nat.mul_le_mul_left n this
  unfold wk; omega
theorem wk_end {n t j c : Nat} (hc : c = n * 2 ^ j) (hj : j + 1 ≤ t) (h : j + 1 = t ∨ 60 ≤ c) : min c 60 = wk n t := by
  unfold wk
  rcases h with h | h
  · rw [hc, show t - 1 = j by omega]
  · have : 2 ^ j ≤ 2 ^ (t - 1) := Nat.pow_le_pow_right (by omega) (by omega)
    have := Nat.mul_le_mul_left n this
    omega
def waitN (m s : Nat) : Nat := (waitF m s).toNat
theorem waitN_bd (m s : Nat) : 2 ≤ waitN m s ∧ waitN m s ≤ 60 ∧ waitF m s = (waitN m s : Nat) := by
  have := wait_range m s
  unfold waitN; omega
set_option maxHeartbeats 1000000 in
theorem wwait_any (b m s t : Nat) (w : World) (h3 : w.cell? ⟨b, 3, none⟩ = some (.float .f64 m)) (h4 : w.cell? ⟨b, 4, none⟩ = some (.float .f64 s)) (ht : 1 ≤ t) (ht2 : t ≤ 4611686018427387904) :
    Calls Try.prog 91 #[.pointer (some ⟨b, 0, none⟩), .int .i64 t] w fun e w' => e = .returned (.int .i64 (wk (waitN m s) t)) ∧ ∃ k, w' = w.drewN k := by
  obtain ⟨n2, n60, he⟩ := waitN_bd m s
  have C := fun w' n => Calls.quiet_of (n := n) (wait_any m s (World.drewN w' n))
  rw [he] at C
  obtain ⟨n, hn⟩ : ∃ n, n = waitN m s := ⟨_, rfl⟩
  rw [← hn] at C n2 n60 ⊢
  obtain ⟨R, hR⟩ : ∃ R, R = wk n t := ⟨_, rfl⟩
  rw [← hR]
  have HR := Lib.hid hR
  clear he hn hR
  go_enter Try.func91, Try.ntmps91
  go_wp2_with fail
  go_quiet ((go_at_call 93; exact C _ _))
  clear C
  go_wp2_with fail
  go_loop [1, 5] (fun k c => ∃ j c' : Nat, j + 1 ≤ t ∧ k = .int .i64 ((t - j : Nat) : Nat) ∧ c = .int .i64 c' ∧ c' = n * 2 ^ j ∧ c' ≤ 120) (fun k _ => (intOf k).toNat)
  case atStart => exact ⟨0, n, by omega, by simp, rfl, by simp, by omega⟩
  case round =>
    obtain ⟨j, c', hj, rfl, rfl, hc, hc2⟩ := hrel
    obtain ⟨k, hk⟩ : ∃ k, k = t - j := ⟨_, rfl⟩
    rw [← hk]
    have hkb : 1 ≤ k ∧ k ≤ 4611686018427387904 := by omega
    obtain ⟨hk1, hk2⟩ := hkb
    have HC := Lib.hid (And.intro hc (And.intro hk hj))
    clear hc hk hj
    by_cases hgo : 1 < k ∧ c' < 60
    · obtain ⟨g1, g2⟩ := hgo
      go_wp2
      go_round
      case rel =>
        obtain ⟨q1, q2, q3⟩ := HC.out
        exact ⟨j + 1, c' * 2, by omega, by rw [show t - (j + 1) = k - 1 by omega]; congr 1; omega, by go_num, by rw [q1, Nat.pow_succ, Nat.mul_assoc], by omega⟩
      case measure => simp [intOf]; omega
    · have hm : min c' 60 = wk n t := by
        obtain ⟨q1, q2, q3⟩ := HC.out
        exact wk_end q1 q3 (by omega)
      by_cases h1 : 1 < k
      · have h6 : ¬ c' < 60 := by omega
        have hm2 : wk n t = 60 := by omega
        have HM := Lib.hid hm2
        clear hm hm2 hgo
        go_wp2
        all_goals
          go_ret
          exact ⟨ret_int (by have q1 := HM.out; have q2 := HR.out; omega), _, rfl⟩
      · by_cases h6 : c' < 60
        · have hm2 : wk n t = c' := by omega
          have HM := Lib.hid hm2
          clear hm hm2 hgo
          go_wp2
          all_goals
            go_ret
            exact ⟨ret_int (by have q1 := HM.out; have q2 := HR.out; omega), _, rfl⟩
        · have hm2 : wk n t = 60 := by omega
          have HM := Lib.hid hm2
          clear hm hm2 hgo
          go_wp2
          all_goals
            go_ret
            exact ⟨ret_int (by have q1 := HM.out; have q2 := HR.out; omega), _, rfl⟩
end Go.Proofs.Ytokembhfebnjpaa
/- Package window: New, Open, Last, Times, Push. (Written by wip/win13b.py.) -/
namespace Go.Proofs.Ytokembhfebnjpaa
set_option maxRecDepth 20000
open Go.RowKit Flt
set_option linter.unusedVariables false
set_option linter.unusedSimpArgs false
theorem wnew_bad (s : Int) (w : World) (h : s < 1 ∨ 64 < s) :
    Calls Try.prog 77 #[.int .i64 s] w fun e w' => e = .returned (.tuple #[.pointer none, .int .i64 2]) ∧ w = w' := by
  by_cases h1 : s < 1
  all_goals
    go_enter Try.func77, Try.ntmps77
    go_wp2
    go_ret2
    exact ⟨rfl, rfl⟩
def wnew (s : Nat) : Wn := ⟨s, 0, .slice none 0 0, [], 4616189618054758400, 4607182418800017408, 0⟩
theorem wnew_ok (s : Nat) (w : World) (hs : 1 ≤ s ∧ s ≤ 64) :
    Calls Try.prog 77 #[.int .i64 s] w fun e w' => e = .returned (.tuple #[.pointer (some ⟨w.heap.size, 0, none⟩), .int .i64 0]) ∧ WinC w' w.heap.size (wnew s) ∧ Kp (fun _ => False) w w' := by
  have h1 : 1 ≤ (s : Int) := by omega
  have h2 : (s : Int) ≤ 64 := by omega
  go_enter Try.func77, Try.ntmps77
  go_wp2
  go_ret2
  exact ⟨rfl, ⟨At.new w (winC (wnew s)) _, .inl ⟨rfl, rfl⟩, fun i hi => absurd hi (Nat.not_lt_zero _), fun i hi => absurd hi (Nat.not_lt_zero _), hs, Nat.zero_le _, fun i hi => absurd hi (Nat.not_lt_zero _), Nat.zero_le _, fun i hi => absurd hi (Nat.not_lt_zero _)⟩, (Kp.refl _ w).alloc _⟩
/-- As long as the row alone turns, behind what it reads as. -/
def PS (wp : World) (VV : Value) (GS : List Nat) (w' : World) : Prop := Kp (fun k => VV.ownBlock = some k) wp w' ∧ Row w' VV GS
theorem PS.kp0 {wp w' w'' : World} {VV : Value} {GS : List Nat} (h : PS wp VV GS w') (k : Kp (fun _ => False) w' w'') : PS wp VV GS w'' := ⟨h.1.then k (fun _ _ h => h.elim), h.2.kp k (fun _ _ h => h)⟩
theorem PS.drewN {wp w' : World} {VV : Value} {GS : List Nat} (h : PS wp VV GS w') (n : Nat) : PS wp VV GS (w'.drewN n) := h.kp0 ((Kp.refl _ w').drewN n)
theorem PS.start {wp : World} {VV : Value} {GS : List Nat} (h : Row wp VV GS) : PS wp VV GS wp.drew := ⟨(Kp.refl _ wp).drew, h.kp ((Kp.refl (fun _ => False) wp).drew) (fun _ _ h => h)⟩
theorem elem_ptr : Elem Try.prog 82 (.pointer none) 1 8 := Elem.mk' (by kernel_rfl) rfl (by omega) (by simp [Value.cells, Value.oneCell'])
/-- Bytes that lie in no block that turns. -/
theorem RdB.apart {S : Nat → Prop} {w w' : World} {a : Option Addr} {l : List Int} (h : RdB w a l) (k : Kp S w w') (hS : ∀ j, S j → ∃ cs, At w j cs ∧ ∀ u ∈ cs, ¬ isB u) : RdB w' a l :=
  ⟨fun i hi => by
    obtain ⟨b, off, ha, hc⟩ := h.cell i hi
    refine ⟨b, off, ha, k.cell (p := ⟨b, off + i, none⟩) hc (fun hs => ?_)⟩
    obtain ⟨cs, hat, hn⟩ := hS b hs
    rw [hat.cell] at hc
    exact hn _ (List.mem_of_getElem? hc) ⟨_, rfl, h.bd.getD i⟩, h.bd, h.len⟩
theorem winC_notB (x : Wn) (hV : ¬ isB x.V) : ∀ u ∈ winC x, ¬ isB u := fun u hu => by
  simp only [winC, List.mem_cons, List.not_mem_nil, or_false] at hu
  rcases hu with rfl | rfl | rfl | rfl | rfl | rfl
  · exact not_isB_i64 _
  · exact not_isB_i64 _
  · exact hV
  · exact fun ⟨m, e, _⟩ => by cases e
  · exact fun ⟨m, e, _⟩ => by cases e
  · exact not_isB_i64 _
variable {w : World} {b : Nat} {x : Wn}
theorem WinC.c0 (h : WinC w b x) : w.cell? ⟨b, 0, none⟩ = some (.int .i64 x.size) := h.hat.cell 0
theorem WinC.c1 (h : WinC w b x) : w.cell? ⟨b, 1, none⟩ = some (.int .i64 x.last) := h.hat.cell 1
theorem WinC.c2 (h : WinC w b x) : w.cell? ⟨b, 2, none⟩ = some x.V := h.hat.cell 2
theorem WinC.c3 (h : WinC w b x) : w.cell? ⟨b, 3, none⟩ = some (.float .f64 x.m) := h.hat.cell 3
theorem WinC.c4 (h : WinC w b x) : w.cell? ⟨b, 4, none⟩ = some (.float .f64 x.s) := h.hat.cell 4
theorem WinC.c5 (h : WinC w b x) : w.cell? ⟨b, 5, none⟩ = some (.int .i64 x.now) := h.hat.cell 5
theorem WinC.form (h : WinC w b x) : ∃ a c, x.V = .slice a x.l.length c ∧ x.l.length ≤ c := by
  obtain ⟨a, c, e, hc⟩ := h.row.len
  rw [List.length_map] at e hc
  exact ⟨a, c, e, hc⟩
theorem wopen_any (h : WinC w b x) : Calls Try.prog 35 #[.pointer (some ⟨b, 0, none⟩)] w fun e w' => e = .returned (.int .i64 x.l.length) ∧ w = w' := by
  obtain ⟨a, c, e, hc⟩ := h.form
  have h2 := h.c2
  rw [e] at h2
  have C := Lib.hid (wnone_no b x.size w h.c0 h.size_bd.1)
  clear h e hc
  go_enter Try.func35, Try.ntmps35
  go_wp2_with (go_at_call 36; refine C.out.mono ?_; rintro e w' ⟨rfl, rfl⟩)
  go_ret
  exact ⟨rfl, rfl⟩
theorem wopen_none (w : World) (b : Nat) (h : w.cell? ⟨b, 0, none⟩ = some (.int .i64 0)) : Calls Try.prog 35 #[.pointer (some ⟨b, 0, none⟩)] w fun e w' => e = .returned (.int .i64 0) ∧ w = w' := by
  have C := Lib.hid (wnone_at b 0 w h)
  go_enter Try.func35, Try.ntmps35
  go_wp2_with (go_at_call 36; refine C.out.mono ?_; rintro e w' ⟨rfl, rfl⟩)
  go_ret
  exact ⟨rfl, rfl⟩
theorem wopen_nil (w : World) : Calls Try.prog 35 #[.pointer none] w fun e w' => e = .returned (.int .i64 0) ∧ w = w' := by
  go_enter Try.func35, Try.ntmps35
  go_wp2_with (go_at_call 36; refine (wnone_nil _).mono ?_; rintro e w' ⟨rfl, rfl⟩)
  go_ret
  exact ⟨rfl, rfl⟩
theorem push_full (h : WinC w b x) (hf : x.size ≤ x.l.length) (a : Option Addr) (n c : Nat) : Calls Try.prog 27 #[.pointer (some ⟨b, 0, none⟩), .slice a n c] w fun e w' => e = .returned (.tuple #[.int .i64 0, .int .i64 8]) ∧ ∃ k, w' = w.drewN k := by
  obtain ⟨a1, c1, e, hc⟩ := h.form
  have h2 := h.c2
  rw [e] at h2
  have h0 := h.c0
  have C := Lib.hid (wnone_no b x.size w h.c0 h.size_bd.1)
  have hd : decide (x.size ≤ x.l.length) = true := by simpa using hf
  have hd2 : decide ((x.size : Int) ≤ x.l.length) = true := by simpa using hf
  clear h e hc
  go_enter Try.func27, Try.ntmps27
  go_wp2_with (go_at_call 36; refine C.out.mono ?_; rintro e w' ⟨rfl, rfl⟩)
  go_quiet (fail)
  go_wp2
  go_ret2
  exact ⟨rfl, _, rfl⟩
theorem push_ok (h : WinC w b x) (hf : x.l.length < x.size) (hl : x.last ≤ 4611686018427387904) (a : Option Addr) (n c : Nat) (body : List Int) (hn : n = body.length) (hr : RdB w a body) (hbl : n ≤ 1000000000) :
    Calls Try.prog 27 #[.pointer (some ⟨b, 0, none⟩), .slice a n c] w fun e w' => e = .returned (.tuple #[.int .i64 (x.last + 1 : Nat), .int .i64 0]) ∧
      ∃ p V', p.seq = x.last + 1 ∧ p.body = body ∧ p.times = 0 ∧ WinC w' b { x with last := x.last + 1, V := V', l := x.l ++ [p] } ∧ (∀ k, Mine b { x with last := x.last + 1, V := V', l := x.l ++ [p] } k → Mine b x k ∨ w.heap.size ≤ k) ∧ Kp (Mine b x) w w' := by
  obtain ⟨a1, c1, e, hc⟩ := h.form
  have h2 := h.c2
  have h1 := h.c1
  have h0 := h.c0
  have hfr := h.hat.frozen 1
  have hfr2 := h.hat.frozen 2
  have hne : ¬ x.V.ownBlock = some b := fun e => (h.rowNe e).1 rfl
  have c0 := wnone_no b x.size w h.c0 h.size_bd.1
  have hd : decide (x.size ≤ x.l.length) = false := by simpa using hf
  have hd2 : decide ((x.size : Int) ≤ x.l.length) = false := by simpa using hf
  have HW := Lib.hid h
  have HR := Lib.hid hr
  have HF := Lib.hid (And.intro hn hf)
  obtain ⟨last, hla⟩ : ∃ last, last = x.last := ⟨_, rfl⟩
  obtain ⟨len, hle⟩ : ∃ len, len = x.l.length := ⟨_, rfl⟩
  obtain ⟨size, hsi⟩ : ∃ size, size = x.size := ⟨_, rfl⟩
  rw [← hla] at h1 hl
  rw [← hle, ← hsi] at hd hd2
  rw [← hsi] at h0
  have C := Lib.hid c0
  have hV : x.V = .slice a1 len c1 := by rw [e, hle]
  rw [hV] at h2 hne
  have HX := Lib.hid (And.intro hla (And.intro hle (And.intro hsi hV)))
  have hw2 := h2
  clear h e hc hr hn hf hle hsi hV c0
  rw [show ((x.last + 1 : Nat) : Int) = ((last + 1 : Nat) : Int) by rw [hla]]
  clear hla
  go_enter Try.func27, Try.ntmps27
  go_wp2_with (go_at_call 36; refine C.out.mono ?_; rintro e w' ⟨rfl, rfl⟩)
  go_quiet (fail)
  go_upto_region 6 with fail
  have hat1 : At ((w.drewN nq).setCell ⟨b, 1, none⟩ (.int .i64 ((last : Int) + 1))) b (winC { x with last := x.last + 1 }) := by
    have := (HW.out.hat.drewN nq).set 1 (.int .i64 ((last : Int) + 1))
    rw [HX.out.1] at this ⊢
    exact this
  have kp1 : Kp (· = b) w ((w.drewN nq).setCell ⟨b, 1, none⟩ (.int .i64 ((last : Int) + 1))) := ((Kp.refl (· = b) w).drewN nq).setCell (p := ⟨b, 1, none⟩) (fun _ => rfl) _
  obtain ⟨wp, hwp⟩ : ∃ wp, wp = (w.drewN nq).setCell ⟨b, 1, none⟩ (.int .i64 ((last : Int) + 1)) := ⟨_, rfl⟩
  rw [← hwp] at hat1 kp1 ⊢
  obtain ⟨VV, hVV⟩ : ∃ VV, VV = Value.slice a1 len c1 := ⟨_, rfl⟩
  rw [← hVV] at hne
  have HV := Lib.hid (show wp.cell? ⟨b, 1, none⟩ = some (.int .i64 (last + 1 : Nat)) ∧ wp.cell? ⟨b, 2, none⟩ = some VV ∧ ¬ VV.ownBlock = some b from ⟨by have := hat1.cell 1; rw [this]; rw [HX.out.1]; rfl, by have := hat1.cell 2; rw [this, hVV, ← HX.out.2.2.2]; rfl, hne⟩)
  have H1 := Lib.hid (And.intro hat1 kp1)
  have hVB : ¬ isB x.V := by rw [HX.out.2.2.2]; exact fun ⟨m, e, _⟩ => by cases e
  have hrow : Row wp x.V (x.l.map Pk.g) := HW.out.row.kp kp1 (fun g hg => (HW.out.rowNe hg).1)
  have HRB := Lib.hid (show ∀ w', Kp (fun k => VV.ownBlock = some k) wp w' → RdB w' a body from fun w' k => (HR.out.apart kp1 (fun j e => ⟨_, by rw [show j = b from e]; exact HW.out.hat, winC_notB x hVB⟩)).apart k (fun j e => by
    obtain ⟨cs, h1, _, h2⟩ := hrow.blk (g := j) (by rw [HX.out.2.2.2, ← hVV]; exact e)
    exact ⟨cs, h1, fun u hu => by obtain ⟨q, rfl⟩ := h2 u hu; exact not_isB_ptr q⟩))
  have hgsl : (x.l.map Pk.g).length ≤ 1000 := by have h1 := HW.out.len; have h2 := HW.out.size_bd; simp; omega
  obtain ⟨GS, hGS⟩ : ∃ GS, GS = x.l.map Pk.g := ⟨_, rfl⟩
  rw [← hGS] at hrow hgsl
  have HROW := Lib.hid (show Row wp VV GS by rw [hVV, ← HX.out.2.2.2]; exact hrow)
  have HG := Lib.hid hGS
  have HF := Lib.hid (And.intro HF.out.1 (And.intro HF.out.2 hgsl))
  clear hVB hrow hGS hgsl
  have HVV := Lib.hid hVV
  clear hat1 kp1 hwp hVV h0 h1 h2 hw2 hd hd2 hfr hfr2 hne C
  refine region_L (S := fun w' => PS wp VV GS w') [18] rfl ?_
  have hSd : ∀ (w' : World) (n' : Nat), PS wp VV GS w' → PS wp VV GS (w'.drewN n') := fun w' n' h => h.drewN n'
  have hS0 : PS wp VV GS wp.drew := PS.start HROW.out
  refine anyL_world (fun w' => PS wp VV GS w') hS0 ?_
  clear hS0
  intro x0 kx0
  refine anyL_takeF (i := 0) (d := 27) (v := (.pointer (some ⟨b, 0, none⟩))) rfl rfl (by kernel_rfl) (by kernel_rfl) (by kernel_rfl) (fun _ _ _ h => h) hSd (by kernel_rfl) (.inl (.inl ⟨rfl, fun w' hS => by first | rfl | go_simp⟩)) (fun _ => kx0) ?_
  try simp only [List.setIfInBounds_toArray, List.set_cons_succ, List.set_cons_zero]
  refine anyL_takeF (i := 1) (d := 28) (v := (.pointer (some ⟨b, 0, none⟩))) rfl rfl (by kernel_rfl) (by kernel_rfl) (by kernel_rfl) (fun _ _ _ h => h) hSd (by kernel_rfl) (.inl (.inl ⟨rfl, fun w' hS => by first | rfl | go_simp⟩)) (fun _ => kx0) ?_
  try simp only [List.setIfInBounds_toArray, List.set_cons_succ, List.set_cons_zero]
  refine anyL_takeF (i := 2) (d := 29) (v := (.pointer (some ⟨b, 0, none⟩))) rfl rfl (by kernel_rfl) (by kernel_rfl) (by kernel_rfl) (fun _ _ _ h => h) hSd (by kernel_rfl) (.inl (.inl ⟨rfl, fun w' hS => by first | rfl | go_simp⟩)) (fun _ => kx0) ?_
  try simp only [List.setIfInBounds_toArray, List.set_cons_succ, List.set_cons_zero]
  refine anyL_takeF (i := 3) (d := 30) (v := (.pointer (some ⟨b, 2, none⟩))) rfl rfl (by kernel_rfl) (by kernel_rfl) (by kernel_rfl) (fun _ _ _ h => h) hSd (by kernel_rfl) (.inl (.inl ⟨rfl, fun w' hS => by first | rfl | go_simp⟩)) (fun _ => kx0) ?_
  try simp only [List.setIfInBounds_toArray, List.set_cons_succ, List.set_cons_zero]
  refine anyL_takeD (i := 4) (d := 31) (v := VV) rfl rfl (by kernel_rfl) (by kernel_rfl) (by kernel_rfl) (fun _ _ _ h => h) hSd (by kernel_rfl) (.inl (.inl ⟨rfl, fun w' hS => by have h0 := hS.1.cell HV.out.2.1 HV.out.2.2; go_simp⟩)) kx0 ?_
  try simp only [List.setIfInBounds_toArray, List.set_cons_succ, List.set_cons_zero]
  refine anyL_takeF (i := 5) (d := 32) (v := (.pointer (some ⟨b, 0, none⟩))) rfl rfl (by kernel_rfl) (by kernel_rfl) (by kernel_rfl) (fun _ _ _ h => h) hSd (by kernel_rfl) (.inl (.inl ⟨rfl, fun w' hS => by first | rfl | go_simp⟩)) (fun _ => kx0) ?_
  try simp only [List.setIfInBounds_toArray, List.set_cons_succ, List.set_cons_zero]
  refine anyL_takeF (i := 6) (d := 33) (v := (.pointer (some ⟨b, 0, none⟩))) rfl rfl (by kernel_rfl) (by kernel_rfl) (by kernel_rfl) (fun _ _ _ h => h) hSd (by kernel_rfl) (.inl (.inl ⟨rfl, fun w' hS => by first | rfl | go_simp⟩)) (fun _ => kx0) ?_
  try simp only [List.setIfInBounds_toArray, List.set_cons_succ, List.set_cons_zero]
  refine anyL_takeF (i := 7) (d := 34) (v := (.pointer (some ⟨b, 1, none⟩))) rfl rfl (by kernel_rfl) (by kernel_rfl) (by kernel_rfl) (fun _ _ _ h => h) hSd (by kernel_rfl) (.inl (.inl ⟨rfl, fun w' hS => by first | rfl | go_simp⟩)) (fun _ => kx0) ?_
  try simp only [List.setIfInBounds_toArray, List.set_cons_succ, List.set_cons_zero]
  refine anyL_takeD (i := 8) (d := 35) (v := (.int .i64 (last + 1 : Nat))) rfl rfl (by kernel_rfl) (by kernel_rfl) (by kernel_rfl) (fun _ _ _ h => h) hSd (by kernel_rfl) (.inl (.inl ⟨rfl, fun w' hS => by have h0 := hS.1.cell HV.out.1 HV.out.2.2; go_simp⟩)) kx0 ?_
  try simp only [List.setIfInBounds_toArray, List.set_cons_succ, List.set_cons_zero]
  refine anyL_takeF (i := 9) (d := 36) (v := (.slice a n c)) rfl rfl (by kernel_rfl) (by kernel_rfl) (by kernel_rfl) (fun _ _ _ h => h) hSd (by kernel_rfl) (.inl (.inl ⟨rfl, fun w' hS => by first | rfl | go_simp⟩)) (fun _ => kx0) ?_
  try simp only [List.setIfInBounds_toArray, List.set_cons_succ, List.set_cons_zero]
  refine anyL_all (rs := [10]) (by kernel_rfl) (by simp) ?_
  intro n10 i hi
  simp only [List.mem_cons, List.not_mem_nil, or_false] at hi
  obtain rfl := hi
  refine wpOp_of rfl rfl ?_
  obtain ⟨vB, xa, rB, oB, kB, bB⟩ := run_append_b (P := Try.prog) (t := 22) (tx := 22) (ty := 22) (x0.drewN n10) Try.underlying22 elem_u8 Try.underlying22 (OwnB.nil' _) (a := a) (c := c) (m := body) ((HRB.out _ kx0.1).drewN n10) (by have := HF.out.1; simp; omega)
  rw [← HF.out.1] at rB
  rw [List.nil_append] at oB
  obtain ⟨aB, cB, eB, _, _⟩ := oB.form
  rw [← HF.out.1] at eB
  subst eB
  refine wp_append_run rB rfl rfl rfl ?_
  have kB' : Kp (fun _ => False) (x0.drewN n10) xa := kB.mono (fun _ _ h => by cases h)
  try dsimp only
  have kxa : PS wp VV GS xa := (kx0.drewN n10).kp0 kB'
  refine ⟨fun _ => kxa, ?_⟩
  try simp only [List.setIfInBounds_toArray, List.set_cons_succ, List.set_cons_zero]
  refine anyL_takeF (i := 11) (d := 38) (v := (.agg #[.int .i64 (last + 1 : Nat), .slice aB n cB])) rfl rfl (by kernel_rfl) (by kernel_rfl) (by kernel_rfl) (fun _ _ _ h => h) hSd (by kernel_rfl) (.inl (.inl ⟨rfl, fun w' hS => by first | rfl | go_simp⟩)) (fun _ => kxa) ?_
  try simp only [List.setIfInBounds_toArray, List.set_cons_succ, List.set_cons_zero]
  refine anyL_takeF (i := 12) (d := 39) (v := (.agg #[.int .i64 (last + 1 : Nat), .slice aB n cB, .int .i64 0, .int .i64 0, .int .i64 0])) rfl rfl (by kernel_rfl) (by kernel_rfl) (by kernel_rfl) (fun _ _ _ h => h) hSd (by kernel_rfl) (.inl (.inl ⟨rfl, fun w' hS => by first | rfl | go_simp⟩)) (fun _ => kxa) ?_
  try simp only [List.setIfInBounds_toArray, List.set_cons_succ, List.set_cons_zero]
  refine anyL_all (rs := [13]) (by kernel_rfl) (by simp) ?_
  intro n13 i hi
  simp only [List.mem_cons, List.not_mem_nil, or_false] at hi
  obtain rfl := hi
  refine wpOp_of rfl rfl ?_
  go_simp
  obtain ⟨xb, hxb⟩ : ∃ xb, xb = (xa.drewN n13).alloc (Obj.cells #[.int .i64 ((last : Int) + 1), .slice aB n cB, .int .i64 0, .int .i64 0, .int .i64 0] 86) := ⟨_, rfl⟩
  obtain ⟨pb, hpb⟩ : ∃ pb, pb = xa.heap.size := ⟨_, rfl⟩
  try rw [← hxb, ← hpb]
  have jxb : Kp (fun _ => False) xa xb := by rw [hxb]; exact ((Kp.refl _ xa).drewN n13).alloc _
  have atpb : At xb pb [.int .i64 ((last : Int) + 1), .slice aB n cB, .int .i64 0, .int .i64 0, .int .i64 0] := by rw [hxb, hpb]; exact At.new (xa.drewN n13) [.int .i64 ((last : Int) + 1), .slice aB n cB, .int .i64 0, .int .i64 0, .int .i64 0] 86
  have ltpb : xa.heap.size ≤ pb := by omega
  clear hxb hpb
  try dsimp only
  have kxb : PS wp VV GS xb := kxa.kp0 jxb
  refine ⟨fun _ => kxb, ?_⟩
  try simp only [List.setIfInBounds_toArray, List.set_cons_succ, List.set_cons_zero]
  refine anyL_all (rs := [14]) (by kernel_rfl) (by simp) ?_
  intro n14 i hi
  simp only [List.mem_cons, List.not_mem_nil, or_false] at hi
  obtain rfl := hi
  refine wpOp_of rfl rfl ?_
  go_simp
  obtain ⟨xc, hxc⟩ : ∃ xc, xc = (xb.drewN n14).alloc (Obj.cells #[.pointer (some ⟨pb, 0, none⟩)] 82) := ⟨_, rfl⟩
  obtain ⟨pc, hpc⟩ : ∃ pc, pc = xb.heap.size := ⟨_, rfl⟩
  try rw [← hxc, ← hpc]
  have jxc : Kp (fun _ => False) xb xc := by rw [hxc]; exact ((Kp.refl _ xb).drewN n14).alloc _
  have atpc : At xc pc [ptr pb] := by rw [hxc, hpc]; exact At.new (xb.drewN n14) [ptr pb] 82
  have ltpc : xb.heap.size ≤ pc := by omega
  clear hxc hpc
  try dsimp only
  have kxc : PS wp VV GS xc := kxb.kp0 jxc
  refine ⟨fun _ => kxc, ?_⟩
  try simp only [List.setIfInBounds_toArray, List.set_cons_succ, List.set_cons_zero]
  refine anyL_all (rs := [15]) (by kernel_rfl) (by simp) ?_
  intro n15 i hi
  simp only [List.mem_cons, List.not_mem_nil, or_false] at hi
  obtain rfl := hi
  refine wpOp_of rfl rfl ?_
  obtain ⟨V', xd, rV, oV, kV, bV, oV2⟩ := row_app (P := Try.prog) (w := xc.drewN n15) (t := 78) (tx := 78) (ty := 78) ((kxc.drewN n15).2) Try.underlying78 elem_ptr Try.underlying78 HF.out.2.2 (a := some ⟨pc, 0, none⟩) 1 (q := pb) ((Rd.of_at (pre := []) (post := []) atpc).kp ((Kp.refl (fun _ => False) _).drewN n15) (fun _ _ h => h))
  obtain ⟨aV, cV, eV, _⟩ := oV.len
  obtain ⟨nV, hnV⟩ : ∃ nV, nV = (GS ++ [pb]).length := ⟨_, rfl⟩
  rw [← hnV] at eV
  subst eV
  refine wp_append_run rV rfl rfl rfl ?_
  try dsimp only
  have kxd : PS wp VV GS xd := ⟨(kxc.drewN n15).1.then kV (fun _ _ h => h), oV2⟩
  refine ⟨fun _ => kxd, ?_⟩
  try simp only [List.setIfInBounds_toArray, List.set_cons_succ, List.set_cons_zero]
  refine anyL_takeF (i := 16) (d := 43) (v := (.pointer (some ⟨b, 0, none⟩))) rfl rfl (by kernel_rfl) (by kernel_rfl) (by kernel_rfl) (fun _ _ _ h => h) hSd (by kernel_rfl) (.inl (.inl ⟨rfl, fun w' hS => by first | rfl | go_simp⟩)) (fun _ => kxd) ?_
  try simp only [List.setIfInBounds_toArray, List.set_cons_succ, List.set_cons_zero]
  refine anyL_takeF (i := 17) (d := 44) (v := (.pointer (some ⟨b, 2, none⟩))) rfl rfl (by kernel_rfl) (by kernel_rfl) (by kernel_rfl) (fun _ _ _ h => h) hSd (by kernel_rfl) (.inl (.inl ⟨rfl, fun w' hS => by first | rfl | go_simp⟩)) (fun _ => kxd) ?_
  try simp only [List.setIfInBounds_toArray, List.set_cons_succ, List.set_cons_zero]
  refine anyL_all (rs := [18]) (by kernel_rfl) (by simp) ?_
  intro n18 i hi
  simp only [List.mem_cons, List.not_mem_nil, or_false] at hi
  obtain rfl := hi
  have hatD : At xd b (winC { x with last := x.last + 1 }) := kxd.1.at H1.out.1 HV.out.2.2
  have hb0 : (xd.drewN n18).cell? ⟨b, 2, none⟩ = some x.V := (hatD.drewN n18).cell 2
  have hfz : (xd.drewN n18).frozen? ⟨b, 2, none⟩ = false := (hatD.drewN n18).frozen 2
  have nrow : ∀ k, VV.ownBlock = some k → k < wp.heap.size := fun k hk => by obtain ⟨cs, hc, _⟩ := HROW.out.blk hk; exact hc.lt
  have lw : wp.heap.size ≤ xa.heap.size := kxa.1.size
  have lb : xa.heap.size ≤ xb.heap.size := jxb.size
  have npb : ¬ VV.ownBlock = some pb := fun e => by have := nrow pb e; omega
  have hP : At xd pb (pkC ⟨pb, x.last + 1, .slice aB n cB, body, 0, 0, 0⟩) := by
    have h1 : At xd pb [.int .i64 ((last : Int) + 1), .slice aB n cB, .int .i64 0, .int .i64 0, .int .i64 0] := kV.at ((jxc.at atpb (fun h => h)).drewN n15) npb
    rw [HX.out.1] at h1
    exact h1
  have hO : OwnB xd (.slice aB n cB) body := by
    have q := bB
    refine (((oB.kp jxb (fun _ _ h => h)).kp jxc (fun _ _ h => h)).kp ((Kp.refl (fun _ => False) xc).drewN n15) (fun _ _ h => h)).kp kV (fun g hg e => ?_)
    have h1 := nrow g e
    rcases bB with bB | bB
    · rw [bB] at hg; cases hg
    · rw [bB] at hg; simp only [Option.some.injEq] at hg; have h2 : wp.heap.size ≤ (x0.drewN n10).heap.size := (kx0.drewN n10).1.size; omega
  have hbN : ∀ g, (Value.slice aB n cB).ownBlock = some g → wp.heap.size ≤ g := fun g hg => by
    rcases bB with bB | bB
    · rw [bB] at hg; cases hg
    · rw [bB] at hg; simp only [Option.some.injEq] at hg; have h2 : wp.heap.size ≤ (x0.drewN n10).heap.size := (kx0.drewN n10).1.size; omega
  have HD := Lib.hid (And.intro hatD (And.intro hP (And.intro hO (And.intro oV (And.intro bV (And.intro kxd.1 (And.intro hbN (show wp.heap.size ≤ pb ∧ wp.heap.size ≤ (xc.drewN n15).heap.size from ⟨by omega, by have := (kxc.drewN n15).1.size; omega⟩))))))))
  clear hatD nrow lw lb npb hP hO hbN oV bV kV oV2 kxd rV atpc atpb oB rB kB bB kB' ltpb ltpc jxb jxc kx0 kxa kxb kxc hSd
  refine wpOp_of rfl rfl ?_
  go_simp
  refine ⟨fun h => Bool.noConfusion (show false = true from h), anyL_done (by kernel_rfl) (fun nn => ?_) _⟩
  obtain ⟨wz, hwz⟩ : ∃ wz, wz = ((xd.drewN n18).setCell ⟨b, 2, none⟩ (.slice aV (GS.length + 1) cV)).drewN nn := ⟨_, rfl⟩
  rw [← hwz]
  have kz : Kp (· = b) xd wz := by rw [hwz]; exact (((Kp.refl (· = b) xd).drewN n18).setCell (p := ⟨b, 2, none⟩) (fun _ => rfl) _).drewN nn
  obtain ⟨hatD, hP, hO, oV, bV, kxd, hbN, hpbN, hxcN⟩ := HD.out
  have hgs : GS ++ [pb] = (x.l ++ [(⟨pb, x.last + 1, .slice aB n cB, body, 0, 0, 0⟩ : Pk)]).map Pk.g := by rw [HG.out]; simp
  have hnv : nV = GS.length + 1 := by rw [hnV]; simp
  have hatZ : At wz b (winC { x with last := x.last + 1, V := .slice aV (GS.length + 1) cV, l := x.l ++ [(⟨pb, x.last + 1, .slice aB n cB, body, 0, 0, 0⟩ : Pk)] }) := by rw [hwz]; exact ((hatD.drewN n18).set 2 (.slice aV (GS.length + 1) cV)).drewN nn
  have hVo : x.V = VV := by rw [HX.out.2.2.2, HVV.out]
  have kwp : Kp (fun j => j = b ∨ x.V.ownBlock = some j) w wz := (((H1.out.2.mono (fun j _ e => .inl e)).then kxd (fun j _ e => .inr (by rw [hVo]; exact e))).then kz (fun j _ e => .inl e))
  rw [hnv] at oV
  have oVz : Row wz (.slice aV (GS.length + 1) cV) (GS ++ [pb]) := oV.kp kz (fun g hg e => by
    obtain ⟨cs, hc, h0, hp⟩ := oV.blk hg
    subst e
    rw [hc.inj hatD] at hp
    exact not_isP_int .i64 x.size (hp _ (by simp [winC])))
  have hW := HW.out.push ⟨pb, x.last + 1, .slice aB n cB, body, 0, 0, 0⟩ (kz.at hP (fun e => by
    have e : pb = b := e
    rw [e] at hP
    have := congrArg List.length (hP.inj hatD)
    cases this)) (hO.kp kz (fun g hg e => by
    subst e
    exact hO.notC hatD (u := .int .i64 x.size) (by simp [winC]) (not_isB_i64 _) hg)) rfl ⟨rfl, rfl, rfl⟩ (V' := .slice aV (GS.length + 1) cV) (by rw [← hgs]; exact oVz) hatZ kwp HF.out.2.1
  have hsz := H1.out.2.size
  have hbv : (Value.slice aV (GS.length + 1) cV).ownBlock = x.V.ownBlock ∨ ∃ g, (Value.slice aV (GS.length + 1) cV).ownBlock = some g ∧ w.heap.size ≤ g := by
    rw [hnv] at bV
    rcases bV with e | e
    · exact .inl (by rw [hVo, ← e])
    · exact .inr ⟨_, e, by omega⟩
  have hM := fun k => Mine.push (b := b) (x := x) (p := ⟨pb, x.last + 1, .slice aB n cB, body, 0, 0, 0⟩) (V' := .slice aV (GS.length + 1) cV) (l' := x.last + 1) (N := w.heap.size) (k := k) hbv (by show w.heap.size ≤ pb; omega) (fun g hg => by have := hbN g hg; omega)
  have hc1 : wz.cell? ⟨b, 1, none⟩ = some (.int .i64 ((last : Int) + 1)) := by have := hatZ.cell 1; rw [this, HX.out.1]; rfl
  have HZ := Lib.hid (And.intro hW (And.intro hM (show Kp (Mine b x) w wz from kwp.mono (fun j _ e => e.elim (fun e => .inl e) (fun e => .inr (.inl e))))))
  clear hwz kz hatD hP hO oV bV kxd hbN hpbN hxcN hgs hatZ hVo kwp oVz hW hM hsz hnv hnV hb0 hfz HD hbv
  go_wp2
  go_ret2
  exact ⟨rfl, _, _, rfl, rfl, rfl, HZ.out.1, HZ.out.2.1, HZ.out.2.2⟩
end Go.Proofs.Ytokembhfebnjpaa
/- Chapter 13: what Due does to a window, plain: which packets are due, and how they are when they are sent. No program in sight. -/
namespace Go.Proofs.Ytokembhfebnjpaa
set_option maxRecDepth 20000
open Go.RowKit Flt
set_option linter.unusedVariables false
def dueB (p : Pk) (now : Nat) : Bool := decide (dueA p now ≤ now)
def sentP (x : Wn) (p : Pk) : Pk := { p with times := p.times + 1, att := x.now, wt := wk (waitN x.m x.s) (p.times + 1) }
/-- The places of those that are due. -/
def dueI (x : Wn) : List Nat := (List.range x.l.length).filter (fun i => dueB (pk x.l i) x.now)
def stL (x : Wn) (pre : List Nat) : List Pk := (List.range x.l.length).map (fun i => if i ∈ pre then sentP x (pk x.l i) else pk x.l i)
/-- Those at these places are sent. -/
def stW (x : Wn) (pre : List Nat) : Wn := { x with l := stL x pre }
def dueW (x : Wn) : Wn := stW x (dueI x)
theorem stL_len (x : Wn) (pre : List Nat) : (stL x pre).length = x.l.length := by simp [stL]
theorem stL_at {x : Wn} {pre : List Nat} {i : Nat} (h : i < x.l.length) : pk (stL x pre) i = if i ∈ pre then sentP x (pk x.l i) else pk x.l i := by
  have : (stL x pre)[i]? = some (if i ∈ pre then sentP x (pk x.l i) else pk x.l i) := by
    unfold stL; rw [List.getElem?_map, List.getElem?_range h]; rfl
  have h2 := pk_at (l := stL x pre) (i := i) (by rw [stL_len]; exact h)
  rw [this] at h2
  exact (Option.some.inj h2).symm
theorem pk_ext {a b : List Pk} (hl : a.length = b.length) (h : ∀ i, i < a.length → pk a i = pk b i) : a = b := by
  apply List.ext_getElem? 
  intro i
  by_cases hi : i < a.length
  · rw [pk_at hi, pk_at (hl ▸ hi), h i hi]
  · rw [List.getElem?_eq_none (by omega), List.getElem?_eq_none (by omega)]
theorem stL_nil (x : Wn) : stL x [] = x.l := pk_ext (stL_len x []) fun i hi => by
  rw [stL_len] at hi
  rw [stL_at hi, if_neg (by simp)]
theorem stW_nil (x : Wn) : stW x [] = x := by unfold stW; rw [stL_nil]
theorem stL_snoc {x : Wn} {pre : List Nat} {i : Nat} (h : i < x.l.length) : (stL x pre).set i (sentP x (pk x.l i)) = stL x (pre ++ [i]) := pk_ext (by simp [stL_len]) fun j hj => by
  simp only [List.length_set, stL_len] at hj
  rw [pk_set (by rw [stL_len]; exact h), stL_at hj, stL_at hj]
  by_cases hji : j = i
  · subst hji; simp
  · rw [if_neg hji]
    by_cases hp : j ∈ pre
    · rw [if_pos hp, if_pos (by simp [hp])]
    · rw [if_neg hp, if_neg (by simp [hp, hji])]
theorem dueI_pre (x : Wn) {k : Nat} (hk : k ≤ x.l.length) : (List.range k).filter (fun i => dueB (pk x.l i) x.now) <+: dueI x := by
  unfold dueI
  have : List.range x.l.length = List.range k ++ (List.range (x.l.length - k)).map (k + ·) := by
    rw [← List.range_add, show k + (x.l.length - k) = x.l.length by omega]
  rw [this, List.filter_append]
  exact List.prefix_append _ _
def preI (x : Wn) (k : Nat) : List Nat := (List.range k).filter (fun i => dueB (pk x.l i) x.now)
theorem preI_yes {x : Wn} {k : Nat} (h : dueB (pk x.l k) x.now = true) : preI x (k + 1) = preI x k ++ [k] := by
  unfold preI; rw [List.range_succ, List.filter_append]; simp [h]
theorem preI_no {x : Wn} {k : Nat} (h : dueB (pk x.l k) x.now = false) : preI x (k + 1) = preI x k := by
  unfold preI; rw [List.range_succ, List.filter_append]; simp [h]
theorem preI_not (x : Wn) (k : Nat) : k ∉ preI x k := fun h => by
  unfold preI at h
  rw [List.mem_filter, List.mem_range] at h
  omega
theorem preI_lt {x : Wn} {k i : Nat} (h : i ∈ preI x k) : i < k ∧ dueB (pk x.l i) x.now = true := by
  unfold preI at h
  rw [List.mem_filter, List.mem_range] at h
  exact h
theorem preI_all (x : Wn) : preI x x.l.length = dueI x := rfl
theorem preI_zero (x : Wn) : preI x 0 = [] := rfl
theorem stW_l (x : Wn) (pre : List Nat) : (stW x pre).l = stL x pre := rfl
/-- A packet of a window some of whose packets were sent: its block, number, body are as they were. -/
theorem st_same (x : Wn) (pre : List Nat) {i : Nat} (h : i < x.l.length) : (pk (stL x pre) i).g = (pk x.l i).g ∧ (pk (stL x pre) i).B = (pk x.l i).B ∧ (pk (stL x pre) i).seq = (pk x.l i).seq ∧ (pk (stL x pre) i).body = (pk x.l i).body := by
  rw [stL_at h]
  split <;> exact ⟨rfl, rfl, rfl, rfl⟩
theorem st_mine (b : Nat) (x : Wn) (pre : List Nat) (k : Nat) : Mine b (stW x pre) k ↔ Mine b x k := by
  unfold Mine
  rw [stW_l, stL_len]
  constructor
  · rintro (h | h | ⟨i, hi, h⟩)
    · exact .inl h
    · exact .inr (.inl h)
    · rw [(st_same x pre hi).1, (st_same x pre hi).2.1] at h; exact .inr (.inr ⟨i, hi, h⟩)
  · rintro (h | h | ⟨i, hi, h⟩)
    · exact .inl h
    · exact .inr (.inl h)
    · refine .inr (.inr ⟨i, hi, ?_⟩)
      rw [(st_same x pre hi).1, (st_same x pre hi).2.1]; exact h
end Go.Proofs.Ytokembhfebnjpaa
/- Chapter 13: packets that are told: a list of one's own, and what it reads as. -/
namespace Go.Proofs.Ytokembhfebnjpaa
set_option maxRecDepth 20000
open Go.RowKit
set_option linter.unusedVariables false
/-- A packet told: its number, its body's slice, its body. -/
structure Tp where
  seq : Nat
  B : Value
  body : List Int
instance : Inhabited Tp := ⟨⟨0, .slice none 0 0, []⟩⟩
def tp (l : List Tp) (i : Nat) : Tp := l.getD i default
def tpC : List Tp → List Value
  | [] => []
  | t :: r => .int .i64 t.seq :: t.B :: tpC r
theorem tp_at {l : List Tp} {i : Nat} (h : i < l.length) : l[i]? = some (tp l i) := by unfold tp; rw [List.getD_eq_getElem?_getD, List.getElem?_eq_getElem h]; rfl
theorem tp_app_lt {a b : List Tp} {i : Nat} (h : i < a.length) : tp (a ++ b) i = tp a i := by
  unfold tp; rw [List.getD_eq_getElem?_getD, List.getElem?_append_left h, List.getD_eq_getElem?_getD]
theorem tp_app_at (a : List Tp) (p : Tp) : tp (a ++ [p]) a.length = p := by
  unfold tp; rw [List.getD_eq_getElem?_getD, List.getElem?_append_right (Nat.le_refl _), Nat.sub_self]; rfl
theorem tpC_len : ∀ l : List Tp, (tpC l).length = l.length * 2
  | [] => rfl
  | t :: r => by simp only [tpC, List.length_cons, tpC_len r]; omega
theorem tpC_app : ∀ a b : List Tp, tpC (a ++ b) = tpC a ++ tpC b
  | [], b => rfl
  | t :: r, b => by simp only [tpC, List.cons_append, tpC_app r b]
theorem tpC_get : ∀ {l : List Tp} {i : Nat}, i < l.length → (tpC l)[i * 2]? = some (.int .i64 (tp l i).seq) ∧ (tpC l)[i * 2 + 1]? = some (tp l i).B
  | t :: r, 0, _ => ⟨rfl, rfl⟩
  | t :: r, i + 1, h => by
    have := tpC_get (l := r) (i := i) (by simpa using h)
    have e : tp (t :: r) (i + 1) = tp r i := rfl
    rw [e, show (i + 1) * 2 = i * 2 + 1 + 1 by omega]
    exact this
def isT (u : Value) : Prop := (∃ n : Int, u = .int .i64 n) ∨ ∃ a n c, u = .slice a n c
theorem isT_tpC {l : List Tp} (h : ∀ t ∈ l, isT t.B) : ∀ u ∈ tpC l, isT u := by
  induction l with
  | nil => intro u hu; cases hu
  | cons t r ih =>
    intro u hu
    simp only [tpC, List.mem_cons] at hu
    rcases hu with rfl | rfl | hu
    · exact .inl ⟨_, rfl⟩
    · exact h t (by simp)
    · exact ih (fun t ht => h t (by simp [ht])) u hu
structure OwnT (N : Nat) (w : World) (v : Value) (l : List Tp) : Prop where
  own : Own w v l.length 2 (tpC l)
  nil : l = [] → v.ownBlock = none
  each : ∀ i, i < l.length → OwnB w (tp l i).B (tp l i).body
  lo : ∀ g, v.ownBlock = some g → N ≤ g
  loB : ∀ i g, i < l.length → (tp l i).B.ownBlock = some g → N ≤ g
theorem OwnT.start (N : Nat) (w : World) : OwnT N w (.slice none 0 0) [] := ⟨Own.nil w 2, fun _ => rfl, fun i hi => absurd hi (Nat.not_lt_zero _), fun g hg => (by cases hg), fun i g hi => absurd hi (Nat.not_lt_zero _)⟩
theorem OwnT.kp {S : Nat → Prop} {N : Nat} {w w' : World} {v : Value} {l : List Tp} (h : OwnT N w v l) (k : Kp S w w') (hv : ∀ g, v.ownBlock = some g → ¬ S g) (hB : ∀ i g, i < l.length → (tp l i).B.ownBlock = some g → ¬ S g) : OwnT N w' v l :=
  ⟨h.own.kp k hv, h.nil, fun i hi => (h.each i hi).kp k (fun g hg => hB i g hi hg), h.lo, h.loB⟩
theorem OwnT.kpN {S : Nat → Prop} {N : Nat} {w w' : World} {v : Value} {l : List Tp} (h : OwnT N w v l) (k : Kp S w w') (hS : ∀ g, S g → g < N) : OwnT N w' v l :=
  h.kp k (fun g hg hs => by have := h.lo g hg; have := hS g hs; omega) (fun i g hi hg hs => by have := h.loB i g hi hg; have := hS g hs; omega)
theorem OwnT.kp0 {N : Nat} {w w' : World} {v : Value} {l : List Tp} (h : OwnT N w v l) (k : Kp (fun _ => False) w w') : OwnT N w' v l := h.kpN k (fun _ h => h.elim)
theorem OwnT.notNC {B N : Nat} {w w' : World} {v : Value} {l : List Tp} (h : OwnT N w v l) (k : Kp (NC B w) w w') : OwnT N w' v l :=
  h.kp k (fun g hg => h.own.notNC g hg) (fun i g hi hg => (h.each i hi).own.notNC g hg)
theorem OwnT.lt {N : Nat} {w : World} {v : Value} {l : List Tp} (h : OwnT N w v l) {g : Nat} (hg : v.ownBlock = some g) : g < w.heap.size := h.own.lt g hg
theorem OwnT.form {N : Nat} {w : World} {v : Value} {l : List Tp} (h : OwnT N w v l) : ∃ a c, v = .slice a l.length c ∧ l.length ≤ c := by
  obtain ⟨a, c, e, h1, _⟩ := h.own.form
  exact ⟨a, c, e, h1⟩
/-- No body lies in the row. -/
theorem OwnT.apart {N : Nat} {w : World} {v : Value} {l : List Tp} (h : OwnT N w v l) {g : Nat} (hg : v.ownBlock = some g) {u : Value} {m : List Int} (hu : OwnB w u m) : u.ownBlock ≠ some g := fun e => by
  rcases h.own.2 with ⟨e1, _⟩ | ⟨g', cap, sp, e1, hat, _⟩
  · rw [e1] at hg; cases hg
  · rw [e1] at hg
    simp only [Value.ownBlock, Option.some.injEq] at hg
    subst hg
    obtain ⟨ds, hd, hp⟩ := hu.blk _ e
    have hne : l ≠ [] := fun hn => by have := h.nil hn; rw [e1] at this; cases this
    cases l with
    | nil => exact hne rfl
    | cons t r =>
      have := hp (.int .i64 t.seq) (by rw [← hat.inj hd]; simp [tpC])
      obtain ⟨n, e2, _⟩ := this
      cases e2
theorem elem_pk : Elem Try.prog 84 (.agg #[.int .i64 0, .slice none 0 0]) 2 32 := Elem.mk' (by kernel_rfl) (by simp [Value.cells]) (by omega) (by simp [Value.cells, Value.oneCell'])
theorem OwnT.app {N : Nat} {w : World} {v : Value} {l : List Tp} (h : OwnT N w v l) (hn : l.length ≤ 1000000) (t : Tp) (ht : OwnB w t.B t.body) (htN : ∀ g, t.B.ownBlock = some g → N ≤ g) (hw : N ≤ w.heap.size) {bx : Nat} (hat : At w bx [.int .i64 t.seq, t.B]) :
    ∃ v' w', (Builtin.append_ #[129, 129] 129 #[v, .slice (some ⟨bx, 0, none⟩) 1 1]).run Try.prog w = .ok v' w' ∧ OwnT N w' v' (l ++ [t]) ∧ Kp (fun k => v.ownBlock = some k) w w' ∧ (v'.ownBlock = v.ownBlock ∨ v'.ownBlock = some w.heap.size) := by
  obtain ⟨aB, cB, eB, _⟩ := ht.form
  obtain ⟨v', w', hr, ho, k, hb, _⟩ := run_append_at (P := Try.prog) (t := 129) (tx := 129) (ty := 129) w Try.underlying129 elem_pk Try.underlying129 h.own (a := some ⟨bx, 0, none⟩) (m := 1) (c := 1) (news := tpC [t]) rfl
    (fun i hi => ⟨bx, 0, rfl, by rw [hat.cell, Nat.zero_add, List.getD_eq_getElem?_getD]; rw [show [Value.int IntKind.i64 t.seq, t.B] = tpC [t] from rfl, List.getElem?_eq_getElem hi]; rfl⟩)
    (fun u hu => by simp only [tpC, List.mem_cons, List.not_mem_nil, or_false] at hu; rcases hu with rfl | rfl <;> first | rfl | (rw [eB]; rfl)) (by unfold maxLen; omega) (by omega)
  have hv : ∀ g, v'.ownBlock = some g → N ≤ g := fun g hg => by
    rcases hb with e | e
    · exact h.lo g (e ▸ hg)
    · rw [e] at hg; simp only [Option.some.injEq] at hg; omega
  refine ⟨v', w', hr, ⟨by rw [List.length_append, List.length_singleton, tpC_app]; exact ho, fun e => by simp at e, fun i hi => ?_, hv, fun i g hi hg => ?_⟩, k, hb⟩
  · simp only [List.length_append, List.length_singleton] at hi
    by_cases hi' : i < l.length
    · rw [tp_app_lt hi']
      exact (h.each i hi').kp k (fun g hg e => h.apart e (h.each i hi') hg)
    · obtain rfl : i = l.length := by omega
      rw [tp_app_at]
      exact ht.kp k (fun g hg e => h.apart e ht hg)
  · simp only [List.length_append, List.length_singleton] at hi
    by_cases hi' : i < l.length
    · rw [tp_app_lt hi'] at hg; exact h.loB i g hi' hg
    · obtain rfl : i = l.length := by omega
      rw [tp_app_at] at hg; exact htN g hg
/-- The slice reads as these packets. -/
theorem OwnT.at' {N : Nat} {w : World} {a : Option Addr} {n c : Nat} {l : List Tp} (h : OwnT N w (.slice a n c) l) {i : Nat} (hi : i < l.length) : ∃ g, a = some ⟨g, 0, none⟩ ∧ N ≤ g ∧ w.cell? ⟨g, i * 2, none⟩ = some (.int .i64 (tp l i).seq) ∧ w.cell? ⟨g, i * 2 + 1, none⟩ = some (tp l i).B := by
  rcases h.own.2 with ⟨_, e⟩ | ⟨g, cap, sp, e, hat, _⟩
  · omega
  · simp only [Value.slice.injEq] at e
    obtain ⟨rfl, rfl, rfl⟩ := e
    have hl := tpC_len l
    have hg := tpC_get hi
    exact ⟨g, rfl, h.lo g rfl, by rw [hat.cell, List.getElem?_append_left (by omega)]; exact hg.1, by rw [hat.cell, List.getElem?_append_left (by omega)]; exact hg.2⟩
end Go.Proofs.Ytokembhfebnjpaa
