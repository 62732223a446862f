/- Chapter 13: a window in memory: its object, a row of pointers, packets, bodies. No program in sight. -/
import Derived.Test.YtnapokdipelmiaaBytes
namespace Go.Proofs.Ytnapokdipelmiaa
open Go.RowKit
set_option linter.unusedVariables false
/-- A packet: where it lies, its number, its body's slice, its body; how often it was sent, when last, how long it waits. -/
structure Pk where
  g : Nat
  seq : Nat
  B : Value
  body : List Int
  times : Nat
  att : Nat
  wt : Nat
instance : Inhabited Pk := ⟨⟨0, 0, .slice none 0 0, [], 0, 0, 0⟩⟩
def pk (l : List Pk) (i : Nat) : Pk := l.getD i default
def pkC (p : Pk) : List Value := [.int .i64 p.seq, p.B, .int .i64 p.times, .int .i64 p.att, .int .i64 p.wt]
def isP (u : Value) : Prop := ∃ a, u = .pointer a
/-- A row of pointers, from any place of its block on. -/
def Row (w : World) (V : Value) (gs : List Nat) : Prop :=
  (V = .slice none 0 0 ∧ gs = []) ∨ ∃ g o c cs, V = .slice (some ⟨g, o, none⟩) gs.length c ∧ At w g cs ∧ 0 < cs.length ∧ o + c ≤ cs.length ∧ gs.length ≤ c ∧ c ≤ maxLen ∧
    (∀ i, i < gs.length → cs[o + i]? = some (.pointer (some ⟨gs.getD i 0, 0, none⟩))) ∧ ∀ u ∈ cs, isP u
/-- A window: its size, the last number, the row, the packets, mean, spread, time. -/
structure Wn where
  size : Nat
  last : Nat
  V : Value
  l : List Pk
  m : Nat
  s : Nat
  now : Nat
def winC (x : Wn) : List Value := [.int .i64 x.size, .int .i64 x.last, x.V, .float .f64 x.m, .float .f64 x.s, .int .i64 x.now]
structure WinC (w : World) (b : Nat) (x : Wn) : Prop where
  hat : At w b (winC x)
  row : Row w x.V (x.l.map Pk.g)
  pks : ∀ i, i < x.l.length → At w (pk x.l i).g (pkC (pk x.l i))
  own : ∀ i, i < x.l.length → OwnB w (pk x.l i).B (pk x.l i).body
  size_bd : 1 ≤ x.size ∧ x.size ≤ 64
  len : x.l.length ≤ x.size
  seqs : ∀ i, i < x.l.length → (pk x.l i).seq + x.l.length = x.last + i + 1
  now_bd : x.now ≤ 2147483647
  bd : ∀ i, i < x.l.length → (pk x.l i).att ≤ x.now ∧ (pk x.l i).wt ≤ 60 ∧ (1 ≤ (pk x.l i).times → 2 ≤ (pk x.l i).wt)
/-- The blocks of a window. -/
def Mine (b : Nat) (x : Wn) (k : Nat) : Prop := k = b ∨ x.V.ownBlock = some k ∨ ∃ i, i < x.l.length ∧ ((pk x.l i).g = k ∨ (pk x.l i).B.ownBlock = some k)
theorem pk_at {l : List Pk} {i : Nat} (h : i < l.length) : l[i]? = some (pk l i) := by unfold pk; rw [List.getD_eq_getElem?_getD, List.getElem?_eq_getElem h]; rfl
theorem pk_mem {l : List Pk} {i : Nat} (h : i < l.length) : pk l i ∈ l := List.mem_of_getElem? (pk_at h)
theorem gs_at {l : List Pk} {i : Nat} (h : i < l.length) : (l.map Pk.g).getD i 0 = (pk l i).g := by
  rw [List.getD_eq_getElem?_getD, List.getElem?_map, pk_at h]; rfl
theorem pk_app_lt {a b : List Pk} {i : Nat} (h : i < a.length) : pk (a ++ b) i = pk a i := by
  unfold pk; rw [List.getD_eq_getElem?_getD, List.getElem?_append_left h, List.getD_eq_getElem?_getD]
theorem pk_app_at (a : List Pk) (p : Pk) : pk (a ++ [p]) a.length = p := by
  unfold pk; rw [List.getD_eq_getElem?_getD, List.getElem?_append_right (Nat.le_refl _), Nat.sub_self]; rfl
theorem pk_set {l : List Pk} {i : Nat} (h : i < l.length) (p : Pk) (j : Nat) : pk (l.set i p) j = if j = i then p else pk l j := by
  unfold pk
  rw [List.getD_eq_getElem?_getD, List.getElem?_set]
  by_cases hj : i = j
  · subst hj; simp [h]
  · rw [if_neg hj, if_neg (fun e => hj e.symm), List.getD_eq_getElem?_getD]
theorem pk_drop (l : List Pk) (k i : Nat) : pk (l.drop k) i = pk l (k + i) := by
  unfold pk; rw [List.getD_eq_getElem?_getD, List.getElem?_drop, List.getD_eq_getElem?_getD]
theorem OwnB.notC {w : World} {v : Value} {l : List Int} {b : Nat} {cs : List Value} (h : OwnB w v l) (ha : At w b cs) {u : Value} (hu : u ∈ cs) (hn : ¬ isB u) : v.ownBlock ≠ some b := fun e => by
  obtain ⟨ds, hd, hp⟩ := h.blk b e
  rw [ha.inj hd] at hu
  exact hn (hp u hu)
theorem not_isB_i64 (n : Int) : ¬ isB (.int .i64 n) := fun ⟨m, e, _⟩ => by cases e
theorem not_isB_ptr (a : Option Addr) : ¬ isB (.pointer a) := fun ⟨m, e, _⟩ => by cases e
theorem not_isP_int (k : IntKind) (n : Int) : ¬ isP (.int k n) := fun ⟨m, e⟩ => by cases e
variable {w w' : World} {b : Nat} {x : Wn}
theorem Row.len {V : Value} {gs : List Nat} (h : Row w V gs) : ∃ a c, V = .slice a gs.length c ∧ gs.length ≤ c := by
  rcases h with ⟨rfl, rfl⟩ | ⟨g, o, c, cs, rfl, _, _, _, h1, _⟩
  · exact ⟨none, 0, rfl, Nat.le_refl _⟩
  · exact ⟨_, c, rfl, h1⟩
theorem Row.blk {V : Value} {gs : List Nat} (h : Row w V gs) {g : Nat} (hg : V.ownBlock = some g) : ∃ cs, At w g cs ∧ 0 < cs.length ∧ ∀ u ∈ cs, isP u := by
  rcases h with ⟨rfl, rfl⟩ | ⟨g', o, c, cs, rfl, h1, h0, _, _, _, _, h2⟩
  · cases hg
  · simp only [Value.ownBlock, Option.some.injEq] at hg
    subst hg
    exact ⟨cs, h1, h0, h2⟩
theorem Row.kp {S : Nat → Prop} {V : Value} {gs : List Nat} (h : Row w V gs) (k : Kp S w w') (hs : ∀ g, V.ownBlock = some g → ¬ S g) : Row w' V gs := by
  rcases h with ⟨rfl, rfl⟩ | ⟨g, o, c, cs, rfl, h1, h2⟩
  · exact .inl ⟨rfl, rfl⟩
  · exact .inr ⟨g, o, c, cs, rfl, k.at h1 (hs g rfl), h2⟩
theorem Row.cell {a : Option Addr} {n c : Nat} {gs : List Nat} (h : Row w (.slice a n c) gs) {i : Nat} (hi : i < gs.length) : ∃ g o, a = some ⟨g, o, none⟩ ∧ n = gs.length ∧ w.cell? ⟨g, o + i, none⟩ = some (.pointer (some ⟨gs.getD i 0, 0, none⟩)) := by
  rcases h with ⟨_, rfl⟩ | ⟨g, o, c, cs, e, h1, _, _, _, _, h2, _⟩
  · cases hi
  · simp only [Value.slice.injEq] at e
    obtain ⟨rfl, rfl, rfl⟩ := e
    exact ⟨g, o, rfl, rfl, by rw [h1.cell]; exact h2 i hi⟩
/-- The first one goes. -/
theorem Row.tail {a : Option Addr} {n c g0 : Nat} {gs : List Nat} (h : Row w (.slice a n c) (g0 :: gs)) :
    ∃ g o, a = some ⟨g, o, none⟩ ∧ n = gs.length + 1 ∧ n ≤ c ∧ ∀ a', a' = (if c = 1 then some ⟨g, o, none⟩ else some ⟨g, o + 1, none⟩) → Row w (.slice a' (n - 1) (c - 1)) gs := by
  rcases h with ⟨_, h⟩ | ⟨g, o, c, cs, e, h1, h0, h2, h3, h4, h5, h6⟩
  · cases h
  · simp only [Value.slice.injEq] at e
    obtain ⟨rfl, rfl, rfl⟩ := e
    simp only [List.length_cons] at h3 h5
    refine ⟨g, o, rfl, rfl, h3, fun a' ha => ?_⟩
    subst ha
    by_cases h1c : c = 1
    · rw [if_pos h1c]
      exact .inr ⟨g, o, c - 1, cs, by simp, h1, h0, by omega, by omega, by omega, fun i hi => by omega, h6⟩
    · rw [if_neg h1c]
      refine .inr ⟨g, o + 1, c - 1, cs, by simp, h1, h0, by omega, by omega, by omega, fun i hi => ?_, h6⟩
      have := h5 (i + 1) (by omega)
      rw [show o + 1 + i = o + (i + 1) by omega, this]
      simp [List.getD_eq_getElem?_getD]
theorem WinC.lt (h : WinC w b x) {k : Nat} (hk : Mine b x k) : k < w.heap.size := by
  rcases hk with rfl | hk | ⟨i, hi, hk | hk⟩
  · exact h.hat.lt
  · obtain ⟨cs, hc, _, _⟩ := h.row.blk hk; exact hc.lt
  · rw [← hk]; exact (h.pks i hi).lt
  · exact (h.own i hi).lt k hk
theorem WinC.kp {S : Nat → Prop} (h : WinC w b x) (k : Kp S w w') (hs : ∀ j, Mine b x j → ¬ S j) : WinC w' b x :=
  { h with
    hat := k.at h.hat (hs b (.inl rfl))
    row := h.row.kp k (fun g hg => hs g (.inr (.inl hg)))
    pks := fun i hi => k.at (h.pks i hi) (hs _ (.inr (.inr ⟨i, hi, .inl rfl⟩)))
    own := fun i hi => (h.own i hi).kp k (fun g hg => hs g (.inr (.inr ⟨i, hi, .inr hg⟩))) }
theorem WinC.kp0 (h : WinC w b x) (k : Kp (fun _ => False) w w') : WinC w' b x := h.kp k (fun _ _ h => h)
theorem WinC.drewN (h : WinC w b x) (n : Nat) : WinC (w.drewN n) b x := h.kp0 ((Kp.refl _ w).drewN n)
/-- The row is not the head, no packet, no body. -/
theorem WinC.rowNe (h : WinC w b x) {g : Nat} (hg : x.V.ownBlock = some g) : g ≠ b ∧ (∀ i, i < x.l.length → g ≠ (pk x.l i).g) ∧ ∀ i, i < x.l.length → (pk x.l i).B.ownBlock ≠ some g := by
  obtain ⟨cs, hc, h0, hp⟩ := h.row.blk hg
  refine ⟨fun e => ?_, fun i hi e => ?_, fun i hi e => ?_⟩
  · subst e
    have := hc.inj h.hat
    subst this
    exact not_isP_int .i64 x.size (hp _ (by simp [winC]))
  · subst e
    have := hc.inj (h.pks i hi)
    subst this
    exact not_isP_int .i64 (pk x.l i).seq (hp _ (by simp [pkC]))
  · obtain ⟨u, hu⟩ : ∃ u, u ∈ cs := ⟨_, List.getElem_mem h0⟩
    obtain ⟨a, rfl⟩ := hp u hu
    exact (h.own i hi).notC hc hu (not_isB_ptr a) e
/-- A packet is not the head; two packets are not one; and no body is a packet, or the head. -/
theorem WinC.pkNe (h : WinC w b x) {i : Nat} (hi : i < x.l.length) : (pk x.l i).g ≠ b ∧ (∀ j, j < x.l.length → (pk x.l i).g = (pk x.l j).g → i = j) ∧ ∀ j, j < x.l.length → (pk x.l j).B.ownBlock ≠ some (pk x.l i).g := by
  refine ⟨fun e => ?_, fun j hj e => ?_, fun j hj => ?_⟩
  · have h1 := h.pks i hi
    rw [e] at h1
    have := congrArg List.length (h1.inj h.hat)
    cases this
  · have h1 := h.pks i hi
    rw [e] at h1
    have e2 := h1.inj (h.pks j hj)
    simp only [pkC, List.cons.injEq, Value.int.injEq, true_and] at e2
    have h3 := h.seqs i hi
    have h4 := h.seqs j hj
    have h5 := e2.1
    omega
  · exact (h.own j hj).notC (h.pks i hi) (u := .int .i64 (pk x.l i).seq) (by simp [pkC]) (not_isB_i64 _)
theorem WinC.bodyNe (h : WinC w b x) {j : Nat} (hj : j < x.l.length) : (pk x.l j).B.ownBlock ≠ some b :=
  (h.own j hj).notC h.hat (u := .int .i64 x.size) (by simp [winC]) (not_isB_i64 _)
/-- The head alone turns. -/
theorem WinC.head (h : WinC w b x) {last' m' s' now' : Nat} (hl : last' = x.last) (ha : At w' b (winC { x with last := last', m := m', s := s', now := now' })) (k : Kp (· = b) w w') (hn : x.now ≤ now') (hn2 : now' ≤ 2147483647) : WinC w' b { x with last := last', m := m', s := s', now := now' } :=
  { hat := ha
    row := h.row.kp k (fun g hg => (h.rowNe hg).1)
    pks := fun i hi => k.at (h.pks i hi) (h.pkNe hi).1
    own := fun i hi => (h.own i hi).kp k (fun g hg e => h.bodyNe hi (by rw [hg, e]))
    size_bd := h.size_bd
    len := h.len
    seqs := fun i hi => by rw [hl]; exact h.seqs i hi
    now_bd := hn2
    bd := fun i hi => by have := h.bd i hi; exact ⟨Nat.le_trans this.1 hn, this.2⟩ }
/-- A packet turns. -/
theorem WinC.setPk (h : WinC w b x) {i : Nat} (hi : i < x.l.length) {p : Pk} (hg : p.g = (pk x.l i).g) (hB : p.B = (pk x.l i).B) (hq : p.seq = (pk x.l i).seq) (hb : p.body = (pk x.l i).body) (ha : At w' p.g (pkC p)) (k : Kp (· = p.g) w w')
    (h1 : p.att ≤ x.now ∧ p.wt ≤ 60 ∧ (1 ≤ p.times → 2 ≤ p.wt)) : WinC w' b { x with l := x.l.set i p } := by
  have hne := h.pkNe hi
  have gs : (x.l.set i p).map Pk.g = x.l.map Pk.g := by
    apply List.ext_getElem?
    intro j
    rw [List.getElem?_map, List.getElem?_map, List.getElem?_set]
    by_cases hj : i = j
    · subst hj; rw [if_pos rfl, if_pos hi, pk_at hi]; simp [hg]
    · rw [if_neg hj]
  rw [hg] at k
  exact
  { hat := k.at h.hat (fun e => hne.1 e.symm)
    row := by
      show Row w' x.V ((x.l.set i p).map Pk.g)
      rw [gs]
      exact h.row.kp k (fun g hg' e => (h.rowNe hg').2.1 i hi e)
    pks := fun j hj => by
      simp only [List.length_set] at hj
      show At w' (pk (x.l.set i p) j).g (pkC (pk (x.l.set i p) j))
      rw [pk_set hi]
      by_cases hji : j = i
      · rw [if_pos hji]; exact ha
      · rw [if_neg hji]; exact k.at (h.pks j hj) (fun e => hji (hne.2.1 j hj e.symm).symm)
    own := fun j hj => by
      simp only [List.length_set] at hj
      show OwnB w' (pk (x.l.set i p) j).B (pk (x.l.set i p) j).body
      rw [pk_set hi]
      by_cases hji : j = i
      · subst hji; rw [if_pos rfl, hB, hb]; exact (h.own j hj).kp k (fun g hg' e => hne.2.2 j hj (by rw [hg', e]))
      · rw [if_neg hji]; exact (h.own j hj).kp k (fun g hg' e => hne.2.2 j hj (by rw [hg', e]))
    size_bd := h.size_bd
    len := by simpa using h.len
    seqs := fun j hj => by
      simp only [List.length_set] at hj ⊢
      show (pk (x.l.set i p) j).seq + x.l.length = x.last + j + 1
      rw [pk_set hi]
      by_cases hji : j = i
      · subst hji; rw [if_pos rfl, hq]; exact h.seqs j hj
      · rw [if_neg hji]; exact h.seqs j hj
    now_bd := h.now_bd
    bd := fun j hj => by
      simp only [List.length_set] at hj
      show (pk (x.l.set i p) j).att ≤ x.now ∧ (pk (x.l.set i p) j).wt ≤ 60 ∧ (1 ≤ (pk (x.l.set i p) j).times → 2 ≤ (pk (x.l.set i p) j).wt)
      rw [pk_set hi]
      by_cases hji : j = i
      · rw [if_pos hji]; exact h1
      · rw [if_neg hji]; exact h.bd j hj }
theorem Mine.setPk {b : Nat} {x : Wn} {i : Nat} (hi : i < x.l.length) {p : Pk} (hg : p.g = (pk x.l i).g) (hB : p.B = (pk x.l i).B) (k : Nat) : Mine b { x with l := x.l.set i p } k ↔ Mine b x k := by
  unfold Mine
  simp only [List.length_set]
  constructor
  · rintro (h | h | ⟨j, hj, h⟩)
    · exact .inl h
    · exact .inr (.inl h)
    · rw [pk_set hi] at h
      by_cases hji : j = i
      · subst hji; rw [if_pos rfl, hg, hB] at h; exact .inr (.inr ⟨j, hj, h⟩)
      · rw [if_neg hji] at h; exact .inr (.inr ⟨j, hj, h⟩)
  · rintro (h | h | ⟨j, hj, h⟩)
    · exact .inl h
    · exact .inr (.inl h)
    · refine .inr (.inr ⟨j, hj, ?_⟩)
      rw [pk_set hi]
      by_cases hji : j = i
      · subst hji; rw [if_pos rfl, hg, hB]; exact h
      · rw [if_neg hji]; exact h
/-- The first packet goes. -/
theorem WinC.pop (h : WinC w b x) {V' : Value} {m' s' : Nat} (ha : At w' b (winC { x with V := V', l := x.l.drop 1, m := m', s := s' })) (k : Kp (· = b) w w') (h0 : 0 < x.l.length) (hV : V'.ownBlock = x.V.ownBlock) (hr : Row w V' ((x.l.drop 1).map Pk.g)) :
    WinC w' b { x with V := V', l := x.l.drop 1, m := m', s := s' } :=
  { hat := ha
    row := hr.kp k (fun g hg => (h.rowNe (hV ▸ hg)).1)
    pks := fun i hi => by
      simp only [List.length_drop] at hi
      show At w' (pk (x.l.drop 1) i).g (pkC (pk (x.l.drop 1) i))
      rw [pk_drop]
      exact k.at (h.pks (1 + i) (by omega)) (h.pkNe (by omega)).1
    own := fun i hi => by
      simp only [List.length_drop] at hi
      show OwnB w' (pk (x.l.drop 1) i).B (pk (x.l.drop 1) i).body
      rw [pk_drop]
      exact (h.own (1 + i) (by omega)).kp k (fun g hg e => h.bodyNe (j := 1 + i) (by omega) (by rw [hg, e]))
    size_bd := h.size_bd
    len := by have := h.len; simp only [List.length_drop]; show x.l.length - 1 ≤ x.size; omega
    seqs := fun i hi => by
      simp only [List.length_drop] at hi ⊢
      show (pk (x.l.drop 1) i).seq + (x.l.length - 1) = x.last + i + 1
      rw [pk_drop]
      have := h.seqs (1 + i) (by omega)
      omega
    now_bd := h.now_bd
    bd := fun i hi => by
      simp only [List.length_drop] at hi
      show (pk (x.l.drop 1) i).att ≤ x.now ∧ (pk (x.l.drop 1) i).wt ≤ 60 ∧ (1 ≤ (pk (x.l.drop 1) i).times → 2 ≤ (pk (x.l.drop 1) i).wt)
      rw [pk_drop]
      exact h.bd (1 + i) (by omega) }
theorem Mine.pop {b : Nat} {x : Wn} {V' : Value} {m' s' n' : Nat} (hV : V'.ownBlock = x.V.ownBlock) {d k : Nat} (h : Mine b { x with V := V', l := x.l.drop d, m := m', s := s', now := n' } k) : Mine b x k := by
  rcases h with h | h | ⟨j, hj, h⟩
  · exact .inl h
  · exact .inr (.inl (hV ▸ h))
  · simp only [List.length_drop] at hj
    simp only [pk_drop] at h
    exact .inr (.inr ⟨d + j, by omega, h⟩)
end Go.Proofs.Ytnapokdipelmiaa
