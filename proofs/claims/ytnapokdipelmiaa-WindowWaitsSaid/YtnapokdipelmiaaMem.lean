/- make, copy and append, in words of blocks known whole. No program in sight; no condition but that what is made is not too long. -/
import Derived.Test.YtnapokdipelmiaaBase
import Derived.Deep.AppendSrc
namespace Go.Proofs.Ytnapokdipelmiaa
open Go.RowKit
set_option linter.unusedVariables false

theorem At.setCells {b : Nat} : ∀ (vs : List Value) (o : Nat) {w : World} {cs : List Value}, At w b cs → o + vs.length ≤ cs.length →
    At (w.setCells b o vs) b (cs.take o ++ vs ++ cs.drop (o + vs.length))
  | [], o, w, cs, h, hl => by simpa [World.setCells] using h
  | v :: r, o, w, cs, h, hl => by
    simp only [List.length_cons] at hl
    have := At.setCells r (o + 1) (h.set o v) (by simp; omega)
    simp only [World.setCells]
    refine Eq.mp ?_ this
    congr 1
    apply List.ext_getElem?
    intro i
    simp only [List.getElem?_append, List.getElem?_take, List.getElem?_drop, List.getElem?_set, List.length_append, List.length_take, List.length_set, List.length_cons, List.getElem?_cons]
    rcases Nat.lt_trichotomy i o with hi | hi | hi
    · simp [show i < o + 1 by omega, show o ≠ i by omega, show i < o by omega, show i < cs.length by omega, show min (o + 1) cs.length = o + 1 by omega, show min o cs.length = o by omega, show i < o + 1 + r.length by omega, show i < o + (r.length + 1) by omega]
    · subst hi
      simp [show min (i + 1) cs.length = i + 1 by omega, show min i cs.length = i by omega, show i < i + 1 + r.length by omega, show i < cs.length by omega]
    · simp [show ¬ i < o + 1 by omega, show ¬ i < o by omega, show min (o + 1) cs.length = o + 1 by omega, show min o cs.length = o by omega, show o + (r.length + 1) = o + 1 + r.length by omega]
      rw [if_neg (show ¬ i - o = 0 by omega), show i - (o + 1) = i - o - 1 by omega]
      split
      · rfl
      · rw [if_neg (by omega)]
theorem Kp.setCells {S : Nat → Prop} {a : World} {b : Nat} (hb : b < a.heap.size → S b) : ∀ (vs : List Value) (o : Nat) {w : World}, Kp S a w → Kp S a (w.setCells b o vs)
  | [], _, _, h => h
  | v :: r, o, _, h => Kp.setCells hb r (o + 1) (h.setCell (p := ⟨b, o, none⟩) hb v)

/-- What is known of a type: its zero value's cells, how many cells, how many bytes. -/
def Elem (P : Program) (e : TypeId) (z : Value) (size bytes : Nat) : Prop :=
  z.cells.size = size ∧ 0 < size ∧ (∀ u ∈ z.cells, u.oneCell' = true) ∧ ∃ i, P.info? e = some i ∧ i.zero = some z ∧ i.size = size ∧ i.bytes = bytes
theorem Elem.mk' {P : Program} {e : TypeId} {z : Value} {size bytes : Nat} (h : (P.info? e).map (fun i => (i.zero, i.size, i.bytes)) = some (some z, size, bytes))
    (h1 : z.cells.size = size) (h2 : 0 < size) (h3 : ∀ u ∈ z.cells, u.oneCell' = true) : Elem P e z size bytes := by
  cases hi : P.info? e with
  | none => simp [hi] at h
  | some i => simp [hi] at h; exact ⟨h1, h2, h3, i, hi, h⟩

/-- n zero elements, cell by cell. -/
def zeros (z : Value) (n : Nat) : List Value := (Builtin.zeroCells z.cells n).toList
theorem zeros_length (z : Value) (n : Nat) : (zeros z n).length = n * z.cells.size := by simp [zeros, Builtin.zeroCells]
theorem zeros_one (z : Value) (h : z.cells = #[z]) (n : Nat) : zeros z n = List.replicate n z := by
  apply List.ext_getElem
  · simp [zeros_length, h]
  · intro i h1 h2; simp [zeros, Builtin.zeroCells, h, Nat.mod_one]

section
variable {P : Program} (w : World)
theorem run_make_at {t e : TypeId} {z : Value} {size bytes : Nat} (ht : P.underlying t = some (.slice e)) (he : Elem P e z size bytes) (kl kc : IntKind) (L C : Int) (n : Nat) (hL : L = n) (hC : C = n)
    (hn : bytes * n ≤ 281474976710656) (h63 : n ≤ maxLen) :
    ∃ w', (Instr.makeSlice t (.int kl L) (.int kc C)).run P w = .ok (.slice (some ⟨w.heap.size, 0, none⟩) n n) w' ∧ At w' w.heap.size (zeros z n) ∧ Kp (fun _ => False) w w' := by
  obtain ⟨h1, h2, h3, i, hi, hz, hs, hb⟩ := he
  subst hL; subst hC
  obtain ⟨w', hr, ⟨_, ho⟩, hg⟩ := run_make_full (P := P) w w.heap.size t e i z size ht hi hz hs kl kc n (by rw [hb]; exact hn) h63 (Nat.le_refl _)
  refine ⟨w', hr, ?_, (Kp.refl _ w).grown hg (by simp)⟩
  rcases ho with ⟨h, _⟩ | ⟨g, cap, cur, hv, _, hh, _, _, hcs, htk⟩
  · cases h
  · simp only [Value.slice.injEq, Option.some.injEq, Addr.mk.injEq, and_true, true_and] at hv
    obtain ⟨rfl, rfl⟩ := hv
    have e2 : zeros z n = (madeCells z.cells (n * size)).toList := by simp [zeros, Builtin.zeroCells, madeCells, h1]
    have e3 : cur.toList.take (n * size) = cur.toList := List.take_of_length_le (by simp [hcs])
    exact ⟨e, by rw [hh, e2, ← htk, e3]⟩

theorem run_copy_at {dT sT ty elem : TypeId} (hu : P.underlying dT = some (.slice elem)) (hs : (P.info? elem).map (·.size) = some 1) {g off dLen dCap : Nat} {a : Option Addr} {sLen sCap : Nat} {cur cs : List Value}
    (hg : At w g cur) (hn : cs.length = Nat.min sLen dLen) (hsrc : Rd w a cs) (hfit : off + cs.length ≤ cur.length) (h1 : ∀ v ∈ cs, v.oneCell' = true) :
    ∃ w', (Builtin.copy_ #[dT, sT] ty #[.slice (some ⟨g, off, none⟩) dLen dCap, .slice a sLen sCap]).run P w = .ok (goInt cs.length) w' ∧
      At w' g (cur.take off ++ cs ++ cur.drop (off + cs.length)) ∧ Kp (· = g) w w' := by
  by_cases h0 : cs.length = 0
  · obtain rfl : cs = [] := List.eq_nil_of_length_eq_zero h0
    exact ⟨w, run_copy_none (P := P) w dT sT ty elem _ _ dLen dCap sLen sCap hu hs (by simpa using hn.symm), by simpa using hg, Kp.refl _ _⟩
  · obtain ⟨b, o, rfl, _⟩ := hsrc 0 (by omega)
    obtain ⟨T, hg⟩ := hg
    have hsrc' : ∀ j v, cs[j]? = some v → w.cell? ((⟨b, o, none⟩ : Addr).add j) = some v := fun j v hv => by
      have hj : j < cs.length := (List.getElem?_eq_some_iff.1 hv).1
      obtain ⟨b', o', e, hc⟩ := hsrc j hj
      simp only [Option.some.injEq, Addr.mk.injEq, and_true] at e
      obtain ⟨rfl, rfl⟩ := e
      rw [Addr.add_mid, hc, List.getD_eq_getElem?_getD, hv]; rfl
    refine ⟨_, run_copy_row (P := P) w dT sT ty elem g off dLen dCap _ sLen sCap cur.toArray T cs hu hs hg hn hsrc' (by simpa using hfit) h1, ⟨T, ?_⟩, ?_⟩
    · exact setRow_heap w g _ _ T _ hg
    · exact ⟨rfl, rfl, rfl, by simp [World.setRow], fun k hk hne => setRow_other w g k _ hne⟩

/-- A slice of the call's own: nil, or the head of a block that holds its cells, and spare ones. -/
def Own (w : World) (v : Value) (n size : Nat) (vs : List Value) : Prop :=
  vs.length = n * size ∧ ((v = .slice none 0 0 ∧ n = 0) ∨ ∃ g cap sp, v = .slice (some ⟨g, 0, none⟩) n cap ∧ At w g (vs ++ sp) ∧ sp.length = (cap - n) * size ∧ n ≤ cap ∧ cap ≤ maxLen)
theorem Own.nil (w : World) (size : Nat) : Own w (.slice none 0 0) 0 size [] := ⟨by simp, .inl ⟨rfl, rfl⟩⟩
theorem Own.kp {S : Nat → Prop} {w w' : World} {v : Value} {n size : Nat} {vs : List Value} (h : Own w v n size vs) (hk : Kp S w w') (hs : ∀ g, v.ownBlock = some g → ¬ S g) : Own w' v n size vs := by
  refine ⟨h.1, ?_⟩
  rcases h.2 with hn | ⟨g, cap, sp, rfl, hat, r⟩
  · exact .inl hn
  · exact .inr ⟨g, cap, sp, rfl, hk.at hat (hs g rfl), r⟩
theorem Own.lt {w : World} {v : Value} {n size : Nat} {vs : List Value} (h : Own w v n size vs) : ∀ g, v.ownBlock = some g → g < w.heap.size := by
  intro g hg
  rcases h.2 with ⟨rfl, _⟩ | ⟨g', cap, sp, rfl, hat, r⟩
  · simp [Value.ownBlock] at hg
  · simp [Value.ownBlock] at hg; subst hg; exact hat.lt
theorem Own.form {w : World} {v : Value} {n size : Nat} {vs : List Value} (h : Own w v n size vs) : ∃ a c, v = .slice a n c ∧ n ≤ c ∧ c ≤ maxLen := by
  rcases h.2 with ⟨rfl, rfl⟩ | ⟨g', cap, sp, rfl, hat, _, r⟩
  · exact ⟨none, 0, rfl, by simp⟩
  · exact ⟨_, _, rfl, r⟩
theorem Own.rd {w : World} {a : Option Addr} {n c size : Nat} {vs : List Value} (h : Own w (.slice a n c) n size vs) : Rd w a vs := fun i hi => by
  rcases h.2 with ⟨_, rfl⟩ | ⟨g, cap, sp, hv, hat, _⟩
  · have := h.1; simp at this; simp [this] at hi
  · simp only [Value.slice.injEq, true_and] at hv
    obtain ⟨rfl, rfl⟩ := hv
    refine ⟨g, 0, rfl, ?_⟩
    rw [hat.cell, Nat.zero_add, List.getElem?_append_left hi, List.getD_eq_getElem?_getD, List.getElem?_eq_getElem hi]; rfl

/-- All cells of the slice's own block are such. -/
def BlkP (p : Value → Prop) (w : World) (v : Value) : Prop := ∀ g, v.ownBlock = some g → ∃ cs, At w g cs ∧ ∀ u ∈ cs, p u
theorem BlkP.kp {p : Value → Prop} {S : Nat → Prop} {w w' : World} {v : Value} (h : BlkP p w v) (hk : Kp S w w') (hs : ∀ g, v.ownBlock = some g → ¬ S g) : BlkP p w' v := fun g hg => by
  obtain ⟨cs, ha, hp⟩ := h g hg; exact ⟨cs, hk.at ha (hs g hg), hp⟩
theorem BlkP.nil (p : Value → Prop) (w : World) (n c : Nat) : BlkP p w (.slice none n c) := fun g hg => by simp [Value.ownBlock] at hg
theorem At.inj {w : World} {b : Nat} {cs ds : List Value} (h : At w b cs) (k : At w b ds) : cs = ds := by
  obtain ⟨T, h⟩ := h
  obtain ⟨T', k⟩ := k
  rw [h] at k
  simp at k
  exact k.1
theorem zeros_mem (z : Value) (n : Nat) : ∀ u ∈ zeros z n, u ∈ z.cells := fun u hu => by
  simp only [zeros, Builtin.zeroCells, Array.toList_map, Array.toList_range, List.mem_map, List.mem_range] at hu
  obtain ⟨i, hi, rfl⟩ := hu
  have h0 : 0 < z.cells.size := by
    rcases Nat.eq_zero_or_pos z.cells.size with h | h
    · rw [h] at hi; omega
    · exact h
  rw [getElem!_pos z.cells _ (Nat.mod_lt _ h0)]
  exact Array.getElem_mem _

theorem src_of_rd {size : Nat} {tx e' : TypeId} (hk : P.underlying tx = some (.slice e')) {a : Option Addr} {n c : Nat} {news : List Value} (hl : news.length = n * size) (hs : 0 < size) (hr : Rd w a news) (h1 : ∀ u ∈ news, u.oneCell' = true) :
    Src P size tx (.slice a n c) n news w := by
  by_cases h0 : n = 0
  · subst h0
    obtain rfl : news = [] := List.eq_nil_of_length_eq_zero (by simpa using hl)
    rcases a with _ | a
    · exact Src.ofNil w hk c
    · exact Src.ofSlice w hk a 0 c [] (by simp) (by simp) (by simp)
  · obtain ⟨b, o, rfl, _⟩ := hr 0 (by rw [hl]; exact Nat.mul_pos (by omega) hs)
    refine Src.ofSlice w hk _ n c news hl (fun j v hv => ?_) h1
    have hj : j < news.length := (List.getElem?_eq_some_iff.1 hv).1
    obtain ⟨b', o', e, hc⟩ := hr j hj
    simp only [Option.some.injEq, Addr.mk.injEq, and_true] at e
    obtain ⟨rfl, rfl⟩ := e
    rw [Addr.add_mid, hc, List.getD_eq_getElem?_getD, hv]; rfl

theorem run_append_src {t tx ty e : TypeId} {z : Value} {size bytes : Nat} (ht : P.underlying t = some (.slice e)) (he : Elem P e z size bytes) {v : Value} {n : Nat} {vs : List Value} (ho : Own w v n size vs)
    {x : Value} {m : Nat} {news : List Value} (hs : Src P size tx x m news w) (hn : n + m ≤ maxLen) (hb : (n + m) * bytes ≤ 140737488355328) :
    ∃ v' w', (Builtin.append_ #[t, tx] ty #[v, x]).run P w = .ok v' w' ∧ Own w' v' (n + m) size (vs ++ news) ∧ Kp (fun k => v.ownBlock = some k) w w' ∧
      (v'.ownBlock = v.ownBlock ∨ v'.ownBlock = some w.heap.size) ∧ (∀ p : Value → Prop, (∀ u ∈ z.cells, p u) → (∀ u ∈ vs ++ news, p u) → BlkP p w v → BlkP p w' v') := by
  obtain ⟨h1, h2, h3, i, hi, hz, hsz, hby⟩ := he
  subst hsz
  subst hby
  have hlen : (vs ++ news).length = (n + m) * i.size := by rw [List.length_append, ho.1, hs.newsLen, Nat.add_mul]
  have grow : ∀ (base : Option Addr) (cap : Nat), cap < n + m → (Builtin.firstCells i.size n (.slice base n cap)).run P w.drew = .ok vs.toArray w.drew →
      ∃ v' w', (Builtin.append_ #[t, tx] ty #[.slice base n cap, x]).run P w = .ok v' w' ∧ Own w' v' (n + m) i.size (vs ++ news) ∧ Kp (fun _ => False) w w' ∧ v'.ownBlock = some w.heap.size ∧ (∀ p : Value → Prop, (∀ u ∈ z.cells, p u) → (∀ u ∈ vs ++ news, p u) → BlkP p w' v') := by
    intro base cap hlt hf
    have hge := grownCap_ge w (n + m) cap e
    have hcm : grownCap w (n + m) cap e ≤ maxLen := grownCap_le_maxLen w (n + m) cap e hn
    refine ⟨_, _, run_append_grow_src (P := P) w t tx ty e i z ht hi hz base n cap vs hf x m news hs hlt (by simp only [maxLen] at hn; omega) (growslice_fits hlt hb), ⟨hlen, .inr ⟨w.heap.size, _, zeros z (grownCap w (n + m) cap e - (n + m)), rfl, ?_, ?_, hge, hcm⟩⟩, ?_, rfl, ?_⟩
    · refine ⟨e, ?_⟩
      show (w.drew.alloc _).heap[w.drew.heap.size]? = _
      rw [heap_alloc_new w.drew _]
      simp [zeros]
    · rw [zeros_length, h1]
    · exact ((Kp.refl _ w).drew).alloc _
    · intro p hp1 hp2 g hg
      simp only [Value.ownBlock, Option.some.injEq] at hg
      subst hg
      refine ⟨(vs ++ news) ++ zeros z (grownCap w (n + m) cap e - (n + m)), ⟨e, ?_⟩, fun u hu => ?_⟩
      · show (w.drew.alloc _).heap[w.drew.heap.size]? = _
        rw [heap_alloc_new w.drew _]
        simp [zeros]
      · rcases List.mem_append.1 hu with h' | h'
        · exact hp2 u h'
        · exact hp1 u (zeros_mem z _ u h')
  rcases ho.2 with ⟨rfl, rfl⟩ | ⟨g, cap, sp, rfl, hat, hsp, hle, hcm⟩
  · have hvs : vs = [] := List.eq_nil_of_length_eq_zero (by simpa using ho.1)
    subst hvs
    by_cases hm : m = 0
    · subst hm
      have hnn : news = [] := List.eq_nil_of_length_eq_zero (by simpa using hs.newsLen)
      subst hnn
      refine ⟨.slice none 0 0, w, ?_, by simpa using Own.nil w i.size, Kp.refl _ w, .inl rfl, fun _ _ _ h => h⟩
      have hc := hs.cells
      rcases hs.kind with ⟨e', hk⟩ | hk <;> simp [Builtin.append_, run_underlying ht, run_underlying hk, sizeOf, typeInfo, hi, hs.len, hc]
    · obtain ⟨v', w', r1, r2, r3, r4, r5⟩ := grow none 0 (by omega) (run_firstCells_none w.drew i.size 0 0 0)
      exact ⟨v', w', r1, r2, r3.mono (fun _ _ h => h.elim), .inr r4, fun p h1 h2 _ => r5 p h1 h2⟩
  · by_cases hroom : n + m ≤ cap
    · have hfit : n * i.size + news.length ≤ (vs ++ sp).length := by
        rw [List.length_append, ho.1, hs.newsLen, hsp]
        have : m * i.size ≤ (cap - n) * i.size := Nat.mul_le_mul_right _ (by omega)
        omega
      refine ⟨_, _, run_append_room_src (P := P) w t tx ty e i ht hi g 0 n cap x m news hs hroom ?_ ?_, ⟨hlen, .inr ⟨g, cap, sp.drop news.length, rfl, ?_, ?_, hroom, hcm⟩⟩, ?_, .inl rfl, ?_⟩
      · intro j hj
        rw [hat.cell, List.getElem?_eq_getElem (by omega)]; rfl
      · intro j _; exact hat.frozen _
      · have := hat.setCells news (n * i.size) hfit
        rw [Nat.zero_add]
        rw [List.take_append_of_le_length (by rw [ho.1]; exact Nat.le_refl _), List.take_of_length_le (by rw [ho.1]; exact Nat.le_refl _), List.drop_append, List.drop_eq_nil_of_le (by rw [ho.1]; omega), List.nil_append, ho.1, Nat.add_sub_cancel_left] at this
        exact this
      · rw [List.length_drop, hsp, hs.newsLen, ← Nat.sub_mul]; congr 1; omega
      · exact Kp.setCells (S := fun k => (Value.slice (some ⟨g, 0, none⟩) n cap).ownBlock = some k) (fun _ => rfl) _ _ (Kp.refl _ w)
      · intro p hp1 hp2 hbp g' hg'
        simp only [Value.ownBlock, Option.some.injEq] at hg'
        subst hg'
        obtain ⟨cs, hcs, hpc⟩ := hbp g rfl
        have e := hat.inj hcs
        subst e
        refine ⟨_, by rw [Nat.zero_add]; exact hat.setCells news (n * i.size) hfit, fun u hu => ?_⟩
        rcases List.mem_append.1 hu with h' | h'
        · rcases List.mem_append.1 h' with h'' | h''
          · exact hpc u (List.mem_of_mem_take h'')
          · exact hp2 u (List.mem_append.2 (.inr h''))
        · exact hpc u (List.mem_of_mem_drop h')
    · have hcells : ∀ j u, vs[j]? = some u → w.drew.cell? ((⟨g, 0, none⟩ : Addr).add j) = some u := fun j u hu => by
        rw [Addr.add_mid, World.cell?_drew, hat.cell, Nat.zero_add, List.getElem?_append_left (List.getElem?_eq_some_iff.1 hu).1]; exact hu
      obtain ⟨v', w', r1, r2, r3, r4, r5⟩ := grow (some ⟨g, 0, none⟩) cap (by omega) (run_firstCells_some (P := P) w.drew i.size n _ n cap vs ho.1 hcells)
      exact ⟨v', w', r1, r2, r3.mono (fun _ _ h => h.elim), .inr r4, fun p h1 h2 _ => r5 p h1 h2⟩

/-- An append in a plain list of operations, its run laid before. -/
theorem wpList_append_run {ops : Array Oper} {rest : List Oper} {o : Oper} {a : Act} {Q : Exit → Act → World → Prop} {s x : Operand} {t tx : TypeId} {w' : World} {v X v' : Value}
    (hrun : (Builtin.append_ #[t, tx] o.type #[v, X]).run P w = .ok v' w') (hgd : Region.wanted o (yielded ops a.tmps) = true) (ho : o.op = .call { callee := .builtin .append, args := #[s, x], argTypes := #[t, tx] })
    (hs : a.eval s = v) (hx : a.eval x = X) (h : wpList P ops Q rest (a.put o.dst v') w') : wpList P ops Q (o :: rest) a w := by
  refine wpList_step fun K hK => ?_
  rw [if_pos hgd]
  unfold Oper.wp execOp
  simp only [ho, resolve, invoke, builtin, Sem.run_bind, Sem.run_pure, Result.andThen_ok, List.map_toArray, List.map_cons, List.map_nil, hs, hx, hrun]
  exact hK _ _ h
/-- .. and as one step of a region that draws its order. -/
theorem step_append_run {ops : Array Oper} {o : Oper} {a : Act} {K : Act → World → Prop} {Q : Exit → Act → World → Prop} {E : Prop} {s x : Operand} {t tx : TypeId} {w' : World} {v X v' : Value}
    (hrun : (Builtin.append_ #[t, tx] o.type #[v, X]).run P w = .ok v' w') (hgd : Region.wanted o (yielded ops a.tmps) = true) (ho : o.op = .call { callee := .builtin .append, args := #[s, x], argTypes := #[t, tx] })
    (hs : a.eval s = v) (hx : a.eval x = X) (h : K (a.put o.dst v') w') : if Region.wanted o (yielded ops a.tmps) = true then Oper.wp P o a w K Q else E := by
  rw [if_pos hgd]
  unfold Oper.wp execOp
  simp only [ho, resolve, invoke, builtin, Sem.run_bind, Sem.run_pure, Result.andThen_ok, List.map_toArray, List.map_cons, List.map_nil, hs, hx, hrun]
  exact h

theorem run_append_at {t tx ty e e' : TypeId} {z : Value} {size bytes : Nat} (ht : P.underlying t = some (.slice e)) (he : Elem P e z size bytes) (hk : P.underlying tx = some (.slice e')) {v : Value} {n : Nat} {vs : List Value} (ho : Own w v n size vs)
    {a : Option Addr} {m c : Nat} {news : List Value} (hl : news.length = m * size) (hr : Rd w a news) (h1 : ∀ u ∈ news, u.oneCell' = true) (hn : n + m ≤ maxLen) (hb : (n + m) * bytes ≤ 140737488355328) :
    ∃ v' w', (Builtin.append_ #[t, tx] ty #[v, .slice a m c]).run P w = .ok v' w' ∧ Own w' v' (n + m) size (vs ++ news) ∧ Kp (fun k => v.ownBlock = some k) w w' ∧
      (v'.ownBlock = v.ownBlock ∨ v'.ownBlock = some w.heap.size) ∧ (∀ p : Value → Prop, (∀ u ∈ z.cells, p u) → (∀ u ∈ vs ++ news, p u) → BlkP p w v → BlkP p w' v') :=
  run_append_src w ht he ho (src_of_rd w hk hl he.2.1 hr h1) hn hb
end
end Go.Proofs.Ytnapokdipelmiaa
