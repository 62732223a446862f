/- make, copy and append, in words of blocks known whole. No program in sight; no condition but that what is made is not too long. -/
import Derived.Test.YtokembhfebnjpaaGreatQBaseM
import Derived.Deep.AppendSrc
namespace Go.Proofs.YtokembhfebnjpaaGreat
set_option maxRecDepth 20000
open Go.RowKit
set_option linter.unusedVariables false

theorem At.setCells {b : Nat} : ∀ (vs : List Value) (o : Nat) {w : World} {cs : List Value}, At w b cs → o + vs.length ≤ cs.length →
 At (w.setCells b o vs) b (cs.take o ++ vs ++ cs.drop (o + vs.length))
 | [], o, w, cs, h, hl => by simpa [World.setCells] using h
 | v :: r, o, w, cs, h, hl => by
  simp only [List.length_cons] at hl
  have := At.setCells r (o + 1) (h.set o v) (by simp; omega)
  simp only [World.setCells]
  refine Eq.mp ?_ this
  congr 1
  apply List.ext_getElem?
  intro i
  simp only [List.getElem?_append, List.getElem?_take, List.getElem?_drop, List.getElem?_set, List.length_append, List.length_take, List.length_set, List.length_cons, List.getElem?_cons]
  rcases Nat.lt_trichotomy i o with hi | hi | hi
  · simp [show i < o + 1 by omega, show o ≠ i by omega, show i < o by omega, show i < cs.length by omega, show min (o + 1) cs.length = o + 1 by omega, show min o cs.length = o by omega, show i < o + 1 + r.length by omega, show i < o + (r.length + 1) by omega]
  · subst hi
    simp [show min (i + 1) cs.length = i + 1 by omega, show min i cs.length = i by omega, show i < i + 1 + r.length by omega, show i < cs.length by omega]
  · simp [show ¬ i < o + 1 by omega, show ¬ i < o by omega, show min (o + 1) cs.length = o + 1 by omega, show min o cs.length = o by omega, show o + (r.length + 1) = o + 1 + r.length by omega]
    rw [if_neg (show ¬ i - o = 0 by omega), show i - (o + 1) = i - o - 1 by omega]
    split
    · rfl
    · rw [if_neg (by omega)]
theorem Kp.setCells {S : Nat → Prop} {a : World} {b : Nat} (hb : b < a.heap.size → S b) : ∀ (vs : List Value) (o : Nat) {w : World}, Kp S a w → Kp S a (w.setCells b o vs)
 | [], _, _, h => h
 | v :: r, o, _, h => Kp.setCells hb r (o + 1) (h.setCell (p := ⟨b, o, none⟩) hb v)
def Elem (P : Program) (e : TypeId) (z : Value) (size bytes : Nat) : Prop :=
 z.cells.size = size ∧ 0 < size ∧ (∀ u ∈ z.cells, u.oneCell' = true) ∧ ∃ i, P.info? e = some i ∧ i.zero = some z ∧ i.size = size ∧ i.bytes = bytes
theorem Elem.mk' {P : Program} {e : TypeId} {z : Value} {size bytes : Nat} (h : (P.info? e).map (fun i => (i.zero, i.size, i.bytes)) = some (some z, size, bytes))
 (h1 : z.cells.size = size) (h2 : 0 < size) (h3 : ∀ u ∈ z.cells, u.oneCell' = true) : Elem P e z size bytes := by
 cases hi : P.info? e with
 | none => simp [hi] at h
 | some i => simp [hi] at h; exact ⟨h1, h2, h3, i, hi, h⟩
def zeros (z : Value) (n : Nat) : List Value := (Builtin.zeroCells z.cells n).toList
theorem zeros_length (z : Value) (n : Nat) : (zeros z n).length = n * z.cells.size := by simp [zeros, Builtin.zeroCells]
theorem zeros_one (z : Value) (h : z.cells = #[z]) (n : Nat) : zeros z n = List.replicate n z := by
 apply List.ext_getElem
 · simp [zeros_length, h]
 · intro i h1 h2; simp [zeros, Builtin.zeroCells, h, Nat.mod_one]

section
variable {P : Program} (w : World)
theorem run_make_at {t e : TypeId} {z : Value} {size bytes : Nat} (ht : P.underlying t = some (.slice e)) (he : Elem P e z size bytes) (kl kc : IntKind) (L C : Int) (n : Nat) (hL : L = n) (hC : C = n)
 (hn : bytes * n ≤ 281474976710656) (h63 : n ≤ maxLen) :
 ∃ w', (Instr.makeSlice t (.int kl L) (.int kc C)).run P w = .ok (.slice (some ⟨w.heap.size, 0, none⟩) n n) w' ∧ At w' w.heap.size (zeros z n) ∧ Kp (fun _ => False) w w' := by
 obtain ⟨h1, h2, h3, i, hi, hz, hs, hb⟩ := he
 subst hL; subst hC
 obtain ⟨w', hr, ⟨_, ho⟩, hg⟩ := run_make_full (P := P) w w.heap.size t e i z size ht hi hz hs kl kc n (by rw [hb]; exact hn) h63 (Nat.le_refl _)
 refine ⟨w', hr, ?_, (Kp.refl _ w).grown hg (by simp)⟩
 rcases ho with ⟨h, _⟩ | ⟨g, cap, cur, hv, _, hh, _, _, hcs, htk⟩
 · cases h
 · simp only [Value.slice.injEq, Option.some.injEq, Addr.mk.injEq, and_true, true_and] at hv
   obtain ⟨rfl, rfl⟩ := hv
   have e2 : zeros z n = (madeCells z.cells (n * size)).toList := by simp [zeros, Builtin.zeroCells, madeCells, h1]
   have e3 : cur.toList.take (n * size) = cur.toList := List.take_of_length_le (by simp [hcs])
   exact ⟨e, by rw [hh, e2, ← htk, e3]⟩

theorem run_copy_at {dT sT ty elem : TypeId} (hu : P.underlying dT = some (.slice elem)) (hs : (P.info? elem).map (·.size) = some 1) {g off dLen dCap : Nat} {a : Option Addr} {sLen sCap : Nat} {cur cs : List Value}
 (hg : At w g cur) (hn : cs.length = Nat.min sLen dLen) (hsrc : Rd w a cs) (hfit : off + cs.length ≤ cur.length) (h1 : ∀ v ∈ cs, v.oneCell' = true) :
 ∃ w', (Builtin.copy_ #[dT, sT] ty #[.slice (some ⟨g, off, none⟩) dLen dCap, .slice a sLen sCap]).run P w = .ok (goInt cs.length) w' ∧
  At w' g (cur.take off ++ cs ++ cur.drop (off + cs.length)) ∧ Kp (· = g) w w' := by
 by_cases h0 : cs.length = 0
 · obtain rfl : cs = [] := List.eq_nil_of_length_eq_zero h0
   exact ⟨w, run_copy_none (P := P) w dT sT ty elem _ _ dLen dCap sLen sCap hu hs (by simpa using hn.symm), by simpa using hg, Kp.refl _ _⟩
 · obtain ⟨b, o, rfl, _⟩ := hsrc 0 (by omega)
   obtain ⟨T, hg⟩ := hg
   have hsrc' : ∀ j v, cs[j]? = some v → w.cell? ((⟨b, o, none⟩ : Addr).add j) = some v := fun j v hv => by
    have hj : j < cs.length := (List.getElem?_eq_some_iff.1 hv).1
    obtain ⟨b', o', e, hc⟩ := hsrc j hj
    simp only [Option.some.injEq, Addr.mk.injEq, and_true] at e
    obtain ⟨rfl, rfl⟩ := e
    rw [Addr.add_mid, hc, List.getD_eq_getElem?_getD, hv]; rfl
   refine ⟨_, run_copy_row (P := P) w dT sT ty elem g off dLen dCap _ sLen sCap cur.toArray T cs hu hs hg hn hsrc' (by simpa using hfit) h1, ⟨T, ?_⟩, ?_⟩
   · exact setRow_heap w g _ _ T _ hg
   · exact ⟨rfl, rfl, rfl, by simp [World.setRow], fun k hk hne => setRow_other w g k _ hne⟩
def Own (w : World) (v : Value) (n size : Nat) (vs : List Value) : Prop :=
 vs.length = n * size ∧ ((v = .slice none 0 0 ∧ n = 0) ∨ ∃ g cap sp, v = .slice (some ⟨g, 0, none⟩) n cap ∧ At w g (vs ++ sp) ∧ sp.length = (cap - n) * size ∧ n ≤ cap ∧ cap ≤ maxLen)
theorem Own.nil (w : World) (size : Nat) : Own w (.slice none 0 0) 0 size [] := ⟨by simp, .inl ⟨rfl, rfl⟩⟩
theorem Own.kp {S : Nat → Prop} {w w' : World} {v : Value} {n size : Nat} {vs : List Value} (h : Own w v n size vs) (hk : Kp S w w') (hs : ∀ g, v.ownBlock = some g → ¬ S g) : Own w' v n size vs := by
 refine ⟨h.1, ?_⟩
 rcases h.2 with hn | ⟨g, cap, sp, rfl, hat, r⟩
 · exact .inl hn
 · exact .inr ⟨g, cap, sp, rfl, hk.at hat (hs g rfl), r⟩
theorem Own.lt {w : World} {v : Value} {n size : Nat} {vs : List Value} (h : Own w v n size vs) : ∀ g, v.ownBlock = some g → g < w.heap.size := by
 intro g hg
 rcases h.2 with ⟨rfl, _⟩ | ⟨g', cap, sp, rfl, hat, r⟩
 · simp [Value.ownBlock] at hg
 · simp [Value.ownBlock] at hg; subst hg; exact hat.lt
theorem Own.form {w : World} {v : Value} {n size : Nat} {vs : List Value} (h : Own w v n size vs) : ∃ a c, v = .slice a n c ∧ n ≤ c ∧ c ≤ maxLen := by
 rcases h.2 with ⟨rfl, rfl⟩ | ⟨g', cap, sp, rfl, hat, _, r⟩
 · exact ⟨none, 0, rfl, by simp⟩
 · exact ⟨_, _, rfl, r⟩
theorem Own.rd {w : World} {a : Option Addr} {n c size : Nat} {vs : List Value} (h : Own w (.slice a n c) n size vs) : Rd w a vs := fun i hi => by
 rcases h.2 with ⟨_, rfl⟩ | ⟨g, cap, sp, hv, hat, _⟩
 · have := h.1; simp at this; simp [this] at hi
 · simp only [Value.slice.injEq, true_and] at hv
   obtain ⟨rfl, rfl⟩ := hv
   refine ⟨g, 0, rfl, ?_⟩
   rw [hat.cell, Nat.zero_add, List.getElem?_append_left hi, List.getD_eq_getElem?_getD, List.getElem?_eq_getElem hi]; rfl
def BlkP (p : Value → Prop) (w : World) (v : Value) : Prop := ∀ g, v.ownBlock = some g → ∃ cs, At w g cs ∧ ∀ u ∈ cs, p u
theorem BlkP.kp {p : Value → Prop} {S : Nat → Prop} {w w' : World} {v : Value} (h : BlkP p w v) (hk : Kp S w w') (hs : ∀ g, v.ownBlock = some g → ¬ S g) : BlkP p w' v := fun g hg => by
 obtain ⟨cs, ha, hp⟩ := h g hg; exact ⟨cs, hk.at ha (hs g hg), hp⟩
theorem BlkP.nil (p : Value → Prop) (w : World) (n c : Nat) : BlkP p w (.slice none n c) := fun g hg => by simp [Value.ownBlock] at hg
theorem At.inj {w : World} {b : Nat} {cs ds : List Value} (h : At w b cs) (k : At w b ds) : cs = ds := by
 obtain ⟨T, h⟩ := h
 obtain ⟨T', k⟩ := k
 rw [h] at k
 simp at k
 exact k.1
theorem zeros_mem (z : Value) (n : Nat) : ∀ u ∈ zeros z n, u ∈ z.cells := fun u hu => by
 simp only [zeros, Builtin.zeroCells, Array.toList_map, Array.toList_range, List.mem_map, List.mem_range] at hu
 obtain ⟨i, hi, rfl⟩ := hu
 have h0 : 0 < z.cells.size := by
  rcases Nat.eq_zero_or_pos z.cells.size with h | h
  · rw [h] at hi; omega
  · exact h
 rw [getElem!_pos z.cells _ (Nat.mod_lt _ h0)]
 exact Array.getElem_mem _

theorem src_of_rd {size : Nat} {tx e' : TypeId} (hk : P.underlying tx = some (.slice e')) {a : Option Addr} {n c : Nat} {news : List Value} (hl : news.length = n * size) (hs : 0 < size) (hr : Rd w a news) (h1 : ∀ u ∈ news, u.oneCell' = true) :
 Src P size tx (.slice a n c) n news w := by
 by_cases h0 : n = 0
 · subst h0
   obtain rfl : news = [] := List.eq_nil_of_length_eq_zero (by simpa using hl)
   rcases a with _ | a
   · exact Src.ofNil w hk c
   · exact Src.ofSlice w hk a 0 c [] (by simp) (by simp) (by simp)
 · obtain ⟨b, o, rfl, _⟩ := hr 0 (by rw [hl]; exact Nat.mul_pos (by omega) hs)
   refine Src.ofSlice w hk _ n c news hl (fun j v hv => ?_) h1
   have hj : j < news.length := (List.getElem?_eq_some_iff.1 hv).1
   obtain ⟨b', o', e, hc⟩ := hr j hj
   simp only [Option.some.injEq, Addr.mk.injEq, and_true] at e
   obtain ⟨rfl, rfl⟩ := e
   rw [Addr.add_mid, hc, List.getD_eq_getElem?_getD, hv]; rfl

theorem run_append_src {t tx ty e : TypeId} {z : Value} {size bytes : Nat} (ht : P.underlying t = some (.slice e)) (he : Elem P e z size bytes) {v : Value} {n : Nat} {vs : List Value} (ho : Own w v n size vs)
 {x : Value} {m : Nat} {news : List Value} (hs : Src P size tx x m news w) (hn : n + m ≤ maxLen) (hb : (n + m) * bytes ≤ 140737488355328) :
 ∃ v' w', (Builtin.append_ #[t, tx] ty #[v, x]).run P w = .ok v' w' ∧ Own w' v' (n + m) size (vs ++ news) ∧ Kp (fun k => v.ownBlock = some k) w w' ∧
  (v'.ownBlock = v.ownBlock ∨ v'.ownBlock = some w.heap.size) ∧ (∀ p : Value → Prop, (∀ u ∈ z.cells, p u) → (∀ u ∈ vs ++ news, p u) → BlkP p w v → BlkP p w' v') := by
 obtain ⟨h1, h2, h3, i, hi, hz, hsz, hby⟩ := he
 subst hsz
 subst hby
 have hlen : (vs ++ news).length = (n + m) * i.size := by rw [List.length_append, ho.1, hs.newsLen, Nat.add_mul]
 have grow : ∀ (base : Option Addr) (cap : Nat), cap < n + m → (Builtin.firstCells i.size n (.slice base n cap)).run P w.drew = .ok vs.toArray w.drew →
  ∃ v' w', (Builtin.append_ #[t, tx] ty #[.slice base n cap, x]).run P w = .ok v' w' ∧ Own w' v' (n + m) i.size (vs ++ news) ∧ Kp (fun _ => False) w w' ∧ v'.ownBlock = some w.heap.size ∧ (∀ p : Value → Prop, (∀ u ∈ z.cells, p u) → (∀ u ∈ vs ++ news, p u) → BlkP p w' v') := by
  intro base cap hlt hf
  have hge := grownCap_ge w (n + m) cap e
  have hcm : grownCap w (n + m) cap e ≤ maxLen := grownCap_le_maxLen w (n + m) cap e hn
  refine ⟨_, _, run_append_grow_src (P := P) w t tx ty e i z ht hi hz base n cap vs hf x m news hs hlt (by simp only [maxLen] at hn; omega) (growslice_fits hlt hb), ⟨hlen, .inr ⟨w.heap.size, _, zeros z (grownCap w (n + m) cap e - (n + m)), rfl, ?_, ?_, hge, hcm⟩⟩, ?_, rfl, ?_⟩
  · refine ⟨e, ?_⟩
    show (w.drew.alloc _).heap[w.drew.heap.size]? = _
    rw [heap_alloc_new w.drew _]
    simp [zeros]
  · rw [zeros_length, h1]
  · exact ((Kp.refl _ w).drew).alloc _
  · intro p hp1 hp2 g hg
    simp only [Value.ownBlock, Option.some.injEq] at hg
    subst hg
    refine ⟨(vs ++ news) ++ zeros z (grownCap w (n + m) cap e - (n + m)), ⟨e, ?_⟩, fun u hu => ?_⟩
    · show (w.drew.alloc _).heap[w.drew.heap.size]? = _
      rw [heap_alloc_new w.drew _]
      simp [zeros]
    · rcases List.mem_append.1 hu with h' | h'
      · exact hp2 u h'
      · exact hp1 u (zeros_mem z _ u h')
 rcases ho.2 with ⟨rfl, rfl⟩ | ⟨g, cap, sp, rfl, hat, hsp, hle, hcm⟩
 · have hvs : vs = [] := List.eq_nil_of_length_eq_zero (by simpa using ho.1)
   subst hvs
   by_cases hm : m = 0
   · subst hm
     have hnn : news = [] := List.eq_nil_of_length_eq_zero (by simpa using hs.newsLen)
     subst hnn
     refine ⟨.slice none 0 0, w, ?_, by simpa using Own.nil w i.size, Kp.refl _ w, .inl rfl, fun _ _ _ h => h⟩
     have hc := hs.cells
     rcases hs.kind with ⟨e', hk⟩ | hk <;> simp [Builtin.append_, run_underlying ht, run_underlying hk, sizeOf, typeInfo, hi, hs.len, hc]
   · obtain ⟨v', w', r1, r2, r3, r4, r5⟩ := grow none 0 (by omega) (run_firstCells_none w.drew i.size 0 0 0)
     exact ⟨v', w', r1, r2, r3.mono (fun _ _ h => h.elim), .inr r4, fun p h1 h2 _ => r5 p h1 h2⟩
 · by_cases hroom : n + m ≤ cap
   · have hfit : n * i.size + news.length ≤ (vs ++ sp).length := by
      rw [List.length_append, ho.1, hs.newsLen, hsp]
      have : m * i.size ≤ (cap - n) * i.size := Nat.mul_le_mul_right _ (by omega)
      omega
     refine ⟨_, _, run_append_room_src (P := P) w t tx ty e i ht hi g 0 n cap x m news hs hroom ?_ ?_, ⟨hlen, .inr ⟨g, cap, sp.drop news.length, rfl, ?_, ?_, hroom, hcm⟩⟩, ?_, .inl rfl, ?_⟩
     · intro j hj
       rw [hat.cell, List.getElem?_eq_getElem (by omega)]; rfl
     · intro j _; exact hat.frozen _
     · have := hat.setCells news (n * i.size) hfit
       rw [Nat.zero_add]
       rw [List.take_append_of_le_length (by rw [ho.1]; exact Nat.le_refl _), List.take_of_length_le (by rw [ho.1]; exact Nat.le_refl _), List.drop_append, List.drop_eq_nil_of_le (by rw [ho.1]; omega), List.nil_append, ho.1, Nat.add_sub_cancel_left] at this
       exact this
     · rw [List.length_drop, hsp, hs.newsLen, ← Nat.sub_mul]; congr 1; omega
     · exact Kp.setCells (S := fun k => (Value.slice (some ⟨g, 0, none⟩) n cap).ownBlock = some k) (fun _ => rfl) _ _ (Kp.refl _ w)
     · intro p hp1 hp2 hbp g' hg'
       simp only [Value.ownBlock, Option.some.injEq] at hg'
       subst hg'
       obtain ⟨cs, hcs, hpc⟩ := hbp g rfl
       have e := hat.inj hcs
       subst e
       refine ⟨_, by rw [Nat.zero_add]; exact hat.setCells news (n * i.size) hfit, fun u hu => ?_⟩
       rcases List.mem_append.1 hu with h' | h'
       · rcases List.mem_append.1 h' with h'' | h''
         · exact hpc u (List.mem_of_mem_take h'')
         · exact hp2 u (List.mem_append.2 (.inr h''))
       · exact hpc u (List.mem_of_mem_drop h')
   · have hcells : ∀ j u, vs[j]? = some u → w.drew.cell? ((⟨g, 0, none⟩ : Addr).add j) = some u := fun j u hu => by
      rw [Addr.add_mid, World.cell?_drew, hat.cell, Nat.zero_add, List.getElem?_append_left (List.getElem?_eq_some_iff.1 hu).1]; exact hu
     obtain ⟨v', w', r1, r2, r3, r4, r5⟩ := grow (some ⟨g, 0, none⟩) cap (by omega) (run_firstCells_some (P := P) w.drew i.size n _ n cap vs ho.1 hcells)
     exact ⟨v', w', r1, r2, r3.mono (fun _ _ h => h.elim), .inr r4, fun p h1 h2 _ => r5 p h1 h2⟩
theorem wpList_append_run {ops : Array Oper} {rest : List Oper} {o : Oper} {a : Act} {Q : Exit → Act → World → Prop} {s x : Operand} {t tx : TypeId} {w' : World} {v X v' : Value}
 (hrun : (Builtin.append_ #[t, tx] o.type #[v, X]).run P w = .ok v' w') (hgd : Region.wanted o (yielded ops a.tmps) = true) (ho : o.op = .call { callee := .builtin .append, args := #[s, x], argTypes := #[t, tx] })
 (hs : a.eval s = v) (hx : a.eval x = X) (h : wpList P ops Q rest (a.put o.dst v') w') : wpList P ops Q (o :: rest) a w := by
 refine wpList_step fun K hK => ?_
 rw [if_pos hgd]
 unfold Oper.wp execOp
 simp only [ho, resolve, invoke, builtin, Sem.run_bind, Sem.run_pure, Result.andThen_ok, List.map_toArray, List.map_cons, List.map_nil, hs, hx, hrun]
 exact hK _ _ h
theorem step_append_run {ops : Array Oper} {o : Oper} {a : Act} {K : Act → World → Prop} {Q : Exit → Act → World → Prop} {E : Prop} {s x : Operand} {t tx : TypeId} {w' : World} {v X v' : Value}
 (hrun : (Builtin.append_ #[t, tx] o.type #[v, X]).run P w = .ok v' w') (hgd : Region.wanted o (yielded ops a.tmps) = true) (ho : o.op = .call { callee := .builtin .append, args := #[s, x], argTypes := #[t, tx] })
 (hs : a.eval s = v) (hx : a.eval x = X) (h : K (a.put o.dst v') w') : if Region.wanted o (yielded ops a.tmps) = true then Oper.wp P o a w K Q else E := by
 rw [if_pos hgd]
 unfold Oper.wp execOp
 simp only [ho, resolve, invoke, builtin, Sem.run_bind, Sem.run_pure, Result.andThen_ok, List.map_toArray, List.map_cons, List.map_nil, hs, hx, hrun]
 exact h

theorem run_append_at {t tx ty e e' : TypeId} {z : Value} {size bytes : Nat} (ht : P.underlying t = some (.slice e)) (he : Elem P e z size bytes) (hk : P.underlying tx = some (.slice e')) {v : Value} {n : Nat} {vs : List Value} (ho : Own w v n size vs)
 {a : Option Addr} {m c : Nat} {news : List Value} (hl : news.length = m * size) (hr : Rd w a news) (h1 : ∀ u ∈ news, u.oneCell' = true) (hn : n + m ≤ maxLen) (hb : (n + m) * bytes ≤ 140737488355328) :
 ∃ v' w', (Builtin.append_ #[t, tx] ty #[v, .slice a m c]).run P w = .ok v' w' ∧ Own w' v' (n + m) size (vs ++ news) ∧ Kp (fun k => v.ownBlock = some k) w w' ∧
  (v'.ownBlock = v.ownBlock ∨ v'.ownBlock = some w.heap.size) ∧ (∀ p : Value → Prop, (∀ u ∈ z.cells, p u) → (∀ u ∈ vs ++ news, p u) → BlkP p w v → BlkP p w' v') :=
 run_append_src w ht he ho (src_of_rd w hk hl he.2.1 hr h1) hn hb
end
def isB (u : Value) : Prop := ∃ n : Int, u = .int .u8 n ∧ 0 ≤ n ∧ n ≤ 255
structure OwnB (w : World) (v : Value) (l : List Int) : Prop where
 own : Own w v l.length 1 (l.map (Value.int .u8))
 blk : BlkP isB w v
 byt : Byt l
 len : l.length ≤ 1000000000
theorem OwnB.kp {S : Nat → Prop} {w w' : World} {v : Value} {l : List Int} (h : OwnB w v l) (hk : Kp S w w') (hs : ∀ g, v.ownBlock = some g → ¬ S g) : OwnB w' v l :=
 ⟨h.own.kp hk hs, h.blk.kp hk hs, h.byt, h.len⟩
theorem isB_map {l : List Int} (h : Byt l) : ∀ u ∈ l.map (Value.int .u8), isB u := fun u hu => by
 obtain ⟨n, hn, rfl⟩ := List.mem_map.1 hu
 exact ⟨n, rfl, h n hn⟩
theorem isB_zero : ∀ u ∈ (Value.int .u8 0).cells, isB u := fun u hu => by
 simp [Value.cells] at hu; subst hu; exact ⟨0, rfl, by omega, by omega⟩
theorem OwnB.form {w : World} {v : Value} {l : List Int} (h : OwnB w v l) : ∃ a c, v = .slice a l.length c ∧ RdB w a l ∧ l.length ≤ c := by
 obtain ⟨a, c, rfl, h1, h2⟩ := h.own.form
 have hlen := h.len
 refine ⟨a, c, rfl, ⟨fun i hi => ?_, h.byt, by omega⟩, h1⟩
 obtain ⟨b, off, ha, hc⟩ := h.own.rd i (by simpa using hi)
 exact ⟨b, off, ha, by rw [hc]; simp [List.getD_eq_getElem?_getD, List.getElem?_eq_getElem hi]⟩
theorem OwnB.lt {w : World} {v : Value} {l : List Int} (h : OwnB w v l) : ∀ g, v.ownBlock = some g → g < w.heap.size := h.own.lt

theorem inone_nil (w : World) : Calls Tryz.prog 57 #[.pointer none] w fun e w' => e = .returned (.bool true) ∧ w = w' := by
 go_enter Tryz.func57, Tryz.ntmps57
 go_wp2
 go_ret
 exact ⟨rfl, rfl⟩
theorem inone_at (b : Nat) (s : Int) (w : World) (h : w.cell? ⟨b, 0, none⟩ = some (.int .i64 s)) :
 Calls Tryz.prog 57 #[.pointer (some ⟨b, 0, none⟩)] w fun e w' => e = .returned (.bool (s == 0)) ∧ w = w' := by
 go_enter Tryz.func57, Tryz.ntmps57
 go_wp2
 go_ret
 exact ⟨rfl, rfl⟩
theorem next_un (b : Nat) (w : World) (h0 : w.cell? ⟨b, 0, none⟩ = some (.int .i64 0)) : Calls Tryz.prog 46 #[.pointer (some ⟨b, 0, none⟩)] w fun e w' => e = .returned (.int .i64 0) ∧ w = w' := by
 go_enter Tryz.func46, Tryz.ntmps46
 go_wp2_with (go_at_call 57; refine (inone_at b 0 _ h0).mono ?_; rintro e w' ⟨rfl, rfl⟩)
 go_ret
 exact ⟨rfl, rfl⟩
theorem next_at (b : Nat) (s n : Int) (w : World) (h0 : w.cell? ⟨b, 0, none⟩ = some (.int .i64 s)) (h1 : w.cell? ⟨b, 1, none⟩ = some (.int .i64 n)) (hs : (s == 0) = false) : Calls Tryz.prog 46 #[.pointer (some ⟨b, 0, none⟩)] w fun e w' => e = .returned (.int .i64 n) ∧ w = w' := by
 go_enter Tryz.func46, Tryz.ntmps46
 go_wp2_with (go_at_call 57; refine (inone_at b s _ h0).mono ?_; rintro e w' ⟨rfl, rfl⟩)
 go_ret
 exact ⟨rfl, rfl⟩
theorem ahead_ge (b : Nat) (s n seq : Int) (w : World) (h0 : w.cell? ⟨b, 0, none⟩ = some (.int .i64 s)) (h1 : w.cell? ⟨b, 1, none⟩ = some (.int .i64 n)) (hge : n ≤ seq) (hn : 0 ≤ n) (hseq : seq ≤ 9223372036854775807) : Calls Tryz.prog 127 #[.pointer (some ⟨b, 0, none⟩), .int .i64 seq] w fun e w' => e = .returned (.bool (decide (seq - n < s))) ∧ ∃ m, w' = w.drewN m := by
 have hd : IntKind.i64.wrap (seq - n) = seq - n := IntWalk.i64_in _ (by omega)
 go_enter Tryz.func127, Tryz.ntmps127
 go_wp2_with fail
 go_quiet (fail)
 go_wp2
 go_ret
 exact ⟨rfl, _, rfl⟩
theorem has_neg (b : Nat) (s seq : Int) (w : World) (h0 : w.cell? ⟨b, 0, none⟩ = some (.int .i64 s)) (hs : (s == 0) = false) (h : seq < 1) : Calls Tryz.prog 126 #[.pointer (some ⟨b, 0, none⟩), .int .i64 seq] w fun e w' => e = .returned (.bool false) ∧ ∃ m, w' = w.drewN m := by
 go_enter Tryz.func126, Tryz.ntmps126
 go_wp2_with (go_at_call 57; refine (inone_at b s _ h0).mono ?_; rintro e w' ⟨rfl, rfl⟩)
 go_ret
 exact ⟨rfl, 0, rfl⟩
theorem has_old (b : Nat) (s n seq : Int) (w : World) (h0 : w.cell? ⟨b, 0, none⟩ = some (.int .i64 s)) (h1 : w.cell? ⟨b, 1, none⟩ = some (.int .i64 n)) (hs : (s == 0) = false) (h : 1 ≤ seq) (h' : seq < n) : Calls Tryz.prog 126 #[.pointer (some ⟨b, 0, none⟩), .int .i64 seq] w fun e w' => e = .returned (.bool true) ∧ ∃ m, w' = w.drewN m := by
 have hd : decide (seq < n) = true := by simpa using h'
 go_enter Tryz.func126, Tryz.ntmps126
 go_wp2_with (go_at_call 57; refine (inone_at b s _ h0).mono ?_; rintro e w' ⟨rfl, rfl⟩)
 go_ret
 exact ⟨rfl, 0, rfl⟩
theorem has_far (b : Nat) (s n seq : Int) (w : World) (h0 : w.cell? ⟨b, 0, none⟩ = some (.int .i64 s)) (h1 : w.cell? ⟨b, 1, none⟩ = some (.int .i64 n)) (hs : (s == 0) = false) (hn : 1 ≤ n) (h : n ≤ seq) (h' : s ≤ seq - n) (hseq : seq ≤ 9223372036854775807) : Calls Tryz.prog 126 #[.pointer (some ⟨b, 0, none⟩), .int .i64 seq] w fun e w' => e = .returned (.bool false) ∧ ∃ m, w' = w.drewN m := by
 have hd : decide (seq - n < s) = false := by simp; omega
 have C := ahead_ge b s n seq w h0 h1 h (by omega) hseq
 rw [hd] at C
 have C' := Lib.hid C
 have hd' : decide (seq < n) = false := by simp; omega
 clear C hd
 go_enter Tryz.func126, Tryz.ntmps126
 go_wp2_with (first | (go_at_call 57; refine (inone_at b s _ h0).mono ?_; rintro e w' ⟨rfl, rfl⟩) | (go_at_call 127; refine C'.out.mono ?_; rintro e w' ⟨rfl, m, rfl⟩))
 go_ret
 exact ⟨rfl, _, rfl⟩
theorem has_in (b : Nat) (s n : Int) (k : Nat) (t : Bool) (w : World) (h0 : w.cell? ⟨b, 0, none⟩ = some (.int .i64 s)) (h1 : w.cell? ⟨b, 1, none⟩ = some (.int .i64 n)) (hs : (s == 0) = false) (hn : 1 ≤ n) (h : n ≤ k) (h' : (k : Int) - n < s) (hseq : (k : Int) ≤ 9223372036854775807) (hc : w.cell? ⟨b, 4 + 2 * (k % 64), none⟩ = some (.bool t)) :
 Calls Tryz.prog 126 #[.pointer (some ⟨b, 0, none⟩), .int .i64 k] w fun e w' => e = .returned (.bool t) ∧ ∃ m, w' = w.drewN m := by
 have hd : decide ((k : Int) - n < s) = true := by simp; omega
 have C := ahead_ge b s n k w h0 h1 h (by omega) hseq
 rw [hd] at C
 have C' := Lib.hid C
 have hd' : decide ((k : Int) < n) = false := by simp; omega
 have e0 : 0 ≤ (k : Int) % 64 := by omega
 have e1 : (k : Int) % 64 < 64 := by omega
 have e2 : ((k : Int) % 64).toNat = k % 64 := by omega
 rw [show 4 + 2 * (k % 64) = 3 + k % 64 * 2 + 1 by omega] at hc
 clear C hd
 go_enter Tryz.func126, Tryz.ntmps126
 go_wp2_with (first | (go_at_call 57; refine (inone_at b s _ h0).mono ?_; rintro e w' ⟨rfl, rfl⟩) | (go_at_call 127; refine C'.out.mono ?_; rintro e w' ⟨rfl, m, rfl⟩))
 go_ret
 exact ⟨rfl, m, rfl⟩

abbrev Bodies := Nat → Option (List Int)
def cn (f : Bodies) (n : Nat) : Nat → Nat
 | 0 => 0
 | m + 1 => cn f n m + if (f (n + m)).isSome then 1 else 0
theorem cn_front (f : Bodies) (n : Nat) : ∀ m, cn f n (m + 1) = (if (f n).isSome then 1 else 0) + cn f (n + 1) m
 | 0 => by simp [cn]
 | m + 1 => by
  rw [cn, cn_front f n m, cn, Nat.add_assoc, show n + (m + 1) = n + 1 + m by omega]
theorem cn_le (f : Bodies) (n : Nat) : ∀ m, cn f n m ≤ m
 | 0 => Nat.le_refl _
 | m + 1 => by have := cn_le f n m; rw [cn]; split <;> omega
def put (f : Bodies) (q : Nat) (b : List Int) : Bodies := fun k => if k = q then some b else f k
theorem put_same (f : Bodies) (q : Nat) (b : List Int) : put f q b q = some b := by simp [put]
theorem put_ne (f : Bodies) {q k : Nat} (b : List Int) (h : k ≠ q) : put f q b k = f k := by simp [put, h]
theorem cn_put (f : Bodies) (q : Nat) (b : List Int) (n : Nat) (h : f q = none) : ∀ m, n ≤ q → q < n + m → cn (put f q b) n m = cn f n m + 1
 | 0, h1, h2 => by omega
 | m + 1, h1, h2 => by
  rw [cn, cn]
  by_cases hq : q = n + m
  · subst hq
    rw [put_same, h]
    have : ∀ j, j ≤ m → cn (put f (n + m) b) n j = cn f n j := by
     intro j
     induction j with
     | zero => intro _; rfl
     | succ j ih => intro hj; rw [cn, cn, ih (by omega), put_ne _ _ (by omega)]
    simp [this m (Nat.le_refl _)]
  · rw [cn_put f q b n h m h1 (by omega), put_ne _ _ (by omega)]; omega

def sl (k : Nat) : Nat := 3 + 2 * (k % 64)
def fl (k : Nat) : Nat := 4 + 2 * (k % 64)
theorem sl_lt (k : Nat) : sl k < 131 ∧ fl k < 131 := by unfold sl fl; omega

structure InbC (w : World) (b : Nat) (c : Nat → Value) (size : Nat) (f : Bodies) (n hd : Nat) (F : Nat → Prop) : Prop where
 at_ : AtF w b 131 c
 sz : c 0 = .int .i64 size
 nx : c 1 = .int .i64 n
 hl : c 2 = .int .i64 hd
 size_bd : 1 ≤ size ∧ size ≤ 64
 n_bd : 1 ≤ n ∧ n ≤ 2147483647
 low : ∀ k, 1 ≤ k → k < n → f k ≠ none
 zero : f 0 = none
 high : ∀ k, n + size ≤ k → f k = none
 top : ∀ k, 2147483647 ≤ k → f k = none
 cnt : hd = cn f n size
 flag : ∀ k, n ≤ k → k < n + 64 → c (fl k) = .bool (f k).isSome
 body : ∀ k l, n ≤ k → k < n + 64 → f k = some l → OwnB w (c (sl k)) l ∧ ∀ g, (c (sl k)).ownBlock = some g → F g ∧ g ≠ b
 dist : ∀ k k' g, n ≤ k → k < n + 64 → n ≤ k' → k' < n + 64 → f k ≠ none → f k' ≠ none → (c (sl k)).ownBlock = some g → (c (sl k')).ownBlock = some g → k = k'
 base : F b
 lt : ∀ k, F k → k < w.heap.size

theorem InbC.kp {S : Nat → Prop} {w w' : World} {b : Nat} {c : Nat → Value} {size : Nat} {f : Bodies} {n hd : Nat} {F : Nat → Prop} (h : InbC w b c size f n hd F) (hk : Kp S w w') (hS : ∀ k, F k → ¬ S k) : InbC w' b c size f n hd F :=
 { h with
   at_ := hk.atF h.at_ (hS b h.base)
   body := fun k l h1 h2 h3 => by
    obtain ⟨a1, a4⟩ := h.body k l h1 h2 h3
    exact ⟨a1.kp hk (fun g hg => hS g (a4 g hg).1), a4⟩
   lt := fun k hk' => Nat.lt_of_lt_of_le (h.lt k hk') hk.size }
def InbAt (w : World) (b size : Nat) (f : Bodies) (n hd : Nat) (F : Nat → Prop) : Prop := (∃ c, InbC w b c size f n hd F) ∧ f n = none
theorem InbAt.kp {S : Nat → Prop} {w w' : World} {b size : Nat} {f : Bodies} {n hd : Nat} {F : Nat → Prop} (h : InbAt w b size f n hd F) (hk : Kp S w w') (hS : ∀ k, F k → ¬ S k) : InbAt w' b size f n hd F :=
 ⟨h.1.elim fun c hc => ⟨c, hc.kp hk hS⟩, h.2⟩
def hasI (f : Bodies) (q : Int) : Bool := decide (0 ≤ q) && (f q.toNat).isSome
theorem InbC.step {w w' : World} {b : Nat} {c : Nat → Value} {size : Nat} {f : Bodies} {n hd : Nat} {F : Nat → Prop} (h : InbC w b c size f n hd F) {l : List Int} (hl : f n = some l)
 {S : Nat → Prop} (hk : Kp S w w') (hS : ∀ k, F k → ¬ S k) :
 InbC ((((w'.setCell ⟨b, sl n, none⟩ (.slice none 0 0)).setCell ⟨b, fl n, none⟩ (.bool false)).setCell ⟨b, 1, none⟩ (.int .i64 (n + 1 : Nat))).setCell ⟨b, 2, none⟩ (.int .i64 (hd - 1 : Nat))) b
  (upd (upd (upd (upd c (sl n) (.slice none 0 0)) (fl n) (.bool false)) 1 (.int .i64 (n + 1 : Nat))) 2 (.int .i64 (hd - 1 : Nat))) size f (n + 1) (hd - 1) (fun k => F k ∧ (c (sl n)).ownBlock ≠ some k) := by
 have hlt : n < 2147483647 := by
  rcases Nat.lt_or_ge n 2147483647 with h' | h'
  · exact h'
  · rw [h.top n h'] at hl; cases hl
 have hK : Kp (· = b) w' ((((w'.setCell ⟨b, sl n, none⟩ (.slice none 0 0)).setCell ⟨b, fl n, none⟩ (.bool false)).setCell ⟨b, 1, none⟩ (.int .i64 (n + 1 : Nat))).setCell ⟨b, 2, none⟩ (.int .i64 (hd - 1 : Nat))) :=
  ((((Kp.refl (· = b) w').setCell (p := ⟨b, sl n, none⟩) (fun _ => rfl) _).setCell (p := ⟨b, fl n, none⟩) (fun _ => rfl) _).setCell (p := ⟨b, 1, none⟩) (fun _ => rfl) _).setCell (p := ⟨b, 2, none⟩) (fun _ => rfl) _
 have hat := hk.atF h.at_ (hS b h.base)
 have e1 : sl n ≠ 0 ∧ sl n ≠ 1 ∧ sl n ≠ 2 ∧ fl n ≠ 0 ∧ fl n ≠ 1 ∧ fl n ≠ 2 := by unfold sl fl; omega
 have key : ∀ k, n < k → k < n + 64 → sl k ≠ sl n ∧ sl k ≠ fl n ∧ fl k ≠ sl n ∧ fl k ≠ fl n ∧ sl k ≠ 1 ∧ sl k ≠ 2 ∧ fl k ≠ 1 ∧ fl k ≠ 2 := fun k h1 h2 => by unfold sl fl; omega
 have keep : ∀ k, n < k → k < n + 64 → (upd (upd (upd (upd c (sl n) (.slice none 0 0)) (fl n) (.bool false)) 1 (.int .i64 (n + 1 : Nat))) 2 (.int .i64 (hd - 1 : Nat))) (sl k) = c (sl k) ∧
  (upd (upd (upd (upd c (sl n) (.slice none 0 0)) (fl n) (.bool false)) 1 (.int .i64 (n + 1 : Nat))) 2 (.int .i64 (hd - 1 : Nat))) (fl k) = c (fl k) := fun k h1 h2 => by
  obtain ⟨a1, a2, a3, a4, a5, a6, a7, a8⟩ := key k h1 h2
  exact ⟨by rw [upd_ne _ _ a6, upd_ne _ _ a5, upd_ne _ _ a2, upd_ne _ _ a1], by rw [upd_ne _ _ a8, upd_ne _ _ a7, upd_ne _ _ a4, upd_ne _ _ a3]⟩
 have hnone : ∀ k, n + 1 + size ≤ k → f k = none := fun k hk => h.high k (by omega)
 have hend : f (n + 64) = none := h.high _ (by have := h.size_bd; omega)
 have some_lt : ∀ k, n + 1 ≤ k → k < n + 1 + 64 → f k ≠ none → n < k ∧ k < n + 64 := fun k h1 h2 h3 => by
  refine ⟨by omega, ?_⟩
  rcases Nat.lt_or_ge k (n + 64) with h' | h'
  · exact h'
  · exact absurd (show f k = none by rw [show k = n + 64 by omega]; exact hend) h3
 refine ⟨?_, ?_, ?_, ?_, h.size_bd, ⟨by omega, by omega⟩, ?_, h.zero, hnone, h.top, ?_, ?_, ?_, ?_, ?_, ?_⟩
 · exact (((hat.set _ _).set _ _).set _ _).set _ _
 · rw [upd_ne _ _ (by omega), upd_ne _ _ (by omega), upd_ne _ _ e1.2.2.2.1.symm, upd_ne _ _ e1.1.symm]; exact h.sz
 · rw [upd_ne _ _ (by omega), upd_same]
 · rw [upd_same]
 · intro k h1 h2
   by_cases hkn : k = n
   · subst hkn; rw [hl]; simp
   · exact h.low k h1 (by omega)
 · rw [h.cnt]
   have hc := cn_front f n size
   rw [cn, h.high (n + size) (Nat.le_refl _), hl] at hc
   simp at hc
   omega
 · intro k h1 h2
   by_cases hk64 : k = n + 64
   · subst hk64
     rw [show fl (n + 64) = fl n by unfold fl; omega, upd_ne _ _ e1.2.2.2.2.2, upd_ne _ _ e1.2.2.2.2.1, upd_same, hend]; rfl
   · rw [(keep k (by omega) (by omega)).2]
     exact h.flag k (by omega) (by omega)
 · intro k l' h1 h2 h3
   obtain ⟨h1', h2'⟩ := some_lt k h1 h2 (by rw [h3]; simp)
   rw [(keep k h1' h2').1]
   obtain ⟨a1, a4⟩ := h.body k l' (by omega) h2' h3
   refine ⟨(a1.kp hk (fun g hg => hS g (a4 g hg).1)).kp hK (fun g hg => (a4 g hg).2), fun g hg => ⟨⟨(a4 g hg).1, fun e => ?_⟩, (a4 g hg).2⟩⟩
   have := h.dist n k g (by omega) (by omega) (by omega) h2' (by rw [hl]; simp) (by rw [h3]; simp) e hg
   omega
 · intro k k' g h1 h2 h3 h4 h5 h6 h7 h8
   obtain ⟨h1', h2'⟩ := some_lt k h1 h2 h5
   obtain ⟨h3', h4'⟩ := some_lt k' h3 h4 h6
   rw [(keep k h1' h2').1] at h7
   rw [(keep k' h3' h4').1] at h8
   exact h.dist k k' g (by omega) h2' (by omega) h4' h5 h6 h7 h8
 · refine ⟨h.base, fun e => ?_⟩
   obtain ⟨_, a4⟩ := h.body n l (Nat.le_refl _) (by omega) hl
   exact (a4 b e).2 rfl
 · intro k hk'
   exact Nat.lt_of_lt_of_le (h.lt k hk'.1) (Nat.le_trans hk.size hK.size)
theorem InbC.put {w w' : World} {b : Nat} {c : Nat → Value} {size : Nat} {f : Bodies} {n hd : Nat} {F : Nat → Prop} (h : InbC w b c size f n hd F) {q : Nat} {l : List Int} {v : Value}
 (hq : n ≤ q) (hq2 : q < n + size) (hq3 : q < 2147483647) (hf : f q = none) {S : Nat → Prop} (hk : Kp S w w') (hS : ∀ k, F k → ¬ S k)
 (ho : OwnB w' v l) (hv : ∀ g, v.ownBlock = some g → w.heap.size ≤ g) :
 InbC (((w'.setCell ⟨b, sl q, none⟩ v).setCell ⟨b, fl q, none⟩ (.bool true)).setCell ⟨b, 2, none⟩ (.int .i64 (hd + 1 : Nat))) b
  (upd (upd (upd c (sl q) v) (fl q) (.bool true)) 2 (.int .i64 (hd + 1 : Nat))) size (put f q l) n (hd + 1) (fun k => F k ∨ v.ownBlock = some k) := by
 have hsb := h.size_bd
 have hK : Kp (· = b) w' (((w'.setCell ⟨b, sl q, none⟩ v).setCell ⟨b, fl q, none⟩ (.bool true)).setCell ⟨b, 2, none⟩ (.int .i64 (hd + 1 : Nat))) :=
  (((Kp.refl (· = b) w').setCell (p := ⟨b, sl q, none⟩) (fun _ => rfl) _).setCell (p := ⟨b, fl q, none⟩) (fun _ => rfl) _).setCell (p := ⟨b, 2, none⟩) (fun _ => rfl) _
 have hat := hk.atF h.at_ (hS b h.base)
 have hbw := h.at_.lt
 have e1 : sl q ≠ 0 ∧ sl q ≠ 1 ∧ sl q ≠ 2 ∧ fl q ≠ 0 ∧ fl q ≠ 1 ∧ fl q ≠ 2 ∧ sl q ≠ fl q := by unfold sl fl; omega
 have keep : ∀ k, n ≤ k → k < n + 64 → k ≠ q → (upd (upd (upd c (sl q) v) (fl q) (.bool true)) 2 (.int .i64 (hd + 1 : Nat))) (sl k) = c (sl k) ∧
  (upd (upd (upd c (sl q) v) (fl q) (.bool true)) 2 (.int .i64 (hd + 1 : Nat))) (fl k) = c (fl k) := fun k h1 h2 h3 => by
  have a : sl k ≠ sl q ∧ sl k ≠ fl q ∧ fl k ≠ sl q ∧ fl k ≠ fl q ∧ sl k ≠ 2 ∧ fl k ≠ 2 := by unfold sl fl; omega
  exact ⟨by rw [upd_ne _ _ a.2.2.2.2.1, upd_ne _ _ a.2.1, upd_ne _ _ a.1], by rw [upd_ne _ _ a.2.2.2.2.2, upd_ne _ _ a.2.2.2.1, upd_ne _ _ a.2.2.1]⟩
 have here : (upd (upd (upd c (sl q) v) (fl q) (.bool true)) 2 (.int .i64 (hd + 1 : Nat))) (sl q) = v ∧ (upd (upd (upd c (sl q) v) (fl q) (.bool true)) 2 (.int .i64 (hd + 1 : Nat))) (fl q) = .bool true :=
  ⟨by rw [upd_ne _ _ e1.2.2.1, upd_ne _ _ e1.2.2.2.2.2.2, upd_same], by rw [upd_ne _ _ e1.2.2.2.2.2.1, upd_same]⟩
 refine ⟨?_, ?_, ?_, ?_, h.size_bd, h.n_bd, ?_, ?_, ?_, ?_, ?_, ?_, ?_, ?_, .inl h.base, ?_⟩
 · exact ((hat.set _ _).set _ _).set _ _
 · rw [upd_ne _ _ (by omega), upd_ne _ _ e1.2.2.2.1.symm, upd_ne _ _ e1.1.symm]; exact h.sz
 · rw [upd_ne _ _ (by omega), upd_ne _ _ e1.2.2.2.2.1.symm, upd_ne _ _ e1.2.1.symm]; exact h.nx
 · rw [upd_same]
 · intro k h1 h2
   rw [put_ne _ _ (by omega)]; exact h.low k h1 h2
 · have := h.n_bd; rw [put_ne _ _ (by omega)]; exact h.zero
 · intro k hk'; rw [put_ne _ _ (by omega)]; exact h.high k hk'
 · intro k hk'; rw [put_ne _ _ (by omega)]; exact h.top k hk'
 · rw [cn_put f q l n hf size hq hq2, ← h.cnt]
 · intro k h1 h2
   by_cases hkq : k = q
   · subst hkq; rw [here.2, put_same]; rfl
   · rw [(keep k h1 h2 hkq).2, put_ne _ _ hkq]; exact h.flag k h1 h2
 · intro k l' h1 h2 h3
   by_cases hkq : k = q
   · subst hkq
     rw [put_same] at h3
     obtain rfl : l = l' := Option.some.inj h3
     rw [here.1]
     exact ⟨ho.kp hK (fun g hg e => by have := hv g hg; omega), fun g hg => ⟨.inr hg, by have := hv g hg; omega⟩⟩
   · rw [put_ne _ _ hkq] at h3
     rw [(keep k h1 h2 hkq).1]
     obtain ⟨a1, a4⟩ := h.body k l' h1 h2 h3
     exact ⟨(a1.kp hk (fun g hg => hS g (a4 g hg).1)).kp hK (fun g hg => (a4 g hg).2), fun g hg => ⟨.inl (a4 g hg).1, (a4 g hg).2⟩⟩
 · intro k k' g h1 h2 h3 h4 h5 h6 h7 h8
   by_cases hkq : k = q
   · by_cases hkq' : k' = q
     · omega
     · exfalso
       subst hkq
       rw [here.1] at h7
       rw [(keep k' h3 h4 hkq').1] at h8
       rw [put_ne _ _ hkq'] at h6
       obtain ⟨l', hl'⟩ := Option.ne_none_iff_exists'.1 h6
       obtain ⟨a1, a4⟩ := h.body k' l' h3 h4 hl'
       have := a1.lt g h8
       have := hv g h7
       omega
   · by_cases hkq' : k' = q
     · exfalso
       subst hkq'
       rw [here.1] at h8
       rw [(keep k h1 h2 hkq).1] at h7
       rw [put_ne _ _ hkq] at h5
       obtain ⟨l', hl'⟩ := Option.ne_none_iff_exists'.1 h5
       obtain ⟨a1, a4⟩ := h.body k l' h1 h2 hl'
       have := a1.lt g h7
       have := hv g h8
       omega
     · rw [(keep k h1 h2 hkq).1] at h7
       rw [(keep k' h3 h4 hkq').1] at h8
       rw [put_ne _ _ hkq] at h5
       rw [put_ne _ _ hkq'] at h6
       exact h.dist k k' g h1 h2 h3 h4 h5 h6 h7 h8
 · intro k hk'
   rcases hk' with hk' | hk'
   · exact Nat.lt_of_lt_of_le (h.lt k hk') (Nat.le_trans hk.size hK.size)
   · exact Nat.lt_of_lt_of_le (ho.lt k hk') hK.size
section
theorem InbC.hasSpec {w : World} {b : Nat} {c : Nat → Value} {size : Nat} {f : Bodies} {n hd : Nat} {F : Nat → Prop} (h : InbC w b c size f n hd F) (hn : f n = none) (seq : Int) (hs : -9223372036854775808 ≤ seq ∧ seq ≤ 9223372036854775807) :
 Calls Tryz.prog 126 #[.pointer (some ⟨b, 0, none⟩), .int .i64 seq] w fun e w' => e = .returned (.bool (hasI f seq)) ∧ ∃ m, w' = w.drewN m := by
 have h0 := h.at_.is (i := 0) (by omega) h.sz
 have h1 := h.at_.is (i := 1) (by omega) h.nx
 have hsb := h.size_bd
 have hnb := h.n_bd
 have hne : ((size : Int) == 0) = false := by simp; omega
 by_cases hneg : seq < 1
 · have e : hasI f seq = false := by
    unfold hasI
    by_cases h00 : seq = 0
    · subst h00; simp [h.zero]
    · rw [decide_eq_false (by omega)]; rfl
   rw [e]
   exact has_neg b size seq w h0 hne hneg
 · obtain ⟨k, rfl⟩ := Int.eq_ofNat_of_zero_le (show 0 ≤ seq by omega)
   have ek : hasI f k = (f k).isSome := by simp [hasI]
   rw [ek]
   by_cases hlt : k < n
   · have e : (f k).isSome = true := by
      have := h.low k (by omega) hlt
      cases hf : f k with
      | none => exact absurd hf this
      | some _ => rfl
     rw [e]
     exact has_old b size n k w h0 h1 hne (by omega) (by omega)
   · by_cases hfar : n + size ≤ k
     · have e : (f k).isSome = false := by rw [h.high k hfar]; rfl
       rw [e]
       exact has_far b size n k w h0 h1 hne (by omega) (by omega) (by omega) hs.2
     · have hc := h.at_.is (i := fl k) (sl_lt k).2 (h.flag k (by omega) (by omega))
       exact has_in b size n k _ w h0 h1 hne (by omega) (by omega) (by omega) hs.2 hc
theorem InbC.next {w : World} {b : Nat} {c : Nat → Value} {size : Nat} {f : Bodies} {n hd : Nat} {F : Nat → Prop} (h : InbC w b c size f n hd F) :
 Calls Tryz.prog 46 #[.pointer (some ⟨b, 0, none⟩)] w fun e w' => e = .returned (.int .i64 n) ∧ w = w' :=
 next_at b size n w (h.at_.is (i := 0) (by omega) h.sz) (h.at_.is (i := 1) (by omega) h.nx) (by have := h.size_bd; simp; omega)
end
theorem cn_empty (n : Nat) : ∀ m, cn (fun _ => none) n m = 0
 | 0 => rfl
 | m + 1 => by rw [cn, cn_empty n m]; rfl
theorem flat2 (x y : Value) : ∀ (n j : Nat), j < n → ((List.replicate n [x, y]).flatten)[2 * j + 1]? = some y
 | 0, j, h => by omega
 | n + 1, 0, h => by simp [List.replicate_succ]
 | n + 1, j + 1, h => by
  rw [List.replicate_succ, List.flatten_cons, List.getElem?_append_right (by simp; omega)]
  simp only [List.length_cons, List.length_nil]
  rw [show 2 * (j + 1) + 1 - (0 + 1 + 1) = 2 * j + 1 by omega]
  exact flat2 x y n j (by omega)
def ibox (s : Int) : List Value := [.int .i64 s, .int .i64 1, .int .i64 0] ++ (List.replicate 64 [.slice none 0 0, .bool false]).flatten
theorem ibox_flag (s : Int) (k : Nat) : (ibox s).getD (fl k) undef = .bool false := by
 unfold ibox fl
 rw [List.getD_eq_getElem?_getD, List.getElem?_append_right (by simp; omega)]
 simp only [List.length_cons, List.length_nil]
 rw [show 4 + 2 * (k % 64) - (0 + 1 + 1 + 1) = 2 * (k % 64) + 1 by omega, flat2 _ _ 64 (k % 64) (by omega)]
 rfl
theorem InbAt.fresh {w : World} {b : Nat} (s : Nat) (h : 1 ≤ s ∧ s ≤ 64) (hat : At w b (ibox s)) : InbAt w b s (fun _ => none) 1 0 (· = b) := by
 have hlt := hat.lt
 refine ⟨⟨_, AtF.of_list hat, rfl, rfl, rfl, h, ⟨by omega, by omega⟩, fun k h1 h2 => by omega, rfl, fun _ _ => rfl, fun _ _ => rfl, (cn_empty 1 s).symm, fun k h1 h2 => ibox_flag s k, ?_, ?_, rfl, fun k hk => by rw [hk]; exact hlt⟩, rfl⟩
 · intro k l _ _ h; cases h
 · intro k k' g _ _ _ _ h; exact absurd rfl h
def zbox : List Value := [.int .i64 0, .int .i64 0, .int .i64 0] ++ (List.replicate 64 [.slice none 0 0, .bool false]).flatten
theorem zero_box (w : World) : (zeroValue 114).run Tryz.prog w = .ok (.agg zbox.toArray) w := by kernel_rfl
theorem zbox_size : zbox.toArray.size = 131 := by simp [zbox]
theorem zbox_ne : ¬ zbox.toArray = #[] := fun h => by have := zbox_size; rw [h] at this; cases this
theorem zbox_lt : ¬ zbox.toArray.size < 2 := by rw [zbox_size]; omega
theorem zbox_set (s : Int) : (zbox.set 0 (.int .i64 s)).set 1 (.int .i64 1) = ibox s := by
 simp [zbox, ibox]
set_option maxRecDepth 100000 in
theorem inew_ok (s : Nat) (w : World) (hs : 1 ≤ s ∧ s ≤ 64) :
 Calls Tryz.prog 116 #[.int .i64 s] w fun e w' => e = .returned (.tuple #[.pointer (some ⟨w.heap.size, 0, none⟩), .int .i64 0]) ∧
  InbAt w' w.heap.size s (fun _ => none) 1 0 (· = w.heap.size) ∧ Kp (fun _ => False) w w' := by
 have h1 : 1 ≤ (s : Int) := by omega
 have h2 : (s : Int) ≤ 64 := by omega
 have hz := zero_box
 have z1 := zbox_ne
 have z2 := zbox_lt
 go_enter Tryz.func116, Tryz.ntmps116
 go_wp2
 go_ret2
 rw [zbox_set]
 exact ⟨rfl, InbAt.fresh s hs (At.new w (ibox s) _), (Kp.refl _ w).alloc _⟩
def hc : List (Nat × Value) → List Value
 | [] => []
 | p :: L => .int .i64 (p.1 : Int) :: p.2 :: hc L
theorem hc_len : ∀ L : List (Nat × Value), (hc L).length = L.length * 2
 | [] => rfl
 | p :: L => by rw [hc, List.length_cons, List.length_cons, hc_len L, List.length_cons]; omega
theorem hc_app : ∀ L M : List (Nat × Value), hc (L ++ M) = hc L ++ hc M
 | [], M => rfl
 | p :: L, M => by rw [List.cons_append, hc, hc_app L M]; rfl
theorem hc_take : ∀ (L : List (Nat × Value)) (i : Nat), hc (L.take i) = (hc L).take (i * 2)
 | [], i => by simp [hc]
 | p :: L, 0 => by simp [hc]
 | p :: L, i + 1 => by
  rw [List.take_succ_cons, hc, hc_take L i, hc, show (i + 1) * 2 = i * 2 + 1 + 1 by omega, List.take_succ_cons, List.take_succ_cons]
theorem hc_drop : ∀ (L : List (Nat × Value)) (i : Nat), hc (L.drop i) = (hc L).drop (i * 2)
 | [], i => by simp [hc]
 | p :: L, 0 => by simp
 | p :: L, i + 1 => by
  rw [List.drop_succ_cons, hc_drop L i, hc, show (i + 1) * 2 = i * 2 + 1 + 1 by omega, List.drop_succ_cons, List.drop_succ_cons]
theorem hc_get : ∀ (L : List (Nat × Value)) (i : Nat), i < L.length → (hc L).getD (i * 2) undef = .int .i64 ((L.getD i (0, undef)).1 : Int) ∧ (hc L).getD (i * 2 + 1) undef = (L.getD i (0, undef)).2
 | [], i, h => by simp at h
 | p :: L, 0, h => by simp [hc]
 | p :: L, i + 1, h => by
  have := hc_get L i (by simpa using h)
  rw [show (i + 1) * 2 = i * 2 + 1 + 1 by omega, hc]
  simpa using this

structure RefC (w : World) (r : Nat) (v : Value) (size n : Nat) (L : List (Nat × Value)) (f : Bodies) (G : Nat → Prop) : Prop where
 at_ : At w r [.int .i64 (size : Int), .int .i64 (n : Int), v]
 own : Own w v L.length 2 (hc L)
 vb : ∀ g, v.ownBlock = some g → G g ∧ g ≠ r
 body : ∀ p ∈ L, ∃ l, f p.1 = some l ∧ OwnB w p.2 l ∧ ∀ g, p.2.ownBlock = some g → G g ∧ g ≠ r ∧ v.ownBlock ≠ some g
 keys : ∀ p ∈ L, n ≤ p.1 ∧ p.1 < n + size
 mem : ∀ k, n ≤ k → f k ≠ none → ∃ p ∈ L, p.1 = k
 nd : (L.map (·.1)).Nodup
 cnt : L.length = cn f n size
 size_bd : 1 ≤ size ∧ size ≤ 64
 n_bd : 1 ≤ n ∧ n ≤ 2147483647
 low : ∀ k, 1 ≤ k → k < n → f k ≠ none
 zero : f 0 = none
 high : ∀ k, n + size ≤ k → f k = none
 top : ∀ k, 2147483647 ≤ k → f k = none
 base : G r
 lt : ∀ k, G k → k < w.heap.size
theorem RefC.kp {S : Nat → Prop} {w w' : World} {r : Nat} {v : Value} {size n : Nat} {L : List (Nat × Value)} {f : Bodies} {G : Nat → Prop} (h : RefC w r v size n L f G) (hk : Kp S w w') (hS : ∀ k, G k → ¬ S k) : RefC w' r v size n L f G :=
 { h with
   at_ := hk.at h.at_ (hS r h.base)
   own := h.own.kp hk (fun g hg => hS g (h.vb g hg).1)
   body := fun p hp => by
    obtain ⟨l, h1, h2, h3⟩ := h.body p hp
    exact ⟨l, h1, h2.kp hk (fun g hg => hS g (h3 g hg).1), h3⟩
   lt := fun k hk' => Nat.lt_of_lt_of_le (h.lt k hk') hk.size }
theorem RefC.len {w : World} {r : Nat} {v : Value} {size n : Nat} {L : List (Nat × Value)} {f : Bodies} {G : Nat → Prop} (h : RefC w r v size n L f G) : L.length ≤ 64 := by
 rw [h.cnt]; exact Nat.le_trans (cn_le f n size) h.size_bd.2
theorem RefC.find {w : World} {r : Nat} {v : Value} {size n : Nat} {L : List (Nat × Value)} {f : Bodies} {G : Nat → Prop} (h : RefC w r v size n L f G) {k : Nat} (hn : n ≤ k) (hf : f k ≠ none) :
 ∃ i, i < L.length ∧ (L.getD i (0, undef)).1 = k ∧ ∀ j, j < L.length → (L.getD j (0, undef)).1 = k → j = i := by
 obtain ⟨p, hp, rfl⟩ := h.mem k hn hf
 obtain ⟨i, hi, rfl⟩ := List.getElem_of_mem hp
 refine ⟨i, hi, by rw [List.getD_eq_getElem?_getD, List.getElem?_eq_getElem hi]; rfl, fun j hj e => ?_⟩
 rw [List.getD_eq_getElem?_getD, List.getElem?_eq_getElem hj] at e
 have hnd := h.nd
 rw [List.nodup_iff_pairwise_ne, List.pairwise_iff_getElem] at hnd
 rcases Nat.lt_trichotomy i j with hlt | heq | hgt
 · exact absurd (by rw [List.getElem_map, List.getElem_map]; exact e.symm) (hnd i j (by simpa using hi) (by simpa using hj) hlt)
 · exact heq.symm
 · exact absurd (by rw [List.getElem_map, List.getElem_map]; exact e) (hnd j i (by simpa using hj) (by simpa using hi) hgt)
theorem RefC.not {w : World} {r : Nat} {v : Value} {size n : Nat} {L : List (Nat × Value)} {f : Bodies} {G : Nat → Prop} (h : RefC w r v size n L f G) {q : Int} (hq : ∀ k : Nat, q = k → n ≤ k → f k = none) :
 ∀ j, j < L.length → ((L.getD j (0, undef)).1 : Int) ≠ q := fun j hj e => by
 have hm : L[j] ∈ L := List.getElem_mem hj
 rw [List.getD_eq_getElem?_getD, List.getElem?_eq_getElem hj] at e
 obtain ⟨l, h1, _⟩ := h.body _ hm
 have := hq _ e.symm (h.keys _ hm).1
 simp at this
 rw [h1] at this; cases this
theorem RefC.more {w w' : World} {r : Nat} {v v' bv : Value} {size n : Nat} {L : List (Nat × Value)} {f : Bodies} {G : Nat → Prop} (h : RefC w r v size n L f G) {q : Nat} {l : List Int}
 (hq : n ≤ q) (hq2 : q < n + size) (hq3 : q < 2147483647) (hf : f q = none) (hk : Kp (fun k => v.ownBlock = some k) w w')
 (ho : OwnB w' bv l) (hbv : ∀ g, bv.ownBlock = some g → w.heap.size ≤ g ∧ v'.ownBlock ≠ some g) (hv : Own w' v' (L.length + 1) 2 (hc L ++ [.int .i64 (q : Int), bv])) (hvb : ∀ g, v'.ownBlock = some g → v.ownBlock = some g ∨ w.heap.size ≤ g) :
 RefC (w'.setCell ⟨r, 2, none⟩ v') r v' size n (L ++ [(q, bv)]) (put f q l) (fun k => G k ∨ (w.heap.size ≤ k ∧ k < w'.heap.size)) := by
 have hrG := h.lt r h.base
 have hvr : ∀ g, v'.ownBlock = some g → g ≠ r := fun g hg e => by
  rcases hvb g hg with e2 | e2
  · exact (h.vb g e2).2 e
  · omega
 have hK : Kp (· = r) w' (w'.setCell ⟨r, 2, none⟩ v') := (Kp.refl (· = r) w').setCell (p := ⟨r, 2, none⟩) (fun _ => rfl) _
 have hnr : v.ownBlock ≠ some r := fun e => (h.vb r e).2 rfl
 refine ⟨?_, ?_, ?_, ?_, ?_, ?_, ?_, ?_, h.size_bd, h.n_bd, ?_, ?_, ?_, ?_, .inl h.base, ?_⟩
 · exact (hk.at h.at_ hnr).set 2 v'
 · rw [hc_app, List.length_append]
   exact hv.kp hK (fun g hg e => hvr g hg e)
 · intro g hg
   refine ⟨?_, hvr g hg⟩
   rcases hvb g hg with e | e
   · exact .inl (h.vb g e).1
   · exact .inr ⟨e, hv.lt g hg⟩
 · intro p hp
   rcases List.mem_append.1 hp with hp | hp
   · obtain ⟨l', h1, h2, h3⟩ := h.body p hp
     have hlt := h2.lt
     refine ⟨l', ?_, (h2.kp hk (fun g hg => (h3 g hg).2.2)).kp hK (fun g hg => (h3 g hg).2.1), fun g hg => ⟨.inl (h3 g hg).1, (h3 g hg).2.1, fun e => ?_⟩⟩
     · rw [put_ne]
       · exact h1
       · intro e; rw [e, hf] at h1; cases h1
     · rcases hvb g e with e2 | e2
       · exact (h3 g hg).2.2 e2
       · have := hlt g hg; omega
   · obtain rfl := List.mem_singleton.1 hp
     exact ⟨l, put_same f q l, ho.kp hK (fun g hg e => by have := (hbv g hg).1; omega), fun g hg => ⟨.inr ⟨(hbv g hg).1, ho.lt g hg⟩, by have := (hbv g hg).1; omega, (hbv g hg).2⟩⟩
 · intro p hp
   rcases List.mem_append.1 hp with hp | hp
   · exact h.keys p hp
   · obtain rfl := List.mem_singleton.1 hp
     exact ⟨hq, hq2⟩
 · intro k h1 h2
   by_cases hkq : k = q
   · exact ⟨(q, bv), by simp, hkq.symm⟩
   · rw [put_ne _ _ hkq] at h2
     obtain ⟨p, hp, e⟩ := h.mem k h1 h2
     exact ⟨p, by simp [hp], e⟩
 · rw [List.map_append]
   rw [List.nodup_append]
   refine ⟨h.nd, by simp, fun a ha b hb => ?_⟩
   simp at hb
   subst hb
   rintro rfl
   obtain ⟨p, hp, e⟩ := List.mem_map.1 ha
   obtain ⟨l', h1, _⟩ := h.body p hp
   have e' : p.1 = a := e
   rw [e', hf] at h1; cases h1
 · rw [cn_put f q l n hf size hq hq2, ← h.cnt]; simp
 · intro k h1 h2; rw [put_ne _ _ (by omega)]; exact h.low k h1 h2
 · have := h.n_bd; rw [put_ne _ _ (by omega)]; exact h.zero
 · intro k hk'; rw [put_ne _ _ (by omega)]; exact h.high k hk'
 · intro k hk'; rw [put_ne _ _ (by omega)]; exact h.top k hk'
 · intro k hk'
   have e : (w'.setCell ⟨r, 2, none⟩ v').heap.size = w'.heap.size := by simp [World.setCell]
   rw [e]
   rcases hk' with hk' | hk'
   · exact Nat.lt_of_lt_of_le (h.lt k hk') hk.size
   · exact hk'.2
theorem RefC.step {w w' : World} {r : Nat} {v v' : Value} {size n : Nat} {L : List (Nat × Value)} {f : Bodies} {G : Nat → Prop} (h : RefC w r v size n L f G) {i : Nat} (hi : i < L.length) (hn : (L.getD i (0, undef)).1 = n)
 (hk : Kp (fun _ => False) w w') (hv : Own w' v' (i + (L.length - (i + 1))) 2 ((hc L).take (i * 2) ++ (hc L).drop ((i + 1) * 2))) (hvb : ∀ g, v'.ownBlock = some g → w.heap.size ≤ g) :
 RefC ((w'.setCell ⟨r, 2, none⟩ v').setCell ⟨r, 1, none⟩ (.int .i64 ((n + 1 : Nat) : Int))) r v' size (n + 1) (L.take i ++ L.drop (i + 1)) f (fun k => G k ∨ (w.heap.size ≤ k ∧ k < w'.heap.size)) := by
 have hrG := h.lt r h.base
 have hvr : ∀ g, v'.ownBlock = some g → g ≠ r := fun g hg e => by have := hvb g hg; omega
 have hK : Kp (· = r) w' ((w'.setCell ⟨r, 2, none⟩ v').setCell ⟨r, 1, none⟩ (.int .i64 ((n + 1 : Nat) : Int))) := ((Kp.refl (· = r) w').setCell (p := ⟨r, 2, none⟩) (fun _ => rfl) _).setCell (p := ⟨r, 1, none⟩) (fun _ => rfl) _
 have hgi : L[i].1 = n := by rw [List.getD_eq_getElem?_getD, List.getElem?_eq_getElem hi] at hn; exact hn
 have eL : L = L.take i ++ L[i] :: L.drop (i + 1) := by rw [← List.drop_eq_getElem_cons hi, List.take_append_drop]
 have hlen : (L.take i ++ L.drop (i + 1)).length = i + (L.length - (i + 1)) := by simp; omega
 obtain ⟨l0, hf0, _⟩ := h.body _ (List.getElem_mem hi)
 rw [hgi] at hf0
 have hlt : n < 2147483647 := by
  rcases Nat.lt_or_ge n 2147483647 with h' | h'
  · exact h'
  · rw [h.top n h'] at hf0; cases hf0
 have hnd : ((L.take i ++ L.drop (i + 1)).map (·.1)).Nodup ∧ ∀ p ∈ L.take i ++ L.drop (i + 1), p.1 ≠ n := by
  have hnd := h.nd
  rw [eL, List.map_append, List.map_cons, (List.perm_middle).nodup_iff, List.nodup_cons, hgi] at hnd
  rw [List.map_append]
  refine ⟨hnd.2, fun p hp e => hnd.1 ?_⟩
  rw [← List.map_append, ← e]
  exact List.mem_map_of_mem hp
 have hin : ∀ p ∈ L.take i ++ L.drop (i + 1), p ∈ L := fun p hp => by
  rcases List.mem_append.1 hp with hp | hp
  · exact List.mem_of_mem_take hp
  · exact List.mem_of_mem_drop hp
 refine ⟨?_, ?_, ?_, ?_, ?_, ?_, hnd.1, ?_, h.size_bd, ⟨by omega, by omega⟩, ?_, h.zero, ?_, h.top, .inl h.base, ?_⟩
 · exact ((hk.at h.at_ (fun h => h)).set 2 v').set 1 _
 · rw [hlen, hc_app, hc_take, hc_drop]
   exact hv.kp hK (fun g hg e => hvr g hg e)
 · intro g hg
   exact ⟨.inr ⟨hvb g hg, hv.lt g hg⟩, hvr g hg⟩
 · intro p hp
   obtain ⟨l', h1, h2, h3⟩ := h.body p (hin p hp)
   exact ⟨l', h1, (h2.kp hk (fun _ _ h => h)).kp hK (fun g hg => (h3 g hg).2.1), fun g hg => ⟨.inl (h3 g hg).1, (h3 g hg).2.1, fun e => by have := hvb g e; have := h2.lt g hg; omega⟩⟩
 · intro p hp
   have := h.keys p (hin p hp)
   have := hnd.2 p hp
   omega
 · intro k h1 h2
   obtain ⟨p, hp, e⟩ := h.mem k (by omega) h2
   refine ⟨p, ?_, e⟩
   rw [eL] at hp
   rcases List.mem_append.1 hp with hp | hp
   · exact List.mem_append.2 (.inl hp)
   · rcases List.mem_cons.1 hp with hp | hp
     · rw [hp, hgi] at e; omega
     · exact List.mem_append.2 (.inr hp)
 · have hc1 := cn_front f n size
   rw [cn, h.high (n + size) (Nat.le_refl _), hf0] at hc1
   simp at hc1
   rw [hlen]
   have := h.cnt
   omega
 · intro k h1 h2
   by_cases hkn : k = n
   · subst hkn; rw [hf0]; simp
   · exact h.low k h1 (by omega)
 · intro k hk'; exact h.high k (by omega)
 · intro k hk'
   have e : ((w'.setCell ⟨r, 2, none⟩ v').setCell ⟨r, 1, none⟩ (.int .i64 ((n + 1 : Nat) : Int))).heap.size = w'.heap.size := by simp [World.setCell]
   rw [e]
   rcases hk' with hk' | hk'
   · exact Nat.lt_of_lt_of_le (h.lt k hk') hk.size
   · exact hk'.2
theorem RefC.fresh {w : World} {r : Nat} (s : Nat) (h : 1 ≤ s ∧ s ≤ 64) (hat : At w r [.int .i64 (s : Int), .int .i64 1, .slice none 0 0]) : RefC w r (.slice none 0 0) s 1 [] (fun _ => none) (· = r) := by
 have hc0 : ∀ m, cn (fun _ => none) 1 m = 0 := by
  intro m
  induction m with
  | zero => rfl
  | succ m ih => rw [cn, ih]; rfl
 exact ⟨hat, Own.nil _ _, fun g hg => by simp [Value.ownBlock] at hg, fun p hp => by simp at hp, fun p hp => by simp at hp, fun k _ hk => absurd rfl hk, by simp, by rw [hc0]; rfl, h, by omega, fun k h1 h2 => by omega, rfl, fun _ _ => rfl, fun _ _ => rfl, rfl, fun k e => by rw [e]; exact hat.lt⟩
structure Pk where
 g : Nat
 seq : Nat
 B : Value
 body : List Int
 times : Nat
 att : Nat
 wt : Nat
instance : Inhabited Pk := ⟨⟨0, 0, .slice none 0 0, [], 0, 0, 0⟩⟩
def pk (l : List Pk) (i : Nat) : Pk := l.getD i default
def pkC (p : Pk) : List Value := [.int .i64 p.seq, p.B, .int .i64 p.times, .int .i64 p.att, .int .i64 p.wt]
def isP (u : Value) : Prop := ∃ a, u = .pointer a
def Row (w : World) (V : Value) (gs : List Nat) : Prop :=
 (V = .slice none 0 0 ∧ gs = []) ∨ ∃ g o c cs, V = .slice (some ⟨g, o, none⟩) gs.length c ∧ At w g cs ∧ 0 < cs.length ∧ o + c ≤ cs.length ∧ gs.length ≤ c ∧ c ≤ maxLen ∧
  (∀ i, i < gs.length → cs[o + i]? = some (.pointer (some ⟨gs.getD i 0, 0, none⟩))) ∧ ∀ u ∈ cs, isP u
structure Wn where
 size : Nat
 last : Nat
 V : Value
 l : List Pk
 m : Nat
 s : Nat
 now : Nat
def winC (x : Wn) : List Value := [.int .i64 x.size, .int .i64 x.last, x.V, .float .f64 x.m, .float .f64 x.s, .int .i64 x.now]
structure WinC (w : World) (b : Nat) (x : Wn) : Prop where
 hat : At w b (winC x)
 row : Row w x.V (x.l.map Pk.g)
 pks : ∀ i, i < x.l.length → At w (pk x.l i).g (pkC (pk x.l i))
 own : ∀ i, i < x.l.length → OwnB w (pk x.l i).B (pk x.l i).body
 size_bd : 1 ≤ x.size ∧ x.size ≤ 64
 len : x.l.length ≤ x.size
 seqs : ∀ i, i < x.l.length → (pk x.l i).seq + x.l.length = x.last + i + 1
 now_bd : x.now ≤ 2147483647
 bd : ∀ i, i < x.l.length → (pk x.l i).att ≤ x.now ∧ (pk x.l i).wt ≤ 60 ∧ (1 ≤ (pk x.l i).times → 2 ≤ (pk x.l i).wt)
def Mine (b : Nat) (x : Wn) (k : Nat) : Prop := k = b ∨ x.V.ownBlock = some k ∨ ∃ i, i < x.l.length ∧ ((pk x.l i).g = k ∨ (pk x.l i).B.ownBlock = some k)
theorem pk_at {l : List Pk} {i : Nat} (h : i < l.length) : l[i]? = some (pk l i) := by unfold pk; rw [List.getD_eq_getElem?_getD, List.getElem?_eq_getElem h]; rfl
theorem gs_at {l : List Pk} {i : Nat} (h : i < l.length) : (l.map Pk.g).getD i 0 = (pk l i).g := by
 rw [List.getD_eq_getElem?_getD, List.getElem?_map, pk_at h]; rfl
theorem pk_app_lt {a b : List Pk} {i : Nat} (h : i < a.length) : pk (a ++ b) i = pk a i := by
 unfold pk; rw [List.getD_eq_getElem?_getD, List.getElem?_append_left h, List.getD_eq_getElem?_getD]
theorem pk_app_at (a : List Pk) (p : Pk) : pk (a ++ [p]) a.length = p := by
 unfold pk; rw [List.getD_eq_getElem?_getD, List.getElem?_append_right (Nat.le_refl _), Nat.sub_self]; rfl
theorem pk_set {l : List Pk} {i : Nat} (h : i < l.length) (p : Pk) (j : Nat) : pk (l.set i p) j = if j = i then p else pk l j := by
 unfold pk
 rw [List.getD_eq_getElem?_getD, List.getElem?_set]
 by_cases hj : i = j
 · subst hj; simp [h]
 · rw [if_neg hj, if_neg (fun e => hj e.symm), List.getD_eq_getElem?_getD]
theorem pk_drop (l : List Pk) (k i : Nat) : pk (l.drop k) i = pk l (k + i) := by
 unfold pk; rw [List.getD_eq_getElem?_getD, List.getElem?_drop, List.getD_eq_getElem?_getD]
theorem OwnB.notC {w : World} {v : Value} {l : List Int} {b : Nat} {cs : List Value} (h : OwnB w v l) (ha : At w b cs) {u : Value} (hu : u ∈ cs) (hn : ¬ isB u) : v.ownBlock ≠ some b := fun e => by
 obtain ⟨ds, hd, hp⟩ := h.blk b e
 rw [ha.inj hd] at hu
 exact hn (hp u hu)
theorem not_isB_i64 (n : Int) : ¬ isB (.int .i64 n) := fun ⟨m, e, _⟩ => by cases e
theorem not_isB_ptr (a : Option Addr) : ¬ isB (.pointer a) := fun ⟨m, e, _⟩ => by cases e
theorem not_isP_int (k : IntKind) (n : Int) : ¬ isP (.int k n) := fun ⟨m, e⟩ => by cases e
variable {w w' : World} {b : Nat} {x : Wn}
theorem Row.len {V : Value} {gs : List Nat} (h : Row w V gs) : ∃ a c, V = .slice a gs.length c ∧ gs.length ≤ c := by
 rcases h with ⟨rfl, rfl⟩ | ⟨g, o, c, cs, rfl, _, _, _, h1, _⟩
 · exact ⟨none, 0, rfl, Nat.le_refl _⟩
 · exact ⟨_, c, rfl, h1⟩
theorem Row.blk {V : Value} {gs : List Nat} (h : Row w V gs) {g : Nat} (hg : V.ownBlock = some g) : ∃ cs, At w g cs ∧ 0 < cs.length ∧ ∀ u ∈ cs, isP u := by
 rcases h with ⟨rfl, rfl⟩ | ⟨g', o, c, cs, rfl, h1, h0, _, _, _, _, h2⟩
 · cases hg
 · simp only [Value.ownBlock, Option.some.injEq] at hg
   subst hg
   exact ⟨cs, h1, h0, h2⟩
theorem Row.kp {S : Nat → Prop} {V : Value} {gs : List Nat} (h : Row w V gs) (k : Kp S w w') (hs : ∀ g, V.ownBlock = some g → ¬ S g) : Row w' V gs := by
 rcases h with ⟨rfl, rfl⟩ | ⟨g, o, c, cs, rfl, h1, h2⟩
 · exact .inl ⟨rfl, rfl⟩
 · exact .inr ⟨g, o, c, cs, rfl, k.at h1 (hs g rfl), h2⟩
theorem Row.cell {a : Option Addr} {n c : Nat} {gs : List Nat} (h : Row w (.slice a n c) gs) {i : Nat} (hi : i < gs.length) : ∃ g o, a = some ⟨g, o, none⟩ ∧ n = gs.length ∧ w.cell? ⟨g, o + i, none⟩ = some (.pointer (some ⟨gs.getD i 0, 0, none⟩)) := by
 rcases h with ⟨_, rfl⟩ | ⟨g, o, c, cs, e, h1, _, _, _, _, h2, _⟩
 · cases hi
 · simp only [Value.slice.injEq] at e
   obtain ⟨rfl, rfl, rfl⟩ := e
   exact ⟨g, o, rfl, rfl, by rw [h1.cell]; exact h2 i hi⟩
theorem Row.tail {a : Option Addr} {n c g0 : Nat} {gs : List Nat} (h : Row w (.slice a n c) (g0 :: gs)) :
 ∃ g o, a = some ⟨g, o, none⟩ ∧ n = gs.length + 1 ∧ n ≤ c ∧ ∀ a', a' = (if c = 1 then some ⟨g, o, none⟩ else some ⟨g, o + 1, none⟩) → Row w (.slice a' (n - 1) (c - 1)) gs := by
 rcases h with ⟨_, h⟩ | ⟨g, o, c, cs, e, h1, h0, h2, h3, h4, h5, h6⟩
 · cases h
 · simp only [Value.slice.injEq] at e
   obtain ⟨rfl, rfl, rfl⟩ := e
   simp only [List.length_cons] at h3 h5
   refine ⟨g, o, rfl, rfl, h3, fun a' ha => ?_⟩
   subst ha
   by_cases h1c : c = 1
   · rw [if_pos h1c]
     exact .inr ⟨g, o, c - 1, cs, by simp, h1, h0, by omega, by omega, by omega, fun i hi => by omega, h6⟩
   · rw [if_neg h1c]
     refine .inr ⟨g, o + 1, c - 1, cs, by simp, h1, h0, by omega, by omega, by omega, fun i hi => ?_, h6⟩
     have := h5 (i + 1) (by omega)
     rw [show o + 1 + i = o + (i + 1) by omega, this]
     simp [List.getD_eq_getElem?_getD]
theorem WinC.lt (h : WinC w b x) {k : Nat} (hk : Mine b x k) : k < w.heap.size := by
 rcases hk with rfl | hk | ⟨i, hi, hk | hk⟩
 · exact h.hat.lt
 · obtain ⟨cs, hc, _, _⟩ := h.row.blk hk; exact hc.lt
 · rw [← hk]; exact (h.pks i hi).lt
 · exact (h.own i hi).lt k hk
theorem WinC.kp {S : Nat → Prop} (h : WinC w b x) (k : Kp S w w') (hs : ∀ j, Mine b x j → ¬ S j) : WinC w' b x :=
 { h with
   hat := k.at h.hat (hs b (.inl rfl))
   row := h.row.kp k (fun g hg => hs g (.inr (.inl hg)))
   pks := fun i hi => k.at (h.pks i hi) (hs _ (.inr (.inr ⟨i, hi, .inl rfl⟩)))
   own := fun i hi => (h.own i hi).kp k (fun g hg => hs g (.inr (.inr ⟨i, hi, .inr hg⟩))) }
theorem WinC.kp0 (h : WinC w b x) (k : Kp (fun _ => False) w w') : WinC w' b x := h.kp k (fun _ _ h => h)
theorem WinC.drewN (h : WinC w b x) (n : Nat) : WinC (w.drewN n) b x := h.kp0 ((Kp.refl _ w).drewN n)
theorem WinC.rowNe (h : WinC w b x) {g : Nat} (hg : x.V.ownBlock = some g) : g ≠ b ∧ (∀ i, i < x.l.length → g ≠ (pk x.l i).g) ∧ ∀ i, i < x.l.length → (pk x.l i).B.ownBlock ≠ some g := by
 obtain ⟨cs, hc, h0, hp⟩ := h.row.blk hg
 refine ⟨fun e => ?_, fun i hi e => ?_, fun i hi e => ?_⟩
 · subst e
   have := hc.inj h.hat
   subst this
   exact not_isP_int .i64 x.size (hp _ (by simp [winC]))
 · subst e
   have := hc.inj (h.pks i hi)
   subst this
   exact not_isP_int .i64 (pk x.l i).seq (hp _ (by simp [pkC]))
 · obtain ⟨u, hu⟩ : ∃ u, u ∈ cs := ⟨_, List.getElem_mem h0⟩
   obtain ⟨a, rfl⟩ := hp u hu
   exact (h.own i hi).notC hc hu (not_isB_ptr a) e
theorem WinC.pkNe (h : WinC w b x) {i : Nat} (hi : i < x.l.length) : (pk x.l i).g ≠ b ∧ (∀ j, j < x.l.length → (pk x.l i).g = (pk x.l j).g → i = j) ∧ ∀ j, j < x.l.length → (pk x.l j).B.ownBlock ≠ some (pk x.l i).g := by
 refine ⟨fun e => ?_, fun j hj e => ?_, fun j hj => ?_⟩
 · have h1 := h.pks i hi
   rw [e] at h1
   have := congrArg List.length (h1.inj h.hat)
   cases this
 · have h1 := h.pks i hi
   rw [e] at h1
   have e2 := h1.inj (h.pks j hj)
   simp only [pkC, List.cons.injEq, Value.int.injEq, true_and] at e2
   have h3 := h.seqs i hi
   have h4 := h.seqs j hj
   have h5 := e2.1
   omega
 · exact (h.own j hj).notC (h.pks i hi) (u := .int .i64 (pk x.l i).seq) (by simp [pkC]) (not_isB_i64 _)
theorem WinC.bodyNe (h : WinC w b x) {j : Nat} (hj : j < x.l.length) : (pk x.l j).B.ownBlock ≠ some b :=
 (h.own j hj).notC h.hat (u := .int .i64 x.size) (by simp [winC]) (not_isB_i64 _)
theorem WinC.head (h : WinC w b x) {last' m' s' now' : Nat} (hl : last' = x.last) (ha : At w' b (winC { x with last := last', m := m', s := s', now := now' })) (k : Kp (· = b) w w') (hn : x.now ≤ now') (hn2 : now' ≤ 2147483647) : WinC w' b { x with last := last', m := m', s := s', now := now' } :=
 { hat := ha
   row := h.row.kp k (fun g hg => (h.rowNe hg).1)
   pks := fun i hi => k.at (h.pks i hi) (h.pkNe hi).1
   own := fun i hi => (h.own i hi).kp k (fun g hg e => h.bodyNe hi (by rw [hg, e]))
   size_bd := h.size_bd
   len := h.len
   seqs := fun i hi => by rw [hl]; exact h.seqs i hi
   now_bd := hn2
   bd := fun i hi => by have := h.bd i hi; exact ⟨Nat.le_trans this.1 hn, this.2⟩ }
theorem WinC.setPk (h : WinC w b x) {i : Nat} (hi : i < x.l.length) {p : Pk} (hg : p.g = (pk x.l i).g) (hB : p.B = (pk x.l i).B) (hq : p.seq = (pk x.l i).seq) (hb : p.body = (pk x.l i).body) (ha : At w' p.g (pkC p)) (k : Kp (· = p.g) w w')
 (h1 : p.att ≤ x.now ∧ p.wt ≤ 60 ∧ (1 ≤ p.times → 2 ≤ p.wt)) : WinC w' b { x with l := x.l.set i p } := by
 have hne := h.pkNe hi
 have gs : (x.l.set i p).map Pk.g = x.l.map Pk.g := by
  apply List.ext_getElem?
  intro j
  rw [List.getElem?_map, List.getElem?_map, List.getElem?_set]
  by_cases hj : i = j
  · subst hj; rw [if_pos rfl, if_pos hi, pk_at hi]; simp [hg]
  · rw [if_neg hj]
 rw [hg] at k
 exact
 { hat := k.at h.hat (fun e => hne.1 e.symm)
   row := by
    show Row w' x.V ((x.l.set i p).map Pk.g)
    rw [gs]
    exact h.row.kp k (fun g hg' e => (h.rowNe hg').2.1 i hi e)
   pks := fun j hj => by
    simp only [List.length_set] at hj
    show At w' (pk (x.l.set i p) j).g (pkC (pk (x.l.set i p) j))
    rw [pk_set hi]
    by_cases hji : j = i
    · rw [if_pos hji]; exact ha
    · rw [if_neg hji]; exact k.at (h.pks j hj) (fun e => hji (hne.2.1 j hj e.symm).symm)
   own := fun j hj => by
    simp only [List.length_set] at hj
    show OwnB w' (pk (x.l.set i p) j).B (pk (x.l.set i p) j).body
    rw [pk_set hi]
    by_cases hji : j = i
    · subst hji; rw [if_pos rfl, hB, hb]; exact (h.own j hj).kp k (fun g hg' e => hne.2.2 j hj (by rw [hg', e]))
    · rw [if_neg hji]; exact (h.own j hj).kp k (fun g hg' e => hne.2.2 j hj (by rw [hg', e]))
   size_bd := h.size_bd
   len := by simpa using h.len
   seqs := fun j hj => by
    simp only [List.length_set] at hj ⊢
    show (pk (x.l.set i p) j).seq + x.l.length = x.last + j + 1
    rw [pk_set hi]
    by_cases hji : j = i
    · subst hji; rw [if_pos rfl, hq]; exact h.seqs j hj
    · rw [if_neg hji]; exact h.seqs j hj
   now_bd := h.now_bd
   bd := fun j hj => by
    simp only [List.length_set] at hj
    show (pk (x.l.set i p) j).att ≤ x.now ∧ (pk (x.l.set i p) j).wt ≤ 60 ∧ (1 ≤ (pk (x.l.set i p) j).times → 2 ≤ (pk (x.l.set i p) j).wt)
    rw [pk_set hi]
    by_cases hji : j = i
    · rw [if_pos hji]; exact h1
    · rw [if_neg hji]; exact h.bd j hj }
theorem Mine.setPk {b : Nat} {x : Wn} {i : Nat} (hi : i < x.l.length) {p : Pk} (hg : p.g = (pk x.l i).g) (hB : p.B = (pk x.l i).B) (k : Nat) : Mine b { x with l := x.l.set i p } k ↔ Mine b x k := by
 unfold Mine
 simp only [List.length_set]
 constructor
 · rintro (h | h | ⟨j, hj, h⟩)
   · exact .inl h
   · exact .inr (.inl h)
   · rw [pk_set hi] at h
     by_cases hji : j = i
     · subst hji; rw [if_pos rfl, hg, hB] at h; exact .inr (.inr ⟨j, hj, h⟩)
     · rw [if_neg hji] at h; exact .inr (.inr ⟨j, hj, h⟩)
 · rintro (h | h | ⟨j, hj, h⟩)
   · exact .inl h
   · exact .inr (.inl h)
   · refine .inr (.inr ⟨j, hj, ?_⟩)
     rw [pk_set hi]
     by_cases hji : j = i
     · subst hji; rw [if_pos rfl, hg, hB]; exact h
     · rw [if_neg hji]; exact h
theorem WinC.pop (h : WinC w b x) {V' : Value} {m' s' : Nat} (ha : At w' b (winC { x with V := V', l := x.l.drop 1, m := m', s := s' })) (k : Kp (· = b) w w') (h0 : 0 < x.l.length) (hV : V'.ownBlock = x.V.ownBlock) (hr : Row w V' ((x.l.drop 1).map Pk.g)) :
 WinC w' b { x with V := V', l := x.l.drop 1, m := m', s := s' } :=
 { hat := ha
   row := hr.kp k (fun g hg => (h.rowNe (hV ▸ hg)).1)
   pks := fun i hi => by
    simp only [List.length_drop] at hi
    show At w' (pk (x.l.drop 1) i).g (pkC (pk (x.l.drop 1) i))
    rw [pk_drop]
    exact k.at (h.pks (1 + i) (by omega)) (h.pkNe (by omega)).1
   own := fun i hi => by
    simp only [List.length_drop] at hi
    show OwnB w' (pk (x.l.drop 1) i).B (pk (x.l.drop 1) i).body
    rw [pk_drop]
    exact (h.own (1 + i) (by omega)).kp k (fun g hg e => h.bodyNe (j := 1 + i) (by omega) (by rw [hg, e]))
   size_bd := h.size_bd
   len := by have := h.len; simp only [List.length_drop]; show x.l.length - 1 ≤ x.size; omega
   seqs := fun i hi => by
    simp only [List.length_drop] at hi ⊢
    show (pk (x.l.drop 1) i).seq + (x.l.length - 1) = x.last + i + 1
    rw [pk_drop]
    have := h.seqs (1 + i) (by omega)
    omega
   now_bd := h.now_bd
   bd := fun i hi => by
    simp only [List.length_drop] at hi
    show (pk (x.l.drop 1) i).att ≤ x.now ∧ (pk (x.l.drop 1) i).wt ≤ 60 ∧ (1 ≤ (pk (x.l.drop 1) i).times → 2 ≤ (pk (x.l.drop 1) i).wt)
    rw [pk_drop]
    exact h.bd (1 + i) (by omega) }
theorem Mine.pop {b : Nat} {x : Wn} {V' : Value} {m' s' n' : Nat} (hV : V'.ownBlock = x.V.ownBlock) {d k : Nat} (h : Mine b { x with V := V', l := x.l.drop d, m := m', s := s', now := n' } k) : Mine b x k := by
 rcases h with h | h | ⟨j, hj, h⟩
 · exact .inl h
 · exact .inr (.inl (hV ▸ h))
 · simp only [List.length_drop] at hj
   simp only [pk_drop] at h
   exact .inr (.inr ⟨d + j, by omega, h⟩)
end Go.Proofs.YtokembhfebnjpaaGreat
namespace Go.Proofs.YtokembhfebnjpaaGreat
set_option maxRecDepth 20000
open Go.RowKit
set_option linter.unusedVariables false
def ptr (g : Nat) : Value := .pointer (some ⟨g, 0, none⟩)
theorem ptr_map {gs : List Nat} {i : Nat} (hi : i < gs.length) : (gs.map ptr)[i]? = some (.pointer (some ⟨gs.getD i 0, 0, none⟩)) := by
 rw [List.getElem?_map, List.getElem?_eq_getElem hi, List.getD_eq_getElem?_getD, List.getElem?_eq_getElem hi]; rfl
theorem isP_map (gs : List Nat) : ∀ u ∈ gs.map ptr, isP u := fun u hu => by
 obtain ⟨g, _, rfl⟩ := List.mem_map.1 hu
 exact ⟨_, rfl⟩
theorem row_of_own {w : World} {v : Value} {gs : List Nat} (h0 : 0 < gs.length) (h : Own w v gs.length 1 (gs.map ptr)) (hb : BlkP isP w v) : Row w v gs := by
 rcases h.2 with ⟨_, e⟩ | ⟨g, cap, sp, rfl, hat, hsp, hle, hcm⟩
 · omega
 · refine .inr ⟨g, 0, cap, _, rfl, hat, by simp; omega, by simp; omega, hle, hcm, fun i hi => ?_, ?_⟩
   · rw [Nat.zero_add, List.getElem?_append_left (by simpa using hi), ptr_map hi]
   · obtain ⟨cs, hc, hp⟩ := hb g rfl
     rw [hat.inj hc]; exact hp
theorem getD_app_lt {gs : List Nat} {q i : Nat} (hi : i < gs.length) : (gs ++ [q]).getD i 0 = gs.getD i 0 := by
 rw [List.getD_eq_getElem?_getD, List.getElem?_append_left hi, List.getD_eq_getElem?_getD]
theorem getD_app_at (gs : List Nat) (q : Nat) : (gs ++ [q]).getD gs.length 0 = q := by
 rw [List.getD_eq_getElem?_getD, List.getElem?_append_right (Nat.le_refl _), Nat.sub_self]; rfl
theorem row_app {P : Program} {w : World} {V : Value} {gs : List Nat} (h : Row w V gs) {t tx ty e e' : TypeId} (ht : P.underlying t = some (.slice e)) (he : Elem P e (.pointer none) 1 8) (hk : P.underlying tx = some (.slice e')) (hn : gs.length ≤ 1000) {a : Option Addr} (c1 : Nat) {q : Nat} (hr : Rd w a [ptr q]) :
 ∃ V' w', (Builtin.append_ #[t, tx] ty #[V, .slice a 1 c1]).run P w = .ok V' w' ∧ Row w' V' (gs ++ [q]) ∧ Kp (fun k => V.ownBlock = some k) w w' ∧ (V'.ownBlock = V.ownBlock ∨ V'.ownBlock = some w.heap.size) ∧ Row w' V gs := by
 have h1c : ∀ u ∈ [ptr q], u.oneCell' = true := fun u hu => by
  rw [List.mem_singleton] at hu; subst hu; rfl
 have hz0 : ∀ u ∈ (Value.pointer none).cells, isP u := fun u hu => by
  simp [Value.cells] at hu; subst hu; exact ⟨_, rfl⟩
 rcases h with ⟨rfl, rfl⟩ | ⟨g, o, c, cs, rfl, hat, hz0', hoc, hle, hcm, hce, hP⟩
 · obtain ⟨v', w', r1, r2, r3, r4, r5⟩ := run_append_at (P := P) w (ty := ty) ht he hk (Own.nil w 1) (m := 1) (c := c1) (news := [ptr q]) rfl hr h1c (by simp [maxLen]) (by omega)
   exact ⟨v', w', r1, row_of_own (gs := [q]) (by simp) r2 (r5 isP hz0 (isP_map [q]) (BlkP.nil _ _ _ _)), r3, r4, .inl ⟨rfl, rfl⟩⟩
 · obtain ⟨z1, z2, z3, i, hi, hz, hsz, hby⟩ := he
   have hs : Src P i.size tx (.slice a 1 c1) 1 [ptr q] w := by rw [hsz]; exact src_of_rd w hk rfl (by omega) hr h1c
   by_cases hroom : gs.length + 1 ≤ c
   · have hset : ∀ u ∈ cs.set (o + gs.length) (ptr q), isP u := fun u hu => by
      rcases List.mem_or_eq_of_mem_set hu with h | h
      · exact hP u h
      · subst h; exact ⟨_, rfl⟩
     refine ⟨_, _, run_append_room_src (P := P) w t tx ty e i ht hi g o gs.length c _ 1 _ hs hroom (fun j hj => ?_) (fun j _ => hat.frozen _), .inr ⟨g, o, c, cs.set (o + gs.length) (ptr q), by simp, ?_, by simpa using hz0', by simpa using hoc, by simpa using hroom, hcm, fun j hj => ?_, hset⟩, ?_, .inl rfl, .inr ⟨g, o, c, cs.set (o + gs.length) (ptr q), rfl, ?_, by simpa using hz0', by simpa using hoc, hle, hcm, fun j hj => ?_, hset⟩⟩
     · simp at hj
       rw [hat.cell, List.getElem?_eq_getElem (by rw [hsz]; omega)]; rfl
     · rw [hsz, Nat.mul_one]
       exact hat.set _ _
     · simp only [List.length_append, List.length_singleton] at hj
       rw [List.getElem?_set]
       by_cases hj' : j < gs.length
       · rw [if_neg (by omega), hce j hj', getD_app_lt hj']
       · obtain rfl : gs.length = j := by omega
         rw [if_pos rfl, if_pos (by omega), getD_app_at]; rfl
     · exact Kp.setCells (S := fun k => (Value.slice (some ⟨g, o, none⟩) gs.length c).ownBlock = some k) (fun _ => rfl) _ _ (Kp.refl _ w)
     · rw [hsz, Nat.mul_one]
       exact hat.set _ _
     · rw [List.getElem?_set, if_neg (by omega)]; exact hce j hj
   · have hf : (Builtin.firstCells i.size gs.length (.slice (some ⟨g, o, none⟩) gs.length c)).run P w.drew = .ok (gs.map ptr).toArray w.drew := by
      refine run_firstCells_some (P := P) w.drew i.size gs.length _ gs.length c (gs.map ptr) (by simp [hsz]) (fun j u hu => ?_)
      have hj : j < gs.length := by simpa using (List.getElem?_eq_some_iff.1 hu).1
      rw [Addr.add_mid, World.cell?_drew, hat.cell, hce j hj, ← ptr_map hj]; exact hu
     have hge := grownCap_ge w (gs.length + 1) c e
     have hcm' : grownCap w (gs.length + 1) c e ≤ maxLen := grownCap_le_maxLen w (gs.length + 1) c e (by simp only [maxLen]; omega)
     have hzl : zeros (.pointer none) (grownCap w (gs.length + 1) c e - (gs.length + 1)) = List.replicate (grownCap w (gs.length + 1) c e - (gs.length + 1)) (.pointer none) := zeros_one _ rfl _
     have hh : At (w.drew.alloc (.cells ((gs.map ptr ++ [ptr q]).toArray ++ Builtin.zeroCells (Value.pointer none).cells (grownCap w (gs.length + 1) c e - (gs.length + 1))) e)) w.heap.size ((gs ++ [q]).map ptr ++ List.replicate (grownCap w (gs.length + 1) c e - (gs.length + 1)) (.pointer none)) := by
      refine ⟨e, ?_⟩
      have := heap_alloc_new w.drew (.cells ((gs.map ptr ++ [ptr q]).toArray ++ Builtin.zeroCells (Value.pointer none).cells (grownCap w (gs.length + 1) c e - (gs.length + 1))) e)
      rw [show w.drew.heap.size = w.heap.size from rfl] at this
      rw [this, ← hzl]
      simp [zeros]
     refine ⟨_, _, run_append_grow_src (P := P) w t tx ty e i (.pointer none) ht hi hz (some ⟨g, o, none⟩) gs.length c (gs.map ptr) hf _ 1 _ hs (by omega) (by omega) (growslice_fits (by omega) (by rw [hby]; omega)), .inr ⟨w.heap.size, 0, grownCap w (gs.length + 1) c e, _, by simp, hh, by simp; omega, by simp; omega, by simpa using hge, hcm', fun j hj => ?_, fun u hu => ?_⟩, ((Kp.refl _ w).drew).alloc _, .inr rfl, .inr ⟨g, o, c, cs, rfl, (hat.drew).alloc _, hz0', hoc, hle, hcm, hce, hP⟩⟩
     · rw [Nat.zero_add, List.getElem?_append_left (by simpa using hj), ptr_map hj]
     · rcases List.mem_append.1 hu with h | h
       · exact isP_map _ u h
       · rw [(List.mem_replicate.1 h).2]; exact ⟨_, rfl⟩
variable {w w' : World} {b : Nat} {x : Wn}
theorem WinC.push (h : WinC w b x) (p : Pk) (hp : At w' p.g (pkC p)) (ho : OwnB w' p.B p.body) (hq : p.seq = x.last + 1) (ht : p.times = 0 ∧ p.att = 0 ∧ p.wt = 0) {V' : Value} (hV : Row w' V' ((x.l ++ [p]).map Pk.g))
 (ha : At w' b (winC { x with last := x.last + 1, V := V', l := x.l ++ [p] })) (k : Kp (fun j => j = b ∨ x.V.ownBlock = some j) w w') (hlen : x.l.length < x.size) : WinC w' b { x with last := x.last + 1, V := V', l := x.l ++ [p] } := by
 have bV : ∀ {v : Value} {l : List Int}, OwnB w v l → ∀ g, v.ownBlock = some g → ¬ (g = b ∨ x.V.ownBlock = some g) := fun {v l} hv g hg e => by
  rcases e with e | e
  · subst e; exact hv.notC h.hat (u := .int .i64 x.size) (by simp [winC]) (not_isB_i64 _) hg
  · obtain ⟨cs, hc, h0, hP⟩ := h.row.blk e
    obtain ⟨u, hu⟩ : ∃ u, u ∈ cs := ⟨_, List.getElem_mem h0⟩
    obtain ⟨a, rfl⟩ := hP u hu
    exact hv.notC hc hu (not_isB_ptr a) hg
 exact
 { hat := ha
   row := hV
   pks := fun i hi => by
    simp only [List.length_append, List.length_singleton] at hi
    show At w' (pk (x.l ++ [p]) i).g (pkC (pk (x.l ++ [p]) i))
    by_cases hi' : i < x.l.length
    · rw [pk_app_lt hi']
      exact k.at (h.pks i hi') (fun e => by
       rcases e with e | e
       · exact (h.pkNe hi').1 e
       · exact (h.rowNe e).2.1 i hi' rfl)
    · obtain rfl : i = x.l.length := by omega
      rw [pk_app_at]
      exact hp
   own := fun i hi => by
    simp only [List.length_append, List.length_singleton] at hi
    show OwnB w' (pk (x.l ++ [p]) i).B (pk (x.l ++ [p]) i).body
    by_cases hi' : i < x.l.length
    · rw [pk_app_lt hi']
      exact (h.own i hi').kp k (bV (h.own i hi'))
    · obtain rfl : i = x.l.length := by omega
      rw [pk_app_at]
      exact ho
   size_bd := h.size_bd
   len := by simp only [List.length_append, List.length_singleton]; exact hlen
   seqs := fun i hi => by
    simp only [List.length_append, List.length_singleton] at hi ⊢
    show (pk (x.l ++ [p]) i).seq + (x.l.length + 1) = x.last + 1 + i + 1
    by_cases hi' : i < x.l.length
    · rw [pk_app_lt hi']; have := h.seqs i hi'; omega
    · obtain rfl : i = x.l.length := by omega
      rw [pk_app_at]; omega
   now_bd := h.now_bd
   bd := fun i hi => by
    simp only [List.length_append, List.length_singleton] at hi
    show (pk (x.l ++ [p]) i).att ≤ x.now ∧ (pk (x.l ++ [p]) i).wt ≤ 60 ∧ (1 ≤ (pk (x.l ++ [p]) i).times → 2 ≤ (pk (x.l ++ [p]) i).wt)
    by_cases hi' : i < x.l.length
    · rw [pk_app_lt hi']; exact h.bd i hi'
    · obtain rfl : i = x.l.length := by omega
      rw [pk_app_at]; omega }
theorem Mine.push {b : Nat} {x : Wn} {p : Pk} {V' : Value} {l' N : Nat} (hV : V'.ownBlock = x.V.ownBlock ∨ ∃ g, V'.ownBlock = some g ∧ N ≤ g) (hp : N ≤ p.g) (hB : ∀ g, p.B.ownBlock = some g → N ≤ g) {k : Nat} (h : Mine b { x with last := l', V := V', l := x.l ++ [p] } k) : Mine b x k ∨ N ≤ k := by
 rcases h with h | h | ⟨j, hj, h⟩
 · exact .inl (.inl h)
 · rcases hV with e | ⟨g, e, hg⟩
   · exact .inl (.inr (.inl (e ▸ h)))
   · refine .inr ?_
     have := e.symm.trans h
     simp only [Option.some.injEq] at this
     omega
 · simp only [List.length_append, List.length_singleton] at hj
   by_cases hj' : j < x.l.length
   · simp only [pk_app_lt hj'] at h
     exact .inl (.inr (.inr ⟨j, hj', h⟩))
   · obtain rfl : j = x.l.length := by omega
     simp only [pk_app_at] at h
     rcases h with h | h
     · exact .inr (h ▸ hp)
     · exact .inr (hB k h)
end Go.Proofs.YtokembhfebnjpaaGreat
