/- Chapter 13: a packet more in a window's row. No program in sight. -/
import Derived.Test.YtnapokdipelmiaaWin
namespace Go.Proofs.Ytnapokdipelmiaa
open Go.RowKit
set_option linter.unusedVariables false
def ptr (g : Nat) : Value := .pointer (some ⟨g, 0, none⟩)
theorem ptr_map {gs : List Nat} {i : Nat} (hi : i < gs.length) : (gs.map ptr)[i]? = some (.pointer (some ⟨gs.getD i 0, 0, none⟩)) := by
  rw [List.getElem?_map, List.getElem?_eq_getElem hi, List.getD_eq_getElem?_getD, List.getElem?_eq_getElem hi]; rfl
theorem isP_map (gs : List Nat) : ∀ u ∈ gs.map ptr, isP u := fun u hu => by
  obtain ⟨g, _, rfl⟩ := List.mem_map.1 hu
  exact ⟨_, rfl⟩
theorem row_of_own {w : World} {v : Value} {gs : List Nat} (h0 : 0 < gs.length) (h : Own w v gs.length 1 (gs.map ptr)) (hb : BlkP isP w v) : Row w v gs := by
  rcases h.2 with ⟨_, e⟩ | ⟨g, cap, sp, rfl, hat, hsp, hle, hcm⟩
  · omega
  · refine .inr ⟨g, 0, cap, _, rfl, hat, by simp; omega, by simp; omega, hle, hcm, fun i hi => ?_, ?_⟩
    · rw [Nat.zero_add, List.getElem?_append_left (by simpa using hi), ptr_map hi]
    · obtain ⟨cs, hc, hp⟩ := hb g rfl
      rw [hat.inj hc]; exact hp
theorem getD_app_lt {gs : List Nat} {q i : Nat} (hi : i < gs.length) : (gs ++ [q]).getD i 0 = gs.getD i 0 := by
  rw [List.getD_eq_getElem?_getD, List.getElem?_append_left hi, List.getD_eq_getElem?_getD]
theorem getD_app_at (gs : List Nat) (q : Nat) : (gs ++ [q]).getD gs.length 0 = q := by
  rw [List.getD_eq_getElem?_getD, List.getElem?_append_right (Nat.le_refl _), Nat.sub_self]; rfl
theorem row_app {P : Program} {w : World} {V : Value} {gs : List Nat} (h : Row w V gs) {t tx ty e e' : TypeId} (ht : P.underlying t = some (.slice e)) (he : Elem P e (.pointer none) 1 8) (hk : P.underlying tx = some (.slice e')) (hn : gs.length ≤ 1000) {a : Option Addr} (c1 : Nat) {q : Nat} (hr : Rd w a [ptr q]) :
    ∃ V' w', (Builtin.append_ #[t, tx] ty #[V, .slice a 1 c1]).run P w = .ok V' w' ∧ Row w' V' (gs ++ [q]) ∧ Kp (fun k => V.ownBlock = some k) w w' ∧ (V'.ownBlock = V.ownBlock ∨ V'.ownBlock = some w.heap.size) ∧ Row w' V gs := by
  have h1c : ∀ u ∈ [ptr q], u.oneCell' = true := fun u hu => by
    rw [List.mem_singleton] at hu; subst hu; rfl
  have hz0 : ∀ u ∈ (Value.pointer none).cells, isP u := fun u hu => by
    simp [Value.cells] at hu; subst hu; exact ⟨_, rfl⟩
  rcases h with ⟨rfl, rfl⟩ | ⟨g, o, c, cs, rfl, hat, hz0', hoc, hle, hcm, hce, hP⟩
  · obtain ⟨v', w', r1, r2, r3, r4, r5⟩ := run_append_at (P := P) w (ty := ty) ht he hk (Own.nil w 1) (m := 1) (c := c1) (news := [ptr q]) rfl hr h1c (by simp [maxLen]) (by omega)
    exact ⟨v', w', r1, row_of_own (gs := [q]) (by simp) r2 (r5 isP hz0 (isP_map [q]) (BlkP.nil _ _ _ _)), r3, r4, .inl ⟨rfl, rfl⟩⟩
  · obtain ⟨z1, z2, z3, i, hi, hz, hsz, hby⟩ := he
    have hs : Src P i.size tx (.slice a 1 c1) 1 [ptr q] w := by rw [hsz]; exact src_of_rd w hk rfl (by omega) hr h1c
    by_cases hroom : gs.length + 1 ≤ c
    · have hset : ∀ u ∈ cs.set (o + gs.length) (ptr q), isP u := fun u hu => by
        rcases List.mem_or_eq_of_mem_set hu with h | h
        · exact hP u h
        · subst h; exact ⟨_, rfl⟩
      refine ⟨_, _, run_append_room_src (P := P) w t tx ty e i ht hi g o gs.length c _ 1 _ hs hroom (fun j hj => ?_) (fun j _ => hat.frozen _), .inr ⟨g, o, c, cs.set (o + gs.length) (ptr q), by simp, ?_, by simpa using hz0', by simpa using hoc, by simpa using hroom, hcm, fun j hj => ?_, hset⟩, ?_, .inl rfl, .inr ⟨g, o, c, cs.set (o + gs.length) (ptr q), rfl, ?_, by simpa using hz0', by simpa using hoc, hle, hcm, fun j hj => ?_, hset⟩⟩
      · simp at hj
        rw [hat.cell, List.getElem?_eq_getElem (by rw [hsz]; omega)]; rfl
      · rw [hsz, Nat.mul_one]
        exact hat.set _ _
      · simp only [List.length_append, List.length_singleton] at hj
        rw [List.getElem?_set]
        by_cases hj' : j < gs.length
        · rw [if_neg (by omega), hce j hj', getD_app_lt hj']
        · obtain rfl : gs.length = j := by omega
          rw [if_pos rfl, if_pos (by omega), getD_app_at]; rfl
      · exact Kp.setCells (S := fun k => (Value.slice (some ⟨g, o, none⟩) gs.length c).ownBlock = some k) (fun _ => rfl) _ _ (Kp.refl _ w)
      · rw [hsz, Nat.mul_one]
        exact hat.set _ _
      · rw [List.getElem?_set, if_neg (by omega)]; exact hce j hj
    · have hf : (Builtin.firstCells i.size gs.length (.slice (some ⟨g, o, none⟩) gs.length c)).run P w.drew = .ok (gs.map ptr).toArray w.drew := by
        refine run_firstCells_some (P := P) w.drew i.size gs.length _ gs.length c (gs.map ptr) (by simp [hsz]) (fun j u hu => ?_)
        have hj : j < gs.length := by simpa using (List.getElem?_eq_some_iff.1 hu).1
        rw [Addr.add_mid, World.cell?_drew, hat.cell, hce j hj, ← ptr_map hj]; exact hu
      have hge := grownCap_ge w (gs.length + 1) c e
      have hcm' : grownCap w (gs.length + 1) c e ≤ maxLen := grownCap_le_maxLen w (gs.length + 1) c e (by simp only [maxLen]; omega)
      have hzl : zeros (.pointer none) (grownCap w (gs.length + 1) c e - (gs.length + 1)) = List.replicate (grownCap w (gs.length + 1) c e - (gs.length + 1)) (.pointer none) := zeros_one _ rfl _
      have hh : At (w.drew.alloc (.cells ((gs.map ptr ++ [ptr q]).toArray ++ Builtin.zeroCells (Value.pointer none).cells (grownCap w (gs.length + 1) c e - (gs.length + 1))) e)) w.heap.size ((gs ++ [q]).map ptr ++ List.replicate (grownCap w (gs.length + 1) c e - (gs.length + 1)) (.pointer none)) := by
        refine ⟨e, ?_⟩
        have := heap_alloc_new w.drew (.cells ((gs.map ptr ++ [ptr q]).toArray ++ Builtin.zeroCells (Value.pointer none).cells (grownCap w (gs.length + 1) c e - (gs.length + 1))) e)
        rw [show w.drew.heap.size = w.heap.size from rfl] at this
        rw [this, ← hzl]
        simp [zeros]
      refine ⟨_, _, run_append_grow_src (P := P) w t tx ty e i (.pointer none) ht hi hz (some ⟨g, o, none⟩) gs.length c (gs.map ptr) hf _ 1 _ hs (by omega) (by omega) (growslice_fits (by omega) (by rw [hby]; omega)), .inr ⟨w.heap.size, 0, grownCap w (gs.length + 1) c e, _, by simp, hh, by simp; omega, by simp; omega, by simpa using hge, hcm', fun j hj => ?_, fun u hu => ?_⟩, ((Kp.refl _ w).drew).alloc _, .inr rfl, .inr ⟨g, o, c, cs, rfl, (hat.drew).alloc _, hz0', hoc, hle, hcm, hce, hP⟩⟩
      · rw [Nat.zero_add, List.getElem?_append_left (by simpa using hj), ptr_map hj]
      · rcases List.mem_append.1 hu with h | h
        · exact isP_map _ u h
        · rw [(List.mem_replicate.1 h).2]; exact ⟨_, rfl⟩
variable {w w' : World} {b : Nat} {x : Wn}
/-- A packet more. -/
theorem WinC.push (h : WinC w b x) (p : Pk) (hp : At w' p.g (pkC p)) (ho : OwnB w' p.B p.body) (hq : p.seq = x.last + 1) (ht : p.times = 0 ∧ p.att = 0 ∧ p.wt = 0) {V' : Value} (hV : Row w' V' ((x.l ++ [p]).map Pk.g))
    (ha : At w' b (winC { x with last := x.last + 1, V := V', l := x.l ++ [p] })) (k : Kp (fun j => j = b ∨ x.V.ownBlock = some j) w w') (hlen : x.l.length < x.size) : WinC w' b { x with last := x.last + 1, V := V', l := x.l ++ [p] } := by
  have bV : ∀ {v : Value} {l : List Int}, OwnB w v l → ∀ g, v.ownBlock = some g → ¬ (g = b ∨ x.V.ownBlock = some g) := fun {v l} hv g hg e => by
    rcases e with e | e
    · subst e; exact hv.notC h.hat (u := .int .i64 x.size) (by simp [winC]) (not_isB_i64 _) hg
    · obtain ⟨cs, hc, h0, hP⟩ := h.row.blk e
      obtain ⟨u, hu⟩ : ∃ u, u ∈ cs := ⟨_, List.getElem_mem h0⟩
      obtain ⟨a, rfl⟩ := hP u hu
      exact hv.notC hc hu (not_isB_ptr a) hg
  exact
  { hat := ha
    row := hV
    pks := fun i hi => by
      simp only [List.length_append, List.length_singleton] at hi
      show At w' (pk (x.l ++ [p]) i).g (pkC (pk (x.l ++ [p]) i))
      by_cases hi' : i < x.l.length
      · rw [pk_app_lt hi']
        exact k.at (h.pks i hi') (fun e => by
          rcases e with e | e
          · exact (h.pkNe hi').1 e
          · exact (h.rowNe e).2.1 i hi' rfl)
      · obtain rfl : i = x.l.length := by omega
        rw [pk_app_at]
        exact hp
    own := fun i hi => by
      simp only [List.length_append, List.length_singleton] at hi
      show OwnB w' (pk (x.l ++ [p]) i).B (pk (x.l ++ [p]) i).body
      by_cases hi' : i < x.l.length
      · rw [pk_app_lt hi']
        exact (h.own i hi').kp k (bV (h.own i hi'))
      · obtain rfl : i = x.l.length := by omega
        rw [pk_app_at]
        exact ho
    size_bd := h.size_bd
    len := by simp only [List.length_append, List.length_singleton]; exact hlen
    seqs := fun i hi => by
      simp only [List.length_append, List.length_singleton] at hi ⊢
      show (pk (x.l ++ [p]) i).seq + (x.l.length + 1) = x.last + 1 + i + 1
      by_cases hi' : i < x.l.length
      · rw [pk_app_lt hi']; have := h.seqs i hi'; omega
      · obtain rfl : i = x.l.length := by omega
        rw [pk_app_at]; omega
    now_bd := h.now_bd
    bd := fun i hi => by
      simp only [List.length_append, List.length_singleton] at hi
      show (pk (x.l ++ [p]) i).att ≤ x.now ∧ (pk (x.l ++ [p]) i).wt ≤ 60 ∧ (1 ≤ (pk (x.l ++ [p]) i).times → 2 ≤ (pk (x.l ++ [p]) i).wt)
      by_cases hi' : i < x.l.length
      · rw [pk_app_lt hi']; exact h.bd i hi'
      · obtain rfl : i = x.l.length := by omega
        rw [pk_app_at]; omega }
theorem Mine.push {b : Nat} {x : Wn} {p : Pk} {V' : Value} {l' N : Nat} (hV : V'.ownBlock = x.V.ownBlock ∨ ∃ g, V'.ownBlock = some g ∧ N ≤ g) (hp : N ≤ p.g) (hB : ∀ g, p.B.ownBlock = some g → N ≤ g) {k : Nat} (h : Mine b { x with last := l', V := V', l := x.l ++ [p] } k) : Mine b x k ∨ N ≤ k := by
  rcases h with h | h | ⟨j, hj, h⟩
  · exact .inl (.inl h)
  · rcases hV with e | ⟨g, e, hg⟩
    · exact .inl (.inr (.inl (e ▸ h)))
    · refine .inr ?_
      have := e.symm.trans h
      simp only [Option.some.injEq] at this
      omega
  · simp only [List.length_append, List.length_singleton] at hj
    by_cases hj' : j < x.l.length
    · simp only [pk_app_lt hj'] at h
      exact .inl (.inr (.inr ⟨j, hj', h⟩))
    · obtain rfl : j = x.l.length := by omega
      simp only [pk_app_at] at h
      rcases h with h | h
      · exact .inr (h ▸ hp)
      · exact .inr (hB k h)
end Go.Proofs.Ytnapokdipelmiaa
