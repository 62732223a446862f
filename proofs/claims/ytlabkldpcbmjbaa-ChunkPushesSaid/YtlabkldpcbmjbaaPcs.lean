/- ChunkPieces's state: a cutter, and what it told of what was pushed. (Written by wip/chkpieces.py.) -/
import Derived.Test.YtlabkldpcbmjbaaChkL
import Derived.Test.YtlabkldpcbmjbaaChkW
import Derived.Test.YtlabkldpcbmjbaaRdi
namespace Go.Proofs.Ytlabkldpcbmjbaa
open Go.RowKit
set_option linter.unusedVariables false
theorem getD_app_lt {α : Type} (l r : List α) (d : α) (i : Nat) (h : i < l.length) : (l ++ r).getD i d = l.getD i d := by
  rw [List.getD_eq_getElem?_getD, List.getElem?_append_left h, List.getD_eq_getElem?_getD]
theorem getD_app_ge {α : Type} (l r : List α) (d : α) (i : Nat) (h : l.length ≤ i) : (l ++ r).getD i d = r.getD (i - l.length) d := by
  rw [List.getD_eq_getElem?_getD, List.getElem?_append_right h, List.getD_eq_getElem?_getD]
/-- What one list tells, behind what another does. -/
theorem LLs.cat {P : Program} {w : World} {v : Value} {ls ms : List (List Int)} {vs us : List Value} {a : Option Addr} {m c : Nat} (h : LLs 0 w v ls vs) (h' : LLs 0 w (.slice a m c) ms us) {t tx ty e e' : TypeId} (ht : P.underlying t = some (.slice e)) {bytes : Nat} (he : Elem P e (.slice none 0 0) 1 bytes) (hk : P.underlying tx = some (.slice e')) (hbts : bytes ≤ 100)
    (hm : m = ms.length) (hne : ∀ i g, i < ms.length → (us.getD i undef).ownBlock = some g → v.ownBlock ≠ some g ∧ ∀ j, j < ls.length → (vs.getD j undef).ownBlock ≠ some g) (hn : ls.length + m ≤ 1000000000) :
    ∃ v' w', (Builtin.append_ #[t, tx] ty #[v, .slice a m c]).run P w = .ok v' w' ∧ LLs 0 w' v' (ls ++ ms) (vs ++ us) ∧ Kp (fun k => v.ownBlock = some k) w w' ∧ (v'.ownBlock = v.ownBlock ∨ v'.ownBlock = some w.heap.size) := by
  subst hm
  have hvl := h.len
  have hul := h'.len
  have hs : ∀ (xs : List Value) (ns : List (List Int)), xs.length = ns.length → (∀ i, i < ns.length → OwnB w (xs.getD i undef) (ns.getD i [])) → ∀ x ∈ xs, isS x := fun xs ns hl he x hx => by
    obtain ⟨i, hi, rfl⟩ := List.getElem_of_mem hx
    obtain ⟨a, c, e, _⟩ := (he i (by omega)).form
    rw [List.getD_eq_getElem?_getD, List.getElem?_eq_getElem hi] at e
    exact ⟨a, _, c, e⟩
  have hus := hs us ms hul h'.each
  have hrd : Rd w a us := h'.own.rd
  obtain ⟨v', w', r1, r2, r3, r4, r5⟩ := run_append_at (P := P) (ty := ty) w ht he hk h.own (a := a) (m := ms.length) (c := c) (news := us) (by omega) hrd (fun u hu => by obtain ⟨_, _, _, e⟩ := hus u hu; rw [e]; rfl) (by unfold maxLen; omega) (by
    have : (ls.length + ms.length) * bytes ≤ 1000000000 * 100 := Nat.mul_le_mul hn hbts
    omega)
  refine ⟨v', w', r1, ⟨by rw [List.length_append]; exact r2, r5 isS isS_zero (fun x hx => ?_) h.blk, fun i hi => ?_, fun i j k hij hj hik => ?_, fun k hk => Nat.zero_le _, fun i k hi hik => Nat.zero_le _⟩, r3, r4⟩
  · rcases List.mem_append.1 hx with hx | hx
    · exact hs vs ls hvl h.each x hx
    · exact hus x hx
  · rw [List.length_append] at hi
    by_cases hi2 : i < ls.length
    · rw [getD_app_lt _ _ _ _ hi2, getD_app_lt _ _ _ _ (by omega)]
      exact (h.each i hi2).kp r3 (fun g hg e => h.apart e hi2 (h.each i hi2) hg)
    · rw [getD_app_ge _ _ _ _ (by omega), getD_app_ge _ _ _ _ (by omega), hvl]
      exact (h'.each _ (by omega)).kp r3 (fun g hg e => (hne _ g (by omega) hg).1 e)
  · rw [List.length_append] at hj
    by_cases hi2 : i < ls.length
    · rw [getD_app_lt _ _ _ _ (by omega)] at hik
      by_cases hj2 : j < ls.length
      · rw [getD_app_lt _ _ _ _ (by omega)]; exact h.dis i j k hij hj2 hik
      · rw [getD_app_ge _ _ _ _ (by omega), hvl]
        exact fun e => (hne _ k (by omega) e).2 i hi2 hik
    · rw [getD_app_ge _ _ _ _ (by omega), hvl] at hik
      rw [getD_app_ge _ _ _ _ (by omega), hvl]
      exact h'.dis _ _ k (by omega) (by omega) hik
structure Pc (w wr : World) (cb : Nat) (left got : Value) (vs : List Value) (p : List Int) : Prop where
  cut : EdgeAt wr cb (chs [] p).2 (cutT left true false)
  lf : OwnB wr left (chs [] p).2
  gt : LLs 0 wr got (chs [] p).1 vs
  cbN : w.heap.size ≤ cb
  lfN : ∀ g, left.ownBlock = some g → w.heap.size ≤ g
  gtN : ∀ g, got.ownBlock = some g → w.heap.size ≤ g
  ne : ∀ g, left.ownBlock = some g → got.ownBlock ≠ some g
  neE : ∀ i g, i < (chs [] p).1.length → (vs.getD i undef).ownBlock = some g → left.ownBlock ≠ some g
  k : Kp (fun _ => False) w wr
theorem chs_more (p q : List Int) : chs [] (p ++ q) = ((chs [] p).1 ++ (chs (chs [] p).2 q).1, (chs (chs [] p).2 q).2) := chs_append p q []
theorem pc_push {w wr : World} {cb : Nat} {left got : Value} {vs : List Value} {p : List Int} (h : Pc w wr cb left got vs p) (a : Option Addr) (n cap : Nat) (q : List Int) (hq : q.length = n) (hr : RdB w a q) (hp : p.length ≤ 100000) (hn : n ≤ 100000) (hc : n ≤ cap) (hcm : cap ≤ maxLen) :
    Calls Try.prog 26 #[.pointer (some ⟨cb, 0, none⟩), .slice a n cap] wr fun e w' => ∃ x m c la ln lc ga gn gc w'' vs', e = .returned (.tuple #[.slice x m c, .int .i64 0]) ∧ w'.cell? ⟨cb, 20, none⟩ = some (.slice la ln lc) ∧ ln ≤ 1024 ∧
      (Builtin.append_ #[24, 24] 24 #[got, .slice x m c]).run Try.prog w' = .ok (.slice ga gn gc) w'' ∧ Pc w w'' cb (.slice la ln lc) (.slice ga gn gc) vs' (p ++ q) := by
  subst hq
  have hop : Open (chs [] p).2 := chs_open p [] Open.nil
  refine (push_cut cb _ left a cap q wr h.cut h.lf hop (hr.kp0 h.k (fun _ _ h => h)) hn hc hcm (fun hne y hy => ?_)).mono ?_
  · obtain ⟨b, o, e, hcell⟩ := hr.cell 0 (by cases q with | nil => exact absurd rfl hne | cons => simp)
    rw [hy] at e
    cases e
    have hb := World.block_lt_of_cell? w _ hcell
    exact ⟨fun e => by have := h.cbN; simp only at e hb; omega, fun e => by have := h.lfN _ e; simp only at this hb; omega⟩
  rintro e w' ⟨v, us, left', rfl, hl, hE, ho, hv, hus, hlf, k⟩
  obtain ⟨x, c, e1, _, _⟩ := hl.own.form
  obtain ⟨la, lc, e2, _, _⟩ := ho.form
  subst e1; subst e2
  have hsz := h.k.size
  have hS : ∀ i, (i = cb ∨ left.ownBlock = some i) → w.heap.size ≤ i := fun i hi => by
    rcases hi with rfl | hi
    · exact h.cbN
    · exact h.lfN i hi
  have hkw : Kp (fun _ => False) w w' := h.k.then k (fun i hi e => by have := hS i e; omega)
  have hg1 := h.gt.kp k (fun g hg e => by
    rcases e with rfl | e
    · exact h.cut.notS h.gt hg
    · exact h.ne g e hg) (fun i g hi hg e => by
    rcases e with rfl | e
    · exact h.cut.notB (h.gt.each i hi) hg
    · exact h.neE i g hi hg e)
  have hlen := chs_len_le q (chs [] p).2
  have hlen2 := chs_len_le p []
  obtain ⟨got', w'', hrun, hL, k2, hb⟩ := hg1.cat (P := Try.prog) (t := 24) (tx := 24) (ty := 24) hl Try.underlying24 elem_sl Try.underlying24 (by omega) rfl (fun i g hi hg => by
    rcases hus i g hi hg with hh | hh
    · refine ⟨fun e => ?_, fun j hj e => ?_⟩
      · have := h.gt.own.lt g e; omega
      · have := h.gt.ltE hj e; omega
    · exact ⟨h.ne g hh, fun j hj e => h.neE j g hj e hh⟩) (by omega)
  obtain ⟨ga, gc, e3, _, _⟩ := hL.own.form
  subst e3
  have hEw := hE.lt
  have hsz2 := k.size
  have hgB : ∀ g, got.ownBlock = some g → g ≠ cb := fun g hg e => by subst e; exact h.cut.notS h.gt hg
  have ho2 : OwnB w'' (.slice la (chs (chs [] p).2 q).2.length lc) (chs (chs [] p).2 q).2 := ho.kp k2 (fun g hg e => by
    rcases (hlf g hg).1 with hh | hh
    · have := h.gt.own.lt g e; omega
    · exact h.ne g hh e)
  have hE2 := hE.kp k2 (fun e => hgB cb e rfl)
  refine ⟨x, _, c, la, _, lc, ga, _, gc, w'', vs ++ us, rfl, (edge_tail hE 0).1, Nat.le_of_lt (chs_open q _ hop).lt, hrun, ⟨?_, ?_, ?_, h.cbN, fun g hg => ?_, fun g hg => ?_, fun g hg e => ?_, fun i g hi hg e => ?_, ?_⟩⟩
  · rw [chs_more]; exact hE2
  · rw [chs_more]; exact ho2
  · rw [chs_more]; exact hL
  · rcases (hlf g hg).1 with hh | hh
    · omega
    · exact h.lfN g hh
  · rcases hb with e | e
    · exact h.gtN g (e ▸ hg)
    · rw [e] at hg; cases hg; omega
  · rcases hb with e3 | e3
    · rw [e3] at e
      rcases (hlf g hg).1 with hh | hh
      · have := h.gt.own.lt g e; omega
      · exact h.ne g hh e
    · rw [e3] at e; cases e
      have := ho.lt _ hg; omega
  · rw [chs_more] at hi
    simp only [List.length_append] at hi
    by_cases hi2 : i < (chs [] p).1.length
    · rw [getD_app_lt _ _ _ _ (by have := h.gt.len; omega)] at hg
      rcases (hlf g e).1 with hh | hh
      · have := h.gt.ltE hi2 hg; omega
      · exact h.neE i g hi2 hg hh
    · rw [getD_app_ge _ _ _ _ (by have := h.gt.len; omega), h.gt.len] at hg
      exact (hlf g e).2 _ (by omega) hg
  · exact hkw.then k2 (fun i hi e => by have := h.gtN i e; omega)
theorem pc_new {w wr : World} {cb : Nat} (hE : EdgeAt wr cb [] (cutT (.slice none 0 0) true false)) (hc : w.heap.size ≤ cb) (k : Kp (fun _ => False) w wr) : Pc w wr cb (.slice none 0 0) (.slice none 0 0) [] [] :=
  ⟨hE, OwnB.nil' _, LLs.nil _ _, hc, fun g hg => by simp [Value.ownBlock] at hg, fun g hg => by simp [Value.ownBlock] at hg, fun g hg => by simp [Value.ownBlock] at hg, fun i g hi hg => by simp [chs] at hi, k⟩
theorem pc_end {w wr : World} {cb : Nat} {la : Option Addr} {ln lc : Nat} {got : Value} {vs : List Value} {p : List Int} (h : Pc w wr cb (.slice la ln lc) got vs p) (hp : p.length ≤ 100000) :
    Calls Try.prog 22 #[.pointer (some ⟨cb, 0, none⟩)] wr fun e w' => e = .returned (.tuple #[.slice la ln lc, .int .i64 0]) ∧ Kp (fun _ => False) w w' ∧
      (ln = 0 → ∃ ga gc, got = .slice ga (chunks p).length gc ∧ LLs 0 w' got (chunks p) vs) ∧
      (0 < ln → ∃ ga gc w'', (Builtin.append_ #[24, 24] 24 #[got, .slice (some ⟨w'.heap.size, 0, none⟩) 1 1]).run Try.prog (w'.alloc (.cells #[.slice la ln lc] 22)) = .ok (.slice ga (chunks p).length gc) w'' ∧ LLs 0 w'' (.slice ga (chunks p).length gc) (chunks p) (vs ++ [.slice la ln lc]) ∧ Kp (fun _ => False) w w'') := by
  refine (end_cut cb _ _ wr h.cut).mono ?_
  rintro e w' ⟨rfl, hE, k⟩
  have hsz := h.k.size
  have hkw : Kp (fun _ => False) w w' := h.k.then k (fun i hi e => by have := h.cbN; omega)
  have hL := h.gt.kp k (fun g hg e => by subst e; exact h.cut.notS h.gt hg) (fun i g hi hg e => by subst e; exact h.cut.notB (h.gt.each i hi) hg)
  have ho := h.lf.kp k (fun g hg e => by subst e; exact h.cut.notB h.lf hg)
  obtain ⟨_, _, e0, _, _⟩ := ho.form
  simp only [Value.slice.injEq] at e0
  have eln := e0.2.1
  have hlen2 := chs_len_le p []
  refine ⟨rfl, hkw, fun h0 => ?_, fun h0 => ?_⟩
  · have e1 : (chs [] p).2 = [] := List.eq_nil_of_length_eq_zero (by omega)
    have e2 : chunks p = (chs [] p).1 := by unfold chunks; rw [if_pos e1, List.append_nil]
    obtain ⟨ga, gc, e3, _, _⟩ := hL.own.form
    rw [e2]
    exact ⟨ga, gc, e3, hL⟩
  · have e1 : (chs [] p).2 ≠ [] := fun e => by rw [e] at eln; simp at eln; omega
    have e2 : chunks p = (chs [] p).1 ++ [(chs [] p).2] := by unfold chunks; rw [if_neg e1]
    have ka := (Kp.refl (fun _ => False) w').alloc (.cells #[.slice la ln lc] 22)
    obtain ⟨v', w'', hr, hL2, k2, _⟩ := (hL.kp ka (fun _ _ h => h) (fun _ _ _ _ h => h)).app (P := Try.prog) (t := 24) (tx := 24) (ty := 24) Try.underlying24 elem_sl Try.underlying24 (by omega) (ho.kp ka (fun _ _ h => h))
      (fun g hg => ⟨h.ne g hg, Nat.zero_le _, fun i hi e => h.neE i g hi e hg⟩) (by omega) (Nat.zero_le _) (At.new w' [.slice la ln lc] _)
    obtain ⟨ga, gc, e3, _, _⟩ := hL2.own.form
    subst e3
    rw [e2]
    exact ⟨ga, gc, w'', hr, hL2, (hkw.trans ka).then k2 (fun i hi e => by have := h.gtN i e; omega)⟩
end Go.Proofs.Ytlabkldpcbmjbaa
