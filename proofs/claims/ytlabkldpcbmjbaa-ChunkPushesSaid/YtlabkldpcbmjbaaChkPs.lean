/- ChunkPushes: pieces that come in; the state: a cutter beside the document's. (Written by wip/chkpushes.py.) -/
import Derived.Test.YtlabkldpcbmjbaaChkPu
import Derived.Test.YtlabkldpcbmjbaaOver
namespace Go.Proofs.Ytlabkldpcbmjbaa
open Go.RowKit
set_option linter.unusedVariables false
/-- A piece: bytes, or an End. -/
abbrev Pi := List Int × Bool
def pi (ps : List Pi) (i : Nat) : Pi := ps.getD i default
def RdP (w : World) (a : Option Addr) (ps : List Pi) : Prop :=
  ∀ i, i < ps.length → ∃ b off ai ci, a = some ⟨b, off, none⟩ ∧ w.cell? ⟨b, off + i * 2, none⟩ = some (.slice ai (pi ps i).1.length ci) ∧ w.cell? ⟨b, off + i * 2 + 1, none⟩ = some (.bool (pi ps i).2) ∧ RdB w ai (pi ps i).1 ∧ (pi ps i).1.length ≤ ci ∧ ci ≤ 140737488355328
theorem rdp_open {w : World} {cs : List Value} (h : Rdg Try.prog w 34 cs) : ∃ a ps cap, cs = [.slice a ps.length cap] ∧ RdP w a ps ∧ ∀ i, (pi ps i).1.length ≤ 140737488355328 := by
  have hC : Try.prog.cellsOf 36 = 2 := by kernel_rfl
  have hi1 : Try.prog.cellsOf 4 = 1 := by kernel_rfl
  have hb1 : Try.prog.cellsOf 22 = 1 := by kernel_rfl
  obtain ⟨a, len, cap, rfl, hle, hm, hb, hi⟩ := h.slice Try.underlying34 (by rw [hC]; omega)
  obtain ⟨l, hlen, hp⟩ := list_of (α := Pi) len (fun i d => ∃ b off ai ci, a = some ⟨b, off, none⟩ ∧ w.cell? ⟨b, off + i * 2, none⟩ = some (.slice ai d.1.length ci) ∧ w.cell? ⟨b, off + i * 2 + 1, none⟩ = some (.bool d.2) ∧ RdB w ai d.1 ∧ d.1.length ≤ ci ∧ ci ≤ 140737488355328) (fun i hil => by
    obtain ⟨b, off, cs', ha, _, hlc, hc, hr⟩ := hi i (by omega)
    rw [hC] at hlc hc
    obtain ⟨hl, hf⟩ := hr.struct Try.underlying36
    match cs', hlc with
    | [v0, v1], _ =>
      have r0 : Rdg Try.prog w 22 ((([v0, v1] : List Value).drop 0).take (Try.prog.cellsOf 22)) := hf 0 _ rfl
      have r1 : Rdg Try.prog w 4 ((([v0, v1] : List Value).drop 1).take (Try.prog.cellsOf 4)) := hf 1 _ rfl
      simp only [hi1, hb1, List.drop_zero, List.drop_succ_cons, List.take_succ_cons, List.take_zero] at r0 r1
      obtain ⟨ai, li, ci, e0, hrd, h1, h2⟩ := r0.bytes Try.underlying22 Try.underlying5 (by kernel_rfl) (by kernel_rfl)
      obtain ⟨bv, e1⟩ := r1.bool Try.underlying4
      cases e0; cases e1
      have c0 := hc 0 (by omega)
      have c1 := hc 1 (by omega)
      simp only [Nat.add_zero] at c0
      exact ⟨(li, bv), b, off, ai, ci, ha, c0, by rw [Nat.add_assoc]; exact c1, hrd, h1, by omega⟩)
  subst hlen
  have hp' := fun i hi => hp i hi default
  refine ⟨a, l, cap, rfl, hp', fun i => ?_⟩
  by_cases hi : i < l.length
  · obtain ⟨b, off, ai, ci, h1, h2, h3, h4, h5, h6⟩ := hp' i hi
    exact Nat.le_trans h5 h6
  · unfold pi
    rw [List.getD_eq_getElem?_getD, List.getElem?_eq_none (by omega)]
    exact Nat.zero_le _
def totP (ps : List Pi) : Nat → Nat
  | 0 => 0
  | i + 1 => totP ps i + (pi ps i).1.length
theorem totP_le (ps : List Pi) (M : Nat) (h : ∀ i, (pi ps i).1.length ≤ M) : ∀ i, totP ps i ≤ i * M
  | 0 => by simp [totP]
  | i + 1 => by have := totP_le ps M h i; have := h i; simp only [totP]; rw [Nat.add_mul]; omega
theorem totP_each (ps : List Pi) : ∀ (n i : Nat), i < n → (pi ps i).1.length ≤ totP ps n
  | 0, i, h => absurd h (Nat.not_lt_zero _)
  | n + 1, i, h => by
    simp only [totP]
    rcases Nat.lt_or_ge i n with h1 | h1
    · have := totP_each ps n i h1; omega
    · obtain rfl : i = n := by omega
      omega
structure Ps (w wr : World) (cb rb : Nat) (ov : Bool) (la ra : Option Addr) (n lc rc : Nat) (ec cur : List Int) : Prop where
  cut : EdgeAt wr cb ec (cutT (.slice la n lc) true ov)
  lf : OwnB wr (.slice la n lc) cur
  rf : At wr rb [.slice ra n rc, .bool ov]
  rr : RdB wr ra cur
  len : n = cur.length
  op : Open cur
  eo : ov = false → ec = cur
  ne : cb ≠ rb
  cbN : w.heap.size ≤ cb
  rbN : w.heap.size ≤ rb
  lfN : ∀ g, (Value.slice la n lc).ownBlock = some g → w.heap.size ≤ g
  raN : ∀ y, ra = some y → w.heap.size ≤ y.block ∧ y.block ≠ cb ∧ y.block ≠ rb ∧ (Value.slice la n lc).ownBlock ≠ some y.block
  raL : ∀ y, ra = some y → y.block < wr.heap.size
  k : Kp (fun _ => False) w wr
section
variable {w wr w' : World} {cb rb : Nat} {ov : Bool} {la ra : Option Addr} {n lc rc : Nat} {ec cur : List Int}
theorem not_isB_bool (b : Bool) : ¬ isB (.bool b) := fun ⟨m, e, _⟩ => by cases e
theorem OwnB.notAt {v : Value} {l : List Int} {b : Nat} {cs : List Value} (h : OwnB w v l) (ha : At w b cs) {u : Value} (hu : u ∈ cs) (hn : ¬ isB u) : v.ownBlock ≠ some b := fun e => by
  obtain ⟨ds, hds, hq⟩ := h.blk b e
  have e1 := ha.inj hds
  subst e1
  exact hn (hq u hu)
theorem Ps.lfR (h : Ps w wr cb rb ov la ra n lc rc ec cur) : (Value.slice la n lc).ownBlock ≠ some rb := h.lf.notAt h.rf (u := .bool ov) (by simp) (not_isB_bool _)
theorem Ps.lfC (h : Ps w wr cb rb ov la ra n lc rc ec cur) : (Value.slice la n lc).ownBlock ≠ some cb := h.cut.notB h.lf
/-- What is none of its blocks may turn. -/
theorem Ps.kp {S : Nat → Prop} (h : Ps w wr cb rb ov la ra n lc rc ec cur) (k : Kp S wr w') (h1 : ¬ S cb) (h2 : ¬ S rb) (h3 : ∀ g, (Value.slice la n lc).ownBlock = some g → ¬ S g) (h4 : ∀ y, ra = some y → ¬ S y.block) (h5 : ∀ i, S i → w.heap.size ≤ i) : Ps w w' cb rb ov la ra n lc rc ec cur :=
  ⟨h.cut.kp k h1, h.lf.kp k h3, k.at h.rf h2, h.rr.kp k h4, h.len, h.op, h.eo, h.ne, h.cbN, h.rbN, h.lfN, h.raN, fun y hy => Nat.lt_of_lt_of_le (h.raL y hy) k.size, h.k.then k (fun i hi e => by have := h5 i e; omega)⟩
theorem Ps.kp0 (h : Ps w wr cb rb ov la ra n lc rc ec cur) (k : Kp (fun _ => False) wr w') : Ps w w' cb rb ov la ra n lc rc ec cur := h.kp k (fun h => h) (fun h => h) (fun _ _ h => h) (fun _ _ h => h) (fun _ h => h.elim)
theorem Ps.c20 (h : Ps w wr cb rb ov la ra n lc rc ec cur) : wr.cell? ⟨cb, 20, none⟩ = some (.slice la n lc) := (edge_tail h.cut 0).1
theorem Ps.r0 (h : Ps w wr cb rb ov la ra n lc rc ec cur) : wr.cell? ⟨rb, 0, none⟩ = some (.slice ra n rc) := (h.rf.cell 0).trans rfl
/-- Both are ended. -/
theorem ps_end (h : Ps w wr cb rb false la ra n lc rc ec cur) :
    Calls Try.prog 22 #[.pointer (some ⟨cb, 0, none⟩)] wr fun e w1 => e = .returned (.tuple #[.slice la n lc, .int .i64 0]) ∧
      Calls Try.prog 23 #[.pointer (some ⟨rb, 0, none⟩)] w1 fun e w2 => e = .returned (.tuple #[.slice ra n rc, .int .i64 0]) ∧ RdB w2 la cur ∧ RdB w2 ra cur ∧ Ps w w2 cb rb true none none 0 0 0 ec [] := by
  refine (end_cut cb ec _ wr h.cut).mono ?_
  rintro e w1 ⟨rfl, hE, k1⟩
  refine ⟨rfl, ?_⟩
  have hrf := k1.at h.rf (fun e => h.ne e.symm)
  refine (rend_any rb ra n rc w1 hrf).mono ?_
  rintro e w2 ⟨rfl, hat, k2⟩
  have lf2 := (h.lf.kp k1 (fun g hg e => by subst e; exact h.lfC hg)).kp k2 (fun g hg e => by subst e; exact h.lfR hg)
  have rr2 := (h.rr.kp k1 (fun y hy e => (h.raN y hy).2.1 e)).kp k2 (fun y hy e => (h.raN y hy).2.2.1 e)
  obtain ⟨_, _, e1, hrd, _⟩ := lf2.form
  simp only [Value.slice.injEq] at e1
  rw [← e1.1] at hrd
  have kk := (h.k.then k1 (fun i hi e => by have := h.cbN; omega)).then k2 (fun i hi e => by have := h.rbN; omega)
  exact ⟨rfl, hrd, rr2, hE.kp k2 h.ne, OwnB.nil' _, hat, RdB.nil _ _, rfl, Open.nil, fun e => (by cases e), h.ne, h.cbN, h.rbN, fun g hg => (by simp [Value.ownBlock] at hg), fun y hy => (by cases hy), fun y hy => (by cases hy), kk⟩
/-- Both are pushed the same bytes: the cutter a lent copy, that begins where wr ended. -/
theorem ps_push (h : Ps w wr cb rb false la ra n lc rc ec cur) {w1 : World} (k1 : Kp (fun _ => False) wr w1) (q : List Int) (m : Nat) (hm : m = q.length) (hq : m ≤ 8000) (hat : At w1 wr.heap.size ((q ++ marks m).map (Value.int .u8))) (hqb : Byt q) (a0 : Option Addr) (cap0 : Nat) (hq0 : RdB w a0 q) :
    Calls Try.prog 26 #[.pointer (some ⟨cb, 0, none⟩), .slice (some ⟨wr.heap.size, 0, none⟩) m (m + 3)] w1 fun e w2 => ∃ (x : Option Addr) (xn xc : Nat) (vs : List Value) (la' : Option Addr) (n' lc' : Nat), e = .returned (.tuple #[.slice x xn xc, .int .i64 0]) ∧ Kp (fun _ => False) w w2 ∧
      Calls Try.prog 27 #[.pointer (some ⟨rb, 0, none⟩), .slice a0 m cap0] w2 fun e w3 => ∃ (y : Option Addr) (yc : Nat) (A : Option Addr) (C : Nat) (ls : List (List Int)), e = .returned (.tuple #[.slice y xn yc, .int .i64 0]) ∧ xn = ls.length ∧ ls.length ≤ m ∧ LLs 0 w3 (.slice x xn xc) ls vs ∧ RdL w3 y ls ∧
        (∀ g i, i < ls.length → (vs.getD i undef).ownBlock = some g → w.heap.size ≤ g ∧ g ≠ cb ∧ g ≠ rb ∧ (Value.slice la' n' lc').ownBlock ≠ some g ∧ (∀ z, A = some z → z.block ≠ g)) ∧
        At w3 wr.heap.size ((q ++ marks m).map (Value.int .u8)) ∧ (wr.heap.size ≠ cb ∧ wr.heap.size ≠ rb ∧ (Value.slice la' n' lc').ownBlock ≠ some wr.heap.size ∧ (∀ z, A = some z → z.block ≠ wr.heap.size) ∧ ∀ i, i < ls.length → (vs.getD i undef).ownBlock ≠ some wr.heap.size) ∧ (∀ g, (Value.slice x xn xc).ownBlock = some g → wr.heap.size < g) ∧ ∃ cur', Ps w w3 cb rb false la' A n' lc' C cur' cur' := by
  subst hm
  have hp := h.kp0 k1
  have hs1 := k1.size
  have hgl := hat.lt
  have hcbl := h.cut.lt
  have hrbl := h.rf.lt
  have hlfl := h.lf.lt
  have ec' := h.eo rfl
  subst ec'
  have hmk : q.length ≤ 8000 := hq
  refine (push_cut cb ec _ (some ⟨wr.heap.size, 0, none⟩) (q.length + 3) q w1 hp.cut hp.lf h.op (RdB.lent' hat hqb (by omega)) (by omega) (by omega) (by unfold maxLen; omega) (fun _ y hy => ?_)).mono ?_
  · cases hy
    exact ⟨fun e => by simp only at e; omega, fun e => by have := hlfl _ e; simp only at this; omega⟩
  rintro e w2 ⟨v, vs, left, rfl, hl, hE, ho, hv, hus, hlf, k2⟩
  obtain ⟨x, xc, e1, _, _⟩ := hl.own.form
  obtain ⟨la', lc', e2, _, _⟩ := ho.form
  subst e1; subst e2
  refine ⟨x, (chs ec q).1.length, xc, vs, la', (chs ec q).2.length, lc', rfl, ?_⟩
  have hrf2 := k2.at hp.rf (fun e => by
    rcases e with e | e
    · exact h.ne e.symm
    · exact h.lfR e)
  have hrr2 : RdB w2 ra ec := hp.rr.kp k2 (fun y hy e => by
    rcases e with e | e
    · exact (h.raN y hy).2.1 e
    · exact (h.raN y hy).2.2.2 e)
  have hs2 := k2.size
  have hlt1 := h.op.lt
  have hn1 : ec.length + q.length ≤ 100000 := by omega
  have kw2 : Kp (fun _ => False) w w2 := hp.k.then k2 (fun i hi e => by
    rcases e with rfl | e
    · have := h.cbN; omega
    · have := h.lfN i e; omega)
  refine ⟨kw2, ?_⟩
  refine (rpush_any rb ra n rc ec a0 q.length cap0 q w2 hrf2 h.len hrr2 rfl (hq0.kp0 kw2 (fun _ _ h => h)) h.op hn1).mono ?_
  rintro e w3 ⟨va, vn, vc, us, A, C, rfl, hL3, hat3, hr3, hA3, k3⟩
  obtain ⟨_, _, e3, _, _⟩ := hL3.own.form
  simp only [Value.slice.injEq] at e3
  obtain ⟨rfl, rfl, rfl⟩ := e3
  have hEl := hE.lt
  have hlel : ∀ g i, i < (chs ec q).1.length → (vs.getD i undef).ownBlock = some g → g < w2.heap.size := fun g i hi hg => hl.ltE hi hg
  have hne2 : ∀ g i, i < (chs ec q).1.length → (vs.getD i undef).ownBlock = some g → g ≠ rb := fun g i hi hg e => by
    subst e
    exact (hl.each i hi).notAt hrf2 (u := .bool false) (by simp) (not_isB_bool _) hg
  have hvr : (Value.slice x (chs ec q).1.length xc).ownBlock ≠ some rb := fun e => by have := hv _ e; omega
  have hlr : (Value.slice la' (chs ec q).2.length lc').ownBlock ≠ some rb := ho.notAt hrf2 (u := .bool false) (by simp) (not_isB_bool _)
  have hchl := chs_len_le q ec
  have hE3 := hE.kp k3 h.ne
  have ho3 := ho.kp k3 (fun g hg e => by subst e; exact hlr hg)
  refine ⟨va, vc, A, C, (chs ec q).1, rfl, rfl, hchl, hl.kp k3 (fun g hg e => by subst e; exact hvr hg) (fun i g hi hg e => hne2 g i hi hg e), hL3.rdl, fun g i hi hg => ⟨?_, fun e => ?_, hne2 g i hi hg, fun e => (hlf g e).2 i hi hg, fun z hz e => ?_⟩, ?_, ⟨by omega, by omega, fun e => ?_, fun z hz e => ?_, fun i hi e => ?_⟩, fun g hg => ?_, (chs ec q).2, ⟨?_, ho3, hat3, hr3, rfl, ?_, fun _ => rfl, h.ne, h.cbN, h.rbN, fun g hg => ?_, fun z hz => ⟨?_, ?_, ?_, fun e => ?_⟩, fun z hz => (hA3 z hz).2, ?_⟩⟩
  · rcases hus i g hi hg with hh | hh
    · have := h.k.size; omega
    · exact h.lfN g hh
  · subst e; exact hE.notB (hl.each i hi) hg
  · have h1 := hlel g i hi hg; have h2 := hA3 z hz; omega
  · exact k3.at (k2.at hat (fun e => by
      rcases e with e | e
      · omega
      · have := hlfl _ e; omega)) (fun e => by omega)
  · rcases (hlf _ e).1 with hh | hh
    · omega
    · have := hlfl _ hh; omega
  · have := hA3 z hz; omega
  · rcases hus i _ hi e with hh | hh
    · omega
    · have := hlfl _ hh; omega
  · have := hv g hg; omega
  · exact hE3
  · exact chs_open q ec h.op
  · rcases (hlf g hg).1 with hh | hh
    · have := h.k.size; omega
    · exact h.lfN g hh
  · have := hA3 z hz; have := kw2.size; omega
  · have := hA3 z hz; omega
  · have := hA3 z hz; omega
  · have := ho.lt _ e; have := hA3 z hz; omega
  · exact kw2.then k3 (fun i hi e => by have := h.rbN; omega)
end
end Go.Proofs.Ytlabkldpcbmjbaa
