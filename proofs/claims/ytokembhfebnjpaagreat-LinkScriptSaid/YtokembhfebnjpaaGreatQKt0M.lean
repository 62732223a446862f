/- Bytes, as values of one cell. -/
import Derived.Test.YtokembhfebnjpaaGreatQBaseM
import Derived.Test.YtokembhfebnjpaaGreatQMemM
import Derived.Laws.BytesArg
namespace Go.Proofs.YtokembhfebnjpaaGreat
set_option maxRecDepth 20000
open Go.RowKit
set_option linter.unusedVariables false
theorem elem_u8 : Elem Tryz.prog 5 (.int .u8 0) 1 1 := Elem.mk' (by kernel_rfl) rfl (by omega) (by simp [Value.cells, Value.oneCell'])
theorem RdB.rd {w : World} {a : Option Addr} {l : List Int} (h : RdB w a l) : Rd w a (l.map (Value.int .u8)) := fun i hi => by
 simp at hi
 obtain ⟨b, off, ha, hc⟩ := h.cell i hi
 exact ⟨b, off, ha, by rw [hc]; simp [List.getD_eq_getElem?_getD, List.getElem?_eq_getElem hi]⟩
theorem oneCell_u8 (l : List Int) : ∀ v ∈ l.map (Value.int .u8), v.oneCell' = true := fun v hv => by
 obtain ⟨_, _, rfl⟩ := List.mem_map.1 hv; rfl
theorem run_append_b {P : Program} (w : World) {t tx ty e e' : TypeId} (ht : P.underlying t = some (.slice e)) (he : Elem P e (.int .u8 0) 1 1) (hk : P.underlying tx = some (.slice e')) {v : Value} {l : List Int} (ho : OwnB w v l)
 {a : Option Addr} {c : Nat} {m : List Int} (hr : RdB w a m) (hn : l.length + m.length ≤ 1000000000) :
 ∃ v' w', (Builtin.append_ #[t, tx] ty #[v, .slice a m.length c]).run P w = .ok v' w' ∧ OwnB w' v' (l ++ m) ∧ Kp (fun k => v.ownBlock = some k) w w' ∧ (v'.ownBlock = v.ownBlock ∨ v'.ownBlock = some w.heap.size) := by
 obtain ⟨v', w', h1, h2, h3, h4, h5⟩ := run_append_at (P := P) (ty := ty) w ht he hk ho.own (a := a) (m := m.length) (c := c) (news := m.map (Value.int .u8)) (by simp) hr.rd (oneCell_u8 m) (by unfold maxLen; omega) (by omega)
 refine ⟨v', w', h1, ⟨?_, h5 isB isB_zero (by rw [← List.map_append]; exact isB_map (ho.byt.append hr.bd)) ho.blk, ho.byt.append hr.bd, by simp; omega⟩, h3, h4⟩
 rw [List.length_append, List.map_append]; exact h2
theorem OwnB.nil' (w : World) : OwnB w (.slice none 0 0) [] := ⟨Own.nil w 1, BlkP.nil _ _ _ _, fun x hx => by simp at hx, by simp⟩
theorem run_bytes_str {P : Program} (w : World) {src e dst : TypeId} (hs : P.underlying src = some (.slice e)) (he : P.underlying e = some (.int .u8)) (hd : P.underlying dst = some .string) {a : Option Addr} {l : List Int} (h : RdB w a l) (cap : Nat) :
 (convert src dst (.slice a l.length cap)).run P w = .ok (.string (strOfNums l)) w := by
 rcases a with _ | ⟨b, off, spot⟩
 · have : l = [] := by
    cases l with
    | nil => rfl
    | cons x r => obtain ⟨_, _, e, _⟩ := h.cell 0 (by simp); cases e
   subst this
   exact run_convert_bytes_nil w src e hs he _ cap dst hd
 · by_cases h0 : l = []
   · subst h0
     rw [run_convert_bytes_string w src dst e _ _ cap hs he hd]
     simp [Conv.bytesToString, loadCells, loadCellsFrom, strOfNums]
     rfl
   · obtain ⟨_, _, e', _⟩ := h.cell 0 (List.length_pos_iff.2 h0)
     cases e'
     refine run_convert_bytes_arg w src e hs he b off l.length cap l rfl (fun i hi => ?_) dst hd
     obtain ⟨_, _, e', hc⟩ := h.cell i hi
     cases e'
     exact hc
theorem strOfNums_inj {l m : List Int} (hl : Byt l) (hm : Byt m) (h : strOfNums l = strOfNums m) : l = m := by
 have h1 : l.map (fun n => UInt8.ofNat n.toNat) = m.map (fun n => UInt8.ofNat n.toNat) := by
  rw [← strOfNums_data, ← strOfNums_data, h]
 have h2 := congrArg (List.map fun c : UInt8 => (c.toNat : Int)) h1
 rw [List.map_map, List.map_map] at h2
 have key : ∀ x : List Int, Byt x → x.map ((fun c : UInt8 => (c.toNat : Int)) ∘ fun n => UInt8.ofNat n.toNat) = x := fun x hx => by
  conv => rhs; rw [← List.map_id x]
  refine List.map_congr_left fun n hn => ?_
  have := hx n hn
  simp [UInt8.toNat_ofNat']
  omega
 rwa [key l hl, key m hm] at h2
theorem same_beq {l m : List Int} (hl : Byt l) (hm : Byt m) : ((strOfNums l).toList == (strOfNums m).toList) = decide (l = m) := by
 rw [ByteArray.toList_eq, ByteArray.toList_eq]
 by_cases h : l = m
 · subst h; simp
 · rw [decide_eq_false h, beq_eq_false_iff_ne]
   intro e
   exact h (strOfNums_inj hl hm (by rcases hA : strOfNums l with ⟨A⟩; rcases hB : strOfNums m with ⟨B⟩; rw [hA, hB] at e; exact congrArg ByteArray.mk (Array.toList_inj.1 e)))
theorem same_any (a b : Option Addr) (ca cb : Nat) (l m : List Int) (w : World) (h : RdB w a l) (h' : RdB w b m) :
 Calls Tryz.prog 37 #[.slice a l.length ca, .slice b m.length cb] w fun e w' => e = .returned (.bool (decide (l = m))) ∧ w = w' := by
 have h1 := run_bytes_str (P := Tryz.prog) (src := 32) (dst := 9) w Tryz.underlying32 Tryz.underlying5 Tryz.underlying9 h ca
 have h2 := run_bytes_str (P := Tryz.prog) (src := 32) (dst := 9) w Tryz.underlying32 Tryz.underlying5 Tryz.underlying9 h' cb
 go_enter Tryz.func37, Tryz.ntmps37
 go_wp2
 go_ret
 exact ⟨ret_bool (same_beq h.bd h'.bd), rfl⟩

theorem same_n (a b : Option Addr) (n k ca cb : Nat) (l m : List Int) (w : World) (h : RdB w a l) (h' : RdB w b m) (hn : l.length = n) (hk : m.length = k) :
 Calls Tryz.prog 37 #[.slice a n ca, .slice b k cb] w fun e w' => e = .returned (.bool (decide (l = m))) ∧ w = w' := by
 subst hn; subst hk; exact same_any a b ca cb l m w h h'
theorem Own.rdB {w : World} {a : Option Addr} {n c : Nat} {l : List Int} (h : Own w (.slice a n c) n 1 (l.map (Value.int .u8))) (hb : Byt l) (hl : n ≤ 4611686018427387904) : RdB w a l :=
 ⟨fun i hi => by
  obtain ⟨b, off, ha, hc⟩ := h.rd i (by simpa using hi)
  exact ⟨b, off, ha, by rw [hc]; simp [List.getD_eq_getElem?_getD, List.getElem?_eq_getElem hi]⟩, hb, by have := h.1; simp at this; omega⟩
def isS (u : Value) : Prop := ∃ a n c, u = .slice a n c
structure LLs (B : Nat) (w : World) (v : Value) (ls : List (List Int)) (vs : List Value) : Prop where
 own : Own w v ls.length 1 vs
 blk : BlkP isS w v
 each : ∀ i, i < ls.length → OwnB w (vs.getD i undef) (ls.getD i [])
 dis : ∀ i j k, i < j → j < ls.length → (vs.getD i undef).ownBlock = some k → (vs.getD j undef).ownBlock ≠ some k
 ge : ∀ k, v.ownBlock = some k → B ≤ k
 geE : ∀ i k, i < ls.length → (vs.getD i undef).ownBlock = some k → B ≤ k
theorem LLs.nil (B : Nat) (w : World) : LLs B w (.slice none 0 0) [] [] :=
 ⟨Own.nil w 1, BlkP.nil _ _ _ _, fun i h => by simp at h, fun i j k _ h => by simp at h, fun k h => by simp [Value.ownBlock] at h, fun i k h => by simp at h⟩
theorem LLs.kp {S : Nat → Prop} {B : Nat} {w w' : World} {v : Value} {ls : List (List Int)} {vs : List Value} (h : LLs B w v ls vs) (hk : Kp S w w')
 (hs : ∀ g, v.ownBlock = some g → ¬ S g) (hs2 : ∀ i g, i < ls.length → (vs.getD i undef).ownBlock = some g → ¬ S g) : LLs B w' v ls vs :=
 ⟨h.own.kp hk hs, h.blk.kp hk hs, fun i hi => (h.each i hi).kp hk (fun g hg => hs2 i g hi hg), h.dis, h.ge, h.geE⟩
theorem LLs.len {B : Nat} {w : World} {v : Value} {ls : List (List Int)} {vs : List Value} (h : LLs B w v ls vs) : vs.length = ls.length := by have := h.own.1; omega
theorem isS_zero : ∀ u ∈ (Value.slice none 0 0).cells, isS u := fun u hu => by
 simp [Value.cells] at hu; subst hu; exact ⟨_, _, _, rfl⟩
theorem LLs.apart {B : Nat} {w : World} {v : Value} {ls : List (List Int)} {vs : List Value} (h : LLs B w v ls vs) {g i : Nat} (hv : v.ownBlock = some g) (hi : i < ls.length) {u : Value} {l : List Int} (hu : OwnB w u l) : u.ownBlock ≠ some g := fun e => by
 obtain ⟨cs, hcs, hp⟩ := h.blk g hv
 obtain ⟨ds, hds, hq⟩ := hu.blk g e
 rcases h.own.2 with ⟨_, h0⟩ | ⟨g', cap, sp, rfl, hat, _⟩
 · omega
 · simp only [Value.ownBlock, Option.some.injEq] at hv
   subst hv
   have e1 := hat.inj hcs
   have e2 := hat.inj hds
   have hl := h.len
   obtain ⟨a, n, c, e3⟩ := hp (vs[0]'(by omega)) (by rw [← e1]; simp)
   obtain ⟨n', e4, _⟩ := hq (vs[0]'(by omega)) (by rw [← e2]; simp)
   rw [e3] at e4; cases e4
theorem LLs.ltE {B : Nat} {w : World} {v : Value} {ls : List (List Int)} {vs : List Value} (h : LLs B w v ls vs) {i g : Nat} (hi : i < ls.length) (hg : (vs.getD i undef).ownBlock = some g) : g < w.heap.size := (h.each i hi).lt g hg
theorem getD_snocS_lt {α : Type} (l : List α) (x d : α) (i : Nat) (h : i < l.length) : (l ++ [x]).getD i d = l.getD i d := by
 rw [List.getD_eq_getElem?_getD, List.getElem?_append_left h, List.getD_eq_getElem?_getD]
theorem getD_snocS_at {α : Type} (l : List α) (x d : α) : (l ++ [x]).getD l.length d = x := by
 rw [List.getD_eq_getElem?_getD, List.getElem?_append_right (by omega), Nat.sub_self]; rfl
theorem LLs.app {P : Program} {B : Nat} {w : World} {v : Value} {ls : List (List Int)} {vs : List Value} (h : LLs B w v ls vs) {t tx ty e e' : TypeId} (ht : P.underlying t = some (.slice e)) {bytes : Nat} (he : Elem P e (.slice none 0 0) 1 bytes) (hk : P.underlying tx = some (.slice e')) (hbts : bytes ≤ 100)
 {u : Value} {l : List Int} (hu : OwnB w u l) (hne : ∀ g, u.ownBlock = some g → v.ownBlock ≠ some g ∧ B ≤ g ∧ ∀ i, i < ls.length → (vs.getD i undef).ownBlock ≠ some g) (hn : ls.length + 1 ≤ 1000000000) (hB : B ≤ w.heap.size) {bx : Nat} (hat : At w bx [u]) :
 ∃ v' w', (Builtin.append_ #[t, tx] ty #[v, .slice (some ⟨bx, 0, none⟩) 1 1]).run P w = .ok v' w' ∧ LLs B w' v' (ls ++ [l]) (vs ++ [u]) ∧ Kp (fun k => v.ownBlock = some k) w w' ∧
  (v'.ownBlock = v.ownBlock ∨ v'.ownBlock = some w.heap.size) := by
 obtain ⟨ua, uc, eu, _, _⟩ := hu.form
 have hrd : Rd w (some ⟨bx, 0, none⟩) [u] := fun i hi => by
  simp at hi; subst hi
  exact ⟨_, _, rfl, by rw [hat.cell]; rfl⟩
 have h1 : ∀ x ∈ [u], x.oneCell' = true := fun x hx => by simp at hx; subst hx; rw [eu]; rfl
 obtain ⟨v', w', r1, r2, r3, r4, r5⟩ := run_append_at (P := P) (ty := ty) w ht he hk h.own (a := some ⟨bx, 0, none⟩) (m := 1) (c := 1) (news := [u]) (by simp) hrd h1 (by unfold maxLen; omega) (by
  have : (ls.length + 1) * bytes ≤ 1000000000 * 100 := Nat.mul_le_mul hn hbts
  omega)
 have k2 := r3
 have hvl := h.len
 refine ⟨v', w', r1, ⟨by simpa using r2, r5 isS isS_zero (fun x hx => ?_) h.blk, fun i hi => ?_, fun i j k hij hj hik => ?_, fun k hk => ?_, fun i k hi hik => ?_⟩, k2, r4⟩
 · rcases List.mem_append.1 hx with hx | hx
   · obtain ⟨i, hi, rfl⟩ := List.getElem_of_mem hx
     obtain ⟨a, c, e, _⟩ := (h.each i (by omega)).form
     rw [List.getD_eq_getElem?_getD, List.getElem?_eq_getElem hi] at e
     exact ⟨a, _, c, e⟩
   · simp at hx; subst hx; exact ⟨_, _, _, eu⟩
 · rw [List.length_append, List.length_singleton] at hi
   by_cases hi2 : i < ls.length
   · rw [getD_snocS_lt _ _ _ _ hi2, getD_snocS_lt _ _ _ _ (by omega)]
     exact (h.each i hi2).kp k2 (fun g hg e => h.apart e hi2 (h.each i hi2) hg)
   · obtain rfl : i = ls.length := by omega
     rw [getD_snocS_at, ← hvl, getD_snocS_at]
     exact hu.kp k2 (fun g hg e => (hne g hg).1 e)
 · rw [List.length_append, List.length_singleton] at hj
   rw [getD_snocS_lt _ _ _ _ (by omega)] at hik
   by_cases hj2 : j < ls.length
   · rw [getD_snocS_lt _ _ _ _ (by omega)]; exact h.dis i j k hij hj2 hik
   · obtain rfl : j = ls.length := by omega
     rw [← hvl, getD_snocS_at]
     exact fun e => (hne k e).2.2 i (by omega) hik
 · rcases r4 with e | e
   · rw [e] at hk; exact h.ge k hk
   · rw [e] at hk; simp at hk; omega
 · rw [List.length_append, List.length_singleton] at hi
   by_cases hi2 : i < ls.length
   · rw [getD_snocS_lt _ _ _ _ (by omega)] at hik; exact h.geE i k hi2 hik
   · obtain rfl : i = ls.length := by omega
     rw [← hvl, getD_snocS_at] at hik; exact (hne k hik).2.1
theorem LLs.weaken {B B' : Nat} {w : World} {v : Value} {ls : List (List Int)} {vs : List Value} (h : LLs B w v ls vs) (hB : B' ≤ B) : LLs B' w v ls vs :=
 ⟨h.own, h.blk, h.each, h.dis, fun k hk => Nat.le_trans hB (h.ge k hk), fun i k hi hk => Nat.le_trans hB (h.geE i k hi hk)⟩
theorem LLs.rdl {B : Nat} {w : World} {a : Option Addr} {n c : Nat} {ls : List (List Int)} {vs : List Value} (h : LLs B w (.slice a n c) ls vs) : RdL w a ls := fun i hi => by
 have hn : n = ls.length := by obtain ⟨a', c', e, _⟩ := h.own.form; simp only [Value.slice.injEq] at e; exact e.2.1
 subst hn
 have hvl := h.len
 obtain ⟨b, off, ha, hc⟩ := h.own.rd i (by omega)
 obtain ⟨ai, ci, e, hr, hle⟩ := (h.each i hi).form
 refine ⟨b, off, ai, ci, ha, ?_, hr, hle⟩
 rw [hc, ← e]

def mark (i : Nat) : Int := 160 + ((i % 90 : Nat) : Int)
def marks (n : Nat) : List Int := [mark n, mark (n + 1), mark (n + 2)]
def lentC (l : List Int) (k : Nat) : List Value := (l ++ (marks l.length).take k).map (Value.int .u8) ++ List.replicate (3 - k) (.int .u8 0)
theorem lentC_set (l : List Int) (k : Nat) (hk : k < 3) : (lentC l k).set (l.length + k) (.int .u8 (mark (l.length + k))) = lentC l (k + 1) := by
 unfold lentC
 rw [List.map_append, List.append_assoc, List.set_append_right _ _ (by simp), List.map_append, List.append_assoc]
 congr 1
 simp only [List.length_map, Nat.add_sub_cancel_left]
 match k, hk with
 | 0, _ => rfl
 | 1, _ => rfl
 | 2, _ => rfl
theorem lentC_len (l : List Int) (k : Nat) (hk : k ≤ 3) : (lentC l k).length = l.length + 3 := by
 simp [lentC, marks]; omega

theorem lent_any (a : Option Addr) (cap : Nat) (l : List Int) (w : World) (h : RdB w a l) (hl : l.length ≤ 1000000000) :
 Calls Tryz.prog 14 #[.slice a l.length cap] w fun e w' => e = .returned (.slice (some ⟨w.heap.size, 0, none⟩) l.length (l.length + 3)) ∧
  At w' w.heap.size ((l ++ marks l.length).map (Value.int .u8)) ∧ Kp (fun _ => False) w w' := by
 obtain ⟨w1, hr1, hat1, hk1⟩ := run_make_at (P := Tryz.prog) w Tryz.underlying32 elem_u8 .i64 .i64 ((l.length : Int) + 3) ((l.length : Int) + 3) (l.length + 3) (by omega) (by omega) (by omega) (by unfold maxLen; omega)
 rw [zeros_one _ rfl] at hat1
 obtain ⟨w2, hr2, hat2, hk2⟩ := run_copy_at (P := Tryz.prog) (dT := 32) (sT := 32) (ty := 3) w1 (off := 0) (dLen := l.length + 3) (dCap := l.length + 3) (sLen := l.length) (sCap := cap) Tryz.underlying32 (by kernel_rfl) hat1 (cs := l.map (Value.int .u8)) (by simp [Nat.min_eq_left])
  ((h.kp hk1 (fun _ _ h => h)).rd) (by simp) (oneCell_u8 l)
 have hat : At w2 w.heap.size (lentC l 0) := by
  have e : lentC l 0 = List.take 0 (List.replicate (l.length + 3) (Value.int IntKind.u8 0)) ++ List.map (Value.int IntKind.u8) l ++
   List.drop (0 + (List.map (Value.int IntKind.u8) l).length) (List.replicate (l.length + 3) (Value.int IntKind.u8 0)) := by
   simp [lentC]
  rw [e]; exact hat2
 have hk : Kp (fun _ => False) w w2 := hk1.then hk2 (fun i hi e => by omega)
 clear hat1 hat2 hk1 hk2
 go_enter Tryz.func14, Tryz.ntmps14
 go_wp2_with fail
 clear hr1 hr2
 go_loopw [4] (fun i wr => ∃ k : Nat, k ≤ 3 ∧ i = .int .i64 ((l.length : Int) + k) ∧ At wr w.heap.size (lentC l k) ∧ Kp (fun _ => False) w wr) (fun i _ => l.length + 3 - (intOf i).toNat)
 case atStart => exact ⟨0, by omega, by simp, hat, hk⟩
 case round =>
  obtain ⟨k, hk3, rfl, hat, hkp⟩ := hrel
  by_cases hlt : k < 3
  · have hf := fun i => hat.frozen i
    have hle := lentC_len l k hk3
    obtain ⟨v, hv⟩ : ∃ v, wr.cell? ⟨w.heap.size, l.length + k, none⟩ = some v := ⟨_, by rw [hat.cell, List.getElem?_eq_getElem (by omega)]⟩
    have hat' := hat.set (l.length + k) (.int .u8 (mark (l.length + k)))
    rw [lentC_set l k hlt] at hat'
    have hkp' := hkp.setCell (p := ⟨w.heap.size, l.length + k, none⟩) (by simp) (.int .u8 (mark (l.length + k)))
    have H1 := Lib.hid hat'
    have H2 := Lib.hid hkp'
    have e0 : 0 ≤ ((l.length : Int) + k) % 90 := by omega
    have e1 : ((l.length : Int) + k) % 90 < 90 := by omega
    have e2 : mark (l.length + k) = 160 + ((l.length : Int) + k) % 90 := by unfold mark; omega
    rw [e2] at H1 H2
    clear hat hkp hat' hkp' e2 hle
    go_wp2
    go_roundw
    case rel => exact ⟨k + 1, by omega, by go_num, H1.out, H2.out⟩
    case measure => simp only [intOf]; omega
  · obtain rfl : k = 3 := by omega
    have hat' : At wr w.heap.size ((l ++ marks l.length).map (Value.int .u8)) := by simpa [lentC, marks] using hat
    go_wp2
    go_ret
    exact ⟨rfl, hat', hkp⟩
theorem byt_marks (n : Nat) : Byt (marks n) := by
 intro x hx; simp [marks, mark] at hx; omega
theorem RdB.lent {w : World} {g : Nat} {l : List Int} (h : At w g ((l ++ marks l.length).map (Value.int .u8))) (hb : Byt l) (hl : l.length ≤ 1000000000) : RdB w (some ⟨g, 0, none⟩) (l ++ marks l.length) :=
 RdB.of_at (pre := []) (post := []) (by simpa using h) (hb.append (byt_marks _)) (by simp [marks]; omega)
theorem RdB.lent' {w : World} {g : Nat} {l : List Int} (h : At w g ((l ++ marks l.length).map (Value.int .u8))) (hb : Byt l) (hl : l.length ≤ 1000000000) : RdB w (some ⟨g, 0, none⟩) l :=
 RdB.of_at (pre := []) (post := marks l.length) (by simpa using h) hb (by omega)
theorem kept_any (g : Nat) (b : Option Addr) (cb : Nat) (l : List Int) (w : World) (h : At w g ((l ++ marks l.length).map (Value.int .u8))) (h' : RdB w b l) (hl : l.length ≤ 1000000000) :
 Calls Tryz.prog 17 #[.slice (some ⟨g, 0, none⟩) l.length (l.length + 3), .slice b l.length cb] w fun e w' => e = .returned (.bool true) ∧ Kp (fun _ => False) w w' := by
 have hs0 : (0 : Int) ≤ (l.length : Int) + 3 := by omega
 have hs1 : (l.length : Int) + 3 ≤ ((l.length + 3 : Nat) : Int) := by omega
 have hs2 : ((l.length : Int) + 3).toNat = l.length + 3 := by omega
 have hs3 : IntKind.i64.wrap ((l.length : Int) + 3) = (l.length : Int) + 3 := IntWalk.i64_in _ (by omega)
 go_enter Tryz.func17, Tryz.ntmps17
 go_wp2_with fail
 go_region_held3 (fun w' => At w' g ((l ++ marks l.length).map (Value.int .u8)) ∧ RdB w' b l ∧ Kp (fun _ => False) w w')
  (first | assumption | (exact ⟨h.drew, h'.kp (Kp.refl (fun _ => False) w).drew (fun _ _ h => h), (Kp.refl _ w).drew⟩) | (go_split_ands; exact ⟨hk1.at ‹_› (fun h => h), RdB.kp ‹_› hk1 (fun _ _ h => h), Kp.trans ‹_› hk1⟩))
  (first | (go_at_call 14; refine (lent_any b cb l _ ?_ hl).mono ?_; (go_split_ands; assumption); rintro e w1 ⟨rfl, hat1, hk1⟩) | (go_at_call 37; refine (same_n _ _ _ _ _ _ (l ++ marks l.length) (l ++ marks l.length) _ ?_ ?_ (by simp [marks]) (by simp [marks])).mono ?_; (go_split_ands; exact RdB.lent ‹_› h'.bd hl); exact RdB.lent hat1 h'.bd hl; rintro e w' ⟨rfl, rfl⟩))
 go_split_ands
 go_wp2
 go_ret
 exact ⟨rfl, ‹Kp _ w w1›⟩
theorem samelists_any (a b : Option Addr) (n m ca cb : Nat) (ls ms : List (List Int)) (w : World) (h : RdL w a ls) (h' : RdL w b ms) (hn : ls.length = n) (hm : ms.length = m) (hn' : n ≤ 4611686018427387904) :
 Calls Tryz.prog 22 #[.slice a n ca, .slice b m cb] w fun e w' => e = .returned (.bool (decide (ls = ms))) ∧ Kp (fun _ => False) w w' := by
 subst hn; subst hm
 by_cases hl : ls.length = ms.length
 · have h1 : ((ls.length : Int) == ms.length) = true := by simp [hl]
   have h2 : ((ls.length : Int) != ms.length) = false := by simp [hl]
   have HL := Lib.hid hl
   clear hl
   go_enter Tryz.func22, Tryz.ntmps22
   go_wp2_with fail
   go_loopw [5] (fun i wr => ∃ k : Nat, k ≤ ls.length ∧ i = .int .i64 k ∧ ls.take k = ms.take k ∧ Kp (fun _ => False) w wr) (fun i _ => ls.length - (intOf i).toNat)
   case atStart => exact ⟨0, by omega, rfl, rfl, Kp.refl _ _⟩
   case round =>
    obtain ⟨k, hkl, rfl, hk, hkp⟩ := hrel
    by_cases hlt : k < ls.length
    · obtain ⟨b1, o1, a1, c1, rfl, q1, r1, _⟩ := h.kp0 hkp (fun _ _ h => h) k hlt
      obtain ⟨b2, o2, a2, c2, rfl, q2, r2, _⟩ := h'.kp0 hkp (fun _ _ h => h) k (by rw [← HL.out]; exact hlt)
      have HT := Lib.hid (take_eq_iff ls ms [] k hlt HL.out hk)
      have i1 : (k : Int) < ls.length := by omega
      have i2 : (k : Int) < ms.length := by have := HL.out; omega
      have Hk := Lib.hid hk
      clear hk h1 h2
      generalize ls.getD k [] = x at *
      generalize ms.getD k [] = y at *
      have C := fun n => Calls.quiet_of_same (n := n) (Calls.turn (same_any a1 a2 c1 c2 x y (wr.drewN n) (r1.drewN n) (r2.drewN n)))
      by_cases hxy : x = y
      · have e : decide (x = y) = true := by simpa using hxy
        rw [e] at C
        have HX := Lib.hid (HT.out.2 hxy)
        clear e hxy
        go_wp2_with fail
        go_quiet ((go_at_call 37; exact C _))
        go_wp2
        go_roundw
        case rel => exact ⟨k + 1, by omega, by go_num, HX.out, hkp.drewN _⟩
        case measure => simp [intOf]; omega
      · have e : decide (x = y) = false := by simpa using hxy
        have hne : decide (ls = ms) = false := by
         simp only [decide_eq_false_iff_not]
         intro e'
         exact hxy (HT.out.1 (by rw [e']))
        rw [e] at C
        have HNE := Lib.hid hne
        clear e hxy hne
        go_wp2_with fail
        go_quiet ((go_at_call 37; exact C _))
        go_wp2
        go_ret
        exact ⟨ret_bool HNE.out.symm, hkp.drewN _⟩
    · obtain rfl : k = ls.length := by omega
      have he : decide (ls = ms) = true := by
       rw [decide_eq_true_eq, ← List.take_length (l := ls), hk, HL.out, List.take_length]
      have HE := Lib.hid he
      clear he hk
      go_wp2
      go_ret
      exact ⟨ret_bool HE.out.symm, hkp⟩
 · have h1 : ((ls.length : Int) == ms.length) = false := by simp; omega
   have h2 : ((ls.length : Int) != ms.length) = true := by simp; omega
   have he : decide (ls = ms) = false := by
    simp only [decide_eq_false_iff_not]; intro e; exact hl (by rw [e])
   rw [he]
   clear hl he
   go_enter Tryz.func22, Tryz.ntmps22
   go_wp2
   go_ret
   exact ⟨rfl, Kp.refl _ _⟩
theorem getD_apL_lt {α : Type} (l r : List α) (d : α) (i : Nat) (h : i < l.length) : (l ++ r).getD i d = l.getD i d := by
 rw [List.getD_eq_getElem?_getD, List.getElem?_append_left h, List.getD_eq_getElem?_getD]
theorem getD_apL_ge {α : Type} (l r : List α) (d : α) (i : Nat) (h : l.length ≤ i) : (l ++ r).getD i d = r.getD (i - l.length) d := by
 rw [List.getD_eq_getElem?_getD, List.getElem?_append_right h, List.getD_eq_getElem?_getD]
structure LLu (w : World) (v : Value) (ls : List (List Int)) (vs : List Value) : Prop where
 own : Own w v ls.length 1 vs
 each : ∀ i, i < ls.length → OwnB w (vs.getD i undef) (ls.getD i [])
 dis : ∀ i j k, i < j → j < ls.length → (vs.getD i undef).ownBlock = some k → (vs.getD j undef).ownBlock ≠ some k
theorem LLu.len {w : World} {v : Value} {ls : List (List Int)} {vs : List Value} (h : LLu w v ls vs) : vs.length = ls.length := by have := h.own.1; omega
theorem LLu.nil (w : World) : LLu w (.slice none 0 0) [] [] := ⟨Own.nil w 1, fun i h => by simp at h, fun i j k _ h => by simp at h⟩
theorem LLu.kp0 {w w' : World} {v : Value} {ls : List (List Int)} {vs : List Value} (h : LLu w v ls vs) (k : Kp (fun _ => False) w w') : LLu w' v ls vs :=
 ⟨h.own.kp k (fun _ _ h => h), fun i hi => (h.each i hi).kp k (fun _ _ h => h), h.dis⟩
theorem LLu.kp {S : Nat → Prop} {w w' : World} {v : Value} {ls : List (List Int)} {vs : List Value} (h : LLu w v ls vs) (k : Kp S w w') (h1 : ∀ g, v.ownBlock = some g → ¬ S g) (h2 : ∀ i g, i < ls.length → (vs.getD i undef).ownBlock = some g → ¬ S g) : LLu w' v ls vs :=
 ⟨h.own.kp k h1, fun i hi => (h.each i hi).kp k (fun g hg => h2 i g hi hg), h.dis⟩
theorem LLu.form {w : World} {v : Value} {ls : List (List Int)} {vs : List Value} (h : LLu w v ls vs) : ∃ a c, v = .slice a ls.length c := by
 obtain ⟨a, c, e, _⟩ := h.own.form
 exact ⟨a, c, e⟩
theorem LLu.rdl {w : World} {a : Option Addr} {n c : Nat} {ls : List (List Int)} {vs : List Value} (h : LLu w (.slice a n c) ls vs) : RdL w a ls := fun i hi => by
 have hn : n = ls.length := by obtain ⟨a', c', e⟩ := h.form; simp only [Value.slice.injEq] at e; exact e.2.1
 subst hn
 have hvl := h.len
 obtain ⟨b, off, ha, hc⟩ := h.own.rd i (by omega)
 obtain ⟨ai, ci, e, hr, hle⟩ := (h.each i hi).form
 refine ⟨b, off, ai, ci, ha, ?_, hr, hle⟩
 rw [hc, ← e]
theorem LLs.u {B : Nat} {w : World} {v : Value} {ls : List (List Int)} {vs : List Value} (h : LLs B w v ls vs) : LLu w v ls vs := ⟨h.own, h.each, h.dis⟩
theorem LLs.cat {P : Program} {w : World} {v : Value} {ls ms : List (List Int)} {vs us : List Value} {a : Option Addr} {m c : Nat} (h : LLs 0 w v ls vs) (h' : LLu w (.slice a m c) ms us) {t tx ty e e' : TypeId} (ht : P.underlying t = some (.slice e)) {bytes : Nat} (he : Elem P e (.slice none 0 0) 1 bytes) (hk : P.underlying tx = some (.slice e')) (hbts : bytes ≤ 100)
 (hm : m = ms.length) (hne : ∀ i g, i < ms.length → (us.getD i undef).ownBlock = some g → v.ownBlock ≠ some g ∧ ∀ j, j < ls.length → (vs.getD j undef).ownBlock ≠ some g) (hn : ls.length + m ≤ 1000000000) :
 ∃ v' w', (Builtin.append_ #[t, tx] ty #[v, .slice a m c]).run P w = .ok v' w' ∧ LLs 0 w' v' (ls ++ ms) (vs ++ us) ∧ Kp (fun k => v.ownBlock = some k) w w' ∧ (v'.ownBlock = v.ownBlock ∨ v'.ownBlock = some w.heap.size) := by
 subst hm
 have hvl := h.len
 have hul := h'.len
 have hs : ∀ (xs : List Value) (ns : List (List Int)), xs.length = ns.length → (∀ i, i < ns.length → OwnB w (xs.getD i undef) (ns.getD i [])) → ∀ x ∈ xs, isS x := fun xs ns hl he x hx => by
  obtain ⟨i, hi, rfl⟩ := List.getElem_of_mem hx
  obtain ⟨a, c, e, _⟩ := (he i (by omega)).form
  rw [List.getD_eq_getElem?_getD, List.getElem?_eq_getElem hi] at e
  exact ⟨a, _, c, e⟩
 have hus := hs us ms hul h'.each
 have hrd : Rd w a us := h'.own.rd
 obtain ⟨v', w', r1, r2, r3, r4, r5⟩ := run_append_at (P := P) (ty := ty) w ht he hk h.own (a := a) (m := ms.length) (c := c) (news := us) (by omega) hrd (fun u hu => by obtain ⟨_, _, _, e⟩ := hus u hu; rw [e]; rfl) (by unfold maxLen; omega) (by
  have : (ls.length + ms.length) * bytes ≤ 1000000000 * 100 := Nat.mul_le_mul hn hbts
  omega)
 refine ⟨v', w', r1, ⟨by rw [List.length_append]; exact r2, r5 isS isS_zero (fun x hx => ?_) h.blk, fun i hi => ?_, fun i j k hij hj hik => ?_, fun k hk => Nat.zero_le _, fun i k hi hik => Nat.zero_le _⟩, r3, r4⟩
 · rcases List.mem_append.1 hx with hx | hx
   · exact hs vs ls hvl h.each x hx
   · exact hus x hx
 · rw [List.length_append] at hi
   by_cases hi2 : i < ls.length
   · rw [getD_apL_lt _ _ _ _ hi2, getD_apL_lt _ _ _ _ (by omega)]
     exact (h.each i hi2).kp r3 (fun g hg e => h.apart e hi2 (h.each i hi2) hg)
   · rw [getD_apL_ge _ _ _ _ (by omega), getD_apL_ge _ _ _ _ (by omega), hvl]
     exact (h'.each _ (by omega)).kp r3 (fun g hg e => (hne _ g (by omega) hg).1 e)
 · rw [List.length_append] at hj
   by_cases hi2 : i < ls.length
   · rw [getD_apL_lt _ _ _ _ (by omega)] at hik
     by_cases hj2 : j < ls.length
     · rw [getD_apL_lt _ _ _ _ (by omega)]; exact h.dis i j k hij hj2 hik
     · rw [getD_apL_ge _ _ _ _ (by omega), hvl]
       exact fun e => (hne _ k (by omega) e).2 i hi2 hik
   · rw [getD_apL_ge _ _ _ _ (by omega), hvl] at hik
     rw [getD_apL_ge _ _ _ _ (by omega), hvl]
     exact h'.dis _ _ k (by omega) (by omega) hik
theorem xor_byte (n : Int) (h : 0 ≤ n ∧ n ≤ 255) : 0 ≤ bits BinOp.xor IntKind.u8 n 90 ∧ bits BinOp.xor IntKind.u8 n 90 ≤ 255 := by
 have : ∀ k : Fin 256, 0 ≤ bits BinOp.xor IntKind.u8 (k.val : Int) 90 ∧ bits BinOp.xor IntKind.u8 (k.val : Int) 90 ≤ 255 := by decide +kernel
 have h' := this ⟨n.toNat, by omega⟩
 simpa [Int.toNat_of_nonneg h.1] using h'
theorem over_at (g off n cap : Nat) (cs : List Value) (w : World) (h : At w g cs) (hp : ∀ u ∈ cs, isB u) (hfit : off + cap ≤ cs.length) (hn : n ≤ cap) (hc : cap ≤ 9223372036854775807) :
 Calls Tryz.prog 18 #[.slice (some ⟨g, off, none⟩) n cap] w fun e w' => e = .returned (.tuple #[]) ∧ (∃ cs', At w' g cs' ∧ ∀ u ∈ cs', isB u) ∧ Kp (· = g) w w' := by
 go_enter Tryz.func18, Tryz.ntmps18
 go_wp2_with fail
 go_loopw [3] (fun i wr => ∃ (k : Nat) (ds : List Value), k ≤ cap ∧ i = .int .i64 k ∧ ds.length = cs.length ∧ At wr g ds ∧ (∀ u ∈ ds, isB u) ∧ Kp (· = g) w wr) (fun i _ => cap - (intOf i).toNat)
 case atStart => exact ⟨0, cs, by omega, rfl, rfl, h, hp, Kp.refl _ _⟩
 case round =>
  obtain ⟨k, ds, hkl, rfl, hlen, hat, hds, hk⟩ := hrel
  by_cases hlt : k < cap
  · have hi : off + k < ds.length := by omega
    obtain ⟨x, hx, hxb⟩ := hds _ (List.getElem_mem hi)
    have hcell : wr.cell? ⟨g, off + k, none⟩ = some (.int .u8 x) := by rw [hat.cell, List.getElem?_eq_getElem hi, hx]
    have hf := fun i => hat.frozen i
    have hxx := xor_byte x hxb
    have H1 := Lib.hid (hat.set (off + k) (.int .u8 (bits BinOp.xor IntKind.u8 x 90)))
    have H2 := Lib.hid (hk.setCell (p := ⟨g, off + k, none⟩) (fun _ => rfl) (.int .u8 (bits BinOp.xor IntKind.u8 x 90)))
    have H3 : Hid (∀ u ∈ ds.set (off + k) (.int .u8 (bits BinOp.xor IntKind.u8 x 90)), isB u) := fun u hu => by
     rcases List.mem_or_eq_of_mem_set hu with h' | rfl
     · exact hds u h'
     · exact ⟨_, rfl, hxx⟩
    clear hat hk hds hx
    go_wp2_with fail
    go_roundw
    case rel => exact ⟨k + 1, _, by omega, by go_num, by simpa using hlen, H1.out, H3.out, H2.out⟩
    case measure => simp [intOf]; omega
  · obtain rfl : k = cap := by omega
    go_wp2
    go_end0
    exact ⟨rfl, ⟨ds, hat, hds⟩, hk⟩
theorem over_nil (n cap : Nat) (w : World) (hn : n = 0) (hc : cap = 0) :
 Calls Tryz.prog 18 #[.slice none n cap] w fun e w' => e = .returned (.tuple #[]) ∧ w = w' := by
 subst hn; subst hc
 go_enter Tryz.func18, Tryz.ntmps18
 go_wp2_with fail
 go_loop [3] (fun i => i = .int .i64 0) (fun i => 0)
 case atStart => rfl
 case round =>
  subst hrel
  go_wp2
  go_end0
  exact ⟨rfl, rfl⟩
theorem over_own {w : World} {v : Value} {l : List Int} (h : OwnB w v l) :
 Calls Tryz.prog 18 #[v] w fun e w' => e = .returned (.tuple #[]) ∧ Kp (fun k => v.ownBlock = some k) w w' := by
 rcases h.own.2 with ⟨rfl, h0⟩ | ⟨g, cap, sp, rfl, hat, hsp, hle, hcm⟩
 · refine (over_nil 0 0 w rfl rfl).mono ?_
   rintro e w' ⟨rfl, rfl⟩
   exact ⟨rfl, Kp.refl _ _⟩
 · obtain ⟨cs, hcs, hp⟩ := h.blk g rfl
   have e := hat.inj hcs
   subst e
   refine (over_at g 0 l.length cap _ w hat hp (by simp [hsp]; omega) hle (by simpa [maxLen] using hcm)).mono ?_
   rintro e w' ⟨rfl, _, hk⟩
   exact ⟨rfl, hk.mono (fun i _ e => by rw [e]; rfl)⟩
theorem rnew_ok (s : Nat) (w : World) (hs : 1 ≤ s ∧ s ≤ 64) :
 Calls Tryz.prog 77 #[.int .i64 s] w fun e w' => e = .returned (.tuple #[.pointer (some ⟨w.heap.size, 0, none⟩), .int .i64 0]) ∧ RefC w' w.heap.size (.slice none 0 0) s 1 [] (fun _ => none) (· = w.heap.size) ∧ Kp (fun _ => False) w w' := by
 have h1 : ¬ (s : Int) < 1 := by omega
 have h2 : ¬ (64 : Int) < s := by omega
 have HR := Lib.hid (RefC.fresh s hs (At.new w [.int .i64 (s : Int), .int .i64 1, .slice none 0 0] 86))
 clear hs
 go_enter Tryz.func77, Tryz.ntmps77
 go_wp2
 go_ret2
 exact ⟨rfl, HR.out, (Kp.refl _ w).alloc _⟩
theorem at_no (r : Nat) (a : Option Addr) (c : Nat) (L : List (Nat × Value)) (w : World) (h2 : w.cell? ⟨r, 2, none⟩ = some (.slice a L.length c)) (hrd : Rd w a (hc L)) (seq : Int) (hno : ∀ j, j < L.length → ((L.getD j (0, undef)).1 : Int) ≠ seq) (hL : L.length ≤ 1000000000) :
 Calls Tryz.prog 85 #[.pointer (some ⟨r, 0, none⟩), .int .i64 seq] w fun e w' => e = .returned (.int .i64 (-1)) ∧ w = w' := by
 go_enter Tryz.func85, Tryz.ntmps85
 go_wp2_with fail
 go_loop [5] (fun i => ∃ k : Nat, k ≤ L.length ∧ i = .int .i64 k) (fun i => L.length - (intOf i).toNat)
 case atStart => exact ⟨0, by omega, rfl⟩
 case round =>
  obtain ⟨k, hk, rfl⟩ := hrel
  by_cases hlt : k < L.length
  · obtain ⟨b, off, rfl, hcell⟩ := hrd (k * 2) (by rw [hc_len]; omega)
    rw [(hc_get L k hlt).1] at hcell
    have hne : (((L.getD k (0, undef)).1 : Int) == seq) = false := by simpa using hno k hlt
    have i1 : (k : Int) < L.length := by omega
    generalize ((L.getD k (0, undef)).1 : Int) = x at *
    go_wp2
    go_round
    case rel => exact ⟨k + 1, by omega, by go_num⟩
    case measure => simp [intOf]; omega
  · have i1 : ¬ (k : Int) < L.length := by omega
    go_wp2
    go_ret
    exact ⟨rfl, rfl⟩
theorem at_yes (r : Nat) (a : Option Addr) (c : Nat) (L : List (Nat × Value)) (w : World) (h2 : w.cell? ⟨r, 2, none⟩ = some (.slice a L.length c)) (hrd : Rd w a (hc L)) (seq : Int) (m : Nat) (hm : m < L.length) (he : ((L.getD m (0, undef)).1 : Int) = seq) (hno : ∀ j, j < L.length → ((L.getD j (0, undef)).1 : Int) = seq → j = m) (hL : L.length ≤ 1000000000) :
 Calls Tryz.prog 85 #[.pointer (some ⟨r, 0, none⟩), .int .i64 seq] w fun e w' => e = .returned (.int .i64 m) ∧ w = w' := by
 go_enter Tryz.func85, Tryz.ntmps85
 have he := Lib.hid he
 go_wp2_with fail
 go_loop [5] (fun i => ∃ k : Nat, k ≤ m ∧ i = .int .i64 k) (fun i => L.length - (intOf i).toNat)
 case atStart => exact ⟨0, by omega, rfl⟩
 case round =>
  obtain ⟨k, hk, rfl⟩ := hrel
  have hlt : k < L.length := by omega
  obtain ⟨b, off, rfl, hcell⟩ := hrd (k * 2) (by rw [hc_len]; omega)
  rw [(hc_get L k hlt).1] at hcell
  have i1 : (k : Int) < L.length := by omega
  by_cases hlm : k = m
  · have hne : (((L.getD k (0, undef)).1 : Int) == seq) = true := by rw [hlm]; simpa using he.out
    have HE : Hid (k = m) := hlm
    clear hlm
    generalize ((L.getD k (0, undef)).1 : Int) = x at *
    go_wp2
    go_ret
    exact ⟨ret_int (by rw [HE.out]), rfl⟩
  · have hne : (((L.getD k (0, undef)).1 : Int) == seq) = false := by
     simp only [beq_eq_false_iff_ne]
     intro e; exact hlm (hno k hlt e)
    generalize ((L.getD k (0, undef)).1 : Int) = x at *
    go_wp2
    go_round
    case rel => exact ⟨k + 1, by omega, by go_num⟩
    case measure => simp [intOf]; omega
theorem RefC.form {w : World} {r : Nat} {v : Value} {size n : Nat} {L : List (Nat × Value)} {f : Bodies} {G : Nat → Prop} (h : RefC w r v size n L f G) :
 ∃ a c, v = .slice a L.length c ∧ L.length ≤ c ∧ c ≤ maxLen ∧ Rd w a (hc L) ∧ w.cell? ⟨r, 0, none⟩ = some (.int .i64 size) ∧ w.cell? ⟨r, 1, none⟩ = some (.int .i64 n) ∧ w.cell? ⟨r, 2, none⟩ = some (.slice a L.length c) ∧ ∀ i, w.frozen? ⟨r, i, none⟩ = false := by
 obtain ⟨a, c, rfl, h1, h2⟩ := h.own.form
 exact ⟨a, c, rfl, h1, h2, h.own.rd, by rw [h.at_.cell]; rfl, by rw [h.at_.cell]; rfl, by rw [h.at_.cell]; rfl, fun i => h.at_.frozen i⟩
theorem RefC.at_ok {w : World} {r : Nat} {v : Value} {size n : Nat} {L : List (Nat × Value)} {f : Bodies} {G : Nat → Prop} (h : RefC w r v size n L f G) (seq : Int) :
 ∃ x : Int, Calls Tryz.prog 85 #[.pointer (some ⟨r, 0, none⟩), .int .i64 seq] w (fun e w' => e = .returned (.int .i64 x) ∧ w = w') ∧ -1 ≤ x ∧ x ≤ 64 ∧
  decide (0 ≤ x) = (decide ((n : Int) ≤ seq) && (f seq.toNat).isSome) := by
 obtain ⟨a, c, rfl, h1, h2, hrd, c0, c1, c2, hfz⟩ := h.form
 have hlen := h.len
 by_cases hq : (n : Int) ≤ seq ∧ f seq.toNat ≠ none
 · obtain ⟨q, rfl⟩ := Int.eq_ofNat_of_zero_le (show 0 ≤ seq by omega)
   obtain ⟨i, hi, he, hu⟩ := h.find (k := q) (by omega) hq.2
   refine ⟨i, at_yes r a c L w c2 hrd q i hi (by rw [he]) (fun j hj e => hu j hj (by omega)) (by omega), by omega, by omega, ?_⟩
   have h5 : (f q).isSome = true := by
    rw [Option.isSome_iff_ne_none]; exact hq.2
   simp only [Int.toNat_natCast, h5, Bool.and_true]
   simp; omega
 · refine ⟨-1, at_no r a c L w c2 hrd seq (h.not (fun k e hk => ?_)) (by omega), by omega, by omega, ?_⟩
   · cases hf : f k with
     | none => rfl
     | some l => exact absurd ⟨by omega, by rw [e]; simp [hf]⟩ hq
   · by_cases h6 : (n : Int) ≤ seq
     · have : f seq.toNat = none := by
        cases hf : f seq.toNat with
        | none => rfl
        | some l => exact absurd ⟨h6, by simp [hf]⟩ hq
       simp [this]
     · simp [h6]
theorem RefC.has {w : World} {r : Nat} {v : Value} {size n : Nat} {L : List (Nat × Value)} {f : Bodies} {G : Nat → Prop} (h : RefC w r v size n L f G) (seq : Int) (hs : -9223372036854775808 ≤ seq ∧ seq ≤ 9223372036854775807) :
 Calls Tryz.prog 84 #[.pointer (some ⟨r, 0, none⟩), .int .i64 seq] w fun e w' => e = .returned (.bool (hasI f seq)) ∧ w = w' := by
 obtain ⟨x, C, hx0, hx1, hx⟩ := h.at_ok seq
 obtain ⟨a, c, rfl, h1, h2, hrd, c0, c1, c2, hfz⟩ := h.form
 have hn := h.n_bd
 have C' := Lib.hid C
 by_cases h3 : 1 ≤ seq
 · by_cases h4 : seq < n
   · have e : hasI f seq = true := by
      have := h.low seq.toNat (by omega) (by omega)
      simp [hasI, Option.isSome_iff_ne_none, this]; omega
     rw [e]
     have HH := Lib.hid h
     clear C h hx e hrd h2
     go_enter Tryz.func84, Tryz.ntmps84
     go_wp2
     go_ret
     exact ⟨rfl, rfl⟩
   · have e : hasI f seq = decide (0 ≤ x) := by
      rw [hx]; simp [hasI, show (n : Int) ≤ seq by omega, show 0 ≤ seq by omega]
     have HE := Lib.hid e
     have h4' : decide (seq < n) = false := by simpa using h4
     clear C h hx e hrd h2 
     go_enter Tryz.func84, Tryz.ntmps84
     go_wp2_with (go_at_call 85; refine C'.out.mono ?_; rintro e w' ⟨rfl, rfl⟩)
     go_ret
     exact ⟨ret_bool (by rw [HE.out]), rfl⟩
 · have e : hasI f seq = decide (0 ≤ x) := by
    rw [hx]
    have hz := h.zero
    by_cases h5 : seq = 0
    · subst h5; simp [hasI, hz]
    · simp [hasI, show ¬ (n : Int) ≤ seq by omega, show ¬ 0 ≤ seq by omega]
   have HE := Lib.hid e
   have h3' : decide (1 ≤ seq) = false := by simpa using h3
   clear C h hx e hrd h2 
   go_enter Tryz.func84, Tryz.ntmps84
   go_wp2_with (go_at_call 85; refine C'.out.mono ?_; rintro e w' ⟨rfl, rfl⟩)
   go_ret
   exact ⟨ret_bool (by rw [HE.out]), rfl⟩
end Go.Proofs.YtokembhfebnjpaaGreat
