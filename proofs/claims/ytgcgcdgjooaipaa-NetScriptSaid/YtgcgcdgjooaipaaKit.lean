/- The contracts of satchelkit's functions on bytes. -/
import Derived.Test.YtgcgcdgjooaipaaMem
import Derived.Laws.BytesArg
namespace Go.Proofs.Ytgcgcdgjooaipaa
open Go.RowKit
set_option linter.unusedVariables false

theorem elem_u8 : Elem Try.prog 5 (.int .u8 0) 1 1 := Elem.mk' (by kernel_rfl) rfl (by omega) (by simp [Value.cells, Value.oneCell'])
def mark (i : Nat) : Int := 160 + ((i % 90 : Nat) : Int)
def marks (n : Nat) : List Int := [mark n, mark (n + 1), mark (n + 2)]

theorem RdB.rd {w : World} {a : Option Addr} {l : List Int} (h : RdB w a l) : Rd w a (l.map (Value.int .u8)) := fun i hi => by
  simp at hi
  obtain ⟨b, off, ha, hc⟩ := h.cell i hi
  exact ⟨b, off, ha, by rw [hc]; simp [List.getD_eq_getElem?_getD, List.getElem?_eq_getElem hi]⟩
theorem oneCell_u8 (l : List Int) : ∀ v ∈ l.map (Value.int .u8), v.oneCell' = true := fun v hv => by
  obtain ⟨_, _, rfl⟩ := List.mem_map.1 hv; rfl

/-- A lent list's cells behind k marks. -/
def lentC (l : List Int) (k : Nat) : List Value := (l ++ (marks l.length).take k).map (Value.int .u8) ++ List.replicate (3 - k) (.int .u8 0)
theorem lentC_set (l : List Int) (k : Nat) (hk : k < 3) : (lentC l k).set (l.length + k) (.int .u8 (mark (l.length + k))) = lentC l (k + 1) := by
  unfold lentC
  rw [List.map_append, List.append_assoc, List.set_append_right _ _ (by simp), List.map_append, List.append_assoc]
  congr 1
  simp only [List.length_map, Nat.add_sub_cancel_left]
  match k, hk with
  | 0, _ => rfl
  | 1, _ => rfl
  | 2, _ => rfl
theorem lentC_len (l : List Int) (k : Nat) (hk : k ≤ 3) : (lentC l k).length = l.length + 3 := by
  simp [lentC, marks]; omega

theorem lent_any (a : Option Addr) (cap : Nat) (l : List Int) (w : World) (h : RdB w a l) (hl : l.length ≤ 1000000000) :
    Calls Try.prog 46 #[.slice a l.length cap] w fun e w' => e = .returned (.slice (some ⟨w.heap.size, 0, none⟩) l.length (l.length + 3)) ∧
      At w' w.heap.size ((l ++ marks l.length).map (Value.int .u8)) ∧ Kp (fun _ => False) w w' := by
  obtain ⟨w1, hr1, hat1, hk1⟩ := run_make_at (P := Try.prog) w Try.underlying26 elem_u8 .i64 .i64 ((l.length : Int) + 3) ((l.length : Int) + 3) (l.length + 3) (by omega) (by omega) (by omega) (by unfold maxLen; omega)
  rw [zeros_one _ rfl] at hat1
  obtain ⟨w2, hr2, hat2, hk2⟩ := run_copy_at (P := Try.prog) (dT := 26) (sT := 26) (ty := 3) w1 (off := 0) (dLen := l.length + 3) (dCap := l.length + 3) (sLen := l.length) (sCap := cap) Try.underlying26 (by kernel_rfl) hat1 (cs := l.map (Value.int .u8)) (by simp [Nat.min_eq_left])
    ((h.kp hk1 (fun _ _ h => h)).rd) (by simp) (oneCell_u8 l)
  have hat : At w2 w.heap.size (lentC l 0) := by
    have e : lentC l 0 = List.take 0 (List.replicate (l.length + 3) (Value.int IntKind.u8 0)) ++ List.map (Value.int IntKind.u8) l ++
      List.drop (0 + (List.map (Value.int IntKind.u8) l).length) (List.replicate (l.length + 3) (Value.int IntKind.u8 0)) := by
      simp [lentC]
    rw [e]; exact hat2
  have hk : Kp (fun _ => False) w w2 := hk1.then hk2 (fun i hi e => by omega)
  clear hat1 hat2 hk1 hk2
  go_enter Try.func46, Try.ntmps46
  go_wp2_with fail
  clear hr1 hr2
  go_loopw [4] (fun i wr => ∃ k : Nat, k ≤ 3 ∧ i = .int .i64 ((l.length : Int) + k) ∧ At wr w.heap.size (lentC l k) ∧ Kp (fun _ => False) w wr) (fun i _ => l.length + 3 - (intOf i).toNat)
  case atStart => exact ⟨0, by omega, by simp, hat, hk⟩
  case round =>
    obtain ⟨k, hk3, rfl, hat, hkp⟩ := hrel
    by_cases hlt : k < 3
    · have hf := fun i => hat.frozen i
      have hle := lentC_len l k hk3
      obtain ⟨v, hv⟩ : ∃ v, wr.cell? ⟨w.heap.size, l.length + k, none⟩ = some v := ⟨_, by rw [hat.cell, List.getElem?_eq_getElem (by omega)]⟩
      have hat' := hat.set (l.length + k) (.int .u8 (mark (l.length + k)))
      rw [lentC_set l k hlt] at hat'
      have hkp' := hkp.setCell (p := ⟨w.heap.size, l.length + k, none⟩) (by simp) (.int .u8 (mark (l.length + k)))
      have H1 := Lib.hid hat'
      have H2 := Lib.hid hkp'
      have e0 : 0 ≤ ((l.length : Int) + k) % 90 := by omega
      have e1 : ((l.length : Int) + k) % 90 < 90 := by omega
      have e2 : mark (l.length + k) = 160 + ((l.length : Int) + k) % 90 := by unfold mark; omega
      rw [e2] at H1 H2
      clear hat hkp hat' hkp' e2 hle
      go_wp2
      go_roundw
      case rel => exact ⟨k + 1, by omega, by go_num, H1.out, H2.out⟩
      case measure => simp only [intOf]; omega
    · obtain rfl : k = 3 := by omega
      have hat' : At wr w.heap.size ((l ++ marks l.length).map (Value.int .u8)) := by simpa [lentC, marks] using hat
      go_wp2
      go_ret
      exact ⟨rfl, hat', hkp⟩
theorem run_bytes_str {P : Program} (w : World) {src e dst : TypeId} (hs : P.underlying src = some (.slice e)) (he : P.underlying e = some (.int .u8)) (hd : P.underlying dst = some .string) {a : Option Addr} {l : List Int} (h : RdB w a l) (cap : Nat) :
    (convert src dst (.slice a l.length cap)).run P w = .ok (.string (strOfNums l)) w := by
  rcases a with _ | ⟨b, off, spot⟩
  · have : l = [] := by
      cases l with
      | nil => rfl
      | cons x r => obtain ⟨_, _, e, _⟩ := h.cell 0 (by simp); cases e
    subst this
    exact run_convert_bytes_nil w src e hs he _ cap dst hd
  · by_cases h0 : l = []
    · subst h0
      rw [run_convert_bytes_string w src dst e _ _ cap hs he hd]
      simp [Conv.bytesToString, loadCells, loadCellsFrom, strOfNums]
      rfl
    · obtain ⟨_, _, e', _⟩ := h.cell 0 (List.length_pos_iff.2 h0)
      cases e'
      refine run_convert_bytes_arg w src e hs he b off l.length cap l rfl (fun i hi => ?_) dst hd
      obtain ⟨_, _, e', hc⟩ := h.cell i hi
      cases e'
      exact hc
theorem strOfNums_inj {l m : List Int} (hl : Byt l) (hm : Byt m) (h : strOfNums l = strOfNums m) : l = m := by
  have h1 : l.map (fun n => UInt8.ofNat n.toNat) = m.map (fun n => UInt8.ofNat n.toNat) := by
    rw [← strOfNums_data, ← strOfNums_data, h]
  have h2 := congrArg (List.map fun c : UInt8 => (c.toNat : Int)) h1
  rw [List.map_map, List.map_map] at h2
  have key : ∀ x : List Int, Byt x → x.map ((fun c : UInt8 => (c.toNat : Int)) ∘ fun n => UInt8.ofNat n.toNat) = x := fun x hx => by
    conv => rhs; rw [← List.map_id x]
    refine List.map_congr_left fun n hn => ?_
    have := hx n hn
    simp [UInt8.toNat_ofNat']
    omega
  rwa [key l hl, key m hm] at h2
theorem same_beq {l m : List Int} (hl : Byt l) (hm : Byt m) : ((strOfNums l).toList == (strOfNums m).toList) = decide (l = m) := by
  rw [ByteArray.toList_eq, ByteArray.toList_eq]
  by_cases h : l = m
  · subst h; simp
  · rw [decide_eq_false h, beq_eq_false_iff_ne]
    intro e
    exact h (strOfNums_inj hl hm (by rcases hA : strOfNums l with ⟨A⟩; rcases hB : strOfNums m with ⟨B⟩; rw [hA, hB] at e; exact congrArg ByteArray.mk (Array.toList_inj.1 e)))
theorem same_any (a b : Option Addr) (ca cb : Nat) (l m : List Int) (w : World) (h : RdB w a l) (h' : RdB w b m) :
    Calls Try.prog 35 #[.slice a l.length ca, .slice b m.length cb] w fun e w' => e = .returned (.bool (decide (l = m))) ∧ w = w' := by
  have h1 := run_bytes_str (P := Try.prog) (src := 26) (dst := 9) w Try.underlying26 Try.underlying5 Try.underlying9 h ca
  have h2 := run_bytes_str (P := Try.prog) (src := 26) (dst := 9) w Try.underlying26 Try.underlying5 Try.underlying9 h' cb
  go_enter Try.func35, Try.ntmps35
  go_wp2
  go_ret
  exact ⟨ret_bool (same_beq h.bd h'.bd), rfl⟩

theorem same_n (a b : Option Addr) (n k ca cb : Nat) (l m : List Int) (w : World) (h : RdB w a l) (h' : RdB w b m) (hn : l.length = n) (hk : m.length = k) :
    Calls Try.prog 35 #[.slice a n ca, .slice b k cb] w fun e w' => e = .returned (.bool (decide (l = m))) ∧ w = w' := by
  subst hn; subst hk; exact same_any a b ca cb l m w h h'
theorem byt_marks (n : Nat) : Byt (marks n) := by
  intro x hx; simp [marks, mark] at hx; omega
theorem RdB.lent {w : World} {g : Nat} {l : List Int} (h : At w g ((l ++ marks l.length).map (Value.int .u8))) (hb : Byt l) (hl : l.length ≤ 1000000000) : RdB w (some ⟨g, 0, none⟩) (l ++ marks l.length) :=
  RdB.of_at (pre := []) (post := []) (by simpa using h) (hb.append (byt_marks _)) (by simp [marks]; omega)
theorem RdB.lent' {w : World} {g : Nat} {l : List Int} (h : At w g ((l ++ marks l.length).map (Value.int .u8))) (hb : Byt l) (hl : l.length ≤ 1000000000) : RdB w (some ⟨g, 0, none⟩) l :=
  RdB.of_at (pre := []) (post := marks l.length) (by simpa using h) hb (by omega)

/-- What was lent, and kept: its cells are the list's, and the marks. -/
theorem kept_any (g : Nat) (b : Option Addr) (cb : Nat) (l : List Int) (w : World) (h : At w g ((l ++ marks l.length).map (Value.int .u8))) (h' : RdB w b l) (hl : l.length ≤ 1000000000) :
    Calls Try.prog 48 #[.slice (some ⟨g, 0, none⟩) l.length (l.length + 3), .slice b l.length cb] w fun e w' => e = .returned (.bool true) ∧ Kp (fun _ => False) w w' := by
  have hs0 : (0 : Int) ≤ (l.length : Int) + 3 := by omega
  have hs1 : (l.length : Int) + 3 ≤ ((l.length + 3 : Nat) : Int) := by omega
  have hs2 : ((l.length : Int) + 3).toNat = l.length + 3 := by omega
  have hs3 : IntKind.i64.wrap ((l.length : Int) + 3) = (l.length : Int) + 3 := IntWalk.i64_in _ (by omega)
  go_enter Try.func48, Try.ntmps48
  go_wp2_with fail
  go_region_held3 (fun w' => At w' g ((l ++ marks l.length).map (Value.int .u8)) ∧ RdB w' b l ∧ Kp (fun _ => False) w w')
    (first | assumption | (exact ⟨h.drew, h'.kp (Kp.refl (fun _ => False) w).drew (fun _ _ h => h), (Kp.refl _ w).drew⟩) | (go_split_ands; exact ⟨hk1.at ‹_› (fun h => h), RdB.kp ‹_› hk1 (fun _ _ h => h), Kp.trans ‹_› hk1⟩))
    (first | (go_at_call 46; refine (lent_any b cb l _ ?_ hl).mono ?_; (go_split_ands; assumption); rintro e w1 ⟨rfl, hat1, hk1⟩) | (go_at_call 35; refine (same_n _ _ _ _ _ _ (l ++ marks l.length) (l ++ marks l.length) _ ?_ ?_ (by simp [marks]) (by simp [marks])).mono ?_; (go_split_ands; exact RdB.lent ‹_› h'.bd hl); exact RdB.lent hat1 h'.bd hl; rintro e w' ⟨rfl, rfl⟩))
  go_split_ands
  go_wp2
  go_ret
  exact ⟨rfl, ‹Kp _ w w1›⟩
theorem Own.rdB {w : World} {a : Option Addr} {n c : Nat} {l : List Int} (h : Own w (.slice a n c) n 1 (l.map (Value.int .u8))) (hb : Byt l) (hl : n ≤ 4611686018427387904) : RdB w a l :=
  ⟨fun i hi => by
    obtain ⟨b, off, ha, hc⟩ := h.rd i (by simpa using hi)
    exact ⟨b, off, ha, by rw [hc]; simp [List.getD_eq_getElem?_getD, List.getElem?_eq_getElem hi]⟩, hb, by have := h.1; simp at this; omega⟩
end Go.Proofs.Ytgcgcdgjooaipaa
