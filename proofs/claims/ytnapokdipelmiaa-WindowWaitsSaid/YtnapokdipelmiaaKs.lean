/- satchelkit.SameBytes. -/
import Derived.Test.YtnapokdipelmiaaKt0
namespace Go.Proofs.Ytnapokdipelmiaa
open Go.RowKit
set_option linter.unusedVariables false
theorem run_bytes_str {P : Program} (w : World) {src e dst : TypeId} (hs : P.underlying src = some (.slice e)) (he : P.underlying e = some (.int .u8)) (hd : P.underlying dst = some .string) {a : Option Addr} {l : List Int} (h : RdB w a l) (cap : Nat) :
    (convert src dst (.slice a l.length cap)).run P w = .ok (.string (strOfNums l)) w := by
  rcases a with _ | ⟨b, off, spot⟩
  · have : l = [] := by
      cases l with
      | nil => rfl
      | cons x r => obtain ⟨_, _, e, _⟩ := h.cell 0 (by simp); cases e
    subst this
    exact run_convert_bytes_nil w src e hs he _ cap dst hd
  · by_cases h0 : l = []
    · subst h0
      rw [run_convert_bytes_string w src dst e _ _ cap hs he hd]
      simp [Conv.bytesToString, loadCells, loadCellsFrom, strOfNums]
      rfl
    · obtain ⟨_, _, e', _⟩ := h.cell 0 (List.length_pos_iff.2 h0)
      cases e'
      refine run_convert_bytes_arg w src e hs he b off l.length cap l rfl (fun i hi => ?_) dst hd
      obtain ⟨_, _, e', hc⟩ := h.cell i hi
      cases e'
      exact hc
theorem strOfNums_inj {l m : List Int} (hl : Byt l) (hm : Byt m) (h : strOfNums l = strOfNums m) : l = m := by
  have h1 : l.map (fun n => UInt8.ofNat n.toNat) = m.map (fun n => UInt8.ofNat n.toNat) := by
    rw [← strOfNums_data, ← strOfNums_data, h]
  have h2 := congrArg (List.map fun c : UInt8 => (c.toNat : Int)) h1
  rw [List.map_map, List.map_map] at h2
  have key : ∀ x : List Int, Byt x → x.map ((fun c : UInt8 => (c.toNat : Int)) ∘ fun n => UInt8.ofNat n.toNat) = x := fun x hx => by
    conv => rhs; rw [← List.map_id x]
    refine List.map_congr_left fun n hn => ?_
    have := hx n hn
    simp [UInt8.toNat_ofNat']
    omega
  rwa [key l hl, key m hm] at h2
theorem same_beq {l m : List Int} (hl : Byt l) (hm : Byt m) : ((strOfNums l).toList == (strOfNums m).toList) = decide (l = m) := by
  rw [ByteArray.toList_eq, ByteArray.toList_eq]
  by_cases h : l = m
  · subst h; simp
  · rw [decide_eq_false h, beq_eq_false_iff_ne]
    intro e
    exact h (strOfNums_inj hl hm (by rcases hA : strOfNums l with ⟨A⟩; rcases hB : strOfNums m with ⟨B⟩; rw [hA, hB] at e; exact congrArg ByteArray.mk (Array.toList_inj.1 e)))
theorem same_any (a b : Option Addr) (ca cb : Nat) (l m : List Int) (w : World) (h : RdB w a l) (h' : RdB w b m) :
    Calls Try.prog 14 #[.slice a l.length ca, .slice b m.length cb] w fun e w' => e = .returned (.bool (decide (l = m))) ∧ w = w' := by
  have h1 := run_bytes_str (P := Try.prog) (src := 31) (dst := 9) w Try.underlying31 Try.underlying5 Try.underlying9 h ca
  have h2 := run_bytes_str (P := Try.prog) (src := 31) (dst := 9) w Try.underlying31 Try.underlying5 Try.underlying9 h' cb
  go_enter Try.func14, Try.ntmps14
  go_wp2
  go_ret
  exact ⟨ret_bool (same_beq h.bd h'.bd), rfl⟩

theorem same_n (a b : Option Addr) (n k ca cb : Nat) (l m : List Int) (w : World) (h : RdB w a l) (h' : RdB w b m) (hn : l.length = n) (hk : m.length = k) :
    Calls Try.prog 14 #[.slice a n ca, .slice b k cb] w fun e w' => e = .returned (.bool (decide (l = m))) ∧ w = w' := by
  subst hn; subst hk; exact same_any a b ca cb l m w h h'
theorem Own.rdB {w : World} {a : Option Addr} {n c : Nat} {l : List Int} (h : Own w (.slice a n c) n 1 (l.map (Value.int .u8))) (hb : Byt l) (hl : n ≤ 4611686018427387904) : RdB w a l :=
  ⟨fun i hi => by
    obtain ⟨b, off, ha, hc⟩ := h.rd i (by simpa using hi)
    exact ⟨b, off, ha, by rw [hc]; simp [List.getD_eq_getElem?_getD, List.getElem?_eq_getElem hi]⟩, hb, by have := h.1; simp at this; omega⟩
end Go.Proofs.Ytnapokdipelmiaa
