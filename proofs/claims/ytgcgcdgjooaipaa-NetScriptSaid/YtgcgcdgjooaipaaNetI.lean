/- Package net: the iterator over all datagrams. -/
import Derived.Test.YtgcgcdgjooaipaaNetL
import Derived.Test.YtgcgcdgjooaipaaRng
namespace Go.Proofs.Ytgcgcdgjooaipaa
open Go.RowKit
set_option linter.unusedVariables false
set_option linter.unusedSimpArgs false
attribute [local go_sem] Oper.semAt_some
def ixF : List Nd → Nat → Nat
  | [], _ => 0
  | d :: r, b => if d.g = b then 1 else ixF r b + 1
theorem ixF_at : ∀ (nds : List Nd) (i : Nat), i < nds.length → (∀ j, j < i → (nd nds j).g ≠ (nd nds i).g) → ixF nds (nd nds i).g = i + 1
  | [], i, h, _ => absurd h (Nat.not_lt_zero _)
  | d :: r, 0, _, _ => if_pos rfl
  | d :: r, i + 1, h, hd => by
    have h0 := hd 0 (by omega)
    have h1 := ixF_at r i (by simpa using h) (fun j hj => hd (j + 1) (by omega))
    show (if d.g = (nd r i).g then 1 else ixF r (nd r i).g + 1) = _
    rw [if_neg (show ¬ d.g = (nd r i).g from h0), h1]
def ixV (nb : Nat) (nds : List Nd) : Value → Nat
  | .pointer (some a) => if a.block = nb then 0 else ixF nds a.block
  | _ => 0
theorem ixV_at {w : World} {nb mb : Nat} {nds : List Nd} {n lost : Int} (h : NetC w nb nds n mb lost) : ∀ i, i ≤ nds.length → ixV nb nds (.pointer (some ⟨pB nb nds i, pO i, none⟩)) = i
  | 0, _ => if_pos rfl
  | i + 1, hi => by
    show (if (nd nds i).g = nb then 0 else ixF nds (nd nds i).g) = _
    rw [if_neg (h.gne i hi), ixF_at nds i hi (fun j hj e => by have := h.ginj j i (by omega) hi e; omega)]
/-- The iterator's memory. -/
def TN (bN nb mb : Nat) (nds : List Nd) (n lost : Int) (W : World) : Prop := W.cell? ⟨bN, 0, none⟩ = some (.pointer (some ⟨nb, 0, none⟩)) ∧ NetC W nb nds n mb lost
def encN (nb : Nat) (nds : List Nd) (i : Nat) : Array Value := #[.pointer (some ⟨pB nb nds i, pO i, none⟩), .pointer (some ⟨(nd nds i).g, 0, none⟩)]
set_option maxHeartbeats 1000000 in
theorem all_gives (m : Nat) (hm : 1 ≤ m) (bN nb mb : Nat) (nds : List Nd) (n lost : Int) :
    Gives Fence.wide m Try.prog 49 #[.pointer (some ⟨bN, 0, none⟩)] (encN nb nds) (List.range nds.length) (fun A A' => A = A') (fun _ => TN bN nb mb nds n lost) (fun _ => True) := by
  intro yl J Jx W hJ hJx hY h0 hT
  have cN := hT.1
  refine callsIn_of_wp Try.func49 rfl trivial ?_ rfl
  simp only [Try.ntmps49, List.size_toArray, List.length_cons, List.length_nil, Nat.reduceAdd, Nat.reduceSub, Array.replicate_succ, Array.replicate_zero, List.push_toArray, List.append_toArray, List.nil_append, List.cons_append]
  gi_wp2
  gi_loopw [3] (fun p wr => ∃ i, i ≤ nds.length ∧ p = .pointer (some ⟨pB nb nds i, pO i, none⟩) ∧ TN bN nb mb nds n lost wr ∧ J (List.range i) wr) (fun p _ => nds.length - ixV nb nds p)
  case atStart => exact ⟨0, Nat.zero_le _, rfl, hT, h0⟩
  case round =>
    clear hT cN h0
    obtain ⟨i, hi, rfl, ht, hj⟩ := hrel
    have hc := (ht.2.nextCell hi).1
    by_cases hlt : i < nds.length
    · rw [nx_at hlt] at hc
      have HM := Lib.hid (And.intro (ixV_at ht.2 i hi) (ixV_at ht.2 (i + 1) hlt))
      have hpre : List.range i ++ [i] <+: List.range nds.length := by
        rw [← List.range_succ]
        exact ⟨(List.range nds.length).drop (i + 1), by
          have : (List.range nds.length).take (i + 1) = List.range (i + 1) := by rw [List.take_range, Nat.min_eq_left (by omega)]
          rw [← this]; exact List.take_append_drop _ _⟩
      obtain ⟨fn, tmps, assign, body, hy, hR⟩ := hY (List.range i) i wr hpre hj ht
      unfold encN at hy
      have HP := Lib.hid hpre
      clear hY hpre ht hj
      gi_wp2
      refine hR.mono ?_
      rintro e w4 (⟨rfl, hj4, ht4⟩ | ⟨rfl, hjx4⟩)
      · have hc4 := (ht4.2.nextCell hi).1
        rw [nx_at hlt] at hc4
        have H4 := Lib.hid (And.intro ht4 hj4)
        clear ht4 hj4 hc hy
        gi_wp2
        go_roundw
        case rel => exact ⟨i + 1, hlt, rfl, H4.out.1, by rw [List.range_succ]; exact H4.out.2⟩
        case measure =>
          have m1 : ixV nb nds (.pointer (some ⟨(nd nds i).g, 0, none⟩)) = i + 1 := HM.out.2
          rw [m1, HM.out.1]; omega
      · gi_wp2
        refine bodyPost_ret (results_none rfl _ _ _) rfl ?_
        exact ⟨⟨_, rfl⟩, .inr ⟨_, HP.out, hjx4⟩⟩
    · rw [nx_end (by omega)] at hc
      obtain rfl : i = nds.length := by omega
      gi_wp2
      go_end0
      exact ⟨⟨_, rfl⟩, .inl ⟨hj, trivial⟩⟩
end Go.Proofs.Ytgcgcdgjooaipaa
