/- Bytes of one's own that are turned, bit by bit. -/
import Derived.Test.YtjjoancnkjlaeaaFrmV
import Derived.Test.YtjjoancnkjlaeaaGrdX
import Derived.Test.YtjjoancnkjlaeaaPick
namespace Go.Proofs.Ytjjoancnkjlaeaa
open Go.RowKit
set_option linter.unusedVariables false
theorem OwnB.head {w : World} {v : Value} {l : List Int} (h : OwnB w v l) (h0 : 0 < l.length) : ∃ g c, v = .slice (some ⟨g, 0, none⟩) l.length c ∧ l.length ≤ c ∧ c ≤ maxLen ∧ (∀ i, w.frozen? ⟨g, i, none⟩ = false) ∧ ∀ i, i < l.length → w.cell? ⟨g, i, none⟩ = some (.int .u8 (l.getD i 0)) := by
  rcases h.own.2 with ⟨_, hz⟩ | ⟨g, cap, sp, rfl, hat, _, hle, hcm⟩
  · omega
  · refine ⟨g, cap, rfl, hle, hcm, fun i => hat.frozen i, fun i hi => ?_⟩
    rw [hat.cell, List.getElem?_append_left (by simpa using hi), List.getElem?_map, List.getElem?_eq_getElem hi, List.getD_eq_getElem?_getD, List.getElem?_eq_getElem hi]; rfl
theorem OwnB.rdb {w : World} {a : Option Addr} {n c : Nat} {l : List Int} (h : OwnB w (.slice a n c) l) : RdB w a l := by
  obtain ⟨a', c', e, hr, _⟩ := h.form
  simp only [Value.slice.injEq] at e
  obtain ⟨rfl, _, rfl⟩ := e
  exact hr
theorem OwnB.set {w : World} {g n c : Nat} {l : List Int} (h : OwnB w (.slice (some ⟨g, 0, none⟩) n c) l) {i : Nat} (hi : i < l.length) {x : Int} (hx : 0 ≤ x ∧ x ≤ 255) : OwnB (w.setCell ⟨g, i, none⟩ (.int .u8 x)) (.slice (some ⟨g, 0, none⟩) n c) (l.set i x) := by
  rcases h.own.2 with ⟨e, _⟩ | ⟨g', cap, sp, e, hat, hsp, hle, hcm⟩
  · cases e
  · simp only [Value.slice.injEq, Option.some.injEq, Addr.mk.injEq, and_true] at e
    obtain ⟨rfl, e2, rfl⟩ := e
    have hs := hat.set i (.int .u8 x)
    have e1 : (l.map (Value.int .u8) ++ sp).set i (.int .u8 x) = (l.set i x).map (Value.int .u8) ++ sp := by
      rw [List.set_append_left _ _ (by simpa using hi), List.map_set]
    rw [e1] at hs
    refine ⟨⟨by simp, .inr ⟨g, c, sp, by rw [e2, List.length_set], hs, by rw [List.length_set]; exact hsp, by rw [List.length_set]; exact hle, hcm⟩⟩, fun g' hg => ?_, fun y hy => ?_, by rw [List.length_set]; exact h.len⟩
    · simp only [Value.ownBlock, Option.some.injEq] at hg
      subst hg
      obtain ⟨cs, hcs, hp⟩ := h.blk g rfl
      have e3 := hat.inj hcs
      refine ⟨_, hs, fun u hu => ?_⟩
      rw [← e1] at hu
      rcases List.mem_or_eq_of_mem_set hu with hu | rfl
      · exact hp u (e3 ▸ hu)
      · exact ⟨x, rfl, hx⟩
    · rcases List.mem_or_eq_of_mem_set hy with hy | rfl
      · exact h.byt y hy
      · exact hx
theorem u8_bit (x t : Nat) (hx : x < 256) (ht : t < 8) : bits .xor .u8 (x : Int) (IntKind.u8.wrap (2 ^ t)) = ((x ^^^ 2 ^ t : Nat) : Int) ∧ x ^^^ 2 ^ t < 256 := by
  have h2 : 2 ^ t < 256 := Nat.pow_lt_pow_right (a := 2) (n := 8) (by omega) ht
  have e : IntKind.u8.wrap (2 ^ t) = ((2 ^ t : Nat) : Int) := by
    rw [IntKind.wrap_u8', Int.natCast_pow]
    have h3 : ((2 : Int) ^ t) < 256 := by
      have := Int.ofNat_lt.2 h2
      rwa [Int.natCast_pow] at this
    have h4 : (0 : Int) ≤ 2 ^ t := by
      have := Int.natCast_nonneg (2 ^ t)
      rwa [Int.natCast_pow] at this
    exact Int.emod_eq_of_lt h4 h3
  rw [e]
  exact ⟨u8_xor_nat x (2 ^ t) hx h2, Nat.xor_lt_two_pow (n := 8) hx h2⟩
end Go.Proofs.Ytjjoancnkjlaeaa
