/- satchelkit.OverBytes: all is written over. -/
import Derived.Test.YtgcgcdgjooaipaaKit
import Derived.Test.YtgcgcdgjooaipaaBytes
namespace Go.Proofs.Ytgcgcdgjooaipaa
open Go.RowKit
set_option linter.unusedVariables false
theorem xor_byte (n : Int) (h : 0 ≤ n ∧ n ≤ 255) : 0 ≤ bits BinOp.xor IntKind.u8 n 90 ∧ bits BinOp.xor IntKind.u8 n 90 ≤ 255 := by
  have : ∀ k : Fin 256, 0 ≤ bits BinOp.xor IntKind.u8 (k.val : Int) 90 ∧ bits BinOp.xor IntKind.u8 (k.val : Int) 90 ≤ 255 := by decide +kernel
  have h' := this ⟨n.toNat, by omega⟩
  simpa [Int.toNat_of_nonneg h.1] using h'
/-- Whatever stands from place off on, so many as the capacity says, bytes: they are written over; nothing else. -/
theorem over_at (g off n cap : Nat) (cs : List Value) (w : World) (h : At w g cs) (hp : ∀ u ∈ cs, isB u) (hfit : off + cap ≤ cs.length) (hn : n ≤ cap) (hc : cap ≤ 9223372036854775807) :
    Calls Try.prog 28 #[.slice (some ⟨g, off, none⟩) n cap] w fun e w' => e = .returned (.tuple #[]) ∧ (∃ cs', At w' g cs' ∧ ∀ u ∈ cs', isB u) ∧ Kp (· = g) w w' := by
  go_enter Try.func28, Try.ntmps28
  go_wp2_with fail
  go_loopw [3] (fun i wr => ∃ (k : Nat) (ds : List Value), k ≤ cap ∧ i = .int .i64 k ∧ ds.length = cs.length ∧ At wr g ds ∧ (∀ u ∈ ds, isB u) ∧ Kp (· = g) w wr) (fun i _ => cap - (intOf i).toNat)
  case atStart => exact ⟨0, cs, by omega, rfl, rfl, h, hp, Kp.refl _ _⟩
  case round =>
    obtain ⟨k, ds, hkl, rfl, hlen, hat, hds, hk⟩ := hrel
    by_cases hlt : k < cap
    · have hi : off + k < ds.length := by omega
      obtain ⟨x, hx, hxb⟩ := hds _ (List.getElem_mem hi)
      have hcell : wr.cell? ⟨g, off + k, none⟩ = some (.int .u8 x) := by rw [hat.cell, List.getElem?_eq_getElem hi, hx]
      have hf := fun i => hat.frozen i
      have hxx := xor_byte x hxb
      have H1 := Lib.hid (hat.set (off + k) (.int .u8 (bits BinOp.xor IntKind.u8 x 90)))
      have H2 := Lib.hid (hk.setCell (p := ⟨g, off + k, none⟩) (fun _ => rfl) (.int .u8 (bits BinOp.xor IntKind.u8 x 90)))
      have H3 : Hid (∀ u ∈ ds.set (off + k) (.int .u8 (bits BinOp.xor IntKind.u8 x 90)), isB u) := fun u hu => by
        rcases List.mem_or_eq_of_mem_set hu with h' | rfl
        · exact hds u h'
        · exact ⟨_, rfl, hxx⟩
      clear hat hk hds hx
      go_wp2_with fail
      go_roundw
      case rel => exact ⟨k + 1, _, by omega, by go_num, by simpa using hlen, H1.out, H3.out, H2.out⟩
      case measure => simp [intOf]; omega
    · obtain rfl : k = cap := by omega
      go_wp2
      go_end0
      exact ⟨rfl, ⟨ds, hat, hds⟩, hk⟩
theorem over_nil (n cap : Nat) (w : World) (hn : n = 0) (hc : cap = 0) :
    Calls Try.prog 28 #[.slice none n cap] w fun e w' => e = .returned (.tuple #[]) ∧ w = w' := by
  subst hn; subst hc
  go_enter Try.func28, Try.ntmps28
  go_wp2_with fail
  go_loop [3] (fun i => i = .int .i64 0) (fun i => 0)
  case atStart => rfl
  case round =>
    subst hrel
    go_wp2
    go_end0
    exact ⟨rfl, rfl⟩
/-- A body of the call's own is written over. -/
theorem over_own {w : World} {v : Value} {l : List Int} (h : OwnB w v l) :
    Calls Try.prog 28 #[v] w fun e w' => e = .returned (.tuple #[]) ∧ Kp (fun k => v.ownBlock = some k) w w' := by
  rcases h.own.2 with ⟨rfl, h0⟩ | ⟨g, cap, sp, rfl, hat, hsp, hle, hcm⟩
  · refine (over_nil 0 0 w rfl rfl).mono ?_
    rintro e w' ⟨rfl, rfl⟩
    exact ⟨rfl, Kp.refl _ _⟩
  · obtain ⟨cs, hcs, hp⟩ := h.blk g rfl
    have e := hat.inj hcs
    subst e
    refine (over_at g 0 l.length cap _ w hat hp (by simp [hsp]; omega) hle (by simpa [maxLen] using hcm)).mono ?_
    rintro e w' ⟨rfl, _, hk⟩
    exact ⟨rfl, hk.mono (fun i _ e => by rw [e]; rfl)⟩
end Go.Proofs.Ytgcgcdgjooaipaa
