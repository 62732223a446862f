/- satchelkit.SameInts of equal lists (as in XRatK). -/
import Derived.Test.YtlabkldpcbmjbaaChkX
import Derived.Outline
import Derived.Deep.DeepCutAuto
import Derived.Deep.QuietTactic
namespace Go.Proofs.Ytlabkldpcbmjbaa
open Go.RowKit
set_option linter.unusedVariables false
theorem sameints_eq (a b : Option Addr) (c c' : Nat) (l : List Nat) (w : World) (ha : Rd w a (ints l)) (hb : Rd w b (ints l)) (hl : l.length ≤ 1000000) :
    Calls Try.prog 16 #[.slice a l.length c, .slice b l.length c'] w fun e w' => e = .returned (.bool true) ∧ ∃ k, w' = w.drewN k := by
  obtain ⟨L, hL⟩ : ∃ L, L = l.length := ⟨_, rfl⟩
  rw [← hL] at hl ⊢
  have HL := Lib.hid hL
  clear hL
  go_enter Try.func16, Try.ntmps16
  go_wp2
  go_loopw [5] (fun i wr => ∃ k : Nat, k ≤ L ∧ i = .int .i64 k ∧ ∃ n, wr = w.drewN n) (fun i _ => L - (intOf i).toNat)
  case atStart => exact ⟨0, by omega, rfl, 0, rfl⟩
  case round =>
    obtain ⟨k, hkl, rfl, n0, rfl⟩ := hrel
    by_cases hlt : k < L
    · have i1 : (k : Int) < L := by omega
      have hk' : k < (ints l).length := by simp [ints]; rw [← HL.out]; exact hlt
      obtain ⟨b1, o1, rfl, c1⟩ := ha k hk'
      obtain ⟨b2, o2, rfl, c2⟩ := hb k hk'
      have e1 : (ints l).getD k undef = .int .i64 ((l.getD k 0 : Nat) : Int) := by
        have : k < l.length := by rw [← HL.out]; exact hlt
        simp [ints, List.getD_eq_getElem?_getD, this]
      rw [e1] at c1 c2
      generalize l.getD k 0 = x at *
      have d1 : (w.drewN n0).cell? ⟨b1, o1 + k, none⟩ = some (.int .i64 (x : Int)) := c1
      have d2 : (w.drewN n0).cell? ⟨b2, o2 + k, none⟩ = some (.int .i64 (x : Int)) := c2
      have HW : Hid (∃ n, w.drewN n0 = w.drewN n) := ⟨n0, rfl⟩
      clear c1 c2 ha hb e1 hk'
      generalize w.drewN n0 = w1 at *
      go_upto_region 6 with fail
      go_quiet (fail)
      go_wp2
      go_roundw
      case rel =>
        obtain ⟨n1, rfl⟩ := HW.out
        exact ⟨k + 1, by omega, by go_num, _, World.drewN_drewN _ _ _⟩
      case measure => simp [intOf]; omega
    · obtain rfl : k = L := by omega
      go_wp2
      go_ret
      exact ⟨rfl, _, rfl⟩
end Go.Proofs.Ytlabkldpcbmjbaa
