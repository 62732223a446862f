/- Package ratio: how Order compares two places. -/
import Derived.Test.YtaibdkdmilhloaaQRaM
import Derived.Deep.QuietTactic
import Derived.Deep.DeepCutAuto
import Derived.BigQuiet
namespace Go.Proofs.Ytaibdkdmilhloaa
open Go.RowKit Flt
set_option linter.unusedVariables false
def cmpI (x y : Nat) : Int := if bef x y then -1 else if bef y x then 1 else 0
theorem cmp_any (p : Nat) (a : Option Addr) (c : Nat) (l : List Nat) (i k : Nat) (w : World) (hbx : w.cell? ⟨p, 0, none⟩ = some (.slice a l.length c)) (hr : RdF w a l) (hi : i < l.length) (hk : k < l.length) (hl : l.length ≤ 1000000) :
    Calls Try.prog 49 #[.int .i64 i, .int .i64 k, .pointer (some ⟨p, 0, none⟩)] w fun e w' => e = .returned (.int .i64 (cmpI (l.getD i 0) (l.getD k 0))) ∧ ∃ n, w' = w.drewN n := by
  obtain ⟨b, off, rfl, hci⟩ := hr i hi
  obtain ⟨b', off', e', hck⟩ := hr k hk
  simp only [Option.some.injEq, Addr.mk.injEq, and_true] at e'
  obtain ⟨rfl, rfl⟩ := e'
  unfold cmpI
  generalize l.getD i 0 = x at *
  generalize l.getD k 0 = y at *
  generalize l.length = m at *
  have i1 : (i : Int) < m := by omega
  have k1 : (k : Int) < m := by omega
  clear hr
  have C1 := fun w' n => Calls.quiet_of_same (n := n) (Calls.turn (before_any x y (World.drewN w' n)))
  have C2 := fun w' n => Calls.quiet_of_same (n := n) (Calls.turn (before_any y x (World.drewN w' n)))
  cases hxy : bef x y
  · rw [hxy] at C1
    cases hyx : bef y x
    · rw [hyx] at C2
      go_enter Try.func49, Try.ntmps49
      go_upto_region 1 with fail
      go_quiet ((go_at_call 20; with_reducible exact C1 _ _))
      go_upto_region 3 with fail
      have hb1 : (w.drewN nq).cell? ⟨p, 0, none⟩ = some (.slice (some ⟨b, off, none⟩) m c) := hbx
      have hi1 : (w.drewN nq).cell? ⟨b, off + i, none⟩ = some (.float .f64 x) := hci
      have hk1 : (w.drewN nq).cell? ⟨b, off + k, none⟩ = some (.float .f64 y) := hck
      have HW : Hid (∃ n, w.drewN nq = w.drewN n) := ⟨nq, rfl⟩
      generalize w.drewN nq = w1 at *
      go_quiet ((go_at_call 20; with_reducible exact C2 _ _))
      go_wp2
      go_ret
      obtain ⟨n1, rfl⟩ := HW.out
      exact ⟨rfl, _, World.drewN_drewN _ _ _⟩
    · rw [hyx] at C2
      go_enter Try.func49, Try.ntmps49
      go_upto_region 1 with fail
      go_quiet ((go_at_call 20; with_reducible exact C1 _ _))
      go_upto_region 3 with fail
      have hb1 : (w.drewN nq).cell? ⟨p, 0, none⟩ = some (.slice (some ⟨b, off, none⟩) m c) := hbx
      have hi1 : (w.drewN nq).cell? ⟨b, off + i, none⟩ = some (.float .f64 x) := hci
      have hk1 : (w.drewN nq).cell? ⟨b, off + k, none⟩ = some (.float .f64 y) := hck
      have HW : Hid (∃ n, w.drewN nq = w.drewN n) := ⟨nq, rfl⟩
      generalize w.drewN nq = w1 at *
      go_quiet ((go_at_call 20; with_reducible exact C2 _ _))
      go_wp2
      go_ret
      obtain ⟨n1, rfl⟩ := HW.out
      exact ⟨rfl, _, World.drewN_drewN _ _ _⟩
  · rw [hxy] at C1
    go_enter Try.func49, Try.ntmps49
    go_upto_region 1 with fail
    go_quiet ((go_at_call 20; with_reducible exact C1 _ _))
    go_wp2
    go_ret
    exact ⟨rfl, _, rfl⟩
end Go.Proofs.Ytaibdkdmilhloaa
