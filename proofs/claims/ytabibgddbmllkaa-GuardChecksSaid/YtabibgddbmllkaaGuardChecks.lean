/- The walk of GuardChecks: it returns true, whatever comes in. No condition. -/
import Derived.Test.YtabibgddbmllkaaGrdA
import Derived.Test.YtabibgddbmllkaaGrdB
import Derived.Test.YtabibgddbmllkaaOpen
namespace Go.Proofs.Ytabibgddbmllkaa
open Go.RowKit
set_option linter.unusedVariables false
theorem checks_long (a : Option Addr) (cap : Nat) (len : Nat) (w : World) (hl : 1000 < len) (hl2 : len ≤ 140737488351232) :
    Calls Try.prog 4 #[.slice a len cap] w fun e w' => e = .returned (.bool true) ∧ Below w.heap.size w w' := by
  go_enter Try.func4, Try.ntmps4
  go_wp2_with fail
  refine (awake_any _).mono ?_
  rintro e w1 ⟨rfl, hk⟩
  go_wp2
  go_ret
  exact ⟨rfl, hk.below (fun _ _ h => h)⟩
set_option maxHeartbeats 1000000 in
theorem checks_main (a : Option Addr) (cap : Nat) (l : List Int) (w : World) (h : RdB w a l) (hl : l.length ≤ 1000) (hcap : l.length ≤ cap) (hcm : cap ≤ maxLen) :
    Calls Try.prog 4 #[.slice a l.length cap] w fun e w' => e = .returned (.bool true) ∧ Below w.heap.size w w' := by
  have hcl := chk_len l
  go_enter Try.func4, Try.ntmps4
  go_wp2_with fail
  refine (lent_any a cap l w h (by omega)).mono ?_
  rintro e w1 ⟨rfl, hat1, hk1⟩
  have C1 := Lib.hid (gcheck (some ⟨w.heap.size, 0, none⟩) (l.length + 3) l w1 (RdB.lent' hat1 h.bd (by omega)) (by omega) (by omega) (by unfold maxLen; omega))
  have H1 := Lib.hid (And.intro hat1 hk1)
  have hwl := hat1.lt
  clear hat1 hk1
  go_wp2_with fail
  refine C1.out.mono ?_
  rintro e w2 ⟨v, rfl, hv, hvg, hk2⟩
  have C2 := Lib.hid (rcheck a cap l w2 (h.kp0 (H1.out.2.trans hk2) (fun _ _ h => h)) (by omega) hcap hcm)
  have H2 := Lib.hid (And.intro hv (And.intro hvg hk2))
  clear hv hvg hk2 C1
  go_wp2_with fail
  refine C2.out.mono ?_
  rintro e w3 ⟨v3, rfl, hv3, hvg3, hk3⟩
  obtain ⟨va, vc, rfl, hr, _⟩ := (H2.out.1.kp hk3 (fun _ _ h => h)).form
  obtain ⟨v3a, v3c, rfl, hr3, _⟩ := hv3.form
  have C3 := same_any va v3a vc v3c (chk l) (chk l) w3 hr hr3
  rw [decide_eq_true (rfl : chk l = chk l)] at C3
  have C3' := Lib.hid C3
  have hob := H2.out.1.kp hk3 (fun _ _ h => h)
  have C4 := Lib.hid (over_own hob)
  have H3 := Lib.hid (And.intro hk3 hob)
  clear hv3 hvg3 hk3 hr hr3 C3 hob C2
  generalize ck l = k at *
  go_wp2_with fail
  refine C3'.out.mono ?_
  rintro e w4 ⟨rfl, rfl⟩
  clear C3'
  go_wp2_with fail
  refine C4.out.mono ?_
  rintro e w4 ⟨rfl, hk4⟩
  have hk14 : Kp (fun g => (Value.slice va (chk l).length vc).ownBlock = some g) w1 w4 := ((H2.out.2.2.trans H3.out.1).mono (S' := fun g => (Value.slice va (chk l).length vc).ownBlock = some g) (fun _ _ h => h.elim)).then hk4 (fun _ _ e => e)
  have hat4 := hk14.at H1.out.1 (fun e => by have := H2.out.2.1 _ e; omega)
  have hk04 : Kp (fun _ => False) w w4 := H1.out.2.then hk14 (fun i hi e => by have := H2.out.2.1 _ e; omega)
  have C5 := Lib.hid (kept_any w.heap.size a cap l w4 hat4 (h.kp0 hk04 (fun _ _ h => h)) (by omega))
  have H4 := Lib.hid hk04
  clear hk14 hat4 hk04 hk4 C4
  go_wp2_with fail
  refine C5.out.mono ?_
  rintro e w5 ⟨rfl, hk5⟩
  have H5 := Lib.hid (H4.out.trans hk5)
  clear hk5 C5
  go_wp2_with fail
  refine (awake_any _).mono ?_
  rintro e w6 ⟨rfl, hk6⟩
  go_wp2
  go_ret
  exact ⟨rfl, (H5.out.trans hk6).below (fun _ _ h => h)⟩
theorem guardChecks_walk (a0 : Option Addr) (len0 cap0 : Nat) (w : World) (r0 : Rdg Try.prog w 22 [.slice a0 len0 cap0]) :
    Calls Try.prog 4 #[.slice a0 len0 cap0] w fun e w' => e = .returned (.bool true) ∧ Below w.heap.size w w' := by
  obtain ⟨_, l, _, e0, h, h1, h2⟩ := r0.bytes Try.underlying22 Try.underlying5 (by kernel_rfl) (by kernel_rfl)
  simp only [List.cons.injEq, Value.slice.injEq, and_true] at e0
  obtain ⟨rfl, rfl, rfl⟩ := e0
  by_cases hl : 1000 < l.length
  · exact checks_long _ _ _ w hl (by omega)
  · exact checks_main _ _ l w h (by omega) h1 (by unfold maxLen; omega)
end Go.Proofs.Ytabibgddbmllkaa
