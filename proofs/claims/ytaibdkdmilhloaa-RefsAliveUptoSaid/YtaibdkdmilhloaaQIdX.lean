/- Package refs: Lost, Dead. (Written by wip/ref20g.py.) -/
import Derived.Test.YtaibdkdmilhloaaQIdW
namespace Go.Proofs.Ytaibdkdmilhloaa
open Go.RowKit Go.Maps
set_option linter.unusedVariables false
set_option linter.unusedSimpArgs false
attribute [local go_sem] Oper.semAt_some
set_option maxHeartbeats 1000000 in
theorem lost_any (am ai : Option Addr) (nm cm ni ci : Nat) (ms : List (List (List Id))) (l : List Id) (w : World) (hnm : nm = ms.length) (hni : ni = l.length) (hm : RdM w am ms) (hl : RdI w ai l) (hb : nm + ni + (allI ms).length ≤ 100000) :
    Calls Try.prog 17 #[.slice am nm cm, .slice ai ni ci] w fun e w' => ∃ v, e = .returned v ∧ OwnI w' v (newL l (allI ms)) ∧ (∀ g, v.ownBlock = some g → w.heap.size ≤ g) ∧ Kp (fun _ => False) w w' := by
  have HM := Lib.hid (And.intro hm (And.intro hl (And.intro hnm (And.intro hni hb))))
  clear hm hl hnm hni hb
  go_enter Try.func17, Try.ntmps17
  go_wp2_with fail
  go_at_call 42
  refine (named_any am nm cm ms HM.out.2.2.1 (by have := HM.out.2.2.2.2; omega) w HM.out.1).mono ?_
  rintro e w1 ⟨v1, rfl, hi1, k1⟩
  have K1 := Lib.hid (And.intro hi1 k1)
  clear hi1 k1
  go_wp2_with fail
  go_at_call 44
  refine (all_any ai ni ci l HM.out.2.2.2.1 (by have := HM.out.2.2.2.2; omega) w1 (HM.out.2.1.kp0 K1.out.2)).mono ?_
  rintro e w2 ⟨v2, rfl, hi2, k2⟩
  have K2 := Lib.hid (And.intro hi2 k2)
  obtain ⟨_, gf2, lb2, rfl, _, _⟩ := hi2
  clear k2
  go_wp2_with fail
  go_at_call 43
  have ka := (Kp.refl (fun _ => False) w2).alloc (.cells #[.func (.func gf2) #[] lb2] 67)
  refine (set_one (some ⟨w2.heap.size, 0, none⟩) 1 (.func (.func gf2) #[] lb2) l _ (Rd.new w2 [.func (.func gf2) #[] lb2] _) (K2.out.1.later (ka.mono (fun _ _ h => h.elim))) (by have := HM.out.2.2.2.2; have := HM.out.2.2.2.1; omega)).mono ?_
  rintro e w4 ⟨mb, rfl, hs, hmb, k4⟩
  rw [World.size_alloc] at hmb
  have K4 := Lib.hid (And.intro hs (And.intro hmb ((K2.out.2.trans ka).trans k4)))
  clear hs hmb k4 ka
  go_wp2_with fail
  go_at_call 41
  have hs12 := K2.out.2.size
  have hmb := K4.out.2.1
  refine (without_any w1 v1 (allI ms) l mb l.length w4 K1.out.1 (K4.out.2.2.mono (fun _ _ h => h.elim)) (by omega) K4.out.1 (by have := HM.out.2.2.2.2; have := HM.out.2.2.2.1; omega)).mono ?_
  rintro e w5 ⟨v, rfl, ho, hg, k5⟩
  have K5 := Lib.hid (And.intro ho (And.intro hg k5))
  clear ho hg k5
  go_wp2_with fail
  go_ret
  have h1 := K1.out.2.size
  have h4 := K4.out.2.2.size
  exact ⟨_, rfl, K5.out.1, fun g hg => by have := K5.out.2.1 g hg; omega, (K1.out.2.trans K4.out.2.2).then K5.out.2.2 (fun i hi e => by omega)⟩
set_option maxHeartbeats 1000000 in
theorem dead_any (ah am ai : Option Addr) (nh ch nm cm ni ci : Nat) (hv : List Id) (ms : List (List (List Id))) (l : List Id) (w : World) (hnh : nh = hv.length) (hnm : nm = ms.length) (hni : ni = l.length) (hh : RdI w ah hv) (hm : RdM w am ms) (hl : RdI w ai l) (hb : nh + nm + ni + (allI ms).length ≤ 100000) :
    Calls Try.prog 23 #[.slice ah nh ch, .slice am nm cm, .slice ai ni ci] w fun e w' => ∃ v, e = .returned v ∧ OwnI w' v (newL (allI ms ++ l) hv) ∧ (∀ g, v.ownBlock = some g → w.heap.size ≤ g) ∧ Kp (fun _ => False) w w' := by
  have HM := Lib.hid (And.intro hm (And.intro hl (And.intro hnm (And.intro hni (And.intro hb (And.intro hh hnh))))))
  clear hm hl hnm hni hb hh hnh
  go_enter Try.func23, Try.ntmps23
  go_wp2_with fail
  go_at_call 44
  refine (all_any ah nh ch hv HM.out.2.2.2.2.2.2 (by have := HM.out.2.2.2.2.1; omega) w HM.out.2.2.2.2.2.1).mono ?_
  rintro e w0 ⟨v0, rfl, hi0, k0⟩
  have K0 := Lib.hid (And.intro hi0 k0)
  clear hi0 k0
  go_wp2_with fail
  go_at_call 42
  refine (named_any am nm cm ms HM.out.2.2.1 (by have := HM.out.2.2.2.2.1; omega) w0 (HM.out.1.kp0 K0.out.2)).mono ?_
  rintro e w1 ⟨v1, rfl, hi1, k1⟩
  have K1 := Lib.hid (And.intro hi1 k1)
  obtain ⟨_, gf1, lb1, rfl, _, _⟩ := hi1
  clear k1
  go_wp2_with fail
  go_at_call 44
  refine (all_any ai ni ci l HM.out.2.2.2.1 (by have := HM.out.2.2.2.2.1; omega) w1 (HM.out.2.1.kp0 (K0.out.2.trans K1.out.2))).mono ?_
  rintro e w2 ⟨v2, rfl, hi2, k2⟩
  have K2 := Lib.hid (And.intro hi2 k2)
  obtain ⟨_, gf2, lb2, rfl, _, _⟩ := hi2
  clear k2
  go_wp2_with fail
  go_at_call 43
  have ka := (Kp.refl (fun _ => False) w2).alloc (.cells #[.func (.func gf1) #[] lb1, .func (.func gf2) #[] lb2] 67)
  refine (set_two (some ⟨w2.heap.size, 0, none⟩) 2 (.func (.func gf1) #[] lb1) (.func (.func gf2) #[] lb2) (allI ms) l _ (Rd.new w2 [.func (.func gf1) #[] lb1, .func (.func gf2) #[] lb2] _) (K1.out.1.later ((K2.out.2.trans ka).mono (fun _ _ h => h.elim))) (K2.out.1.later (ka.mono (fun _ _ h => h.elim))) (by have := HM.out.2.2.2.2.1; have := HM.out.2.2.2.1; omega)).mono ?_
  rintro e w4 ⟨mb, rfl, hs, hmb, k4⟩
  rw [World.size_alloc] at hmb
  have K4 := Lib.hid (And.intro hs (And.intro hmb (((K1.out.2.trans K2.out.2).trans ka).trans k4)))
  clear hs hmb k4 ka
  go_wp2_with fail
  go_at_call 41
  have hs01 := K1.out.2.size
  have hs12 := K2.out.2.size
  have hmb := K4.out.2.1
  refine (without_any w0 v0 hv (allI ms ++ l) mb ((allI ms).length + l.length) w4 K0.out.1 (K4.out.2.2.mono (fun _ _ h => h.elim)) (by omega) K4.out.1 (by have := HM.out.2.2.2.2.1; have := HM.out.2.2.2.1; have := HM.out.2.2.2.2.2.2; omega)).mono ?_
  rintro e w5 ⟨v, rfl, ho, hg, k5⟩
  have K5 := Lib.hid (And.intro ho (And.intro hg k5))
  clear ho hg k5
  go_wp2_with fail
  go_ret
  have h0 := K0.out.2.size
  have h4 := K4.out.2.2.size
  exact ⟨_, rfl, K5.out.1, fun g hg => by have := K5.out.2.1 g hg; omega, (K0.out.2.trans K4.out.2.2).then K5.out.2.2 (fun i hi e => by omega)⟩
end Go.Proofs.Ytaibdkdmilhloaa
