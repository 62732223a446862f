/- satchelkit.SameDatagrams, of lists that say the same. -/
import Derived.Test.YtgcgcdgjooaipaaNetV
namespace Go.Proofs.Ytgcgcdgjooaipaa
open Go.RowKit
set_option linter.unusedVariables false
set_option linter.unusedSimpArgs false
theorem key_at {ds es : List Nd} (h : ds.map dkey = es.map dkey) : ds.length = es.length ∧ ∀ i, (nd es i).fr = (nd ds i).fr ∧ (nd es i).to = (nd ds i).to ∧ (nd es i).l = (nd ds i).l := by
  have hl : ds.length = es.length := by simpa using congrArg List.length h
  refine ⟨hl, fun i => ?_⟩
  by_cases hi : i < ds.length
  · have := congrArg (fun l => l[i]?) h
    simp only [List.getElem?_map, List.getElem?_eq_getElem hi, List.getElem?_eq_getElem (show i < es.length by omega), Option.map_some, Option.some.injEq, dkey, Prod.mk.injEq] at this
    unfold nd
    rw [List.getD_eq_getElem?_getD, List.getD_eq_getElem?_getD, List.getElem?_eq_getElem hi, List.getElem?_eq_getElem (show i < es.length by omega)]
    exact ⟨this.1.symm, this.2.1.symm, this.2.2.symm⟩
  · unfold nd
    rw [List.getD_eq_getElem?_getD, List.getD_eq_getElem?_getD, List.getElem?_eq_none (by omega), List.getElem?_eq_none (by omega)]
    exact ⟨rfl, rfl, rfl⟩
set_option maxHeartbeats 2000000 in
set_option maxRecDepth 20000 in
theorem samedg_eq (a b : Option Addr) (ca cb : Nat) (ds es : List Nd) (w : World) (h : RdD w a ds) (h' : RdD w b es) (hk : ds.map dkey = es.map dkey) (hn : ds.length ≤ 100000) :
    Calls Try.prog 12 #[.slice a ds.length ca, .slice b es.length cb] w fun e w' => e = .returned (.bool true) ∧ Kp (fun _ => False) w w' := by
  obtain ⟨hl, hat⟩ := key_at hk
  rw [← hl]
  obtain ⟨n, hnn⟩ : ∃ n, n = ds.length := ⟨_, rfl⟩
  rw [← hnn] at hn ⊢
  have H := Lib.hid (And.intro h (And.intro h' (And.intro hat (And.intro hnn (hnn.trans hl)))))
  clear h h' hat hl hk hnn
  go_enter Try.func12, Try.ntmps12
  go_wp2
  go_loopw [5] (fun i wr => ∃ k : Nat, k ≤ n ∧ i = .int .i64 k ∧ Kp (fun _ => False) w wr) (fun i _ => n - (intOf i).toNat)
  case atStart => exact ⟨0, by omega, rfl, Kp.refl _ _⟩
  case round =>
    obtain ⟨k, hkn, rfl, hkp⟩ := hrel
    by_cases hlt : k < n
    · have j1 : (k : Int) < n := by omega
      obtain ⟨b1, o1, a1, c1, rfl, f0, f1, f2, r1, _⟩ := H.out.1.kp0 hkp (fun _ _ h => h) k (by rw [← H.out.2.2.2.1]; exact hlt)
      obtain ⟨b2, o2, a2, c2, rfl, g0, g1, g2, r2, _⟩ := H.out.2.1.kp0 hkp (fun _ _ h => h) k (by rw [← H.out.2.2.2.2]; exact hlt)
      obtain ⟨e1, e2, e3⟩ := H.out.2.2.1 k
      rw [e1] at g0
      rw [e2] at g1
      rw [e3] at g2 r2
      have CS := Lib.hid (fun nq => Calls.quiet_of_same (n := nq) (Calls.turn (same_any a1 a2 c1 c2 (nd ds k).l (nd ds k).l (World.drewN wr nq) (r1.drewN nq) (r2.drewN nq))))
      rw [show decide ((nd ds k).l = (nd ds k).l) = true by simp] at CS
      have HKP := Lib.hid hkp
      clear e1 e2 e3 r1 r2 hkp
      generalize (nd ds k).l.length = m at *
      generalize (nd ds k).fr = fr at *
      generalize (nd ds k).to = to at *
      go_wp2
      go_quiet ((go_at_call 35; exact CS.out _))
      go_wp2
      go_roundw
      case rel => exact ⟨k + 1, by omega, by go_num, HKP.out.drewN _⟩
      case measure => simp [intOf]; omega
    · obtain rfl : k = n := by omega
      have HKP := Lib.hid hkp
      clear hkp
      go_wp2
      go_ret
      exact ⟨rfl, HKP.out⟩
end Go.Proofs.Ytgcgcdgjooaipaa
