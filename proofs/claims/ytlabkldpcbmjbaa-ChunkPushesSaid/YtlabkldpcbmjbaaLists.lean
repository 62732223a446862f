/- satchelkit.SameLists. -/
import Derived.Test.YtlabkldpcbmjbaaKit
import Derived.Test.YtlabkldpcbmjbaaRdL
namespace Go.Proofs.Ytlabkldpcbmjbaa
open Go.RowKit
set_option linter.unusedVariables false
theorem samelists_any (a b : Option Addr) (n m ca cb : Nat) (ls ms : List (List Int)) (w : World) (h : RdL w a ls) (h' : RdL w b ms) (hn : ls.length = n) (hm : ms.length = m) (hn' : n ≤ 4611686018427387904) :
    Calls Try.prog 15 #[.slice a n ca, .slice b m cb] w fun e w' => e = .returned (.bool (decide (ls = ms))) ∧ Kp (fun _ => False) w w' := by
  subst hn; subst hm
  by_cases hl : ls.length = ms.length
  · have h1 : ((ls.length : Int) == ms.length) = true := by simp [hl]
    have h2 : ((ls.length : Int) != ms.length) = false := by simp [hl]
    have HL := Lib.hid hl
    clear hl
    go_enter Try.func15, Try.ntmps15
    go_wp2_with fail
    go_loopw [5] (fun i wr => ∃ k : Nat, k ≤ ls.length ∧ i = .int .i64 k ∧ ls.take k = ms.take k ∧ Kp (fun _ => False) w wr) (fun i _ => ls.length - (intOf i).toNat)
    case atStart => exact ⟨0, by omega, rfl, rfl, Kp.refl _ _⟩
    case round =>
      obtain ⟨k, hkl, rfl, hk, hkp⟩ := hrel
      by_cases hlt : k < ls.length
      · obtain ⟨b1, o1, a1, c1, rfl, q1, r1, _⟩ := h.kp0 hkp (fun _ _ h => h) k hlt
        obtain ⟨b2, o2, a2, c2, rfl, q2, r2, _⟩ := h'.kp0 hkp (fun _ _ h => h) k (by rw [← HL.out]; exact hlt)
        have HT := Lib.hid (take_eq_iff ls ms [] k hlt HL.out hk)
        have i1 : (k : Int) < ls.length := by omega
        have i2 : (k : Int) < ms.length := by have := HL.out; omega
        have Hk := Lib.hid hk
        clear hk h1 h2
        generalize ls.getD k [] = x at *
        generalize ms.getD k [] = y at *
        have C := fun n => Calls.quiet_of_same (n := n) (Calls.turn (same_any a1 a2 c1 c2 x y (wr.drewN n) (r1.drewN n) (r2.drewN n)))
        by_cases hxy : x = y
        · have e : decide (x = y) = true := by simpa using hxy
          rw [e] at C
          have HX := Lib.hid (HT.out.2 hxy)
          clear e hxy
          go_wp2_with fail
          go_quiet ((go_at_call 24; exact C _))
          go_wp2
          go_roundw
          case rel => exact ⟨k + 1, by omega, by go_num, HX.out, hkp.drewN _⟩
          case measure => simp [intOf]; omega
        · have e : decide (x = y) = false := by simpa using hxy
          have hne : decide (ls = ms) = false := by
            simp only [decide_eq_false_iff_not]
            intro e'
            exact hxy (HT.out.1 (by rw [e']))
          rw [e] at C
          have HNE := Lib.hid hne
          clear e hxy hne
          go_wp2_with fail
          go_quiet ((go_at_call 24; exact C _))
          go_wp2
          go_ret
          exact ⟨ret_bool HNE.out.symm, hkp.drewN _⟩
      · obtain rfl : k = ls.length := by omega
        have he : decide (ls = ms) = true := by
          rw [decide_eq_true_eq, ← List.take_length (l := ls), hk, HL.out, List.take_length]
        have HE := Lib.hid he
        clear he hk
        go_wp2
        go_ret
        exact ⟨ret_bool HE.out.symm, hkp⟩
  · have h1 : ((ls.length : Int) == ms.length) = false := by simp; omega
    have h2 : ((ls.length : Int) != ms.length) = true := by simp; omega
    have he : decide (ls = ms) = false := by
      simp only [decide_eq_false_iff_not]; intro e; exact hl (by rw [e])
    rw [he]
    clear hl he
    go_enter Try.func15, Try.ntmps15
    go_wp2
    go_ret
    exact ⟨rfl, Kp.refl _ _⟩
end Go.Proofs.Ytlabkldpcbmjbaa
