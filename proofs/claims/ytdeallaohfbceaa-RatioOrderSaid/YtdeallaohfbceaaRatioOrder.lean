/- The walk of RatioOrder: it returns true, whatever comes in. No condition. -/
import Derived.Test.YtdeallaohfbceaaRatA
import Derived.Test.YtdeallaohfbceaaOpen
namespace Go.Proofs.Ytdeallaohfbceaa
open Go.RowKit Flt
set_option linter.unusedVariables false
theorem bef_irrefl (a : Nat) : bef a a = false := by unfold bef; cases nanb a <;> simp
theorem bef_asym {a b : Nat} (h : bef a b = true) : bef b a = false := by
  unfold bef at *
  cases ha : nanb a <;> cases hb : nanb b <;> simp [ha, hb] at h ⊢ <;> omega
theorem bef_trans {a b c : Nat} (h : bef a b = true) (h2 : bef b c = true) : bef a c = true := by
  unfold bef at *
  cases ha : nanb a <;> cases hb : nanb b <;> cases hc : nanb c <;> simp [ha, hb, hc] at h h2 ⊢ <;> omega
theorem bef_beside {a b : Nat} (h : bef a b = false) (h2 : bef b a = false) : (FloatKind.f64.format.order a b == some .eq) = true ∨ ((FloatKind.f64.format.order a b == some .eq) = false ∧ nanb a = true ∧ nanb b = true) := by
  rw [ord_eq]
  unfold bef at *
  cases ha : nanb a <;> cases hb : nanb b <;> simp [ha, hb] at h h2 ⊢ <;> omega
theorem ratioOrder_walk (a b c : Nat) (w : World) (r0 : Rdg Try.prog w 22 (Value.float .f64 a).cells.toList) (r1 : Rdg Try.prog w 22 (Value.float .f64 b).cells.toList) (r2 : Rdg Try.prog w 22 (Value.float .f64 c).cells.toList) :
    Calls Try.prog 3 #[.float .f64 a, .float .f64 b, .float .f64 c] w fun e w' => e = .returned (.bool true) ∧ Below w.heap.size w w' := by
  clear r0 r1 r2
  have CA := Lib.hid (fun w' => awake_any w')
  have Caa := Lib.hid (fun w' => before_any a a w')
  have Cab := Lib.hid (fun w' => before_any a b w')
  have Cba := Lib.hid (fun w' => before_any b a w')
  have Cbc := Lib.hid (fun w' => before_any b c w')
  have Cac := Lib.hid (fun w' => before_any a c w')
  have Na := Lib.hid (fun w' => isnan_any a w')
  have Nb := Lib.hid (fun w' => isnan_any b w')
  rw [bef_irrefl a] at Caa
  cases hab : bef a b
  · rw [hab] at Cab
    cases hba : bef b a
    · rw [hba] at Cba
      rcases bef_beside hab hba with hE | ⟨hE, hna, hnb⟩
      · clear hab hba
        go_enter Try.func3, Try.ntmps3
        go_wp2_with (first | (go_at_call 10; refine (CA.out _).mono ?_; rintro e w1 ⟨rfl, k1⟩; have K1 := Lib.hid k1; clear k1) | (go_at_call 11; (first | (with_reducible refine (Caa.out _).mono ?_) | (with_reducible refine (Cab.out _).mono ?_) | (with_reducible refine (Cba.out _).mono ?_) | (with_reducible refine (Cbc.out _).mono ?_) | (with_reducible refine (Cac.out _).mono ?_)); rintro e w3 ⟨rfl, rfl⟩) | (go_at_call 12; (first | (with_reducible refine (Na.out _).mono ?_) | (with_reducible refine (Nb.out _).mono ?_)); rintro e w2 ⟨rfl, rfl⟩))
        go_ret
        exact ⟨rfl, K1.out.below (fun _ _ h => h)⟩
      · rw [hna] at Na
        rw [hnb] at Nb
        clear hab hba
        go_enter Try.func3, Try.ntmps3
        go_wp2_with (first | (go_at_call 10; refine (CA.out _).mono ?_; rintro e w1 ⟨rfl, k1⟩; have K1 := Lib.hid k1; clear k1) | (go_at_call 11; (first | (with_reducible refine (Caa.out _).mono ?_) | (with_reducible refine (Cab.out _).mono ?_) | (with_reducible refine (Cba.out _).mono ?_) | (with_reducible refine (Cbc.out _).mono ?_) | (with_reducible refine (Cac.out _).mono ?_)); rintro e w3 ⟨rfl, rfl⟩) | (go_at_call 12; (first | (with_reducible refine (Na.out _).mono ?_) | (with_reducible refine (Nb.out _).mono ?_)); rintro e w2 ⟨rfl, rfl⟩))
        go_ret
        exact ⟨rfl, K1.out.below (fun _ _ h => h)⟩
    · rw [hba] at Cba
      clear hab hba
      go_enter Try.func3, Try.ntmps3
      go_wp2_with (first | (go_at_call 10; refine (CA.out _).mono ?_; rintro e w1 ⟨rfl, k1⟩; have K1 := Lib.hid k1; clear k1) | (go_at_call 11; (first | (with_reducible refine (Caa.out _).mono ?_) | (with_reducible refine (Cab.out _).mono ?_) | (with_reducible refine (Cba.out _).mono ?_) | (with_reducible refine (Cbc.out _).mono ?_) | (with_reducible refine (Cac.out _).mono ?_)); rintro e w3 ⟨rfl, rfl⟩) | (go_at_call 12; (first | (with_reducible refine (Na.out _).mono ?_) | (with_reducible refine (Nb.out _).mono ?_)); rintro e w2 ⟨rfl, rfl⟩))
      go_ret
      exact ⟨rfl, K1.out.below (fun _ _ h => h)⟩
  · rw [hab] at Cab
    rw [bef_asym hab] at Cba
    cases hbc : bef b c
    · rw [hbc] at Cbc
      clear hab hbc
      go_enter Try.func3, Try.ntmps3
      go_wp2_with (first | (go_at_call 10; refine (CA.out _).mono ?_; rintro e w1 ⟨rfl, k1⟩; have K1 := Lib.hid k1; clear k1) | (go_at_call 11; (first | (with_reducible refine (Caa.out _).mono ?_) | (with_reducible refine (Cab.out _).mono ?_) | (with_reducible refine (Cba.out _).mono ?_) | (with_reducible refine (Cbc.out _).mono ?_) | (with_reducible refine (Cac.out _).mono ?_)); rintro e w3 ⟨rfl, rfl⟩) | (go_at_call 12; (first | (with_reducible refine (Na.out _).mono ?_) | (with_reducible refine (Nb.out _).mono ?_)); rintro e w2 ⟨rfl, rfl⟩))
      go_ret
      exact ⟨rfl, K1.out.below (fun _ _ h => h)⟩
    · rw [hbc] at Cbc
      rw [bef_trans hab hbc] at Cac
      clear hab hbc
      go_enter Try.func3, Try.ntmps3
      go_wp2_with (first | (go_at_call 10; refine (CA.out _).mono ?_; rintro e w1 ⟨rfl, k1⟩; have K1 := Lib.hid k1; clear k1) | (go_at_call 11; (first | (with_reducible refine (Caa.out _).mono ?_) | (with_reducible refine (Cab.out _).mono ?_) | (with_reducible refine (Cba.out _).mono ?_) | (with_reducible refine (Cbc.out _).mono ?_) | (with_reducible refine (Cac.out _).mono ?_)); rintro e w3 ⟨rfl, rfl⟩) | (go_at_call 12; (first | (with_reducible refine (Na.out _).mono ?_) | (with_reducible refine (Nb.out _).mono ?_)); rintro e w2 ⟨rfl, rfl⟩))
      go_ret
      exact ⟨rfl, K1.out.below (fun _ _ h => h)⟩
end Go.Proofs.Ytdeallaohfbceaa
