/- The document's frames (satchelref11): typed, within, says, Check, four, Lay, Put. -/
import Derived.Test.YtjjoancnkjlaeaaFrmP
import Derived.Test.YtjjoancnkjlaeaaGrdR
namespace Go.Proofs.Ytjjoancnkjlaeaa
open Go.RowKit
set_option linter.unusedVariables false
set_option linter.unusedSimpArgs false
theorem typed_any (t : Int) (w : World) : Calls Try.prog 31 #[.int .i64 t] w fun e w' => e = .returned (.bool (decide (typedP t))) ∧ w = w' := by
  by_cases h1 : 1 ≤ t
  · by_cases h2 : t ≤ 5
    · have hd : decide (typedP t) = true := by simp [typedP, h1, h2]
      rw [hd]
      go_enter Try.func31, Try.ntmps31
      go_wp2
      go_ret
      simp [go_sem]
    · have hd : decide (typedP t) = false := by simp [typedP, h2]
      rw [hd]
      go_enter Try.func31, Try.ntmps31
      go_wp2
      go_ret
      simp [go_sem]
  · have hd : decide (typedP t) = false := by simp [typedP, h1]
    rw [hd]
    go_enter Try.func31, Try.ntmps31
    go_wp2
    go_ret
    simp [go_sem]
def inR (n : Int) : Bool := decide (0 ≤ n ∧ n ≤ 2147483647)
theorem within_any (t : Int) (w : World) : Calls Try.prog 32 #[.int .i64 t] w fun e w' => e = .returned (.bool (inR t)) ∧ w = w' := by
  by_cases h1 : 0 ≤ t
  · by_cases h2 : t ≤ 2147483647
    · have hd : inR t = true := by simp [inR, h1, h2]
      rw [hd]
      go_enter Try.func32, Try.ntmps32
      go_wp2
      go_ret
      simp [go_sem]
    · have hd : inR t = false := by simp [inR, h2]
      rw [hd]
      go_enter Try.func32, Try.ntmps32
      go_wp2
      go_ret
      simp [go_sem]
  · have hd : inR t = false := by simp [inR, h1]
    rw [hd]
    go_enter Try.func32, Try.ntmps32
    go_wp2
    go_ret
    simp [go_sem]
set_option maxHeartbeats 4000000 in
theorem says_any (f : Fr) (a : Option Addr) (c : Nat) (w : World) (ht : typedP f.ty) (hr : rangeP f.se f.bo f.sq f.ac) (hl : f.bd.length ≤ 4611686018427387904) :
    Calls Try.prog 33 #[.agg (frA f a c)] w fun e w' => e = .returned (.bool (says f)) ∧ Kp (fun _ => False) w w' := by
  obtain ⟨ty, se, bo, sq, ac, bd⟩ := f
  unfold says
  dsimp only [frA] at *
  generalize bd.length = n at *
  have h5 : ty = 1 ∨ ty = 2 ∨ ty = 3 ∨ ty = 4 ∨ ty = 5 := by unfold typedP at ht; omega
  obtain ⟨⟨r1, r2⟩, ⟨r3, r4⟩, ⟨r5, r6⟩, r7, r8⟩ := hr
  clear ht
  rcases h5 with rfl | rfl | rfl | rfl | rfl
  all_goals
    go_enter Try.func33, Try.ntmps33
    go_wp2
    all_goals go_ret
    all_goals refine ⟨ret_bool ?_, (Kp.refl _ w).alloc _⟩
    all_goals first
      | exact dec_f (by unfold sayP; omega)
      | exact dec_t (by unfold sayP; omega)
      | (rw [Bool.eq_iff_iff]; simp [sayP]; done)
      | (rw [Bool.eq_iff_iff]; simp [sayP]; omega)
      | (rw [Bool.eq_iff_iff]; simp [sayP] at *; done)
      | (rw [Bool.eq_iff_iff]; simp [sayP] at *; omega)
theorem inR_false {n : Int} (h : inR n = false) : ¬ (0 ≤ n ∧ n ≤ 2147483647) := by simpa [inR] using h
theorem inR_true {n : Int} (h : inR n = true) : 0 ≤ n ∧ n ≤ 2147483647 := by simpa [inR] using h
set_option maxHeartbeats 4000000 in
theorem rcheckF_any (f : Fr) (a : Option Addr) (c : Nat) (w : World) (hl : f.bd.length ≤ 4611686018427387904) :
    Calls Try.prog 15 #[.agg (frA f a c)] w fun e w' => e = .returned (.int .i64 (errF f)) ∧ Kp (fun _ => False) w w' := by
  by_cases ht : typedP f.ty
  · have hsplit : inR f.se = false ∨ (inR f.se = true ∧ inR f.bo = false) ∨ (inR f.se = true ∧ inR f.bo = true ∧ inR f.sq = false) ∨ (inR f.se = true ∧ inR f.bo = true ∧ inR f.sq = true ∧ inR f.ac = false) ∨ (inR f.se = true ∧ inR f.bo = true ∧ inR f.sq = true ∧ inR f.ac = true) := by
      cases inR f.se <;> cases inR f.bo <;> cases inR f.sq <;> cases inR f.ac <;> simp
    have CT := Lib.hid (fun w => (typed_any f.ty w).mono (fun e w' (h : e = .returned (.bool (decide (typedP f.ty))) ∧ w = w') => (⟨h.1.trans (by rw [decide_eq_true ht]), h.2⟩ : e = .returned (.bool true) ∧ w = w')))
    have CS := Lib.hid (fun w hr => says_any f a c w ht hr hl)
    have HT := Lib.hid ht
    have he : ¬ rangeP f.se f.bo f.sq f.ac → errF f = 5 := fun h => by unfold errF; rw [if_neg (fun h => h ht), if_pos h]
    have he2 : rangeP f.se f.bo f.sq f.ac → errF f = if (1400 : Int) < f.bd.length then 3 else if says f = false then 2 else 0 := fun h => by unfold errF; rw [if_neg (fun h => h ht), if_neg (fun h' => h' h)]
    have HE := Lib.hid he
    have HE2 := Lib.hid he2
    clear ht he he2
    generalize errF f = er at *
    generalize says f = sy at *
    obtain ⟨ty, se, bo, sq, ac, bd⟩ := f
    dsimp only [frA] at *
    generalize bd.length = n at *
    rcases hsplit with h | ⟨h1, h⟩ | ⟨h1, h2, h⟩ | ⟨h1, h2, h3, h⟩ | ⟨h1, h2, h3, h4⟩
    case' inr.inr.inr.inr =>
      have hr : rangeP se bo sq ac := ⟨inR_true h1, inR_true h2, inR_true h3, inR_true h4⟩
      have e := Lib.hid (HE2.out hr)
      have CS' := Lib.hid (fun w => CS.out w hr)
      clear HE HE2 CS hr
      by_cases hn : 1400 < n
      case' pos =>
        have e' : Hid (er = 3) := by show _ = _; rw [e.out, if_pos (by omega)]
      case' neg =>
        have e0 : Hid (er = if sy = false then 2 else 0) := by show _ = _; rw [e.out, if_neg (by omega)]
        cases sy
        case' false => have e' : Hid (er = 2) := by show _ = _; rw [e0.out]; rfl
        case' true => have e' : Hid (er = 0) := by show _ = _; rw [e0.out]; rfl
        all_goals clear e0
      all_goals
        clear e
        go_enter Try.func15, Try.ntmps15
        go_wp2_with (first | (go_at_call 31; refine (CT.out _).mono ?_; rintro e w' ⟨rfl, rfl⟩) | (go_at_call 32; refine (within_any _ _).mono ?_; rintro e w' ⟨rfl, rfl⟩) | (go_at_call 33; refine (CS'.out _).mono ?_; rintro e w' ⟨rfl, hk⟩))
        go_ret
        first
        | exact ⟨ret_int e'.out.symm, (Kp.refl _ w).alloc _⟩
        | exact ⟨ret_int e'.out.symm, ((Kp.refl _ w).alloc _).trans hk⟩
    all_goals
      have e : Hid (er = 5) := HE.out (fun hr => by obtain ⟨q1, q2, q3, q4⟩ := hr; exact absurd ‹_› (inR_false h))
      clear HE HE2 CS
      go_enter Try.func15, Try.ntmps15
      go_wp2_with (first | (go_at_call 31; refine (CT.out _).mono ?_; rintro e w' ⟨rfl, rfl⟩) | (go_at_call 32; refine (within_any _ _).mono ?_; rintro e w' ⟨rfl, rfl⟩))
      go_ret
      exact ⟨ret_int e.out.symm, (Kp.refl _ w).alloc _⟩
  · have e : errF f = 213 := by unfold errF; rw [if_pos ht]
    have CT := Lib.hid (fun w => (typed_any f.ty w).mono (fun e w' (h : e = .returned (.bool (decide (typedP f.ty))) ∧ w = w') => (⟨h.1.trans (by rw [decide_eq_false ht]), h.2⟩ : e = .returned (.bool false) ∧ w = w')))
    rw [e]
    obtain ⟨ty, se, bo, sq, ac, bd⟩ := f
    dsimp only [frA] at *
    clear ht e
    go_enter Try.func15, Try.ntmps15
    go_wp2_with (go_at_call 31; refine (CT.out _).mono ?_; rintro e w' ⟨rfl, rfl⟩)
    go_ret
    exact ⟨rfl, (Kp.refl _ w).alloc _⟩
end Go.Proofs.Ytjjoancnkjlaeaa
