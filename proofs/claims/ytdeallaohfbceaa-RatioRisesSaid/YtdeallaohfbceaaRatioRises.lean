/- The walk of RatioRises: it returns true, whatever comes in. No condition. -/
import Derived.Test.YtdeallaohfbceaaRatR
import Derived.Test.YtdeallaohfbceaaOpen
namespace Go.Proofs.Ytdeallaohfbceaa
open Go.RowKit Flt
set_option linter.unusedVariables false
/-- what an operation gives where the language fixes it, and where it does not -/
def rr (op : BinOp) (x y : Nat) (w : World) : Nat := match floatBits op .f64 x y with
  | some q => q
  | none => (Question.nanBits .f64 x y).cut (w.tape w.drawn (.nanBits .f64 x y))
def kk (op : BinOp) (x y : Nat) : Nat := match floatBits op .f64 x y with
  | some _ => 0
  | none => 1
theorem nan_cut (x y t : Nat) : nanb ((Question.nanBits .f64 x y).cut t) = true := by
  show nanb ((t % 2) * 2 ^ 63 + 0x7ff0000000000000 + 1 + (t / 2) % (2 ^ 52 - 1)) = true
  unfold nanb rung
  have hr : t / 2 % (2 ^ 52 - 1) < 2 ^ 52 - 1 := Nat.mod_lt _ (by decide)
  generalize t / 2 % (2 ^ 52 - 1) = r at *
  simp only [decide_eq_true_eq, SW, II]
  rcases Nat.mod_two_eq_zero_or_one t with h | h <;> rw [h] <;> omega
theorem run_rr (op : BinOp) (t : TypeId) (x y : Nat) (w : World) (h : op = .add ∨ op = .sub ∨ op = .mul ∨ op = .quo) : (binOp op t (.float .f64 x) (.float .f64 y)).run Try.prog w = .ok (.float .f64 (rr op x y w)) (w.drewN (kk op x y)) := by
  cases hb : floatBits op .f64 x y with
  | some q =>
    have := run_float_arith (P := Try.prog) w op t .f64 x y q hb
    simp only [rr, kk, hb]
    exact this
  | none =>
    simp only [rr, kk, hb]
    rcases h with rfl | rfl | rfl | rfl <;> (simp only [floatBits] at hb; simp [binOp, Op.floatArith, hb, go_sem]; rfl)
theorem rr_none {op : BinOp} {x y : Nat} (h : floatBits op .f64 x y = none) (w : World) : nanb (rr op x y w) = true := by
  unfold rr; rw [h]; exact nan_cut _ _ _
theorem rr_some {op : BinOp} {x y q : Nat} (h : floatBits op .f64 x y = some q) : (∀ w, rr op x y w = q) ∧ kk op x y = 0 := by
  constructor
  · intro w; unfold rr; rw [h]
  · unfold kk; rw [h]
theorem add_nan_rr {x y : Nat} (h : nanb y = true) (w : World) : nanb (rr .add x y w) = true := rr_none (show floatBits .add .f64 x y = none from add_nan (.inr h)) w
theorem rises_none (m s o : Nat) (ho : o < 18446744073709551616) (w : World) (hx : waitX m s = none) (h60 : waitF m s = 60) :
    Calls Try.prog 5 #[.float .f64 m, .float .f64 s, .float .f64 o] w fun e w' => e = .returned (.bool true) ∧ Below w.heap.size w w' := by
  have CA := Lib.hid (fun w' => awake_any w')
  have CW := Lib.hid (fun w' => wait_any m s w')
  have CWa := CW
  have CWb := CW
  rw [h60] at CW
  have CO := Lib.hid (fun w' => abs_any o w' ho)
  have CN := Lib.hid (fun x w' => isnan_any x w')
  have hadd := fun x y w' => run_rr .add 22 x y w' (by simp)
  have hmul := fun x y w' => run_rr .mul 22 x y w' (by simp)
  have hN : ∀ w1 w2, nanb (rr .add m (rr .mul 4616189618054758400 s w1) w2) = true := by
    intro w1 w2
    unfold waitX at hx
    cases hm : floatBits .mul .f64 f4 s with
    | none => exact add_nan_rr (rr_none hm w1) w2
    | some p =>
      have hm' : Ieee.double.mul f4 s = some p := hm
      rw [hm'] at hx
      rw [show (4616189618054758400 : Nat) = f4 from rfl, (rr_some hm).1 w1]
      exact rr_none (show floatBits .add .f64 m p = none from hx) w2
  clear hx h60
  go_enter Try.func5, Try.ntmps5
  go_wp2_with (first | (go_at_call 10; refine (CA.out _).mono ?_; rintro e w1 ⟨rfl, k1⟩; have K1 := Lib.hid k1; clear k1) | (go_at_call 14; (first | (with_reducible refine (CW.out _).mono ?_) | (with_reducible refine (CWa.out _).mono ?_) | (with_reducible refine (CWb.out _).mono ?_)); rintro e w2 ⟨rfl, k2, rfl⟩) | (go_at_call 15; refine (CO.out _).mono ?_; rintro e w3 ⟨rfl, rfl⟩) | (go_at_call 12; refine (CN.out _ _).mono ?_; rintro e w4 ⟨rfl, rfl⟩))
  go_ret
  exact ⟨rfl, (((K1.out.drewN _)).below (fun _ _ h => h))⟩
/-- where what is waited for is a number: what the walk may take of it -/
theorem some_facts {m s x : Nat} (hx : waitX m s = some x) : ∃ p, Ieee.double.mul f4 s = some p ∧ Ieee.double.add m p = some x ∧ (∀ w1, rr .mul 4616189618054758400 s w1 = p) ∧ kk .mul 4616189618054758400 s = 0 ∧ (∀ w1, rr .add m p w1 = x) ∧ kk .add m p = 0 ∧ nanb x = false ∧ nanb m = false ∧ nanb s = false := by
  rcases wait_cases m s with ⟨h, _⟩ | ⟨p, y, g1, g2, g3⟩
  · rw [h] at hx; cases hx
  · rw [g3] at hx; cases hx
    have a1 := rr_some (show floatBits .mul .f64 f4 s = some p from g1)
    have a2 := rr_some (show floatBits .add .f64 m p = some x from g2)
    refine ⟨p, g1, g2, a1.1, a1.2, a2.1, a2.2, add_some g2, (nan_of_add g2).1, ?_⟩
    cases h : nanb s
    · rfl
    · rw [mul_nan (.inr h)] at g1; cases g1
theorem nan_ge {x y : Nat} (h : nanb x = true) : (FloatKind.f64.format.order x y == some .gt) = false ∧ (FloatKind.f64.format.order x y == some .eq) = false := by
  rw [ord_gt, ord_eq, h]; simp
theorem num_ge {x y : Nat} (hx : nanb x = false) (hy : nanb y = false) (h : key y ≤ key x) : ((FloatKind.f64.format.order x y == some .gt) = true ∧ (FloatKind.f64.format.order x y == some .eq) = false) ∨ ((FloatKind.f64.format.order x y == some .gt) = false ∧ (FloatKind.f64.format.order x y == some .eq) = true) := by
  rw [ord_gt, ord_eq, hx, hy]; simp; omega
theorem num_lt {x y : Nat} (h : nanb x = true ∨ nanb y = true ∨ key x < key y) : (FloatKind.f64.format.order x y == some .gt) = false ∧ (FloatKind.f64.format.order x y == some .eq) = false := by
  rw [ord_gt, ord_eq]
  rcases h with h | h | h
  · rw [h]; simp
  · rw [h]; simp
  · cases nanb x <;> cases nanb y <;> simp <;> omega
theorem rises_a (m s o x : Nat) (ho : o < 18446744073709551616) (w : World) (hx : waitX m s = some x) (ha : Ieee.double.add m (rung o) = none) :
    Calls Try.prog 5 #[.float .f64 m, .float .f64 s, .float .f64 o] w fun e w' => e = .returned (.bool true) ∧ Below w.heap.size w w' := by
  have CA := Lib.hid (fun w' => awake_any w')
  have CW := Lib.hid (fun w' => wait_any m s w')
  have CWa := CW
  have CWb := CW
  have CO := Lib.hid (fun w' => abs_any o w' ho)
  have CN := Lib.hid (fun x w' => isnan_any x w')
  have hadd := fun x y w' => run_rr .add 22 x y w' (by simp)
  have hmul := fun x y w' => run_rr .mul 22 x y w' (by simp)
  obtain ⟨v1, v2⟩ := wait_range m s
  obtain ⟨p, _, _, b1, b2, b3, b4, b5, b6, b7⟩ := some_facts hx
  have hA : ∀ w1, nanb (rr .add m (rung o) w1) = true := rr_none ha
  have q1 := fun w1 => (nan_ge (y := m) (hA w1)).1
  have q2 := fun w1 => (nan_ge (y := m) (hA w1)).2
  generalize waitF m s = wf at *
  clear hx ha hA
  generalize rung o = r at *
  go_enter Try.func5, Try.ntmps5
  go_wp2_with (first | (go_at_call 10; refine (CA.out _).mono ?_; rintro e w1 ⟨rfl, k1⟩; have K1 := Lib.hid k1; clear k1) | (go_at_call 14; (first | (with_reducible refine (CW.out _).mono ?_) | (with_reducible refine (CWa.out _).mono ?_) | (with_reducible refine (CWb.out _).mono ?_)); rintro e w2 ⟨rfl, k2, rfl⟩) | (go_at_call 15; refine (CO.out _).mono ?_; rintro e w3 ⟨rfl, rfl⟩) | (go_at_call 12; refine (CN.out _ _).mono ?_; rintro e w4 ⟨rfl, rfl⟩))
  go_ret
  exact ⟨rfl, (((K1.out.drewN _)).below (fun _ _ h => h))⟩
theorem rises_b (m s o x a : Nat) (ho : o < 18446744073709551616) (w : World) (hx : waitX m s = some x) (ha : Ieee.double.add m (rung o) = some a) (hb : Ieee.double.add s (rung o) = none) :
    Calls Try.prog 5 #[.float .f64 m, .float .f64 s, .float .f64 o] w fun e w' => e = .returned (.bool true) ∧ Below w.heap.size w w' := by
  have CA := Lib.hid (fun w' => awake_any w')
  have CW := Lib.hid (fun w' => wait_any m s w')
  have CWa := CW
  have CWb := CW
  have CO := Lib.hid (fun w' => abs_any o w' ho)
  have CN := Lib.hid (fun x w' => isnan_any x w')
  have hadd := fun x y w' => run_rr .add 22 x y w' (by simp)
  have hmul := fun x y w' => run_rr .mul 22 x y w' (by simp)
  obtain ⟨v1, v2⟩ := wait_range m s
  obtain ⟨p, _, _, b1, b2, b3, b4, b5, b6, b7⟩ := some_facts hx
  obtain ⟨c1, c2⟩ := rr_some (show floatBits .add .f64 m (rung o) = some a from ha)
  have hB : ∀ w1, nanb (rr .add s (rung o) w1) = true := rr_none hb
  have q1 := fun w1 => (nan_ge (y := s) (hB w1)).1
  have q2 := fun w1 => (nan_ge (y := s) (hB w1)).2
  have hga := num_ge (add_some ha) b6 (add_ge ha (by rw [key_rung]; omega))
  generalize waitF m s = wf at *
  clear hx ha hb hB
  generalize rung o = r at *
  rcases hga with ⟨g1, g2⟩ | ⟨g1, g2⟩
  all_goals
    go_enter Try.func5, Try.ntmps5
    go_wp2_with (first | (go_at_call 10; refine (CA.out _).mono ?_; rintro e w1 ⟨rfl, k1⟩; have K1 := Lib.hid k1; clear k1) | (go_at_call 14; (first | (with_reducible refine (CW.out _).mono ?_) | (with_reducible refine (CWa.out _).mono ?_) | (with_reducible refine (CWb.out _).mono ?_)); rintro e w2 ⟨rfl, k2, rfl⟩) | (go_at_call 15; refine (CO.out _).mono ?_; rintro e w3 ⟨rfl, rfl⟩) | (go_at_call 12; refine (CN.out _ _).mono ?_; rintro e w4 ⟨rfl, rfl⟩))
    go_ret
    exact ⟨rfl, (((K1.out.drewN _)).below (fun _ _ h => h))⟩
set_option maxHeartbeats 2000000 in
theorem rises_c (m s o x a b : Nat) (ho : o < 18446744073709551616) (w : World) (hx : waitX m s = some x) (ha : Ieee.double.add m (rung o) = some a) (hb : Ieee.double.add s (rung o) = some b) :
    Calls Try.prog 5 #[.float .f64 m, .float .f64 s, .float .f64 o] w fun e w' => e = .returned (.bool true) ∧ Below w.heap.size w w' := by
  have CA := Lib.hid (fun w' => awake_any w')
  have CW := Lib.hid (fun w' => wait_any m s w')
  have CWa := CW
  have CWb := CW
  have CO := Lib.hid (fun w' => abs_any o w' ho)
  have CN := Lib.hid (fun x w' => isnan_any x w')
  have hadd := fun x y w' => run_rr .add 22 x y w' (by simp)
  have hmul := fun x y w' => run_rr .mul 22 x y w' (by simp)
  obtain ⟨v1, v2⟩ := wait_range m s
  have hka := add_ge ha (by rw [key_rung]; omega : 0 ≤ key (rung o))
  have hkb := add_ge hb (by rw [key_rung]; omega : 0 ≤ key (rung o))
  have hwa := wait_left hx hka
  have hwb := wait_right hx hkb
  have hwl := wait_least hx
  clear CWa CWb
  have CWa := Lib.hid (fun w' => wait_any a s w')
  have CWb := Lib.hid (fun w' => wait_any m b w')
  obtain ⟨p, _, _, b1, b2, b3, b4, b5, b6, b7⟩ := some_facts hx
  obtain ⟨c1, c2⟩ := rr_some (show floatBits .add .f64 m (rung o) = some a from ha)
  obtain ⟨d1, d2⟩ := rr_some (show floatBits .add .f64 s (rung o) = some b from hb)
  have hga := num_ge (add_some ha) b6 hka
  have hgb := num_ge (add_some hb) b7 hkb
  have hlast : ((FloatKind.f64.format.order (floatOfInt .f64 (waitF m s)) m == some .gt) = true ∧ (FloatKind.f64.format.order (floatOfInt .f64 (waitF m s)) m == some .eq) = false) ∨ ((FloatKind.f64.format.order (floatOfInt .f64 (waitF m s)) m == some .gt) = false ∧ (FloatKind.f64.format.order (floatOfInt .f64 (waitF m s)) m == some .eq) = true) ∨
      ((FloatKind.f64.format.order (floatOfInt .f64 (waitF m s)) m == some .gt) = false ∧ (FloatKind.f64.format.order (floatOfInt .f64 (waitF m s)) m == some .eq) = false ∧ waitF m s = 60) ∨
      ((FloatKind.f64.format.order (floatOfInt .f64 (waitF m s)) m == some .gt) = false ∧ (FloatKind.f64.format.order (floatOfInt .f64 (waitF m s)) m == some .eq) = false ∧ waitF m s ≠ 60 ∧ (FloatKind.f64.format.order s 0 == some .lt) = true) := by
    have n0 : nanb 0 = false := by decide +kernel
    have hnf : nanb (floatOfInt .f64 (waitF m s)) = false := (nearest_z _ _ _).1
    rw [ord_gt, ord_eq, ord_lt, b6, b7, n0, key_zero, hnf]
    simp; omega
  generalize hfw : floatOfInt .f64 (waitF m s) = fw at *
  generalize waitF m s = wf at *
  generalize waitF a s = wa at *
  generalize waitF m b = wb at *
  clear hx ha hb hwl hka hkb
  generalize rung o = r at *
  rcases hga with ⟨g1, g2⟩ | ⟨g1, g2⟩ <;> rcases hgb with ⟨g3, g4⟩ | ⟨g3, g4⟩
  all_goals
    rcases hlast with ⟨l1, l2⟩ | ⟨l1, l2⟩ | ⟨l1, l2, rfl⟩ | ⟨l1, l2, l3, l4⟩
    all_goals
      go_enter Try.func5, Try.ntmps5
      go_wp2_with (first | (go_at_call 10; refine (CA.out _).mono ?_; rintro e w1 ⟨rfl, k1⟩; have K1 := Lib.hid k1; clear k1) | (go_at_call 14; (first | (with_reducible refine (CW.out _).mono ?_) | (with_reducible refine (CWa.out _).mono ?_) | (with_reducible refine (CWb.out _).mono ?_)); rintro e w2 ⟨rfl, k2, rfl⟩) | (go_at_call 15; refine (CO.out _).mono ?_; rintro e w3 ⟨rfl, rfl⟩) | (go_at_call 12; refine (CN.out _ _).mono ?_; rintro e w4 ⟨rfl, rfl⟩))
      go_ret
      exact ⟨rfl, (((K1.out.drewN _)).below (fun _ _ h => h))⟩
theorem ratioRises_walk (m s o : Nat) (w : World) (r0 : Rdg Try.prog w 22 (Value.float .f64 m).cells.toList) (r1 : Rdg Try.prog w 22 (Value.float .f64 s).cells.toList) (r2 : Rdg Try.prog w 22 (Value.float .f64 o).cells.toList) :
    Calls Try.prog 5 #[.float .f64 m, .float .f64 s, .float .f64 o] w fun e w' => e = .returned (.bool true) ∧ Below w.heap.size w w' := by
  obtain ⟨o', e0, h0⟩ := Rdg.float Try.underlying22 r2
  have e1 : o = o' := by have : [Value.float .f64 o] = [.float .f64 o'] := e0; simpa using this
  subst e1
  have ho : o < 18446744073709551616 := by simpa [Lit.wf] using h0
  clear r0 r1 r2 e0 h0
  cases hx : waitX m s with
  | none => exact rises_none m s o ho w hx (by unfold waitF; rw [hx])
  | some x =>
    cases ha : Ieee.double.add m (rung o) with
    | none => exact rises_a m s o x ho w hx ha
    | some a =>
      cases hb : Ieee.double.add s (rung o) with
      | none => exact rises_b m s o x a ho w hx ha hb
      | some b => exact rises_c m s o x a b ho w hx ha hb
end Go.Proofs.Ytdeallaohfbceaa
