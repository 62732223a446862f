/- Package ratio: Wait. -/
import Derived.Test.YtnapokdipelmiaaRtB
import Derived.Test.YtnapokdipelmiaaFltC
import Derived.Laws.Externs
namespace Go.Proofs.Ytnapokdipelmiaa
open Go.RowKit Flt
set_option linter.unusedVariables false
def ceilT (d : Ieee.Datum) (x : Nat) : Sem Value := match d with
  | .nan s t =>
    if FloatKind.f64.format.quiet t = t then pure (.float .f64 x) else do
    let kept ← choose (.extern "math.Floor,Ceil,Trunc,RoundToEven.signallingNaN kept" 2)
    pure (.float .f64 (if kept == 1 then x else FloatKind.f64.encode (.nan s (FloatKind.f64.format.quiet t))))
  | d => pure (.float .f64 (FloatKind.f64.encode (d.integral .up)))
theorem run_ceil (x : Nat) (w : World) (h : nanb x = false) : (callFunc 34 #[.float .f64 x]).run Try.prog w = .ok (.value (.float .f64 (Ieee.double.write ((Ieee.double.read x).integral .up)))) w := by
  rw [run_callFunc_extern Try.func34 (by kernel_rfl) (by kernel_rfl) (by kernel_rfl) (e := Extern.MathFloor.toIntegral "math.archCeil" .up) (by kernel_rfl)]
  rcases cases3 x with g | g | g
  · rw [h] at g; cases g
  · have e := read_inf g
    rw [show Extern.MathFloor.toIntegral "math.archCeil" .up #[.float .f64 x] = ceilT (Ieee.double.read x) x from rfl, e]
    rfl
  · obtain ⟨m, p, e, _⟩ := read_fin g
    rw [show Extern.MathFloor.toIntegral "math.archCeil" .up #[.float .f64 x] = ceilT (Ieee.double.read x) x from rfl, e]
    rfl
theorem ceil_any (x : Nat) (w : World) (h : nanb x = false) : Calls Try.prog 33 #[.float .f64 x] w fun e w' => e = .returned (.float .f64 (Ieee.double.write ((Ieee.double.read x).integral .up))) ∧ w = w' := by
  have hc := run_ceil x w h
  go_enter Try.func33, Try.ntmps33
  go_wp2
  go_ret
  exact ⟨rfl, rfl⟩
theorem wait_any (m s : Nat) (w : World) : Calls Try.prog 32 #[.float .f64 m, .float .f64 s] w fun e w' => e = .returned (.int .i64 (waitF m s)) ∧ ∃ k, w' = w.drewN k := by
  obtain ⟨p, k1, h1, p1, p2⟩ := bits_arith .mul 49 4616189618054758400 s w (by simp)
  obtain ⟨x, k2, h2, x1, x2⟩ := bits_arith .add 49 m p (w.drewN k1) (by simp)
  have hx : waitX m s = some x ∨ (waitX m s = none ∧ nanb x = true) := by
    unfold waitX
    show (floatBits .mul .f64 4616189618054758400 s).bind _ = _ ∨ _
    cases hm : floatBits .mul .f64 4616189618054758400 s with
    | none =>
      right
      have hm' : Ieee.double.mul f4 s = none := hm
      refine ⟨by rw [hm']; rfl, x2 ?_⟩
      exact add_nan (.inr (p2 hm))
    | some q =>
      obtain ⟨rfl, _⟩ := p1 q hm
      have hm' : Ieee.double.mul f4 s = some p := hm
      rw [hm']
      cases ha : floatBits .add .f64 m p with
      | none => exact .inr ⟨ha, x2 ha⟩
      | some y => obtain ⟨rfl, _⟩ := x1 y ha; exact .inl ha
  have g1 := ord_nan x
  have g2 := ord_gt x 4633641066610819072
  have g3 := ord_lt x 4611686018427387904
  rw [show nanb 4633641066610819072 = false by decide +kernel] at g2
  rw [show nanb 4611686018427387904 = false by decide +kernel] at g3
  cases hn : nanb x
  · rw [hn] at g1 g2 g3
    rcases hx with hx | ⟨_, h⟩
    rotate_left
    · rw [hn] at h; cases h
    simp only [Bool.not_false, Bool.true_and] at g2 g3
    by_cases c1 : key f60 < key x
    · rw [decide_eq_true (show key 4633641066610819072 < key x from c1)] at g2
      have e : waitF m s = 60 := by unfold waitF; rw [hx]; simp [hn, c1]
      rw [e]
      clear e hx p1 p2 x1 x2
      go_enter Try.func32, Try.ntmps32
      go_wp2
      go_ret
      exact ⟨rfl, _, rfl⟩
    · rw [decide_eq_false (show ¬ key 4633641066610819072 < key x from c1)] at g2
      by_cases c2 : key x < key f2
      · rw [decide_eq_true (show key x < key 4611686018427387904 from c2)] at g3
        have e : waitF m s = 2 := by unfold waitF; rw [hx]; simp [hn, c1, c2]
        rw [e]
        clear e hx p1 p2 x1 x2
        go_enter Try.func32, Try.ntmps32
        go_wp2
        go_ret
        exact ⟨rfl, _, rfl⟩
      · rw [decide_eq_false (show ¬ key x < key 4611686018427387904 from c2)] at g3
        obtain ⟨c, b1, b2, b3, b4, _⟩ := between x hn (by omega) (by omega)
        have e : waitF m s = c := by unfold waitF; rw [hx]; simp [hn, c1, c2, b4]
        have hcv : floatToIntVal .f64 (Ieee.double.write ((Ieee.double.read x).integral .up)) .i64 = some (c : Int) := by
          unfold floatToIntVal
          rw [show (FloatKind.f64.decode (Ieee.double.write ((Ieee.double.read x).integral .up))) = Ieee.double.read (Ieee.double.write ((Ieee.double.read x).integral .up)) from rfl, b3]
          simp only [IntKind.min, IntKind.max, IntKind.signed, IntKind.bits]
          rw [if_pos (by simp; omega)]
        have CC := Lib.hid (fun w' => ceil_any x w' hn)
        generalize Ieee.double.write ((Ieee.double.read x).integral .up) = y at *
        have hc := fun w' => run_convert_float_int (P := Try.prog) (w := w') 49 3 .f64 .i64 y c (by kernel_rfl) Try.underlying3 hcv
        rw [e]
        clear e hx p1 p2 x1 x2 b3 b4 hcv
        go_enter Try.func32, Try.ntmps32
        go_wp2_with (go_at_call 33; refine (CC.out _).mono ?_; rintro e w1 ⟨rfl, rfl⟩)
        go_ret
        exact ⟨rfl, _, rfl⟩
  · rw [hn] at g1
    have e : waitF m s = 60 := by
      unfold waitF
      rcases hx with hx | ⟨hx, _⟩
      · rw [hx]; simp [hn]
      · rw [hx]
    rw [e]
    clear e hx p1 p2 x1 x2
    go_enter Try.func32, Try.ntmps32
    go_wp2
    go_ret
    exact ⟨rfl, _, rfl⟩
end Go.Proofs.Ytnapokdipelmiaa
