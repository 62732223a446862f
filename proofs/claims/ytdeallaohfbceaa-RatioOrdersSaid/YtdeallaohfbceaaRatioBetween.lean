/- The walk of RatioBetween: it returns true, whatever comes in. No condition. -/
import Derived.Test.YtdeallaohfbceaaFltB
import Derived.Test.YtdeallaohfbceaaRatR
import Derived.Test.YtdeallaohfbceaaOpen
namespace Go.Proofs.Ytdeallaohfbceaa
open Go.RowKit Flt
set_option linter.unusedVariables false
def dimR (neg : Bool) (win : Ordering) (x y : Nat) : Nat :=
  if Ieee.double.read x == .infinity neg || Ieee.double.read y == .infinity neg then Ieee.double.write (.infinity neg)
  else if (Ieee.double.read x).isNaN || (Ieee.double.read y).isNaN then 0x7FF8000000000001
  else if (Ieee.double.read x).isZero && (Ieee.double.read y).isZero then (if (Ieee.double.read x).neg == neg then x else y)
  else if (Ieee.double.read x).order (Ieee.double.read y) == some win then x else y
theorem zero_key {x : Nat} (hx : fin x) (h : (Ieee.double.read x).isZero = true) : key x = 0 := by
  obtain ⟨m, p, e, _, hm⟩ := read_fin hx
  rw [e] at h
  have h0 : m = 0 := by
    rcases Nat.eq_zero_or_pos m with g | g
    · exact g
    · obtain ⟨k, rfl⟩ : ∃ k, m = k + 1 := ⟨m - 1, by omega⟩
      cases h
  rw [h0, Nat.zero_mul] at hm
  have : rung x = 0 := by
    rcases Nat.eq_zero_or_pos (rung x) with g | g
    · exact g
    · have := mg_lt g; rw [mg_zero] at this; omega
  unfold key; rw [this]; cases sgn x <;> rfl
theorem dim_head {x y : Nat} (hx : fin x) (hy : fin y) (neg : Bool) (win : Ordering) : dimR neg win x y = (if (Ieee.double.read x).isZero && (Ieee.double.read y).isZero then (if (Ieee.double.read x).neg == neg then x else y) else if Ieee.double.order x y == some win then x else y) := by
  obtain ⟨m, p, e, _⟩ := read_fin hx
  obtain ⟨n, q, e', _⟩ := read_fin hy
  unfold dimR
  rw [if_neg (by rw [e, e']; simp), if_neg (by rw [e, e']; simp [Ieee.Datum.isNaN])]
  rfl
theorem dim_min {x y : Nat} (hx : fin x) (hy : fin y) : (dimR true .lt x y = x ∨ dimR true .lt x y = y) ∧ key (dimR true .lt x y) = min (key x) (key y) := by
  rw [dim_head hx hy]
  have ho := ord_lt x y
  rw [show FloatKind.f64.format.order x y = Ieee.double.order x y from rfl, hx.not_nan, hy.not_nan] at ho
  by_cases hz : ((Ieee.double.read x).isZero && (Ieee.double.read y).isZero) = true
  · rw [if_pos hz]
    obtain ⟨z1, z2⟩ := (Bool.and_eq_true _ _).mp hz
    have k1 := zero_key hx z1
    have k2 := zero_key hy z2
    split
    · exact ⟨.inl rfl, by omega⟩
    · exact ⟨.inr rfl, by omega⟩
  · rw [if_neg hz, ho]
    by_cases h : key x < key y
    · rw [if_pos (by simpa using h)]; exact ⟨.inl rfl, by omega⟩
    · rw [if_neg (by simpa using h)]; exact ⟨.inr rfl, by omega⟩
theorem dim_max {x y : Nat} (hx : fin x) (hy : fin y) : (dimR false .gt x y = x ∨ dimR false .gt x y = y) ∧ key (dimR false .gt x y) = max (key x) (key y) := by
  rw [dim_head hx hy]
  have ho := ord_gt x y
  rw [show FloatKind.f64.format.order x y = Ieee.double.order x y from rfl, hx.not_nan, hy.not_nan] at ho
  by_cases hz : ((Ieee.double.read x).isZero && (Ieee.double.read y).isZero) = true
  · rw [if_pos hz]
    obtain ⟨z1, z2⟩ := (Bool.and_eq_true _ _).mp hz
    have k1 := zero_key hx z1
    have k2 := zero_key hy z2
    split
    · exact ⟨.inl rfl, by omega⟩
    · exact ⟨.inr rfl, by omega⟩
  · rw [if_neg hz, ho]
    by_cases h : key y < key x
    · rw [if_pos (by simpa using h)]; exact ⟨.inl rfl, by omega⟩
    · rw [if_neg (by simpa using h)]; exact ⟨.inr rfl, by omega⟩
theorem run_min (x y : Nat) (w : World) : (callFunc 33 #[.float .f64 x, .float .f64 y]).run Try.prog w = .ok (.value (.float .f64 (dimR true .lt x y))) w := by
  rw [run_callFunc_extern Try.func33 (by kernel_rfl) (by kernel_rfl) (by kernel_rfl) (e := Extern.MathDim.pick "math.archMin" true .lt) (by kernel_rfl)]
  rfl
theorem run_max (x y : Nat) (w : World) : (callFunc 35 #[.float .f64 x, .float .f64 y]).run Try.prog w = .ok (.value (.float .f64 (dimR false .gt x y))) w := by
  rw [run_callFunc_extern Try.func35 (by kernel_rfl) (by kernel_rfl) (by kernel_rfl) (e := Extern.MathDim.pick "math.archMax" false .gt) (by kernel_rfl)]
  rfl
theorem min_any (x y : Nat) (w : World) : Calls Try.prog 18 #[.float .f64 x, .float .f64 y] w fun e w' => e = .returned (.float .f64 (dimR true .lt x y)) ∧ w = w' := by
  have hc := run_min x y w
  generalize dimR true .lt x y = r at *
  go_enter Try.func18, Try.ntmps18
  go_wp2
  go_ret
  exact ⟨rfl, rfl⟩
theorem max_any (x y : Nat) (w : World) : Calls Try.prog 19 #[.float .f64 x, .float .f64 y] w fun e w' => e = .returned (.float .f64 (dimR false .gt x y)) ∧ w = w' := by
  have hc := run_max x y w
  generalize dimR false .gt x y = r at *
  go_enter Try.func19, Try.ntmps19
  go_wp2
  go_ret
  exact ⟨rfl, rfl⟩
theorem inv_some {x : Nat} (h : nanb x = false) : ∃ q, floatBits .quo .f64 4607182418800017408 x = some q ∧ nanb q = false := by
  have f1 : fin 4607182418800017408 := by unfold fin; decide +kernel
  rcases cases3 x with hx | hx | hx
  · rw [h] at hx; cases hx
  · obtain ⟨m, p, e, _⟩ := read_fin f1
    refine ⟨Ieee.double.write (.number (sgn 4607182418800017408 ^^ sgn x) 0 0), ?_, ?_⟩
    · show Ieee.double.div 4607182418800017408 x = some (Ieee.double.write (.number (sgn 4607182418800017408 ^^ sgn x) 0 0))
      unfold Ieee.Format.div
      rw [read_inf hx, e]; rfl
    · exact (nearest_z _ _ _).1
  · rcases Nat.eq_zero_or_pos (rung x) with h0 | h0
    · obtain ⟨n, q, e', _, hn⟩ := read_fin hx
      have hn0 : n = 0 := by
        rw [h0, mg_zero] at hn
        rcases Nat.mul_eq_zero.1 hn with g | g
        · exact g
        · have := Nat.two_pow_pos (q + 1074).toNat; omega
      refine ⟨Ieee.double.write (.infinity (sgn 4607182418800017408 ^^ sgn x)), ?_, ?_⟩
      · show Ieee.double.div 4607182418800017408 x = _
        unfold Ieee.Format.div
        rw [e', hn0, show Ieee.double.read 4607182418800017408 = .number (sgn 4607182418800017408) 4503599627370496 (-52) by kernel_rfl]
        rfl
      · rw [write_inf]; exact (word_inf _).1
    · obtain ⟨r, e, nr, _⟩ := div_fin f1 hx h0
      exact ⟨r, e, nr⟩
theorem samefloat_same (x : Nat) (w : World) : Calls Try.prog 17 #[.float .f64 x, .float .f64 x] w fun e w' => e = .returned (.bool true) ∧ w = w' := by
  have g0 := ord_nan x
  cases h : nanb x
  · rw [h] at g0
    obtain ⟨q, hq, nq⟩ := inv_some h
    have g1 := ord_eq x x
    have g2 := ord_eq q q
    rw [h] at g1
    rw [nq] at g2
    simp only [Bool.not_false, Bool.true_and, decide_true] at g1 g2
    have hr := fun w' => run_float_arith (P := Try.prog) w' .quo 22 .f64 4607182418800017408 x q hq
    clear hq nq
    go_enter Try.func17, Try.ntmps17
    go_wp2
    go_ret
    exact ⟨rfl, rfl⟩
  · rw [h] at g0
    go_enter Try.func17, Try.ntmps17
    go_wp2
    go_ret
    exact ⟨rfl, rfl⟩
theorem num_ge {x y : Nat} (hx : nanb x = false) (hy : nanb y = false) (h : key y ≤ key x) : ((FloatKind.f64.format.order x y == some .gt) = true ∧ (FloatKind.f64.format.order x y == some .eq) = false) ∨ ((FloatKind.f64.format.order x y == some .gt) = false ∧ (FloatKind.f64.format.order x y == some .eq) = true) := by
  rw [ord_gt, ord_eq, hx, hy]; simp; omega
theorem mean_nan {o n p : Nat} (h : nanb (meanF o n p) = true) : nanb o = true ∧ nanb n = true := by
  unfold meanF at h
  cases ho : nanb o
  · rw [ho] at h
    simp only [Bool.false_eq_true, if_false] at h
    cases hx : meanX o n p with
    | none =>
      rw [hx] at h
      cases hn : nanb n
      · rw [hn] at h; simp [hn] at h
      · rw [hn] at h; simp [ho] at h
    | some x =>
      rw [hx] at h
      exfalso
      unfold meanX at hx
      cases h1 : Ieee.double.sub n o with
      | none => rw [h1] at hx; cases hx
      | some g =>
        rw [h1] at hx
        change (Ieee.double.mul p g).bind _ = _ at hx
        cases h2 : Ieee.double.mul p g with
        | none => rw [h2] at hx; cases hx
        | some q =>
          rw [h2] at hx
          change Ieee.double.add o q = _ at hx
          have := add_some hx
          rw [this] at h; cases h
  · rw [ho] at h
    exact ⟨rfl, by simpa using h⟩
theorem between_nan (o n p : Nat) (w : World) (h : nanb (meanF o n p) = true) :
    Calls Try.prog 6 #[.float .f64 o, .float .f64 n, .float .f64 p] w fun e w' => e = .returned (.bool true) ∧ Below w.heap.size w w' := by
  have CA := Lib.hid (fun w' => awake_any w')
  have CM := Lib.hid (fun w' => mean_any o n p w')
  have CN := Lib.hid (fun x w' => isnan_any x w')
  obtain ⟨h1, h2⟩ := mean_nan h
  generalize meanF o n p = m at *
  go_enter Try.func6, Try.ntmps6
  go_wp2_with (first | (go_at_call 10; refine (CA.out _).mono ?_; rintro e w1 ⟨rfl, k1⟩; have K1 := Lib.hid k1; clear k1) | (go_at_call 16; refine (CM.out _).mono ?_; rintro e w2 ⟨rfl, k2, rfl⟩) | (go_at_call 12; refine (CN.out _ _).mono ?_; rintro e w4 ⟨rfl, rfl⟩))
  go_ret
  exact ⟨rfl, (((K1.out.drewN _)).below (fun _ _ h => h))⟩
theorem between_old (o n p : Nat) (w : World) (h : nanb (meanF o n p) = false) (ho : nanb o = true) :
    Calls Try.prog 6 #[.float .f64 o, .float .f64 n, .float .f64 p] w fun e w' => e = .returned (.bool true) ∧ Below w.heap.size w w' := by
  have CA := Lib.hid (fun w' => awake_any w')
  have CM := Lib.hid (fun w' => mean_any o n p w')
  have CN := Lib.hid (fun x w' => isnan_any x w')
  have e : meanF o n p = n := by unfold meanF; rw [ho]; rfl
  rw [e] at CM h
  have CS := Lib.hid (fun w' => samefloat_same n w')
  go_enter Try.func6, Try.ntmps6
  go_wp2_with (first | (go_at_call 10; refine (CA.out _).mono ?_; rintro e w1 ⟨rfl, k1⟩; have K1 := Lib.hid k1; clear k1) | (go_at_call 16; refine (CM.out _).mono ?_; rintro e w2 ⟨rfl, k2, rfl⟩) | (go_at_call 12; refine (CN.out _ _).mono ?_; rintro e w4 ⟨rfl, rfl⟩) | (go_at_call 17; refine (CS.out _).mono ?_; rintro e w3 ⟨rfl, rfl⟩))
  go_ret
  exact ⟨rfl, (((K1.out.drewN _)).below (fun _ _ h => h))⟩
theorem between_out (o n p : Nat) (ho2 : o < 18446744073709551616) (hn2 : n < 18446744073709551616) (w : World) (h : nanb (meanF o n p) = false) (ho : nanb o = false)
    (hg : nanb n = true ∨ (nanb n = false ∧ nanb p = true) ∨ (nanb n = false ∧ nanb p = false ∧ (FloatKind.f64.format.order (rung o) 6850974717710472879 == some .gt) = true) ∨ (nanb n = false ∧ nanb p = false ∧ (FloatKind.f64.format.order (rung o) 6850974717710472879 == some .gt) = false ∧ (FloatKind.f64.format.order (rung n) 6850974717710472879 == some .gt) = true) ∨
      (nanb n = false ∧ nanb p = false ∧ (FloatKind.f64.format.order (rung o) 6850974717710472879 == some .gt) = false ∧ (FloatKind.f64.format.order (rung n) 6850974717710472879 == some .gt) = false ∧ (FloatKind.f64.format.order p 0 == some .lt) = true) ∨
      (nanb n = false ∧ nanb p = false ∧ (FloatKind.f64.format.order (rung o) 6850974717710472879 == some .gt) = false ∧ (FloatKind.f64.format.order (rung n) 6850974717710472879 == some .gt) = false ∧ (FloatKind.f64.format.order p 0 == some .lt) = false ∧ (FloatKind.f64.format.order p 4607182418800017408 == some .gt) = true)) :
    Calls Try.prog 6 #[.float .f64 o, .float .f64 n, .float .f64 p] w fun e w' => e = .returned (.bool true) ∧ Below w.heap.size w w' := by
  have CA := Lib.hid (fun w' => awake_any w')
  have CM := Lib.hid (fun w' => mean_any o n p w')
  have CN := Lib.hid (fun x w' => isnan_any x w')
  have CO := Lib.hid (fun w' => abs_any o w' ho2)
  have CQ := Lib.hid (fun w' => abs_any n w' hn2)
  generalize meanF o n p = m at *
  generalize rung o = ro at *
  generalize rung n = rn at *
  rcases hg with g1 | ⟨g1, g2⟩ | ⟨g1, g2, g3⟩ | ⟨g1, g2, g3, g4⟩ | ⟨g1, g2, g3, g4, g5⟩ | ⟨g1, g2, g3, g4, g5, g6⟩
  all_goals
    go_enter Try.func6, Try.ntmps6
    go_wp2_with (first | (go_at_call 10; refine (CA.out _).mono ?_; rintro e w1 ⟨rfl, k1⟩; have K1 := Lib.hid k1; clear k1) | (go_at_call 16; refine (CM.out _).mono ?_; rintro e w2 ⟨rfl, k2, rfl⟩) | (go_at_call 12; refine (CN.out _ _).mono ?_; rintro e w4 ⟨rfl, rfl⟩) | (go_at_call 15; (first | (with_reducible refine (CO.out _).mono ?_) | (with_reducible refine (CQ.out _).mono ?_)); rintro e w3 ⟨rfl, rfl⟩))
    go_ret
    exact ⟨rfl, (((K1.out.drewN _)).below (fun _ _ h => h))⟩
set_option maxHeartbeats 2000000 in
theorem between_in (o n p : Nat) (ho2 : o < 18446744073709551616) (hn2 : n < 18446744073709551616) (w : World) (ho : nanb o = false) (hn : nanb n = false) (hp : nanb p = false)
    (g3 : (FloatKind.f64.format.order (rung o) 6850974717710472879 == some .gt) = false) (g4 : (FloatKind.f64.format.order (rung n) 6850974717710472879 == some .gt) = false) (g5 : (FloatKind.f64.format.order p 0 == some .lt) = false) (g6 : (FloatKind.f64.format.order p 4607182418800017408 == some .gt) = false) :
    Calls Try.prog 6 #[.float .f64 o, .float .f64 n, .float .f64 p] w fun e w' => e = .returned (.bool true) ∧ Below w.heap.size w w' := by
  have CA := Lib.hid (fun w' => awake_any w')
  have CM := Lib.hid (fun w' => mean_any o n p w')
  have CN := Lib.hid (fun x w' => isnan_any x w')
  have CO := Lib.hid (fun w' => abs_any o w' ho2)
  have CQ := Lib.hid (fun w' => abs_any n w' hn2)
  have n0 : nanb 0 = false := by decide +kernel
  have n1 : nanb 4607182418800017408 = false := by decide +kernel
  have n150 : nanb 6850974717710472879 = false := by decide +kernel
  have k150 : key 6850974717710472879 = 6850974717710472879 := by decide +kernel
  have r1 : rung o ≤ e150 := by
    have := ord_gt (rung o) 6850974717710472879
    rw [g3, nanb_rung, ho, n150, key_rung, k150] at this
    simp at this; unfold e150; omega
  have r2 : rung n ≤ e150 := by
    have := ord_gt (rung n) 6850974717710472879
    rw [g4, nanb_rung, hn, n150, key_rung, k150] at this
    simp at this; unfold e150; omega
  have p0 : 0 ≤ key p := by
    have := ord_lt p 0
    rw [g5, hp, n0, key_zero] at this
    simp at this; omega
  have p1 : key p ≤ key 4607182418800017408 := by
    have := ord_gt p 4607182418800017408
    rw [g6, hp, n1] at this
    simp at this; omega
  obtain ⟨m, t, S, em, nm, hz, et, eS, hlo, hhi⟩ := between_law o n p r1 r2 p0 p1 hp
  have eM : meanF o n p = m := by unfold meanF; rw [ho, em]; rfl
  have hE := e150_fin.2
  have fo : fin o := by unfold fin; unfold e150 at *; simp only [II, BB] at *; omega
  have fn : fin n := by unfold fin; unfold e150 at *; simp only [II, BB] at *; omega
  rw [eM] at CM
  have CMin := Lib.hid (fun w' => min_any o n w')
  have CMax := Lib.hid (fun w' => max_any o n w')
  obtain ⟨d1, d2⟩ := dim_min fo fn
  obtain ⟨u1, u2⟩ := dim_max fo fn
  obtain ⟨lo, elo, nlo, klo⟩ := hlo _ d1 d2
  obtain ⟨hi, ehi, nhi, khi⟩ := hhi _ u1 u2
  have hge := num_ge nm nlo klo
  have hle : ((FloatKind.f64.format.order m hi == some .lt) = true ∧ (FloatKind.f64.format.order m hi == some .eq) = false) ∨ ((FloatKind.f64.format.order m hi == some .lt) = false ∧ (FloatKind.f64.format.order m hi == some .eq) = true) := by
    rw [ord_lt, ord_eq, nm, nhi]; simp; omega
  have hzz : (FloatKind.f64.format.order p 0 != some .eq) = true ∨ ((FloatKind.f64.format.order p 0 != some .eq) = false ∧ (FloatKind.f64.format.order m o == some .eq) = true) := by
    have e1 : (FloatKind.f64.format.order p 0 != some .eq) = !(FloatKind.f64.format.order p 0 == some .eq) := rfl
    rw [e1, ord_eq, ord_eq, hp, n0, nm, ho, key_zero]
    by_cases h : key p = 0
    · right; rw [hz h]; simp [h]
    · left; simp [h]
  have hT := fun w' => run_float_arith (P := Try.prog) w' .add 22 .f64 (rung o) (rung n) t et
  have hSS := fun w' => run_float_arith (P := Try.prog) w' .mul 22 .f64 4472406533629990549 t S eS
  have hLo := fun w' => run_float_arith (P := Try.prog) w' .sub 22 .f64 (dimR true .lt o n) S lo elo
  have hHi := fun w' => run_float_arith (P := Try.prog) w' .add 22 .f64 (dimR false .gt o n) S hi ehi
  clear hlo hhi d1 d2 u1 u2 elo ehi klo khi et eS em hz p0 p1 r1 r2 n0 n1 n150 k150 hE fo fn eM nlo nhi ho2 hn2
  generalize dimR true .lt o n = dlo at *
  generalize dimR false .gt o n = dhi at *
  generalize rung o = ro at *
  generalize rung n = rn at *
  rcases hge with ⟨a1, a2⟩ | ⟨a1, a2⟩ <;> rcases hle with ⟨b1, b2⟩ | ⟨b1, b2⟩ <;> rcases hzz with c1 | ⟨c1, c2⟩
  all_goals
    go_enter Try.func6, Try.ntmps6
    go_wp2_with (first | (go_at_call 10; refine (CA.out _).mono ?_; rintro e w1 ⟨rfl, k1⟩; have K1 := Lib.hid k1; clear k1) | (go_at_call 16; refine (CM.out _).mono ?_; rintro e w2 ⟨rfl, k2, rfl⟩) | (go_at_call 12; refine (CN.out _ _).mono ?_; rintro e w4 ⟨rfl, rfl⟩) | (go_at_call 15; (first | (with_reducible refine (CO.out _).mono ?_) | (with_reducible refine (CQ.out _).mono ?_)); rintro e w3 ⟨rfl, rfl⟩) | (go_at_call 18; refine (CMin.out _).mono ?_; rintro e w5 ⟨rfl, rfl⟩) | (go_at_call 19; refine (CMax.out _).mono ?_; rintro e w6 ⟨rfl, rfl⟩))
    go_ret
    exact ⟨rfl, (((K1.out.drewN _)).below (fun _ _ h => h))⟩
theorem ratioBetween_walk (o n p : Nat) (w : World) (r0 : Rdg Try.prog w 22 (Value.float .f64 o).cells.toList) (r1 : Rdg Try.prog w 22 (Value.float .f64 n).cells.toList) (r2 : Rdg Try.prog w 22 (Value.float .f64 p).cells.toList) :
    Calls Try.prog 6 #[.float .f64 o, .float .f64 n, .float .f64 p] w fun e w' => e = .returned (.bool true) ∧ Below w.heap.size w w' := by
  have bd : ∀ {x : Nat}, Rdg Try.prog w 22 (Value.float .f64 x).cells.toList → x < 18446744073709551616 := by
    intro x hr
    obtain ⟨o', e0, h0⟩ := Rdg.float Try.underlying22 hr
    have e1 : x = o' := by have : [Value.float .f64 x] = [.float .f64 o'] := e0; simpa using this
    subst e1
    simpa [Lit.wf] using h0
  have ho2 := bd r0
  have hn2 := bd r1
  clear r0 r1 r2 bd
  cases hm : nanb (meanF o n p)
  · cases ho : nanb o
    · cases hn : nanb n
      · cases hp : nanb p
        · cases g3 : (FloatKind.f64.format.order (rung o) 6850974717710472879 == some .gt)
          · cases g4 : (FloatKind.f64.format.order (rung n) 6850974717710472879 == some .gt)
            · cases g5 : (FloatKind.f64.format.order p 0 == some .lt)
              · cases g6 : (FloatKind.f64.format.order p 4607182418800017408 == some .gt)
                · exact between_in o n p ho2 hn2 w ho hn hp g3 g4 g5 g6
                · exact between_out o n p ho2 hn2 w hm ho (by simp [hn, hp, g3, g4, g5, g6])
              · exact between_out o n p ho2 hn2 w hm ho (by simp [hn, hp, g3, g4, g5])
            · exact between_out o n p ho2 hn2 w hm ho (by simp [hn, hp, g3, g4])
          · exact between_out o n p ho2 hn2 w hm ho (by simp [hn, hp, g3])
        · exact between_out o n p ho2 hn2 w hm ho (by simp [hn, hp])
      · exact between_out o n p ho2 hn2 w hm ho (by simp [hn])
    · exact between_old o n p w hm ho
  · exact between_nan o n p w hm
end Go.Proofs.Ytdeallaohfbceaa
