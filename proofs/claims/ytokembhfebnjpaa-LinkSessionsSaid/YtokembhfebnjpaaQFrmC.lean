/- Package frame: Check. -/
import Derived.Test.YtokembhfebnjpaaQFrmAs
namespace Go.Proofs.Ytokembhfebnjpaa
set_option maxRecDepth 20000
open Go.RowKit
set_option linter.unusedVariables false
set_option maxHeartbeats 2000000 in
theorem fcheck_type (f : Fr) (a : Option Addr) (c : Nat) (w : World) (ht : ¬ typedP f.ty) :
    Calls Try.prog 28 #[.agg (frA f a c)] w fun e w' => e = .returned (.int .i64 213) ∧ Kp (fun _ => False) w w' := by
  obtain ⟨ty, se, bo, sq, ac, bd⟩ := f
  have C := fun w => known_any ty w
  rw [decide_eq_false ht] at C
  have C' := Lib.hid C
  dsimp only [frA] at *
  clear C ht
  go_enter Try.func28, Try.ntmps28
  go_wp2_with (go_at_call 37; refine (C'.out _).mono ?_; rintro e w' ⟨rfl, rfl⟩)
  go_ret
  exact ⟨rfl, (Kp.refl _ w).alloc _⟩
set_option maxHeartbeats 2000000 in
theorem fcheck_typed (f : Fr) (a : Option Addr) (c : Nat) (w : World) (ht : typedP f.ty) (hl : f.bd.length ≤ 4611686018427387904) (hb : -9223372036854775808 ≤ f.se ∧ f.se ≤ 9223372036854775807) (hb2 : -9223372036854775808 ≤ f.bo ∧ f.bo ≤ 9223372036854775807) (hb3 : -9223372036854775808 ≤ f.sq ∧ f.sq ≤ 9223372036854775807) (hb4 : -9223372036854775808 ≤ f.ac ∧ f.ac ≤ 9223372036854775807) :
    Calls Try.prog 28 #[.agg (frA f a c)] w fun e w' => e = .returned (.int .i64 (errF f)) ∧ Kp (fun _ => False) w w' := by
  have C := fun w => known_any f.ty w
  rw [decide_eq_true ht] at C
  have C' := Lib.hid C
  have CA := Lib.hid (fun w hr => as_any f a c w ht hr hl)
  have HE := Lib.hid (show errF f = if ¬ rangeP f.se f.bo f.sq f.ac then 5 else if (1400 : Int) < f.bd.length then 3 else if says f = false then 2 else 0 by unfold errF; rw [if_neg (fun h => h ht)])
  clear C
  generalize errF f = er at *
  generalize says f = sy at *
  obtain ⟨ty, se, bo, sq, ac, bd⟩ := f
  dsimp only [frA] at *
  generalize bd.length = n at *
  have i0 : ∀ w, (Instr.index 70 (.agg #[.int .i64 se, .int .i64 bo, .int .i64 sq, .int .i64 ac]) (.int .i64 0)).run Try.prog w = .ok (.int .i64 se) w := fun _ => by kernel_rfl
  have i1 : ∀ w, (Instr.index 70 (.agg #[.int .i64 se, .int .i64 bo, .int .i64 sq, .int .i64 ac]) (.int .i64 1)).run Try.prog w = .ok (.int .i64 bo) w := fun _ => by kernel_rfl
  have i2 : ∀ w, (Instr.index 70 (.agg #[.int .i64 se, .int .i64 bo, .int .i64 sq, .int .i64 ac]) (.int .i64 2)).run Try.prog w = .ok (.int .i64 sq) w := fun _ => by kernel_rfl
  have i3 : ∀ w, (Instr.index 70 (.agg #[.int .i64 se, .int .i64 bo, .int .i64 sq, .int .i64 ac]) (.int .i64 3)).run Try.prog w = .ok (.int .i64 ac) w := fun _ => by kernel_rfl
  go_enter Try.func28, Try.ntmps28
  go_wp2_with (go_at_call 37; refine (C'.out _).mono ?_; rintro e w' ⟨rfl, rfl⟩)
  refine wp_world (fun wr => At wr w.heap.size [.int .i64 ty, .int .i64 se, .int .i64 bo, .int .i64 sq, .int .i64 ac, .slice a n c] ∧ Kp (fun _ => False) w wr) ⟨At.new w [.int .i64 ty, .int .i64 se, .int .i64 bo, .int .i64 sq, .int .i64 ac, .slice a n c] _, (Kp.refl _ w).alloc _⟩ ?_
  rintro w0 ⟨hat, hk⟩
  have HK := Lib.hid hk
  have x0 : w0.cell? ⟨w.heap.size, 0, none⟩ = some (.int .i64 ty) := by rw [hat.cell]; rfl
  have x1 : w0.cell? ⟨w.heap.size, 1, none⟩ = some (.int .i64 se) := by rw [hat.cell]; rfl
  have x2 : w0.cell? ⟨w.heap.size, 2, none⟩ = some (.int .i64 bo) := by rw [hat.cell]; rfl
  have x3 : w0.cell? ⟨w.heap.size, 3, none⟩ = some (.int .i64 sq) := by rw [hat.cell]; rfl
  have x4 : w0.cell? ⟨w.heap.size, 4, none⟩ = some (.int .i64 ac) := by rw [hat.cell]; rfl
  have x5 : w0.cell? ⟨w.heap.size, 5, none⟩ = some (.slice a n c) := by rw [hat.cell]; rfl
  clear hat hk hb hb2 hb3 hb4 C'
  go_loop [18] (fun i => ∃ k : Nat, k ≤ 4 ∧ i = .int .i64 k ∧ (1 ≤ k → 0 ≤ se ∧ se ≤ 2147483647) ∧ (2 ≤ k → 0 ≤ bo ∧ bo ≤ 2147483647) ∧ (3 ≤ k → 0 ≤ sq ∧ sq ≤ 2147483647) ∧ (4 ≤ k → 0 ≤ ac ∧ ac ≤ 2147483647)) (fun i => 4 - (intOf i).toNat)
  case atStart => exact ⟨0, by omega, rfl, fun h => by omega, fun h => by omega, fun h => by omega, fun h => by omega⟩
  case round =>
    obtain ⟨k, hk, rfl, k1, k2, k3, k4⟩ := hrel
    have key : ∀ x : Int, ¬ (0 ≤ x ∧ x ≤ 2147483647) → x < 0 ∨ (0 ≤ x ∧ 2147483647 < x) := fun x h => by omega
    match k, hk with
    | 0, _ =>
      by_cases h : 0 ≤ se ∧ se ≤ 2147483647
      · obtain ⟨h1, h2⟩ := h
        clear k1 k2 k3 k4 key
        go_wp2
        go_round
        case rel => exact ⟨1, by omega, rfl, fun _ => ⟨h1, h2⟩, fun h => by omega, fun h => by omega, fun h => by omega⟩
        case measure => simp [intOf]
      · have e : Hid (er = 5) := by show _ = _; rw [HE.out, if_pos (by unfold rangeP; omega)]
        rcases key se h with h1 | ⟨h1, h2⟩
        all_goals
          clear k1 k2 k3 k4 key h
          go_wp2
          go_ret
          exact ⟨ret_int e.out.symm, HK.out⟩
    | 1, _ =>
      by_cases h : 0 ≤ bo ∧ bo ≤ 2147483647
      · obtain ⟨h1, h2⟩ := h
        have K1 := Lib.hid (k1 (by omega))
        clear k1 k2 k3 k4 key
        go_wp2
        go_round
        case rel => exact ⟨2, by omega, rfl, fun _ => K1.out, fun _ => ⟨h1, h2⟩, fun h => by omega, fun h => by omega⟩
        case measure => simp [intOf]
      · have e : Hid (er = 5) := by show _ = _; rw [HE.out, if_pos (by unfold rangeP; omega)]
        rcases key bo h with h1 | ⟨h1, h2⟩
        all_goals
          clear k1 k2 k3 k4 key h
          go_wp2
          go_ret
          exact ⟨ret_int e.out.symm, HK.out⟩
    | 2, _ =>
      by_cases h : 0 ≤ sq ∧ sq ≤ 2147483647
      · obtain ⟨h1, h2⟩ := h
        have K1 := Lib.hid (And.intro (k1 (by omega)) (k2 (by omega)))
        clear k1 k2 k3 k4 key
        go_wp2
        go_round
        case rel => exact ⟨3, by omega, rfl, fun _ => K1.out.1, fun _ => K1.out.2, fun _ => ⟨h1, h2⟩, fun h => by omega⟩
        case measure => simp [intOf]
      · have e : Hid (er = 5) := by show _ = _; rw [HE.out, if_pos (by unfold rangeP; omega)]
        rcases key sq h with h1 | ⟨h1, h2⟩
        all_goals
          clear k1 k2 k3 k4 key h
          go_wp2
          go_ret
          exact ⟨ret_int e.out.symm, HK.out⟩
    | 3, _ =>
      by_cases h : 0 ≤ ac ∧ ac ≤ 2147483647
      · obtain ⟨h1, h2⟩ := h
        have K1 := Lib.hid (And.intro (k1 (by omega)) (And.intro (k2 (by omega)) (k3 (by omega))))
        clear k1 k2 k3 k4 key
        go_wp2
        go_round
        case rel => exact ⟨4, by omega, rfl, fun _ => K1.out.1, fun _ => K1.out.2.1, fun _ => K1.out.2.2, fun _ => ⟨h1, h2⟩⟩
        case measure => simp [intOf]
      · have e : Hid (er = 5) := by show _ = _; rw [HE.out, if_pos (by unfold rangeP; omega)]
        rcases key ac h with h1 | ⟨h1, h2⟩
        all_goals
          clear k1 k2 k3 k4 key h
          go_wp2
          go_ret
          exact ⟨ret_int e.out.symm, HK.out⟩
    | 4, _ =>
      have hr : rangeP se bo sq ac := ⟨k1 (by omega), k2 (by omega), k3 (by omega), k4 (by omega)⟩
      have C := Lib.hid (CA.out w0 hr)
      have he := HE.out
      rw [if_neg (fun h => h hr)] at he
      have HE2 := Lib.hid he
      clear k1 k2 k3 k4 key he HE hr CA
      by_cases h : 1400 < n
      · have e : Hid (er = 3) := by show _ = _; rw [HE2.out, if_pos (by omega)]
        clear HE2
        go_wp2
        go_ret
        exact ⟨ret_int e.out.symm, HK.out⟩
      · have e : Hid (er = if sy = false then 2 else 0) := by show _ = _; rw [HE2.out, if_neg (by omega)]
        clear HE2
        cases sy with
        | true =>
          have e' : Hid (er = 0) := by show _ = _; rw [e.out]; rfl
          clear e
          go_wp2_with (go_at_call 38; refine C.out.mono ?_; rintro e w' ⟨rfl, hk⟩)
          go_ret
          exact ⟨ret_int e'.out.symm, HK.out.trans hk⟩
        | false =>
          have e' : Hid (er = 2) := by show _ = _; rw [e.out]; rfl
          clear e
          go_wp2_with (go_at_call 38; refine C.out.mono ?_; rintro e w' ⟨rfl, hk⟩)
          go_ret
          exact ⟨ret_int e'.out.symm, HK.out.trans hk⟩
theorem fcheck_any (f : Fr) (a : Option Addr) (c : Nat) (w : World) (hl : f.bd.length ≤ 4611686018427387904) (hb : -9223372036854775808 ≤ f.se ∧ f.se ≤ 9223372036854775807) (hb2 : -9223372036854775808 ≤ f.bo ∧ f.bo ≤ 9223372036854775807) (hb3 : -9223372036854775808 ≤ f.sq ∧ f.sq ≤ 9223372036854775807) (hb4 : -9223372036854775808 ≤ f.ac ∧ f.ac ≤ 9223372036854775807) :
    Calls Try.prog 28 #[.agg (frA f a c)] w fun e w' => e = .returned (.int .i64 (errF f)) ∧ Kp (fun _ => False) w w' := by
  by_cases ht : typedP f.ty
  · exact fcheck_typed f a c w ht hl hb hb2 hb3 hb4
  · have e : errF f = 213 := by unfold errF; rw [if_pos ht]
    rw [e]
    exact fcheck_type f a c w ht
end Go.Proofs.Ytokembhfebnjpaa
