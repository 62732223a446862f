/- Package frame: Put. -/
import Derived.Test.YtokembhfebnjpaaQGrM
import Derived.Test.YtokembhfebnjpaaQFrmC
import Derived.Test.YtokembhfebnjpaaQFrmL
namespace Go.Proofs.Ytokembhfebnjpaa
set_option maxRecDepth 20000
open Go.RowKit
set_option linter.unusedVariables false
/-- A frame's numbers are ints. -/
def frI (f : Fr) : Prop := (-9223372036854775808 ≤ f.se ∧ f.se ≤ 9223372036854775807) ∧ (-9223372036854775808 ≤ f.bo ∧ f.bo ≤ 9223372036854775807) ∧ (-9223372036854775808 ≤ f.sq ∧ f.sq ≤ 9223372036854775807) ∧ (-9223372036854775808 ≤ f.ac ∧ f.ac ≤ 9223372036854775807)
theorem errF_ok {f : Fr} (h : errF f = 0) : typedP f.ty ∧ rangeP f.se f.bo f.sq f.ac ∧ f.bd.length ≤ 1400 ∧ says f = true := by
  unfold errF at h
  split at h
  · omega
  · rename_i h1
    split at h
    · omega
    · rename_i h2
      split at h
      · omega
      · rename_i h3
        split at h
        · omega
        · rename_i h4
          exact ⟨Classical.byContradiction h1, Classical.byContradiction h2, by omega, by simpa using h4⟩
theorem fput_bad (f : Fr) (a : Option Addr) (c : Nat) (w : World) (hI : frI f) (hl : f.bd.length ≤ 4611686018427387904) (he : errF f ≠ 0) :
    Calls Try.prog 13 #[.agg (frA f a c)] w fun e w' => e = .returned (.tuple #[.slice none 0 0, .int .i64 (errF f)]) ∧ Kp (fun _ => False) w w' := by
  have C := fun w => fcheck_any f a c w hl hI.1 hI.2.1 hI.2.2.1 hI.2.2.2
  have C' := Lib.hid C
  have hne : (errF f != 0) = true := by simpa using he
  clear C he
  generalize errF f = er at *
  obtain ⟨ty, se, bo, sq, ac, bd⟩ := f
  dsimp only [frA] at *
  generalize bd.length = n at *
  clear hI
  go_enter Try.func13, Try.ntmps13
  go_wp2_with fail
  refine (C'.out _).mono ?_
  rintro e w1 ⟨rfl, hk⟩
  have HK := Lib.hid (((Kp.refl (fun _ => False) w).alloc _).trans hk)
  clear hk C'
  go_wp2
  go_ret2
  exact ⟨rfl, HK.out⟩
set_option maxHeartbeats 4000000 in
theorem fput_ok (f : Fr) (a : Option Addr) (c : Nat) (w : World) (hI : frI f) (hr : RdB w a f.bd) (hc : f.bd.length ≤ c) (he : errF f = 0) :
    Calls Try.prog 13 #[.agg (frA f a c)] w fun e w' => ∃ v, e = .returned (.tuple #[v, .int .i64 0]) ∧ OwnB w' v (layF f) ∧ (∀ g, v.ownBlock = some g → w.heap.size ≤ g) ∧ Kp (fun _ => False) w w' := by
  obtain ⟨_, hrg, hlen, _⟩ := errF_ok he
  have C := fun w => fcheck_any f a c w (by omega) hI.1 hI.2.1 hI.2.2.1 hI.2.2.2
  rw [he] at C
  have C' := Lib.hid C
  clear C he hI
  have HL := Lib.hid (show layF f = put4 ([83, 75, 1, f.ty % 256] ++ be4 f.se ++ be4 f.bo ++ be4 f.sq ++ be4 f.ac ++ be2 f.bd.length ++ f.bd) from rfl)
  generalize layF f = lf at *
  obtain ⟨ty, se, bo, sq, ac, bd⟩ := f
  dsimp only [frA] at *
  obtain ⟨b1, b2, b3, b4⟩ := hrg
  have HB := Lib.hid (And.intro b1 (And.intro b2 (And.intro b3 b4)))
  clear b1 b2 b3 b4
  have hmf : ∀ (fn : Fn) (first cap : Array Value) (w : World), (Instr.makeFunc fn first cap).run Try.prog w = .ok (.func fn first cap) w := fun _ _ _ _ => rfl
  go_enter Try.func13, Try.ntmps13
  go_wp2_with fail
  refine (C'.out _).mono ?_
  rintro e w1 ⟨rfl, hk⟩
  have hat0 := At.new w [.int .i64 ty, .int .i64 se, .int .i64 bo, .int .i64 sq, .int .i64 ac, .slice a bd.length c] 36
  have hat := hk.at hat0 (fun h => h)
  have hk1 := ((Kp.refl (fun _ => False) w).alloc (.cells #[.int .i64 ty, .int .i64 se, .int .i64 bo, .int .i64 sq, .int .i64 ac, .slice a bd.length c] 36)).trans hk
  have x0 : w1.cell? ⟨w.heap.size, 0, none⟩ = some (.int .i64 ty) := by rw [hat.cell]; rfl
  have H1 := Lib.hid (And.intro hat hk1)
  have x1 : w1.cell? ⟨w.heap.size, 1, none⟩ = some (.int .i64 se) := by rw [hat.cell]; rfl
  have x2 : w1.cell? ⟨w.heap.size, 2, none⟩ = some (.int .i64 bo) := by rw [hat.cell]; rfl
  have x3 : w1.cell? ⟨w.heap.size, 3, none⟩ = some (.int .i64 sq) := by rw [hat.cell]; rfl
  have x4 : w1.cell? ⟨w.heap.size, 4, none⟩ = some (.int .i64 ac) := by rw [hat.cell]; rfl
  have hlt := hat.lt
  clear hat hat0 hk hk1 C'
  go_wp2_with fail
  have hhd : Byt [83, 75, 1, ty % 256] := by intro x hx; simp at hx; omega
  have hls0 : LS w1 (w1.heap.size + 1) [83, 75, 1, ty % 256] ((w1.alloc (.cells (([83, 75, 1, ty % 256] : List Int).map (Value.int .u8)).toArray 5)).alloc (.cells #[.slice (some ⟨w1.heap.size, 0, none⟩) 4 4] 22)) := by
    have ha := At.new w1 (([83, 75, 1, ty % 256] : List Int).map (Value.int .u8)) 5
    refine ⟨.slice (some ⟨w1.heap.size, 0, none⟩) 4 4, by simpa using At.new (w1.alloc (.cells (([83, 75, 1, ty % 256] : List Int).map (Value.int .u8)).toArray 5)) [.slice (some ⟨w1.heap.size, 0, none⟩) 4 4] 22, ?_, fun x hx => by simp [Value.ownBlock] at hx; omega, ((Kp.refl _ w1).alloc _).alloc _, by omega⟩
    exact ⟨⟨by simp, .inr ⟨w1.heap.size, 4, [], rfl, by simpa using ha.alloc (.cells #[.slice (some ⟨w1.heap.size, 0, none⟩) 4 4] 22), by simp, by simp, by unfold maxLen; omega⟩⟩, fun g hg => ⟨_, by simp [Value.ownBlock] at hg; subst hg; exact ha.alloc _, isB_map hhd⟩, hhd, by simp⟩
  refine wp_world (fun wr => LS w1 (w1.heap.size + 1) [83, 75, 1, ty % 256] wr) hls0 ?_
  intro w2 hls
  have HLS := Lib.hid hls
  have HX := Lib.hid (show w1.cell? ⟨w.heap.size, 5, none⟩ = some (.slice a bd.length c) by rw [H1.out.1.cell]; rfl)
  clear hls0 hls x0 x1 x2 x3 x4 hhd
  have i0 : ∀ w, (Instr.index 70 (.agg #[.int .i64 se, .int .i64 bo, .int .i64 sq, .int .i64 ac]) (.int .i64 0)).run Try.prog w = .ok (.int .i64 se) w := fun _ => by kernel_rfl
  have i1 : ∀ w, (Instr.index 70 (.agg #[.int .i64 se, .int .i64 bo, .int .i64 sq, .int .i64 ac]) (.int .i64 1)).run Try.prog w = .ok (.int .i64 bo) w := fun _ => by kernel_rfl
  have i2 : ∀ w, (Instr.index 70 (.agg #[.int .i64 se, .int .i64 bo, .int .i64 sq, .int .i64 ac]) (.int .i64 2)).run Try.prog w = .ok (.int .i64 sq) w := fun _ => by kernel_rfl
  have i3 : ∀ w, (Instr.index 70 (.agg #[.int .i64 se, .int .i64 bo, .int .i64 sq, .int .i64 ac]) (.int .i64 3)).run Try.prog w = .ok (.int .i64 ac) w := fun _ => by kernel_rfl
  go_loopw [28] (fun i wr => ∃ k : Nat, k ≤ 4 ∧ i = .int .i64 k ∧ LS w1 (w1.heap.size + 1) ([83, 75, 1, ty % 256] ++ (be4 se ++ be4 bo ++ be4 sq ++ be4 ac).take (4 * k)) wr) (fun i _ => 4 - (intOf i).toNat)
  case atStart => exact ⟨0, by omega, rfl, by simpa using HLS.out⟩
  case round =>
    clear HLS
    obtain ⟨k, hk4, rfl, hls⟩ := hrel
    match k, hk4 with
    | 0, _ =>
      have C := Lib.hid (lay_4 w1 wr (w1.heap.size + 1) _ se hls HB.out.1 (by simp [be4]))
      rw [show ([83, 75, 1, ty % 256] ++ (be4 se ++ be4 bo ++ be4 sq ++ be4 ac).take (4 * 0)) ++ be4 se = [83, 75, 1, ty % 256] ++ (be4 se ++ be4 bo ++ be4 sq ++ be4 ac).take (4 * (0 + 1)) from rfl] at C
      clear hls
      go_wp2_with fail
      refine C.out.mono ?_
      rintro e w2 ⟨rfl, h2⟩
      have H2 := Lib.hid h2
      clear h2 C
      go_wp2_with fail
      exact ⟨⟨0 + 1, by omega, rfl, H2.out⟩, by simp [intOf]⟩
    | 1, _ =>
      have C := Lib.hid (lay_4 w1 wr (w1.heap.size + 1) _ bo hls HB.out.2.1 (by simp [be4]))
      rw [show ([83, 75, 1, ty % 256] ++ (be4 se ++ be4 bo ++ be4 sq ++ be4 ac).take (4 * 1)) ++ be4 bo = [83, 75, 1, ty % 256] ++ (be4 se ++ be4 bo ++ be4 sq ++ be4 ac).take (4 * (1 + 1)) from rfl] at C
      clear hls
      go_wp2_with fail
      refine C.out.mono ?_
      rintro e w2 ⟨rfl, h2⟩
      have H2 := Lib.hid h2
      clear h2 C
      go_wp2_with fail
      exact ⟨⟨1 + 1, by omega, rfl, H2.out⟩, by simp [intOf]⟩
    | 2, _ =>
      have C := Lib.hid (lay_4 w1 wr (w1.heap.size + 1) _ sq hls HB.out.2.2.1 (by simp [be4]))
      rw [show ([83, 75, 1, ty % 256] ++ (be4 se ++ be4 bo ++ be4 sq ++ be4 ac).take (4 * 2)) ++ be4 sq = [83, 75, 1, ty % 256] ++ (be4 se ++ be4 bo ++ be4 sq ++ be4 ac).take (4 * (2 + 1)) from rfl] at C
      clear hls
      go_wp2_with fail
      refine C.out.mono ?_
      rintro e w2 ⟨rfl, h2⟩
      have H2 := Lib.hid h2
      clear h2 C
      go_wp2_with fail
      exact ⟨⟨2 + 1, by omega, rfl, H2.out⟩, by simp [intOf]⟩
    | 3, _ =>
      have C := Lib.hid (lay_4 w1 wr (w1.heap.size + 1) _ ac hls HB.out.2.2.2 (by simp [be4]))
      rw [show ([83, 75, 1, ty % 256] ++ (be4 se ++ be4 bo ++ be4 sq ++ be4 ac).take (4 * 3)) ++ be4 ac = [83, 75, 1, ty % 256] ++ (be4 se ++ be4 bo ++ be4 sq ++ be4 ac).take (4 * (3 + 1)) from rfl] at C
      clear hls
      go_wp2_with fail
      refine C.out.mono ?_
      rintro e w2 ⟨rfl, h2⟩
      have H2 := Lib.hid h2
      clear h2 C
      go_wp2_with fail
      exact ⟨⟨3 + 1, by omega, rfl, H2.out⟩, by simp [intOf]⟩
    | 4, _ =>
      rw [show [83, 75, 1, ty % 256] ++ (be4 se ++ be4 bo ++ be4 sq ++ be4 ac).take (4 * 4) = [83, 75, 1, ty % 256] ++ be4 se ++ be4 bo ++ be4 sq ++ be4 ac from rfl] at hls
      have C := Lib.hid (lay_2 w1 wr (w1.heap.size + 1) _ (bd.length : Int) hls (by omega) (by simp [be4]))
      have y5 := (hls.elim fun v h => h.2.2.2.1.cell HX.out (fun h => h) : wr.cell? ⟨w.heap.size, 5, none⟩ = _)
      clear hls i0 i1 i2 i3
      go_wp2_with fail
      refine C.out.mono ?_
      rintro e w3 ⟨rfl, v, hat, ho, hv, hk, hg⟩
      generalize hL : [83, 75, 1, ty % 256] ++ be4 se ++ be4 bo ++ be4 sq ++ be4 ac ++ be2 ↑bd.length = L at *
      have hLl : L.length = 22 := by rw [← hL]; simp [be4, be2]
      have z5 := hk.cell HX.out (fun h => h)
      have z0 : w3.cell? ⟨w1.heap.size + 1, 0, none⟩ = some v := by rw [hat.cell]; rfl
      obtain ⟨v', w4, hr4, ho4, hk4', hat4⟩ := run_append_b (P := Try.prog) (t := 22) (tx := 22) (ty := 22) w3 Try.underlying22 elem_u8 Try.underlying22 ho (a := a) (c := c) (m := bd) (hr.kp0 (H1.out.2.trans hk) (fun _ _ h => h)) (by omega)
      have hk14 : Kp (fun _ => False) w w4 := (H1.out.2.trans hk).then hk4' (fun i hi e => by have := (hv i e).1; have := H1.out.2.size; omega)
      obtain ⟨va, vc, rfl, _, _⟩ := ho.form
      obtain ⟨va4, vc4, rfl, hrd4, hcc4⟩ := ho4.form
      have CP := put_any va4 vc4 (L ++ bd) w4 hrd4 (by simp; omega) hcc4
      rw [← HL.out] at CP
      rw [hLl] at hr4 z0
      rw [show (L ++ bd).length = 22 + bd.length by simp [hLl]] at CP hr4
      have CP' := Lib.hid CP
      have HR := Lib.hid hr4
      have HK := Lib.hid hk14
      clear hat ho hv hk hg ho4 hk4' hat4 hk14 hrd4 hcc4 CP hr4 C y5 hL
      go_wp2_with (at_builtin; refine wpList_append_run _ HR.out rfl rfl rfl rfl ?_)
      refine CP'.out.mono ?_
      rintro e w5 ⟨v5, rfl, hv5, hg5, hk5⟩
      have HF : Hid (OwnB w5 v5 lf ∧ (∀ g, v5.ownBlock = some g → w.heap.size ≤ g) ∧ Kp (fun _ => False) w w5) := ⟨hv5, fun g hg => by have := hg5 g hg; have := HK.out.size; omega, HK.out.trans hk5⟩
      clear hv5 hg5 hk5 CP'
      go_wp2
      go_ret2
      exact ⟨_, rfl, HF.out⟩
end Go.Proofs.Ytokembhfebnjpaa
