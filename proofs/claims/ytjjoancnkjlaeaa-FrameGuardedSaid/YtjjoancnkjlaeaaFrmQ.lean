/- The document's frames (satchelref11): four, Lay, Put. (Written by wip/rlaygen.py.) -/
import Derived.Test.YtjjoancnkjlaeaaFrmR
namespace Go.Proofs.Ytjjoancnkjlaeaa
open Go.RowKit
set_option linter.unusedVariables false
theorem four_any (n : Int) (w : World) : Calls Try.prog 38 #[.int .i64 n] w fun e w' => e = .returned (.slice (some ⟨w.heap.size, 0, none⟩) 4 4) ∧ w' = w.alloc (.cells ((be4 n).map (Value.int .u8)).toArray 5) := by
  go_enter Try.func38, Try.ntmps38
  go_wp2
  go_ret
  exact ⟨rfl, rfl⟩
theorem calls_world {P : Program} {fn : FuncId} {args : Array Value} {Q : Ending → World → Prop} {w : World} (I : World → Prop) (h : I w) (H : ∀ w', I w' → Calls P fn args w' Q) : Calls P fn args w Q := H w h
/-- Bytes in a block that was just made are laid behind bytes. -/
theorem run_append_new (w : World) {v : Value} {l m : List Int} (h : OwnB w v l) (hm : Byt m) (hn : l.length + m.length ≤ 1000000000) :
    ∃ a c w', (Builtin.append_ #[22, 22] 22 #[v, .slice (some ⟨w.heap.size, 0, none⟩) m.length m.length]).run Try.prog (w.alloc (.cells (m.map (Value.int .u8)).toArray 5)) = .ok (.slice a (l.length + m.length) c) w' ∧
      OwnB w' (.slice a (l.length + m.length) c) (l ++ m) ∧ Kp (fun k => v.ownBlock = some k) w w' ∧ (∀ g, (Value.slice a (l.length + m.length) c).ownBlock = some g → v.ownBlock = some g ∨ w.heap.size ≤ g) := by
  have hka := (Kp.refl (fun _ => False) w).alloc (.cells (m.map (Value.int .u8)).toArray 5)
  obtain ⟨v', w', h1, h2, h3, h4⟩ := run_append_b (P := Try.prog) (t := 22) (tx := 22) (ty := 22) (w.alloc (.cells (m.map (Value.int .u8)).toArray 5)) Try.underlying22 elem_u8 Try.underlying22 (h.kp hka (fun _ _ h => h)) (a := some ⟨w.heap.size, 0, none⟩) (c := m.length) (m := m) (rdb_new w m hm (by omega) 5 (0, 0)) hn
  obtain ⟨a, c, e, _, _⟩ := h2.form
  rw [List.length_append] at e
  subst e
  refine ⟨a, c, w', h1, h2, (hka.mono (S' := fun k => v.ownBlock = some k) (fun _ _ h => h.elim)).then h3 (fun _ _ e => e), fun g hg => ?_⟩
  rcases h4 with e | e
  · exact .inl (e ▸ hg)
  · right; rw [e] at hg; simp at hg; omega
set_option maxHeartbeats 4000000 in
theorem rlay_any (f : Fr) (a : Option Addr) (c : Nat) (w : World) (hr : RdB w a f.bd) (hc : f.bd.length ≤ c) (hlen : f.bd.length ≤ 1000000) :
    Calls Try.prog 22 #[.agg (frA f a c)] w fun e w' => ∃ v, e = .returned v ∧ OwnB w' v (layF f) ∧ (∀ g, v.ownBlock = some g → w.heap.size ≤ g) ∧ Kp (fun _ => False) w w' := by
  have HL := Lib.hid (show layF f = put4 ([83, 75, 1, f.ty % 256] ++ be4 f.se ++ be4 f.bo ++ be4 f.sq ++ be4 f.ac ++ be2 f.bd.length ++ f.bd) from rfl)
  generalize layF f = lf at *
  obtain ⟨ty, se, bo, sq, ac, bd⟩ := f
  dsimp only [frA] at *
  have hhd : Byt [83, 75, 1, ty % 256] := by intro x hx; simp at hx; omega
  go_enter Try.func22, Try.ntmps22
  go_wp2_with fail
  obtain ⟨b, hb⟩ : ∃ b, b = w.heap.size := ⟨_, rfl⟩
  have hat0 := At.new w [.int .i64 ty, .int .i64 se, .int .i64 bo, .int .i64 sq, .int .i64 ac, .slice a bd.length c] 24
  rw [← hb] at hat0
  obtain ⟨wb, hwb⟩ : ∃ wb, wb = w.alloc (.cells #[.int .i64 ty, .int .i64 se, .int .i64 bo, .int .i64 sq, .int .i64 ac, .slice a bd.length c] 24) := ⟨_, rfl⟩
  have hkb : Kp (fun _ => False) w wb := by rw [hwb]; exact (Kp.refl _ w).alloc _
  have hatb : At wb b [.int .i64 ty, .int .i64 se, .int .i64 bo, .int .i64 sq, .int .i64 ac, .slice a bd.length c] := by rw [hwb]; exact hat0
  have hsz : wb.heap.size = w.heap.size + 1 := by rw [hwb]; simp
  have ha := At.new wb (([83, 75, 1, ty % 256] : List Int).map (Value.int .u8)) 5
  have ho0 : OwnB (wb.alloc (.cells (([83, 75, 1, ty % 256] : List Int).map (Value.int .u8)).toArray 5)) (.slice (some ⟨w.heap.size + 1, 0, none⟩) 4 4) [83, 75, 1, ty % 256] := by
    rw [hsz] at ha
    exact ⟨⟨by simp, .inr ⟨w.heap.size + 1, 4, [], rfl, by simpa using ha, by simp, by simp, by unfold maxLen; omega⟩⟩, fun g hg => ⟨_, by simp [Value.ownBlock] at hg; subst hg; exact ha, isB_map hhd⟩, hhd, by simp⟩
  have hk0 := hkb.alloc (.cells (([83, 75, 1, ty % 256] : List Int).map (Value.int .u8)).toArray 5)
  have hb0 := ((Kp.refl (fun _ => False) wb).alloc (.cells (([83, 75, 1, ty % 256] : List Int).map (Value.int .u8)).toArray 5)).at hatb (fun h => h)
  have hst : OwnB (wb.alloc (.cells (([83, 75, 1, ty % 256] : List Int).map (Value.int .u8)).toArray 5)) (.slice (some ⟨w.heap.size + 1, 0, none⟩) 4 4) [83, 75, 1, ty % 256] ∧ (∀ g, (Value.slice (some ⟨w.heap.size + 1, 0, none⟩) 4 4).ownBlock = some g → w.heap.size < g) ∧ Kp (fun _ => False) w (wb.alloc (.cells (([83, 75, 1, ty % 256] : List Int).map (Value.int .u8)).toArray 5)) ∧ At (wb.alloc (.cells (([83, 75, 1, ty % 256] : List Int).map (Value.int .u8)).toArray 5)) w.heap.size [.int .i64 ty, .int .i64 se, .int .i64 bo, .int .i64 sq, .int .i64 ac, .slice a bd.length c] :=
    ⟨ho0, fun g hg => by simp [Value.ownBlock] at hg; omega, hk0, by rw [hb] at hb0; exact hb0⟩
  rw [hwb] at hst
  have H0 := Lib.hid hst
  clear hst ho0 hk0 hb0 ha hsz hatb hkb hat0 hwb hb hhd
  refine calls_world (fun wx => OwnB wx (.slice (some ⟨w.heap.size + 1, 0, none⟩) 4 4) [83, 75, 1, ty % 256] ∧ (∀ g, (Value.slice (some ⟨w.heap.size + 1, 0, none⟩) 4 4).ownBlock = some g → w.heap.size < g) ∧ Kp (fun _ => False) w wx ∧ At wx w.heap.size [.int .i64 ty, .int .i64 se, .int .i64 bo, .int .i64 sq, .int .i64 ac, .slice a bd.length c]) H0.out ?_
  intro w0 hst
  have S0 := Lib.hid hst
  clear hst H0
  have y1 : w0.cell? ⟨w.heap.size, 1, none⟩ = some (.int .i64 se) := by rw [S0.out.2.2.2.cell]; rfl
  refine (four_any se w0).mono ?_
  rintro e w' ⟨rfl, rfl⟩
  obtain ⟨a1, c1, w1, hr1, ho1, hk1, hg1⟩ := run_append_new w0 S0.out.1 (byt_be4 se) (by simp [be4])
  have hbl1 := S0.out.2.2.2.lt
  have S1 := Lib.hid (show OwnB w1 (.slice a1 8 c1) ([83, 75, 1, ty % 256] ++ be4 se) ∧ (∀ g, (Value.slice a1 8 c1).ownBlock = some g → w.heap.size < g) ∧ Kp (fun _ => False) w w1 ∧ At w1 w.heap.size [.int .i64 ty, .int .i64 se, .int .i64 bo, .int .i64 sq, .int .i64 ac, .slice a bd.length c] from
    ⟨ho1, fun g hg => (hg1 g hg).elim (S0.out.2.1 g) (fun e => by omega), S0.out.2.2.1.then hk1 (fun i hi e => by have := S0.out.2.1 i e; omega), hk1.at S0.out.2.2.2 (fun e => by have := S0.out.2.1 _ e; omega)⟩)
  have HR1 := Lib.hid (show (Builtin.append_ #[22, 22] 22 #[.slice (some ⟨w.heap.size + 1, 0, none⟩) 4 4, .slice (some ⟨w0.heap.size, 0, none⟩) 4 4]).run Try.prog (w0.alloc (.cells ((be4 se).map (Value.int .u8)).toArray 5)) = .ok (.slice a1 8 c1) w1 from hr1)
  have z1 : w1.cell? ⟨w.heap.size, 2, none⟩ = some (.int .i64 bo) := by rw [S1.out.2.2.2.cell]; rfl
  clear hr1 ho1 hk1 hg1 S0 hbl1 y1
  have y2 := z1
  clear z1
  go_wp2_with (at_builtin; refine wpList_append_run _ HR1.out rfl rfl rfl rfl ?_)
  clear HR1
  refine (four_any bo w1).mono ?_
  rintro e w' ⟨rfl, rfl⟩
  obtain ⟨a2, c2, w2, hr2, ho2, hk2, hg2⟩ := run_append_new w1 S1.out.1 (byt_be4 bo) (by simp [be4])
  have hbl2 := S1.out.2.2.2.lt
  have S2 := Lib.hid (show OwnB w2 (.slice a2 12 c2) ([83, 75, 1, ty % 256] ++ be4 se ++ be4 bo) ∧ (∀ g, (Value.slice a2 12 c2).ownBlock = some g → w.heap.size < g) ∧ Kp (fun _ => False) w w2 ∧ At w2 w.heap.size [.int .i64 ty, .int .i64 se, .int .i64 bo, .int .i64 sq, .int .i64 ac, .slice a bd.length c] from
    ⟨ho2, fun g hg => (hg2 g hg).elim (S1.out.2.1 g) (fun e => by omega), S1.out.2.2.1.then hk2 (fun i hi e => by have := S1.out.2.1 i e; omega), hk2.at S1.out.2.2.2 (fun e => by have := S1.out.2.1 _ e; omega)⟩)
  have HR2 := Lib.hid (show (Builtin.append_ #[22, 22] 22 #[.slice a1 8 c1, .slice (some ⟨w1.heap.size, 0, none⟩) 4 4]).run Try.prog (w1.alloc (.cells ((be4 bo).map (Value.int .u8)).toArray 5)) = .ok (.slice a2 12 c2) w2 from hr2)
  have z2 : w2.cell? ⟨w.heap.size, 3, none⟩ = some (.int .i64 sq) := by rw [S2.out.2.2.2.cell]; rfl
  clear hr2 ho2 hk2 hg2 S1 hbl2 y2
  have y3 := z2
  clear z2
  go_wp2_with (at_builtin; refine wpList_append_run _ HR2.out rfl rfl rfl rfl ?_)
  clear HR2
  refine (four_any sq w2).mono ?_
  rintro e w' ⟨rfl, rfl⟩
  obtain ⟨a3, c3, w3, hr3, ho3, hk3, hg3⟩ := run_append_new w2 S2.out.1 (byt_be4 sq) (by simp [be4])
  have hbl3 := S2.out.2.2.2.lt
  have S3 := Lib.hid (show OwnB w3 (.slice a3 16 c3) ([83, 75, 1, ty % 256] ++ be4 se ++ be4 bo ++ be4 sq) ∧ (∀ g, (Value.slice a3 16 c3).ownBlock = some g → w.heap.size < g) ∧ Kp (fun _ => False) w w3 ∧ At w3 w.heap.size [.int .i64 ty, .int .i64 se, .int .i64 bo, .int .i64 sq, .int .i64 ac, .slice a bd.length c] from
    ⟨ho3, fun g hg => (hg3 g hg).elim (S2.out.2.1 g) (fun e => by omega), S2.out.2.2.1.then hk3 (fun i hi e => by have := S2.out.2.1 i e; omega), hk3.at S2.out.2.2.2 (fun e => by have := S2.out.2.1 _ e; omega)⟩)
  have HR3 := Lib.hid (show (Builtin.append_ #[22, 22] 22 #[.slice a2 12 c2, .slice (some ⟨w2.heap.size, 0, none⟩) 4 4]).run Try.prog (w2.alloc (.cells ((be4 sq).map (Value.int .u8)).toArray 5)) = .ok (.slice a3 16 c3) w3 from hr3)
  have z3 : w3.cell? ⟨w.heap.size, 4, none⟩ = some (.int .i64 ac) := by rw [S3.out.2.2.2.cell]; rfl
  clear hr3 ho3 hk3 hg3 S2 hbl3 y3
  have y4 := z3
  clear z3
  go_wp2_with (at_builtin; refine wpList_append_run _ HR3.out rfl rfl rfl rfl ?_)
  clear HR3
  refine (four_any ac w3).mono ?_
  rintro e w' ⟨rfl, rfl⟩
  obtain ⟨a4, c4, w4, hr4, ho4, hk4, hg4⟩ := run_append_new w3 S3.out.1 (byt_be4 ac) (by simp [be4])
  have hbl4 := S3.out.2.2.2.lt
  have S4 := Lib.hid (show OwnB w4 (.slice a4 20 c4) ([83, 75, 1, ty % 256] ++ be4 se ++ be4 bo ++ be4 sq ++ be4 ac) ∧ (∀ g, (Value.slice a4 20 c4).ownBlock = some g → w.heap.size < g) ∧ Kp (fun _ => False) w w4 ∧ At w4 w.heap.size [.int .i64 ty, .int .i64 se, .int .i64 bo, .int .i64 sq, .int .i64 ac, .slice a bd.length c] from
    ⟨ho4, fun g hg => (hg4 g hg).elim (S3.out.2.1 g) (fun e => by omega), S3.out.2.2.1.then hk4 (fun i hi e => by have := S3.out.2.1 i e; omega), hk4.at S3.out.2.2.2 (fun e => by have := S3.out.2.1 _ e; omega)⟩)
  have HR4 := Lib.hid (show (Builtin.append_ #[22, 22] 22 #[.slice a3 16 c3, .slice (some ⟨w3.heap.size, 0, none⟩) 4 4]).run Try.prog (w3.alloc (.cells ((be4 ac).map (Value.int .u8)).toArray 5)) = .ok (.slice a4 20 c4) w4 from hr4)
  have z4 : w4.cell? ⟨w.heap.size, 5, none⟩ = some (.slice a bd.length c) := by rw [S4.out.2.2.2.cell]; rfl
  clear hr4 ho4 hk4 hg4 S3 hbl4 y4
  have y5 := z4
  clear z4
  skip
  obtain ⟨a5, c5, w5, hr5, ho5, hk5, hg5⟩ := run_append_new w4 S4.out.1 (byt_be2 (bd.length : Int)) (by simp [be4, be2])
  have hbl5 := S4.out.2.2.2.lt
  have S5 := Lib.hid (show OwnB w5 (.slice a5 22 c5) ([83, 75, 1, ty % 256] ++ be4 se ++ be4 bo ++ be4 sq ++ be4 ac ++ be2 (bd.length : Int)) ∧ (∀ g, (Value.slice a5 22 c5).ownBlock = some g → w.heap.size < g) ∧ Kp (fun _ => False) w w5 ∧ At w5 w.heap.size [.int .i64 ty, .int .i64 se, .int .i64 bo, .int .i64 sq, .int .i64 ac, .slice a bd.length c] from
    ⟨ho5, fun g hg => (hg5 g hg).elim (S4.out.2.1 g) (fun e => by omega), S4.out.2.2.1.then hk5 (fun i hi e => by have := S4.out.2.1 i e; omega), hk5.at S4.out.2.2.2 (fun e => by have := S4.out.2.1 _ e; omega)⟩)
  have HR5 := Lib.hid (show (Builtin.append_ #[22, 22] 22 #[.slice a4 20 c4, .slice (some ⟨w4.heap.size, 0, none⟩) 2 2]).run Try.prog (w4.alloc (.cells ((be2 (bd.length : Int)).map (Value.int .u8)).toArray 5)) = .ok (.slice a5 22 c5) w5 from hr5)
  have z5 : w5.cell? ⟨w.heap.size, 5, none⟩ = some (.slice a bd.length c) := by rw [S5.out.2.2.2.cell]; rfl
  clear hr5 ho5 hk5 hg5 hbl5
  obtain ⟨v6, w6, hr6, ho6, hk6, hat6⟩ := run_append_b (P := Try.prog) (t := 22) (tx := 22) (ty := 22) w5 Try.underlying22 elem_u8 Try.underlying22 S5.out.1 (a := a) (c := c) (m := bd) (hr.kp0 S5.out.2.2.1 (fun _ _ h => h)) (by simp [be4, be2]; omega)
  have hk06 : Kp (fun _ => False) w w6 := S5.out.2.2.1.then hk6 (fun i hi e => by have := S5.out.2.1 i e; omega)
  obtain ⟨a6, c6, e6, hrd6, _⟩ := ho6.form
  have CP := rput_any a6 c6 _ w6 hrd6 (by simp [be4, be2]; omega)
  rw [← HL.out] at CP
  subst e6
  rw [show ([83, 75, 1, ty % 256] ++ be4 se ++ be4 bo ++ be4 sq ++ be4 ac ++ be2 (bd.length : Int) ++ bd).length = 22 + bd.length by simp [be4, be2]; omega] at CP hr6
  have CP' := Lib.hid CP
  have HR6 := Lib.hid hr6
  have HK := Lib.hid hk06
  have y5' : w4.cell? ⟨w.heap.size, 5, none⟩ = some (.slice a bd.length c) := by rw [S4.out.2.2.2.cell]; rfl
  clear hr6 ho6 hk6 hat6 hk06 hrd6 CP S4 S5
  have b0 : (bd.length : Int) < 16777216 := by omega
  have tok1 : True := trivial
  have tok2 : True := trivial
  go_wp2_with (first | (at_builtin; have _t := tok1; refine wpList_append_run _ HR4.out rfl rfl rfl rfl ?_; clear tok1) | (at_builtin; have _t := tok2; refine wpList_append_run _ HR5.out rfl rfl rfl rfl ?_; clear tok2) | (at_builtin; refine wpList_append_run _ HR6.out rfl rfl rfl rfl ?_))
  refine CP'.out.mono ?_
  rintro e w7 ⟨v7, rfl, hv7, hg7, hk7⟩
  have HF : Hid (OwnB w7 v7 lf ∧ (∀ g, v7.ownBlock = some g → w.heap.size ≤ g) ∧ Kp (fun _ => False) w w7) := ⟨hv7, fun g hg => by have := hg7 g hg; have := HK.out.size; omega, HK.out.trans hk7⟩
  clear hv7 hg7 hk7 CP'
  go_wp2
  go_ret
  exact ⟨_, rfl, HF.out⟩
theorem rput_ok (f : Fr) (a : Option Addr) (c : Nat) (w : World) (hr : RdB w a f.bd) (hc : f.bd.length ≤ c) (he : errF f = 0) :
    Calls Try.prog 12 #[.agg (frA f a c)] w fun e w' => ∃ v, e = .returned (.tuple #[v, .int .i64 0]) ∧ OwnB w' v (layF f) ∧ (∀ g, v.ownBlock = some g → w.heap.size ≤ g) ∧ Kp (fun _ => False) w w' := by
  obtain ⟨_, _, hlen, _⟩ := errF_ok he
  have C := fun w => rcheckF_any f a c w (by omega)
  rw [he] at C
  have C' := Lib.hid C
  have CL := Lib.hid (fun w' (k : Kp (fun _ => False) w w') => rlay_any f a c w' (hr.kp0 k (fun _ _ h => h)) hc (by omega))
  clear C he
  generalize layF f = lf at *
  obtain ⟨ty, se, bo, sq, ac, bd⟩ := f
  dsimp only [frA] at *
  go_enter Try.func12, Try.ntmps12
  go_wp2_with fail
  refine (C'.out _).mono ?_
  rintro e w1 ⟨rfl, hk⟩
  have hat := hk.at (At.new w [.int .i64 ty, .int .i64 se, .int .i64 bo, .int .i64 sq, .int .i64 ac, .slice a bd.length c] 24) (fun h => h)
  have HK := Lib.hid (((Kp.refl (fun _ => False) w).alloc _).trans hk)
  have x0 : w1.cell? ⟨w.heap.size, 0, none⟩ = some (.int .i64 ty) := by rw [hat.cell]; rfl
  have x1 : w1.cell? ⟨w.heap.size, 1, none⟩ = some (.int .i64 se) := by rw [hat.cell]; rfl
  have x2 : w1.cell? ⟨w.heap.size, 2, none⟩ = some (.int .i64 bo) := by rw [hat.cell]; rfl
  have x3 : w1.cell? ⟨w.heap.size, 3, none⟩ = some (.int .i64 sq) := by rw [hat.cell]; rfl
  have x4 : w1.cell? ⟨w.heap.size, 4, none⟩ = some (.int .i64 ac) := by rw [hat.cell]; rfl
  have x5 : w1.cell? ⟨w.heap.size, 5, none⟩ = some (.slice a bd.length c) := by rw [hat.cell]; rfl
  have CL' := Lib.hid (CL.out w1 HK.out)
  clear hat hk C' CL
  go_wp2_with fail
  refine CL'.out.mono ?_
  rintro e w2 ⟨v2, rfl, hv2, hg2, hk2⟩
  have HF : Hid (OwnB w2 v2 lf ∧ (∀ g, v2.ownBlock = some g → w.heap.size ≤ g) ∧ Kp (fun _ => False) w w2) := ⟨hv2, fun g hg => by have := hg2 g hg; have := HK.out.size; omega, HK.out.trans hk2⟩
  clear hv2 hg2 hk2 CL'
  go_wp2
  go_ret2
  exact ⟨_, rfl, HF.out⟩
theorem rput_bad (f : Fr) (a : Option Addr) (c : Nat) (w : World) (hl : f.bd.length ≤ 4611686018427387904) (he : errF f ≠ 0) :
    Calls Try.prog 12 #[.agg (frA f a c)] w fun e w' => e = .returned (.tuple #[.slice none 0 0, .int .i64 (errF f)]) ∧ Kp (fun _ => False) w w' := by
  have C' := Lib.hid (fun w => rcheckF_any f a c w hl)
  have hne : (errF f != 0) = true := by simpa using he
  clear he
  generalize errF f = er at *
  obtain ⟨ty, se, bo, sq, ac, bd⟩ := f
  dsimp only [frA] at *
  generalize bd.length = n at *
  go_enter Try.func12, Try.ntmps12
  go_wp2_with fail
  refine (C'.out _).mono ?_
  rintro e w1 ⟨rfl, hk⟩
  have HK := Lib.hid (((Kp.refl (fun _ => False) w).alloc _).trans hk)
  clear hk C'
  go_wp2
  go_ret2
  exact ⟨rfl, HK.out⟩
end Go.Proofs.Ytjjoancnkjlaeaa
