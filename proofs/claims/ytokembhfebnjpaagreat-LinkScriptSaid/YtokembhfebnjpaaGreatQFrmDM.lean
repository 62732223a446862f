/- Frames: Read, what it says on numbers; results of a cell and a slot. -/
import Derived.Test.YtokembhfebnjpaaGreatQBaseM
import Derived.Test.YtokembhfebnjpaaGreatQGrdPM
import Derived.Test.YtokembhfebnjpaaGreatQFrmPM
import Derived.Laws.ResultCell
import Derived.Deep.RegionHeld3
import Derived.Deep.DeepCutAuto
namespace Go.Proofs.YtokembhfebnjpaaGreat
set_option maxRecDepth 20000
open Go.RowKit
set_option linter.unusedVariables false
set_option linter.unusedSimpArgs false
def zF : Fr := ⟨0, 0, 0, 0, 0, []⟩
def parse (x : List Int) : Fr := ⟨x.getD 3 0, (num ((x.drop 4).take 4) : Nat), (num ((x.drop 8).take 4) : Nat), (num ((x.drop 12).take 4) : Nat), (num ((x.drop 16).take 4) : Nat), x.drop 22⟩
def errX (x : List Int) : Int :=
 if x.getD 0 0 ≠ 83 ∨ x.getD 1 0 ≠ 75 then 211 else if x.getD 2 0 ≠ 1 then 212 else if ¬ typedP (parse x).ty then 213
 else if ¬ rangeP (parse x).se (parse x).bo (parse x).sq (parse x).ac then 5 else if (num ((x.drop 20).take 2) : Int) ≠ ((parse x).bd.length : Int) then 214 else if says (parse x) = false then 2 else 0
def errR (l : List Int) : Int :=
 if (1426 : Int) < l.length then 3 else if (l.length : Int) < 26 then 4 else if ck l ≠ 0 then 210 else errX (chk l)
def frR (l : List Int) : Fr := if errR l = 0 then parse (chk l) else zF
theorem results_cell_tmp_row {P : Program} {fn : Func} {p u : Tmp} {ty : TypeId} (h : fn.results = #[.cell p ty, .tmp u]) (tmps : Array Value) (w : World) (g : Nat) (t : TypeId) (cs : Array Value) (fr : Nat × Nat) (d : TypeDesc)
 (hp : tmps.getD p undef = .pointer (some ⟨g, 0, none⟩)) (hg : w.heap[g]? = some (.cells cs t fr))
 (hu : P.underlying ty = some d) (hd : (match d with | .struct _ | .array _ _ => true | _ => false) = true) (hi : (P.info? ty).map (·.size) = some cs.size) :
 (results fn tmps).run P w = .ok (.tuple #[.agg cs, tmps.getD u undef]) w := by
 rw [results_cell_tmp h, hp]
 simp [asAddr, Result.andThen, run_loadVar_row w g t ty cs fr d hg hu hd hi]
theorem num_lt4 {l : List Int} (hb : Byt l) (i : Nat) : num ((l.drop i).take 4) < 4294967296 := by
 have h1 : ∀ k, num (((l.drop i).take 4).take k) < 256 ^ k ∨ ((l.drop i).take 4).length < k := fun k => by
  by_cases h : k ≤ ((l.drop i).take 4).length
  · exact .inl (num_take (fun x hx => hb x (List.mem_of_mem_drop (List.mem_of_mem_take hx))) k h)
  · exact .inr (by omega)
 have h2 : ((l.drop i).take 4).length ≤ 4 := by simp; omega
 have h3 := num_take (l := (l.drop i).take 4) (fun x hx => hb x (List.mem_of_mem_drop (List.mem_of_mem_take hx))) ((l.drop i).take 4).length (Nat.le_refl _)
 rw [List.take_length] at h3
 have h4 : 256 ^ ((l.drop i).take 4).length ≤ 256 ^ 4 := Nat.pow_le_pow_right (by decide) h2
 omega
theorem fr_info : (Tryz.prog.info? 34).map (·.size) = some 6 := by kernel_rfl
theorem fr_ret {fn : Func} (hres : fn.results = #[.cell 2 34, .tmp 3]) {w' : World} {g : Nat} {ty se bo sq ac k : Int} {a : Option Addr} {n c : Nat} {act : Act} {Q : Ending → World → Prop} (hat : At w' g [.int .i64 ty, .int .i64 se, .int .i64 bo, .int .i64 sq, .int .i64 ac, .slice a n c])
 (hp : act.tmps.getD 2 undef = .pointer (some ⟨g, 0, none⟩)) (h3 : act.tmps.getD 3 undef = .int .i64 k) (hd : act.defers = []) (h : Q (.returned (.tuple #[.agg #[.int .i64 ty, .int .i64 se, .int .i64 bo, .int .i64 sq, .int .i64 ac, .slice a n c], .int .i64 k])) w') :
 bodyPost Tryz.prog fn Q .ret act w' := by
 obtain ⟨T, hg⟩ := hat
 refine bodyPost_ret (v := .tuple #[.agg #[.int .i64 ty, .int .i64 se, .int .i64 bo, .int .i64 sq, .int .i64 ac, .slice a n c], .int .i64 k]) ?_ hd h
 rw [← h3]
 exact results_cell_tmp_row hres _ _ g T _ (0, 0) _ hp hg Tryz.underlying34 rfl fr_info
theorem six {w w1 : World} {g : Nat} {o0 o1 o2 o3 o4 o5 : Value} (h : At w1 g [o0, o1, o2, o3, o4, o5]) (hg : w.heap.size ≤ g) (hk : Kp (fun _ => False) w w1) (v0 v1 v2 v3 v4 v5 : Value) :
 At ((((((w1.setCell ⟨g, 0, none⟩ v0).setCell ⟨g, 1, none⟩ v1).setCell ⟨g, 2, none⟩ v2).setCell ⟨g, 3, none⟩ v3).setCell ⟨g, 4, none⟩ v4).setCell ⟨g, 5, none⟩ v5) g [v0, v1, v2, v3, v4, v5] ∧
 Kp (fun _ => False) w ((((((w1.setCell ⟨g, 0, none⟩ v0).setCell ⟨g, 1, none⟩ v1).setCell ⟨g, 2, none⟩ v2).setCell ⟨g, 3, none⟩ v3).setCell ⟨g, 4, none⟩ v4).setCell ⟨g, 5, none⟩ v5) :=
 ⟨(((((h.set 0 _).set 1 _).set 2 _).set 3 _).set 4 _).set 5 _, (((((hk.setCell (fun h => by simp at h; omega) _).setCell (fun h => by simp at h; omega) _).setCell (fun h => by simp at h; omega) _).setCell (fun h => by simp at h; omega) _).setCell (fun h => by simp at h; omega) _).setCell (fun h => by simp at h; omega) _⟩
theorem fread_long (a : Option Addr) (cap : Nat) (l : List Int) (w : World) (hl : (1426 : Int) < l.length) (hl2 : l.length ≤ 100000000) :
 Calls Tryz.prog 49 #[.slice a l.length cap] w fun e w' => e = .returned (.tuple #[.agg (frA zF none 0), .int .i64 3]) ∧ Kp (fun _ => False) w w' := by
 generalize l.length = n at *
 go_enter Tryz.func49, Tryz.ntmps49
 go_wp2
 exact fr_ret rfl (At.new w [.int .i64 0, .int .i64 0, .int .i64 0, .int .i64 0, .int .i64 0, .slice none 0 0] _) rfl rfl rfl ⟨rfl, (Kp.refl _ w).alloc _⟩
theorem fread_short (a : Option Addr) (cap : Nat) (l : List Int) (w : World) (hl : (l.length : Int) < 26) :
 Calls Tryz.prog 49 #[.slice a l.length cap] w fun e w' => e = .returned (.tuple #[.agg (frA zF none 0), .int .i64 4]) ∧ Kp (fun _ => False) w w' := by
 generalize l.length = n at *
 go_enter Tryz.func49, Tryz.ntmps49
 go_wp2
 exact fr_ret rfl (At.new w [.int .i64 0, .int .i64 0, .int .i64 0, .int .i64 0, .int .i64 0, .slice none 0 0] _) rfl rfl rfl ⟨rfl, (Kp.refl _ w).alloc _⟩
theorem fread_sum (a : Option Addr) (cap : Nat) (l : List Int) (w : World) (h : RdB w a l) (hcap : l.length ≤ cap) (hcm : cap ≤ maxLen) (h1 : ¬ (1426 : Int) < l.length) (h2 : ¬ (l.length : Int) < 26) (h3 : ck l ≠ 0) :
 Calls Tryz.prog 49 #[.slice a l.length cap] w fun e w' => e = .returned (.tuple #[.agg (frA zF none 0), .int .i64 210]) ∧ Kp (fun _ => False) w w' := by
 have C := Lib.hid (fun w' (k : Kp (fun _ => False) w w') => gcheck a cap l w' (h.kp0 k (fun _ _ h => h)) (by omega) hcap hcm)
 have hne : (ck l != 0) = true := by simpa using h3
 have hne' : (ck l == 0) = false := by simpa using h3
 clear h hcm hcap
 generalize ck l = k at *
 generalize l.length = n at *
 go_enter Tryz.func49, Tryz.ntmps49
 go_wp2_with (go_at_call 58; refine (C.out _ ((Kp.refl _ w).alloc _)).mono ?_; rintro e w1 ⟨v, rfl, hv, hg, kq⟩; have hat := kq.at (At.new w [.int .i64 0, .int .i64 0, .int .i64 0, .int .i64 0, .int .i64 0, .slice none 0 0] 34) (fun h => h); have x0 := (hat.cell 0).trans (show _ = some (.int .i64 0) from rfl); have x1 := (hat.cell 1).trans (show _ = some (.int .i64 0) from rfl); have x2 := (hat.cell 2).trans (show _ = some (.int .i64 0) from rfl); have x3 := (hat.cell 3).trans (show _ = some (.int .i64 0) from rfl); have x4 := (hat.cell 4).trans (show _ = some (.int .i64 0) from rfl); have x5 := (hat.cell 5).trans (show _ = some (.slice none 0 0) from rfl); have hf := fun i => hat.frozen i; have HA := Lib.hid (And.intro hat (((Kp.refl (fun _ => False) w).alloc _).trans kq)); clear hat kq hv hg)
 exact fr_ret rfl (six HA.out.1 (by omega) HA.out.2 _ _ _ _ _ _).1 rfl rfl rfl ⟨rfl, (six HA.out.1 (by omega) HA.out.2 _ _ _ _ _ _).2⟩
theorem fread_m0 (a : Option Addr) (cap : Nat) (l : List Int) (w : World) (h : RdB w a l) (hcap : l.length ≤ cap) (hcm : cap ≤ maxLen) (h1 : ¬ (1426 : Int) < l.length) (h2 : ¬ (l.length : Int) < 26) (h3 : ck l = 0) (h4 : (chk l).getD 0 0 ≠ 83) :
 Calls Tryz.prog 49 #[.slice a l.length cap] w fun e w' => e = .returned (.tuple #[.agg (frA zF none 0), .int .i64 211]) ∧ Kp (fun _ => False) w w' := by
 have C := Lib.hid (fun w' (k : Kp (fun _ => False) w w') => gcheck a cap l w' (h.kp0 k (fun _ _ h => h)) (by omega) hcap hcm)
 rw [h3] at C
 have hxl : (chk l).length + 4 = l.length := by unfold ck at h3; unfold chk; split at h3 <;> simp_all; omega
 have hm : 22 ≤ (chk l).length := by omega
 have hm2 : (chk l).length ≤ 1422 := by omega
 clear h hcm hcap h3 hxl
 generalize chk l = x at *
 obtain ⟨m, hml⟩ : ∃ m, m = x.length := ⟨_, rfl⟩
 rw [← hml] at hm hm2
 have HML := Lib.hid hml
 clear hml
 generalize l.length = n at *
 have i0 : 0 < m := by omega
 have i1 : 1 < m := by omega
 have i2 : 2 < m := by omega
 have i3 : 3 < m := by omega
 go_enter Tryz.func49, Tryz.ntmps49
 go_wp2_with (first | (go_at_call 58; refine (C.out _ ((Kp.refl _ w).alloc _)).mono ?_; rintro e w1 ⟨v, rfl, hv, hg, kq⟩; obtain ⟨xa, xc, rfl, hr, hxc⟩ := hv.form; rw [← HML.out] at hxc hv hg ⊢; have hat := kq.at (At.new w [.int .i64 0, .int .i64 0, .int .i64 0, .int .i64 0, .int .i64 0, .slice none 0 0] 34) (fun h => h); have x0 := (hat.cell 0).trans (show _ = some (.int .i64 0) from rfl); have x1 := (hat.cell 1).trans (show _ = some (.int .i64 0) from rfl); have x2 := (hat.cell 2).trans (show _ = some (.int .i64 0) from rfl); have x3 := (hat.cell 3).trans (show _ = some (.int .i64 0) from rfl); have x4 := (hat.cell 4).trans (show _ = some (.int .i64 0) from rfl); have x5 := (hat.cell 5).trans (show _ = some (.slice none 0 0) from rfl); have hf := fun i => hat.frozen i; obtain ⟨b, off, rfl, g0⟩ := hr.cell 0 (by have := HML.out; omega); obtain ⟨_, _, q1, g1⟩ := hr.cell 1 (by have := HML.out; omega); obtain ⟨_, _, q2, g2⟩ := hr.cell 2 (by have := HML.out; omega); obtain ⟨_, _, q3, g3⟩ := hr.cell 3 (by have := HML.out; omega); cases q1; cases q2; cases q3; rw [Nat.add_zero] at g0; have B3 := hr.bd.getD 3; generalize x.getD 0 0 = c0 at *; have q0 : (c0 == 83) = false := (by simpa using h4); have HA := Lib.hid (And.intro hat (And.intro (((Kp.refl (fun _ => False) w).alloc _).trans kq) (And.intro hv hg))); clear hat kq hv hg hr))
 exact fr_ret rfl (six HA.out.1 (by omega) HA.out.2.1 _ _ _ _ _ _).1 rfl rfl rfl ⟨rfl, (six HA.out.1 (by omega) HA.out.2.1 _ _ _ _ _ _).2⟩
theorem fread_m1 (a : Option Addr) (cap : Nat) (l : List Int) (w : World) (h : RdB w a l) (hcap : l.length ≤ cap) (hcm : cap ≤ maxLen) (h1 : ¬ (1426 : Int) < l.length) (h2 : ¬ (l.length : Int) < 26) (h3 : ck l = 0) (h4 : (chk l).getD 0 0 = 83) (h5 : (chk l).getD 1 0 ≠ 75) :
 Calls Tryz.prog 49 #[.slice a l.length cap] w fun e w' => e = .returned (.tuple #[.agg (frA zF none 0), .int .i64 211]) ∧ Kp (fun _ => False) w w' := by
 have C := Lib.hid (fun w' (k : Kp (fun _ => False) w w') => gcheck a cap l w' (h.kp0 k (fun _ _ h => h)) (by omega) hcap hcm)
 rw [h3] at C
 have hxl : (chk l).length + 4 = l.length := by unfold ck at h3; unfold chk; split at h3 <;> simp_all; omega
 have hm : 22 ≤ (chk l).length := by omega
 have hm2 : (chk l).length ≤ 1422 := by omega
 clear h hcm hcap h3 hxl
 generalize chk l = x at *
 obtain ⟨m, hml⟩ : ∃ m, m = x.length := ⟨_, rfl⟩
 rw [← hml] at hm hm2
 have HML := Lib.hid hml
 clear hml
 generalize l.length = n at *
 have i0 : 0 < m := by omega
 have i1 : 1 < m := by omega
 have i2 : 2 < m := by omega
 have i3 : 3 < m := by omega
 go_enter Tryz.func49, Tryz.ntmps49
 go_wp2_with (first | (go_at_call 58; refine (C.out _ ((Kp.refl _ w).alloc _)).mono ?_; rintro e w1 ⟨v, rfl, hv, hg, kq⟩; obtain ⟨xa, xc, rfl, hr, hxc⟩ := hv.form; rw [← HML.out] at hxc hv hg ⊢; have hat := kq.at (At.new w [.int .i64 0, .int .i64 0, .int .i64 0, .int .i64 0, .int .i64 0, .slice none 0 0] 34) (fun h => h); have x0 := (hat.cell 0).trans (show _ = some (.int .i64 0) from rfl); have x1 := (hat.cell 1).trans (show _ = some (.int .i64 0) from rfl); have x2 := (hat.cell 2).trans (show _ = some (.int .i64 0) from rfl); have x3 := (hat.cell 3).trans (show _ = some (.int .i64 0) from rfl); have x4 := (hat.cell 4).trans (show _ = some (.int .i64 0) from rfl); have x5 := (hat.cell 5).trans (show _ = some (.slice none 0 0) from rfl); have hf := fun i => hat.frozen i; obtain ⟨b, off, rfl, g0⟩ := hr.cell 0 (by have := HML.out; omega); obtain ⟨_, _, q1, g1⟩ := hr.cell 1 (by have := HML.out; omega); obtain ⟨_, _, q2, g2⟩ := hr.cell 2 (by have := HML.out; omega); obtain ⟨_, _, q3, g3⟩ := hr.cell 3 (by have := HML.out; omega); cases q1; cases q2; cases q3; rw [Nat.add_zero] at g0; have B3 := hr.bd.getD 3; rw [h4] at g0; generalize x.getD 1 0 = c1 at *; have q1 : (c1 == 75) = false := (by simpa using h5); have HA := Lib.hid (And.intro hat (And.intro (((Kp.refl (fun _ => False) w).alloc _).trans kq) (And.intro hv hg))); clear hat kq hv hg hr))
 exact fr_ret rfl (six HA.out.1 (by omega) HA.out.2.1 _ _ _ _ _ _).1 rfl rfl rfl ⟨rfl, (six HA.out.1 (by omega) HA.out.2.1 _ _ _ _ _ _).2⟩
theorem fread_v (a : Option Addr) (cap : Nat) (l : List Int) (w : World) (h : RdB w a l) (hcap : l.length ≤ cap) (hcm : cap ≤ maxLen) (h1 : ¬ (1426 : Int) < l.length) (h2 : ¬ (l.length : Int) < 26) (h3 : ck l = 0) (h4 : (chk l).getD 0 0 = 83) (h5 : (chk l).getD 1 0 = 75) (h6 : (chk l).getD 2 0 ≠ 1) :
 Calls Tryz.prog 49 #[.slice a l.length cap] w fun e w' => e = .returned (.tuple #[.agg (frA zF none 0), .int .i64 212]) ∧ Kp (fun _ => False) w w' := by
 have C := Lib.hid (fun w' (k : Kp (fun _ => False) w w') => gcheck a cap l w' (h.kp0 k (fun _ _ h => h)) (by omega) hcap hcm)
 rw [h3] at C
 have hxl : (chk l).length + 4 = l.length := by unfold ck at h3; unfold chk; split at h3 <;> simp_all; omega
 have hm : 22 ≤ (chk l).length := by omega
 have hm2 : (chk l).length ≤ 1422 := by omega
 clear h hcm hcap h3 hxl
 generalize chk l = x at *
 obtain ⟨m, hml⟩ : ∃ m, m = x.length := ⟨_, rfl⟩
 rw [← hml] at hm hm2
 have HML := Lib.hid hml
 clear hml
 generalize l.length = n at *
 have i0 : 0 < m := by omega
 have i1 : 1 < m := by omega
 have i2 : 2 < m := by omega
 have i3 : 3 < m := by omega
 go_enter Tryz.func49, Tryz.ntmps49
 go_wp2_with (first | (go_at_call 58; refine (C.out _ ((Kp.refl _ w).alloc _)).mono ?_; rintro e w1 ⟨v, rfl, hv, hg, kq⟩; obtain ⟨xa, xc, rfl, hr, hxc⟩ := hv.form; rw [← HML.out] at hxc hv hg ⊢; have hat := kq.at (At.new w [.int .i64 0, .int .i64 0, .int .i64 0, .int .i64 0, .int .i64 0, .slice none 0 0] 34) (fun h => h); have x0 := (hat.cell 0).trans (show _ = some (.int .i64 0) from rfl); have x1 := (hat.cell 1).trans (show _ = some (.int .i64 0) from rfl); have x2 := (hat.cell 2).trans (show _ = some (.int .i64 0) from rfl); have x3 := (hat.cell 3).trans (show _ = some (.int .i64 0) from rfl); have x4 := (hat.cell 4).trans (show _ = some (.int .i64 0) from rfl); have x5 := (hat.cell 5).trans (show _ = some (.slice none 0 0) from rfl); have hf := fun i => hat.frozen i; obtain ⟨b, off, rfl, g0⟩ := hr.cell 0 (by have := HML.out; omega); obtain ⟨_, _, q1, g1⟩ := hr.cell 1 (by have := HML.out; omega); obtain ⟨_, _, q2, g2⟩ := hr.cell 2 (by have := HML.out; omega); obtain ⟨_, _, q3, g3⟩ := hr.cell 3 (by have := HML.out; omega); cases q1; cases q2; cases q3; rw [Nat.add_zero] at g0; have B3 := hr.bd.getD 3; rw [h4] at g0; rw [h5] at g1; generalize x.getD 2 0 = c2 at *; have q1 : (c2 == 1) = false := (by simpa using h6); have HA := Lib.hid (And.intro hat (And.intro (((Kp.refl (fun _ => False) w).alloc _).trans kq) (And.intro hv hg))); clear hat kq hv hg hr))
 exact fr_ret rfl (six HA.out.1 (by omega) HA.out.2.1 _ _ _ _ _ _).1 rfl rfl rfl ⟨rfl, (six HA.out.1 (by omega) HA.out.2.1 _ _ _ _ _ _).2⟩
theorem fread_t (a : Option Addr) (cap : Nat) (l : List Int) (w : World) (h : RdB w a l) (hcap : l.length ≤ cap) (hcm : cap ≤ maxLen) (h1 : ¬ (1426 : Int) < l.length) (h2 : ¬ (l.length : Int) < 26) (h3 : ck l = 0) (h4 : (chk l).getD 0 0 = 83) (h5 : (chk l).getD 1 0 = 75) (h6 : (chk l).getD 2 0 = 1) (h7 : ¬ typedP ((chk l).getD 3 0)) :
 Calls Tryz.prog 49 #[.slice a l.length cap] w fun e w' => e = .returned (.tuple #[.agg (frA zF none 0), .int .i64 213]) ∧ Kp (fun _ => False) w w' := by
 have C := Lib.hid (fun w' (k : Kp (fun _ => False) w w') => gcheck a cap l w' (h.kp0 k (fun _ _ h => h)) (by omega) hcap hcm)
 rw [h3] at C
 have hxl : (chk l).length + 4 = l.length := by unfold ck at h3; unfold chk; split at h3 <;> simp_all; omega
 have hm : 22 ≤ (chk l).length := by omega
 have hm2 : (chk l).length ≤ 1422 := by omega
 clear h hcm hcap h3 hxl
 generalize chk l = x at *
 obtain ⟨m, hml⟩ : ∃ m, m = x.length := ⟨_, rfl⟩
 rw [← hml] at hm hm2
 have HML := Lib.hid hml
 clear hml
 generalize l.length = n at *
 have CK := Lib.hid (fun w' => known_any (x.getD 3 0) w')
 rw [show decide (typedP (x.getD 3 0)) = false by simpa using h7] at CK
 have i0 : 0 < m := by omega
 have i1 : 1 < m := by omega
 have i2 : 2 < m := by omega
 have i3 : 3 < m := by omega
 go_enter Tryz.func49, Tryz.ntmps49
 go_wp2_with (first | (go_at_call 58; refine (C.out _ ((Kp.refl _ w).alloc _)).mono ?_; rintro e w1 ⟨v, rfl, hv, hg, kq⟩; obtain ⟨xa, xc, rfl, hr, hxc⟩ := hv.form; rw [← HML.out] at hxc hv hg ⊢; have hat := kq.at (At.new w [.int .i64 0, .int .i64 0, .int .i64 0, .int .i64 0, .int .i64 0, .slice none 0 0] 34) (fun h => h); have x0 := (hat.cell 0).trans (show _ = some (.int .i64 0) from rfl); have x1 := (hat.cell 1).trans (show _ = some (.int .i64 0) from rfl); have x2 := (hat.cell 2).trans (show _ = some (.int .i64 0) from rfl); have x3 := (hat.cell 3).trans (show _ = some (.int .i64 0) from rfl); have x4 := (hat.cell 4).trans (show _ = some (.int .i64 0) from rfl); have x5 := (hat.cell 5).trans (show _ = some (.slice none 0 0) from rfl); have hf := fun i => hat.frozen i; obtain ⟨b, off, rfl, g0⟩ := hr.cell 0 (by have := HML.out; omega); obtain ⟨_, _, q1, g1⟩ := hr.cell 1 (by have := HML.out; omega); obtain ⟨_, _, q2, g2⟩ := hr.cell 2 (by have := HML.out; omega); obtain ⟨_, _, q3, g3⟩ := hr.cell 3 (by have := HML.out; omega); cases q1; cases q2; cases q3; rw [Nat.add_zero] at g0; have B3 := hr.bd.getD 3; rw [h4] at g0; rw [h5] at g1; rw [h6] at g2; generalize x.getD 3 0 = c3 at *; have HA := Lib.hid (And.intro hat (And.intro (((Kp.refl (fun _ => False) w).alloc _).trans kq) (And.intro hv hg))); clear hat kq hv hg hr) | (go_at_call 59; refine (CK.out _).mono ?_; rintro e w2 ⟨rfl, rfl⟩))
 exact fr_ret rfl (six HA.out.1 (by omega) HA.out.2.1 _ _ _ _ _ _).1 rfl rfl rfl ⟨rfl, (six HA.out.1 (by omega) HA.out.2.1 _ _ _ _ _ _).2⟩
theorem num_at {w : World} {b off : Nat} {x : List Int} (h : RdB w (some ⟨b, off, none⟩) x) (i k : Nat) (hi : i + k ≤ x.length) (hk : k ≤ 4) (cap : Nat) :
 Calls Tryz.prog 60 #[.slice (some ⟨b, off + i, none⟩) k cap] w fun e w' => e = .returned (.int .i64 ((num ((x.drop i).take k) : Nat) : Int)) ∧ w = w' := by
 have e : ((x.drop i).take k).length = k := by simp; omega
 have := number_any (some ⟨b, off + i, none⟩) cap ((x.drop i).take k) w (h.slice i k) (by omega)
 rwa [e] at this
theorem fr_bad {x : List Int} {er k : Int} {FX : Fr} (hx : errX x = er) (hF : (if errX x = 0 then parse x else zF) = FX) (hk : errX x = k) (h0 : k ≠ 0) {w w' : World} (kk : Kp (fun _ => False) w w') : ∃ A c, Ending.returned (.tuple #[.agg #[.int .i64 0, .int .i64 0, .int .i64 0, .int .i64 0, .int .i64 0, .slice none 0 0], .int .i64 k]) = .returned (.tuple #[.agg (frA FX A c), .int .i64 er]) ∧ RdB w' A FX.bd ∧ (∀ g, (Value.slice A 0 c).ownBlock = some g → w.heap.size ≤ g) ∧ Kp (fun _ => False) w w' := by
 rw [hk, if_neg h0] at hF
 rw [hk] at hx
 subst hx; subst hF
 exact ⟨none, 0, rfl, RdB.nil _ _, fun g hg => by simp [Value.ownBlock] at hg, kk⟩
theorem errX_4 {x : List Int} (h4 : x.getD 0 0 = 83) (h5 : x.getD 1 0 = 75) (h6 : x.getD 2 0 = 1) (h7 : typedP (x.getD 3 0)) :
 errX x = if ¬ rangeP (parse x).se (parse x).bo (parse x).sq (parse x).ac then 5 else if (num ((x.drop 20).take 2) : Int) ≠ ((x.length - 22 : Nat) : Int) then 214 else if says (parse x) = false then 2 else 0 := by
 unfold errX
 rw [if_neg (by rintro (h | h); exact h h4; exact h h5), if_neg (fun h => h h6), if_neg (fun h => h h7)]
 rw [show (parse x).bd.length = x.length - 22 by simp [parse]]
def mx4 (a b c d : Int) : Int := max (max (max a b) c) d
theorem run_max4 (w : World) (ts : Array TypeId) (t : TypeId) (a b c d : Int) : (Builtin.max_ ts t #[.int .i64 a, .int .i64 b, .int .i64 c, .int .i64 d]).run Tryz.prog w = .ok (.int .i64 (mx4 a b c d)) w := by
 simp [Builtin.max_, Builtin.max2, mx4]
 omega
set_option maxHeartbeats 4000000 in
set_option maxRecDepth 20000 in
theorem fread_rest (a : Option Addr) (cap : Nat) (l : List Int) (w : World) (h : RdB w a l) (hcap : l.length ≤ cap) (hcm : cap ≤ maxLen) (h1 : ¬ (1426 : Int) < l.length) (h2 : ¬ (l.length : Int) < 26) (h3 : ck l = 0) (h4 : (chk l).getD 0 0 = 83) (h5 : (chk l).getD 1 0 = 75) (h6 : (chk l).getD 2 0 = 1) (h7 : typedP ((chk l).getD 3 0)) :
 Calls Tryz.prog 49 #[.slice a l.length cap] w fun e w' => ∃ A c, e = .returned (.tuple #[.agg (frA (if errX (chk l) = 0 then parse (chk l) else zF) A c), .int .i64 (errX (chk l))]) ∧ RdB w' A (if errX (chk l) = 0 then parse (chk l) else zF).bd ∧ (∀ g, (Value.slice A 0 c).ownBlock = some g → w.heap.size ≤ g) ∧ Kp (fun _ => False) w w' := by
 have C := Lib.hid (fun w' (k : Kp (fun _ => False) w w') => gcheck a cap l w' (h.kp0 k (fun _ _ h => h)) (by omega) hcap hcm)
 rw [h3] at C
 have hxl : (chk l).length + 4 = l.length := by unfold ck at h3; unfold chk; split at h3 <;> simp_all; omega
 have hm : 22 ≤ (chk l).length := by omega
 have hm2 : (chk l).length ≤ 1422 := by omega
 clear h hcm hcap h3 hxl
 generalize chk l = x at *
 obtain ⟨m, hml⟩ : ∃ m, m = x.length := ⟨_, rfl⟩
 rw [← hml] at hm hm2
 have HML := Lib.hid hml
 clear hml
 generalize l.length = n at *
 have CK := Lib.hid (fun w' => known_any (x.getD 3 0) w')
 rw [show decide (typedP (x.getD 3 0)) = true by simpa using h7] at CK
 have i0 : 0 < m := by omega
 have i1 : 1 < m := by omega
 have i2 : 2 < m := by omega
 have i3 : 3 < m := by omega
 obtain ⟨nf, hnf⟩ : ∃ nf : Nat → Nat → Nat, Hid (∀ i k, nf i k = num ((x.drop i).take k)) := ⟨_, fun _ _ => rfl⟩
 have HER := Lib.hid (errX_4 h4 h5 h6 h7)
 obtain ⟨FX, hFX⟩ : ∃ FX, Hid ((if errX x = 0 then parse x else zF) = FX) := ⟨_, rfl⟩
 obtain ⟨er, her⟩ : ∃ er, Hid (errX x = er) := ⟨_, rfl⟩
 rw [hFX.out, her.out]
 have h7' := Lib.hid h7
 generalize hc3 : x.getD 3 0 = c3 at *
 go_enter Tryz.func49, Tryz.ntmps49
 go_upto_region 14 with (first | (go_at_call 58; refine (C.out _ ((Kp.refl _ w).alloc _)).mono ?_; rintro e w1 ⟨v, rfl, hv, hg, kq⟩; obtain ⟨xa, xc, rfl, hr, hxc⟩ := hv.form; rw [← HML.out] at hxc hv hg ⊢; have hat := kq.at (At.new w [.int .i64 0, .int .i64 0, .int .i64 0, .int .i64 0, .int .i64 0, .slice none 0 0] 34) (fun h => h); have x0 := (hat.cell 0).trans (show _ = some (.int .i64 0) from rfl); have x1 := (hat.cell 1).trans (show _ = some (.int .i64 0) from rfl); have x2 := (hat.cell 2).trans (show _ = some (.int .i64 0) from rfl); have x3 := (hat.cell 3).trans (show _ = some (.int .i64 0) from rfl); have x4 := (hat.cell 4).trans (show _ = some (.int .i64 0) from rfl); have x5 := (hat.cell 5).trans (show _ = some (.slice none 0 0) from rfl); have hf := fun i => hat.frozen i; obtain ⟨b, off, rfl, g0⟩ := hr.cell 0 (by have := HML.out; omega); obtain ⟨_, _, q1, g1⟩ := hr.cell 1 (by have := HML.out; omega); obtain ⟨_, _, q2, g2⟩ := hr.cell 2 (by have := HML.out; omega); obtain ⟨_, _, q3, g3⟩ := hr.cell 3 (by have := HML.out; omega); cases q1; cases q2; cases q3; rw [Nat.add_zero] at g0; have B3 := hr.bd.getD 3; rw [h4] at g0; rw [h5] at g1; rw [h6] at g2; rw [hc3] at g3 B3; have HA := Lib.hid (And.intro hat (And.intro (((Kp.refl (fun _ => False) w).alloc _).trans kq) (And.intro hv hg))); clear hat kq hv hg; have HR := Lib.hid hr; clear hr) | (go_at_call 59; refine (CK.out _).mono ?_; rintro e w2 ⟨rfl, rfl⟩))
 have NQ := fun (w' : World) (kk : Kp (fun _ => False) w1 w') (i k : Nat) (hi : i + k ≤ m) (hk : k ≤ 4) (cap : Nat) => num_at (HR.out.kp0 kk (fun _ _ h => h)) i k (by rw [← HML.out]; exact hi) hk cap
 simp only [← hnf.out] at NQ
 have HNQ := Lib.hid NQ
 have b4 : nf 4 4 < 4294967296 := by rw [hnf.out]; exact num_lt4 HR.out.bd 4
 have b8 : nf 8 4 < 4294967296 := by rw [hnf.out]; exact num_lt4 HR.out.bd 8
 have b12 : nf 12 4 < 4294967296 := by rw [hnf.out]; exact num_lt4 HR.out.bd 12
 have b16 : nf 16 4 < 4294967296 := by rw [hnf.out]; exact num_lt4 HR.out.bd 16
 have HB4 := Lib.hid (And.intro b4 (And.intro b8 (And.intro b12 b16)))
 clear NQ b4 b8 b12 b16
 have HX := Lib.hid (And.intro x0 (And.intro x1 (And.intro x2 (And.intro x3 (And.intro x4 (And.intro x5 hf))))))
 have HC3 := Lib.hid hc3
 clear x0 x1 x2 x3 x4 x5 hf g0 g1 g2 i0 i1 i2 h1 h2 h4 h5 h6 hc3 h7
 have j22 : 22 ≤ xc := by omega
 have HM2 := Lib.hid hm2
 clear hm2
 have n4 : ¬ xc = 4 := by omega
 have n8 : ¬ xc = 8 := by omega
 have n12 : ¬ xc = 12 := by omega
 have n16 : ¬ xc = 16 := by omega
 have y4 : 4 ≤ xc := by omega
 have z4 : (4 : Int) ≤ (xc : Int) := by omega
 have y8 : 8 ≤ xc := by omega
 have z8 : (8 : Int) ≤ (xc : Int) := by omega
 have y12 : 12 ≤ xc := by omega
 have z12 : (12 : Int) ≤ (xc : Int) := by omega
 have y16 : 16 ≤ xc := by omega
 have z16 : (16 : Int) ≤ (xc : Int) := by omega
 have y20 : 20 ≤ xc := by omega
 have z20 : (20 : Int) ≤ (xc : Int) := by omega
 have z3 : (3 : Int) < (m : Int) := by omega
 have zm : (22 : Int) ≤ (m : Int) := by omega
 have ze : (m : Int) ≤ (xc : Int) := by omega
 have hw3 : IntKind.i64.wrap c3 = c3 := IntWalk.i64_in _ (by omega)
 have g3d : w1.drew.cell? ⟨b, off + 3, none⟩ = some (.int .u8 c3) := g3
 have K0 : Kp (fun _ => False) w1 w1.drew := (Kp.refl _ w1).drew
 obtain ⟨A22, hA22⟩ : ∃ A : Option Addr, Hid ((if xc = 22 then some ⟨b, off, none⟩ else some ⟨b, off + 22, none⟩) = A) := ⟨_, rfl⟩
 obtain ⟨g, hg⟩ : ∃ g, Hid (w1.heap.size = g) := ⟨_, rfl⟩
 go_cut [6] (fun s wx => s = .pointer (some ⟨g, 0, none⟩) ∧ At wx g [.int .i64 c3, .int .i64 (nf 4 4 : Nat), .int .i64 (nf 8 4 : Nat), .int .i64 (nf 12 4 : Nat), .int .i64 (nf 16 4 : Nat), .slice A22 (m - 22) (xc - 22)] ∧ Kp (fun _ => False) w1 wx)
 case first =>
  by_cases e22 : xc = 22
  · have e' := hA22.out
    rw [if_pos e22] at e'
    replace e' := Lib.hid e'
    subst e22
    go_region_held3 (fun w' => Kp (fun _ => False) w1 w' ∧ w'.cell? ⟨b, off + 3, none⟩ = some (.int .u8 c3)) (first | assumption | exact ⟨K0, g3⟩ | exact ⟨((Kp.refl _ w1).alloc _).drew, Kp.cell ((Kp.refl (fun _ => False) w1).alloc _).drew g3 (fun h => h)⟩ | (go_split_ands; exact ⟨Kp.alloc ‹_› _, Kp.cell (Kp.alloc (Kp.refl (fun _ => False) _) _) ‹_› (fun h => h)⟩)) (first | (go_at_call 60; (with_reducible refine (HNQ.out _ ?_ _ _ (by omega) (by omega) _).mono ?_); (go_split_ands; assumption); rintro e w2 ⟨rfl, rfl⟩))
    all_goals (go_wp2_with fail; go_meet; exact ⟨by rw [hg.out], by rw [← e'.out, ← hg.out, show m - 22 = 0 by omega]; exact (At.new w1 _ _).drew, ((Kp.refl _ w1).alloc _).drew⟩)
  · have e' := hA22.out
    rw [if_neg e22] at e'
    replace e' := Lib.hid e'
    go_region_held3 (fun w' => Kp (fun _ => False) w1 w' ∧ w'.cell? ⟨b, off + 3, none⟩ = some (.int .u8 c3)) (first | assumption | exact ⟨K0, g3⟩ | exact ⟨((Kp.refl _ w1).alloc _).drew, Kp.cell ((Kp.refl (fun _ => False) w1).alloc _).drew g3 (fun h => h)⟩ | (go_split_ands; exact ⟨Kp.alloc ‹_› _, Kp.cell (Kp.alloc (Kp.refl (fun _ => False) _) _) ‹_› (fun h => h)⟩)) (first | (go_at_call 60; (with_reducible refine (HNQ.out _ ?_ _ _ (by omega) (by omega) _).mono ?_); (go_split_ands; assumption); rintro e w2 ⟨rfl, rfl⟩))
    all_goals (go_wp2_with fail; go_meet; exact ⟨by rw [hg.out], by rw [← e'.out, ← hg.out]; exact (At.new w1 _ _).drew, ((Kp.refl _ w1).alloc _).drew⟩)
 case rest =>
  obtain ⟨rfl, hatx, kx⟩ := hcut
  obtain ⟨r, hr⟩ : ∃ r, Hid (m - 22 = r) := ⟨_, rfl⟩
  rw [hr.out] at hatx
  have hPX : Hid (frA (parse x) A22 (xc - 22) = #[.int .i64 c3, .int .i64 (nf 4 4 : Nat), .int .i64 (nf 8 4 : Nat), .int .i64 (nf 12 4 : Nat), .int .i64 (nf 16 4 : Nat), .slice A22 r (xc - 22)]) := by
   show _ = _
   simp only [frA, parse, List.length_drop, hnf.out, HC3.out, ← HML.out, hr.out]
  have hrg : Hid (rangeP (parse x).se (parse x).bo (parse x).sq (parse x).ac ↔ ¬ (2147483647 : Int) < mx4 (nf 4 4 : Nat) (nf 8 4 : Nat) (nf 12 4 : Nat) (nf 16 4 : Nat)) := by
   show _ ↔ _
   simp only [parse, rangeP, mx4, hnf.out]
   omega
  have hatx' := Lib.hid hatx
  have q1 : wc.cell? ⟨g, 1, none⟩ = some (.int .i64 (nf 4 4 : Nat)) := (hatx.cell 1).trans rfl
  have q2 : wc.cell? ⟨g, 2, none⟩ = some (.int .i64 (nf 8 4 : Nat)) := (hatx.cell 2).trans rfl
  have q3 : wc.cell? ⟨g, 3, none⟩ = some (.int .i64 (nf 12 4 : Nat)) := (hatx.cell 3).trans rfl
  have q4 : wc.cell? ⟨g, 4, none⟩ = some (.int .i64 (nf 16 4 : Nat)) := (hatx.cell 4).trans rfl
  have hat2 := kx.at HA.out.1 (fun h => h)
  have kw := HA.out.2.1.trans kx
  have H2 := Lib.hid (And.intro hat2 kw)
  have x0 := (hat2.cell 0).trans (show _ = some (.int .i64 0) from rfl)
  have x1 := (hat2.cell 1).trans (show _ = some (.int .i64 0) from rfl)
  have x2 := (hat2.cell 2).trans (show _ = some (.int .i64 0) from rfl)
  have x3 := (hat2.cell 3).trans (show _ = some (.int .i64 0) from rfl)
  have x4 := (hat2.cell 4).trans (show _ = some (.int .i64 0) from rfl)
  have x5 := (hat2.cell 5).trans (show _ = some (.slice none 0 0) from rfl)
  have hf := fun i => hat2.frozen i
  have RM := fun w' => run_max4 w' #[3, 3, 3, 3] 3 (nf 4 4 : Nat) (nf 8 4 : Nat) (nf 12 4 : Nat) (nf 16 4 : Nat)
  obtain ⟨M, hM⟩ : ∃ M : Int, Hid (mx4 (nf 4 4 : Nat) (nf 8 4 : Nat) (nf 12 4 : Nat) (nf 16 4 : Nat) = M) := ⟨_, rfl⟩
  simp only [hM.out] at RM
  have hrg' : Hid (rangeP (parse x).se (parse x).bo (parse x).sq (parse x).ac ↔ ¬ (2147483647 : Int) < M) := by have := hrg.out; rwa [hM.out] at this
  have KX := Lib.hid kx
  clear hrg hatx hat2 kw kx g3 g3d K0 n4 n8 n12 n16 y4 y8 y12 y16 z4 z8 z12 z16 z3 hw3
  by_cases h5 : (2147483647 : Int) < M
  · have e5 : Hid (errX x = 5) := by show _ = _; rw [HER.out, if_pos (fun h => hrg'.out.1 h h5)]
    go_wp2
    exact fr_ret rfl (six H2.out.1 (Nat.le_refl _) H2.out.2 _ _ _ _ _ _).1 rfl rfl rfl (fr_bad her.out hFX.out e5.out (by decide) (six H2.out.1 (Nat.le_refl _) H2.out.2 _ _ _ _ _ _).2)
  · have e5 : Hid (errX x = if (num ((x.drop 20).take 2) : Int) ≠ ((x.length - 22 : Nat) : Int) then 214 else if says (parse x) = false then 2 else 0) := by show _ = _; rw [HER.out, if_neg (fun h => h (hrg'.out.2 h5))]
    have q5 : wc.cell? ⟨g, 5, none⟩ = some (.slice A22 r (xc - 22)) := (hatx'.out.cell 5).trans rfl
    have C17 := fun (cap n : Nat) => Calls.quiet_of_same (n := n) (Calls.turn (HNQ.out (wc.drewN n) (KX.out.drewN n) 20 2 (by omega) (by omega) cap))
    have n20 : ¬ xc = 20 := by omega
    have y22 : 22 ≤ xc := by omega
    have z22 : (22 : Int) ≤ (xc : Int) := by omega
    obtain ⟨q, hq⟩ : ∃ q, Hid (nf 20 2 = q) := ⟨_, rfl⟩
    simp only [hq.out] at C17
    have e6 : Hid (((num ((x.drop 20).take 2) : Nat) : Int) = (q : Int)) := by show _ = _; rw [← hq.out, hnf.out]
    have e7 : Hid (((x.length - 22 : Nat) : Int) = (r : Int)) := by show _ = _; rw [← HML.out, hr.out]
    by_cases h6 : q = r
    · subst h6
      have e8 : Hid (errX x = if says (parse x) = false then 2 else 0) := by show _ = _; rw [e5.out, e6.out, e7.out, if_neg (fun h => h rfl)]
      have CA := Lib.hid (fun w' => as_any (parse x) A22 (xc - 22) w' (by show typedP (x.getD 3 0); rw [HC3.out]; exact h7'.out) (hrg'.out.2 h5) (by rw [show (parse x).bd.length = x.length - 22 by simp [parse], ← HML.out]; have := HM2.out; omega))
      rw [hPX.out] at CA
      obtain ⟨sy, hsy⟩ : ∃ sy, Hid (says (parse x) = sy) := ⟨_, rfl⟩
      rw [hsy.out] at CA e8
      have q0 : wc.cell? ⟨g, 0, none⟩ = some (.int .i64 c3) := (hatx'.out.cell 0).trans rfl
      have h6a : ((q : Int) == (q : Int)) = true := by simp
      have h6b : ((q : Int) != (q : Int)) = false := by simp
      go_wp2_with fail
      go_quiet (exact C17 _ _)
      cases sy with
      | true =>
       have e9 : Hid (errX x = 0) := by show _ = _; rw [e8.out]; rfl
       go_wp2_with (go_at_call 61; refine (CA.out _).mono ?_; rintro e w3 ⟨rfl, k3⟩; have hat3 := k3.at (H2.out.1.drewN _) (fun h => h); have hatx3 := k3.at (hatx'.out.drewN _) (fun h => h); have H3 := Lib.hid (And.intro hat3 ((H2.out.2.drewN _).trans k3)); have k3' := k3; have x0 := (hat3.cell 0).trans (show _ = some (.int .i64 0) from rfl); have x1 := (hat3.cell 1).trans (show _ = some (.int .i64 0) from rfl); have x2 := (hat3.cell 2).trans (show _ = some (.int .i64 0) from rfl); have x3 := (hat3.cell 3).trans (show _ = some (.int .i64 0) from rfl); have x4 := (hat3.cell 4).trans (show _ = some (.int .i64 0) from rfl); have x5 := (hat3.cell 5).trans (show _ = some (.slice none 0 0) from rfl); have hf := fun i => hat3.frozen i; have q0 := (hatx3.cell 0).trans (show _ = some (.int .i64 c3) from rfl); have q1 := (hatx3.cell 1).trans (show _ = some (.int .i64 (nf 4 4 : Nat)) from rfl); have q2 := (hatx3.cell 2).trans (show _ = some (.int .i64 (nf 8 4 : Nat)) from rfl); have q3 := (hatx3.cell 3).trans (show _ = some (.int .i64 (nf 12 4 : Nat)) from rfl); have q4 := (hatx3.cell 4).trans (show _ = some (.int .i64 (nf 16 4 : Nat)) from rfl); have q5 := (hatx3.cell 5).trans (show _ = some (.slice A22 q (xc - 22)) from rfl); clear hat3 hatx3 k3)
       go_wp2
       refine fr_ret rfl (six H3.out.1 (Nat.le_refl _) H3.out.2 _ _ _ _ _ _).1 rfl rfl rfl ⟨A22, xc - 22, ?_, ?_, ?_, (six H3.out.1 (Nat.le_refl _) H3.out.2 _ _ _ _ _ _).2⟩
       · rw [← her.out, ← hFX.out, e9.out, if_pos rfl, hPX.out]
       · rw [← hFX.out, e9.out, if_pos rfl]
         have hrx := HR.out.mid2 (cap := xc) 22 (m - 22) (by rw [← HML.out]; omega) (by rw [← HML.out]; omega)
         rw [hA22.out, List.take_of_length_le (by rw [List.length_drop, ← HML.out]; omega)] at hrx
         have hbw := HA.out.2.2.2 b rfl
         simp at hbw
         refine hrx.kp (S := (· = w.heap.size)) (((((((((KX.out.drewN _).trans k3').mono (S' := (· = w.heap.size)) (fun _ _ h => h.elim)).setCell (fun _ => rfl) _).setCell (fun _ => rfl) _).setCell (fun _ => rfl) _).setCell (fun _ => rfl) _).setCell (fun _ => rfl) _).setCell (fun _ => rfl) _) (fun y hy e => ?_)
         have : y.block = b := by rw [← hA22.out] at hy; split at hy <;> (cases hy; rfl)
         omega
       · intro g' hg'
         have hbw := HA.out.2.2.2 b rfl
         have : g' = b := by rw [← hA22.out] at hg'; split at hg' <;> simpa [Value.ownBlock, eq_comm] using hg'
         simp at hbw
         omega
      | false =>
       have e9 : Hid (errX x = 2) := by show _ = _; rw [e8.out]; rfl
       go_wp2_with (go_at_call 61; refine (CA.out _).mono ?_; rintro e w3 ⟨rfl, k3⟩; have hat3 := k3.at (H2.out.1.drewN _) (fun h => h); have hatx3 := k3.at (hatx'.out.drewN _) (fun h => h); have H3 := Lib.hid (And.intro hat3 ((H2.out.2.drewN _).trans k3)); have k3' := k3; have x0 := (hat3.cell 0).trans (show _ = some (.int .i64 0) from rfl); have x1 := (hat3.cell 1).trans (show _ = some (.int .i64 0) from rfl); have x2 := (hat3.cell 2).trans (show _ = some (.int .i64 0) from rfl); have x3 := (hat3.cell 3).trans (show _ = some (.int .i64 0) from rfl); have x4 := (hat3.cell 4).trans (show _ = some (.int .i64 0) from rfl); have x5 := (hat3.cell 5).trans (show _ = some (.slice none 0 0) from rfl); have hf := fun i => hat3.frozen i; have q0 := (hatx3.cell 0).trans (show _ = some (.int .i64 c3) from rfl); have q1 := (hatx3.cell 1).trans (show _ = some (.int .i64 (nf 4 4 : Nat)) from rfl); have q2 := (hatx3.cell 2).trans (show _ = some (.int .i64 (nf 8 4 : Nat)) from rfl); have q3 := (hatx3.cell 3).trans (show _ = some (.int .i64 (nf 12 4 : Nat)) from rfl); have q4 := (hatx3.cell 4).trans (show _ = some (.int .i64 (nf 16 4 : Nat)) from rfl); have q5 := (hatx3.cell 5).trans (show _ = some (.slice A22 q (xc - 22)) from rfl); clear hat3 hatx3 k3)
       go_wp2
       exact fr_ret rfl (six H3.out.1 (Nat.le_refl _) H3.out.2 _ _ _ _ _ _).1 rfl rfl rfl (fr_bad her.out hFX.out e9.out (by decide) (six H3.out.1 (Nat.le_refl _) H3.out.2 _ _ _ _ _ _).2)
    · have h6' : ¬ (q : Int) = (r : Int) := by omega
      have h6a : ((q : Int) == (r : Int)) = false := by simpa using h6'
      have h6b : ((q : Int) != (r : Int)) = true := by simpa using h6'
      have e8 : Hid (errX x = 214) := by show _ = _; rw [e5.out, e6.out, e7.out, if_pos h6']
      go_wp2_with fail
      go_quiet (exact C17 _ _)
      go_wp2
      exact fr_ret rfl (six (H2.out.1.drewN _) (Nat.le_refl _) (H2.out.2.drewN _) _ _ _ _ _ _).1 rfl rfl rfl (fr_bad her.out hFX.out e8.out (by decide) (six (H2.out.1.drewN _) (Nat.le_refl _) (H2.out.2.drewN _) _ _ _ _ _ _).2)
 done
theorem ex_1 {x : List Int} (h : x.getD 0 0 ≠ 83) : errX x = 211 := by unfold errX; rw [if_pos (Or.inl h)]
theorem ex_1b {x : List Int} (h : x.getD 1 0 ≠ 75) : errX x = 211 := by unfold errX; rw [if_pos (Or.inr h)]
theorem ex_2 {x : List Int} (h4 : x.getD 0 0 = 83) (h5 : x.getD 1 0 = 75) (h6 : x.getD 2 0 ≠ 1) : errX x = 212 := by
 unfold errX; rw [if_neg (by rintro (h | h); exact h h4; exact h h5), if_pos h6]
theorem ex_3 {x : List Int} (h4 : x.getD 0 0 = 83) (h5 : x.getD 1 0 = 75) (h6 : x.getD 2 0 = 1) (h7 : ¬ typedP (x.getD 3 0)) : errX x = 213 := by
 unfold errX; rw [if_neg (by rintro (h | h); exact h h4; exact h h5), if_neg (fun h => h h6), if_pos (show ¬ typedP (parse x).ty from h7)]
def RdOut (l : List Int) (w : World) (e : Ending) (w' : World) : Prop :=
 ∃ A c, e = .returned (.tuple #[.agg (frA (frR l) A c), .int .i64 (errR l)]) ∧ RdB w' A (frR l).bd ∧ (∀ g, (Value.slice A 0 c).ownBlock = some g → w.heap.size ≤ g) ∧ Kp (fun _ => False) w w'
theorem rdout_bad {l : List Int} {w : World} {k : Int} (he : errR l = k) (h0 : k ≠ 0) {e : Ending} {w' : World} (h : e = .returned (.tuple #[.agg (frA zF none 0), .int .i64 k]) ∧ Kp (fun _ => False) w w') : RdOut l w e w' := by
 have hf : frR l = zF := by unfold frR; rw [he, if_neg h0]
 unfold RdOut
 rw [hf, he]
 exact ⟨none, 0, h.1, RdB.nil _ _, fun g hg => by simp [Value.ownBlock] at hg, h.2⟩
theorem errR_x {l : List Int} (h1 : ¬ (1426 : Int) < l.length) (h2 : ¬ (l.length : Int) < 26) (h3 : ck l = 0) : errR l = errX (chk l) := by
 unfold errR; rw [if_neg h1, if_neg h2, if_neg (fun h => h h3)]
theorem fread_any (a : Option Addr) (cap : Nat) (l : List Int) (w : World) (h : RdB w a l) (hl : l.length ≤ 100000000) (hcap : l.length ≤ cap) (hcm : cap ≤ maxLen) :
 Calls Tryz.prog 49 #[.slice a l.length cap] w (RdOut l w) := by
 by_cases h1 : (1426 : Int) < l.length
 · exact (fread_long a cap l w h1 hl).mono fun e w' => rdout_bad (by unfold errR; rw [if_pos h1]) (by decide)
 by_cases h2 : (l.length : Int) < 26
 · exact (fread_short a cap l w h2).mono fun e w' => rdout_bad (by unfold errR; rw [if_neg h1, if_pos h2]) (by decide)
 by_cases h3 : ck l = 0
 · have he := errR_x h1 h2 h3
   by_cases h4 : (chk l).getD 0 0 = 83
   · by_cases h5 : (chk l).getD 1 0 = 75
     · by_cases h6 : (chk l).getD 2 0 = 1
       · by_cases h7 : typedP ((chk l).getD 3 0)
         · have := fread_rest a cap l w h hcap hcm h1 h2 h3 h4 h5 h6 h7
           rw [← he] at this
           exact this
         · exact (fread_t a cap l w h hcap hcm h1 h2 h3 h4 h5 h6 h7).mono fun e w' => rdout_bad (he.trans (ex_3 h4 h5 h6 h7)) (by decide)
       · exact (fread_v a cap l w h hcap hcm h1 h2 h3 h4 h5 h6).mono fun e w' => rdout_bad (he.trans (ex_2 h4 h5 h6)) (by decide)
     · exact (fread_m1 a cap l w h hcap hcm h1 h2 h3 h4 h5).mono fun e w' => rdout_bad (he.trans (ex_1b h5)) (by decide)
   · exact (fread_m0 a cap l w h hcap hcm h1 h2 h3 h4).mono fun e w' => rdout_bad (he.trans (ex_1 h4)) (by decide)
 · exact (fread_sum a cap l w h hcap hcm h1 h2 h3).mono fun e w' => rdout_bad (by unfold errR; rw [if_neg h1, if_neg h2, if_pos h3]) (by decide)
theorem put4_take (l : List Int) : (put4 l).take ((put4 l).length - 4) = l := by
 rw [put4_len]; simp [put4]
theorem ok4_put4 (l : List Int) : ok4 (put4 l) = true := by
 unfold ok4; rw [put4_take, put4_len]; simp
theorem ck_put4 (l : List Int) : ck (put4 l) = 0 := by unfold ck; rw [ok4_put4]; rfl
theorem chk_put4 (l : List Int) : chk (put4 l) = l := by unfold chk; rw [ok4_put4]; exact put4_take l
theorem layF_len (f : Fr) : (layF f).length = f.bd.length + 26 := by unfold layF; rw [put4_len, head4_len]
theorem num_be4 {n : Int} (h : 0 ≤ n ∧ n ≤ 2147483647) : ((num (be4 n) : Nat) : Int) = n := by
 simp [num, be4]; omega
theorem num_be2 {n : Int} (h : 0 ≤ n ∧ n ≤ 65535) : ((num (be2 n) : Nat) : Int) = n := by
 simp [num, be2]; omega
theorem parse_head {f : Fr} (ht : typedP f.ty) (hr : rangeP f.se f.bo f.sq f.ac) : parse (head4 f) = f := by
 obtain ⟨ty, se, bo, sq, ac, bd⟩ := f
 obtain ⟨r1, r2, r3, r4⟩ := hr
 have e1 := num_be4 r1
 have e2 := num_be4 r2
 have e3 := num_be4 r3
 have e4 := num_be4 r4
 unfold typedP at ht
 dsimp only at *
 have h3 : (head4 ⟨ty, se, bo, sq, ac, bd⟩).getD 3 0 = ty := by simp [head4]; omega
 have h4 : ((head4 ⟨ty, se, bo, sq, ac, bd⟩).drop 4).take 4 = be4 se := by simp [head4, be4]
 have h8 : ((head4 ⟨ty, se, bo, sq, ac, bd⟩).drop 8).take 4 = be4 bo := by simp [head4, be4]
 have h12 : ((head4 ⟨ty, se, bo, sq, ac, bd⟩).drop 12).take 4 = be4 sq := by simp [head4, be4]
 have h16 : ((head4 ⟨ty, se, bo, sq, ac, bd⟩).drop 16).take 4 = be4 ac := by simp [head4, be4]
 have h22 : (head4 ⟨ty, se, bo, sq, ac, bd⟩).drop 22 = bd := by simp [head4, be4, be2]
 unfold parse
 rw [h3, h4, h8, h12, h16, h22, e1, e2, e3, e4]
theorem errR_lay {f : Fr} (he : errF f = 0) : errR (layF f) = 0 ∧ frR (layF f) = f := by
 obtain ⟨ht, hr, hl, hs⟩ := errF_ok he
 have hp := parse_head ht hr
 have h20 : ((head4 f).drop 20).take 2 = be2 f.bd.length := by simp [head4, be4, be2]
 have e0 : errR (layF f) = 0 := by
  rw [errR_x (by rw [layF_len]; omega) (by rw [layF_len]; omega) (by unfold layF; exact ck_put4 _)]
  unfold layF
  rw [chk_put4]
  unfold errX
  rw [hp, h20, num_be2 (by omega)]
  rw [if_neg (by simp [head4]), if_neg (by simp [head4]), if_neg (fun h => h ht), if_neg (fun h => h hr), if_neg (fun h => h rfl), if_neg (by rw [hs]; decide)]
 refine ⟨e0, ?_⟩
 unfold frR
 rw [e0, if_pos rfl]
 unfold layF
 rw [chk_put4, hp]
theorem be4_num {y : List Int} (h4 : y.length = 4) (hb : Byt y) : be4 ((num y : Nat) : Int) = y := by
 obtain _ | ⟨a, _ | ⟨b, _ | ⟨c, _ | ⟨d, _ | ⟨e, y⟩⟩⟩⟩⟩ := y <;> simp at h4
 have h1 := hb a (by simp)
 have h2 := hb b (by simp)
 have h3 := hb c (by simp)
 have h4 := hb d (by simp)
 simp [num, be4]
 omega
theorem be2_num {y : List Int} (h2 : y.length = 2) (hb : Byt y) : be2 ((num y : Nat) : Int) = y := by
 obtain _ | ⟨a, _ | ⟨b, _ | ⟨c, y⟩⟩⟩ := y <;> simp at h2
 have h1 := hb a (by simp)
 have h2 := hb b (by simp)
 simp [num, be2]
 omega
theorem cut_at {α : Type} (x : List α) (i k : Nat) : x.drop i = (x.drop i).take k ++ x.drop (i + k) := by
 conv => lhs; rw [← List.take_append_drop k (x.drop i)]
 rw [List.drop_drop]
theorem take4_eq {x : List Int} (h : 4 ≤ x.length) : x.take 4 = [x.getD 0 0, x.getD 1 0, x.getD 2 0, x.getD 3 0] := by
 obtain _ | ⟨a, _ | ⟨b, _ | ⟨c, _ | ⟨d, y⟩⟩⟩⟩ := x <;> simp at h
 simp
theorem head_parse {x : List Int} (hb : Byt x) (hl : 22 ≤ x.length) (h0 : x.getD 0 0 = 83) (h1 : x.getD 1 0 = 75) (h2 : x.getD 2 0 = 1) (ht : typedP (x.getD 3 0)) (hn : ((num ((x.drop 20).take 2) : Nat) : Int) = ((x.drop 22).length : Int)) : head4 (parse x) = x := by
 have hbd : ∀ i k, Byt ((x.drop i).take k) := fun i k => (hb.drop i).take k
 have e3 : x.getD 3 0 % 256 = x.getD 3 0 := by unfold typedP at ht; omega
 unfold head4 parse
 dsimp only
 rw [e3, be4_num (by simp; omega) (hbd 4 4), be4_num (by simp; omega) (hbd 8 4), be4_num (by simp; omega) (hbd 12 4), be4_num (by simp; omega) (hbd 16 4), ← hn, be2_num (by simp; omega) (hbd 20 2)]
 have h4 := take4_eq (x := x) (by omega)
 rw [h0, h1, h2] at h4
 rw [← h4]
 have c0 : x = x.take 4 ++ x.drop 4 := (List.take_append_drop 4 x).symm
 have c4 := cut_at x 4 4
 have c8 := cut_at x 8 4
 have c12 := cut_at x 12 4
 have c16 := cut_at x 16 4
 have c20 := cut_at x 20 2
 conv => rhs; rw [c0, c4, c8, c12, c16, c20]
 simp only [List.append_assoc]
theorem ck_zero {b : List Int} (h : ck b = 0) : ok4 b = true := by
 unfold ck at h; split at h
 · assumption
 · omega
theorem put4_chk {b : List Int} (h : ok4 b = true) : put4 (chk b) = b := by
 unfold chk; rw [if_pos h]
 unfold ok4 at h
 simp at h
 exact h.2
theorem byt_chk {b : List Int} (h : Byt b) : Byt (chk b) := by
 unfold chk; split
 · exact h.take _
 · intro x hx; simp at hx
theorem chk_ok_len {b : List Int} (h : ok4 b = true) : (chk b).length + 4 = b.length := by
 conv => rhs; rw [← put4_chk h, put4_len]
theorem lay_errR {b : List Int} (hb : Byt b) (he : errR b = 0) : errF (frR b) = 0 ∧ layF (frR b) = b ∧ ck b = 0 := by
 unfold errR at he
 split at he
 · omega
 rename_i h1
 split at he
 · omega
 rename_i h2
 split at he
 · omega
 rename_i h3
 have hk : ck b = 0 := Decidable.byContradiction fun h => h3 h
 have hok := ck_zero hk
 have hlen := chk_ok_len hok
 have hf : frR b = parse (chk b) := by
  unfold frR
  rw [errR_x h1 h2 hk, if_pos he]
 rw [hf]
 have hx := byt_chk hb
 have hlx : 22 ≤ (chk b).length := by omega
 have hput := put4_chk hok
 generalize chk b = x at *
 unfold errX at he
 split at he
 · omega
 rename_i g1
 split at he
 · omega
 rename_i g2
 split at he
 · omega
 rename_i g3
 split at he
 · omega
 rename_i g4
 split at he
 · omega
 rename_i g5
 split at he
 · omega
 rename_i g6
 have q0 : x.getD 0 0 = 83 := Decidable.byContradiction fun h => g1 (.inl h)
 have q1 : x.getD 1 0 = 75 := Decidable.byContradiction fun h => g1 (.inr h)
 have q2 : x.getD 2 0 = 1 := Decidable.byContradiction fun h => g2 h
 have q3 : typedP (parse x).ty := Decidable.byContradiction fun h => g3 h
 have q4 : rangeP (parse x).se (parse x).bo (parse x).sq (parse x).ac := Decidable.byContradiction fun h => g4 h
 have q5 : (num ((x.drop 20).take 2) : Int) = ((parse x).bd.length : Int) := Decidable.byContradiction fun h => g5 h
 have hh := head_parse hx hlx q0 q1 q2 q3 q5
 refine ⟨?_, ?_, hk⟩
 · have hbl : (parse x).bd.length = x.length - 22 := by simp [parse]
   unfold errF
   rw [if_neg (fun h => h q3), if_neg (fun h => h q4), if_neg (by rw [hbl]; omega), if_neg g6]
 · unfold layF
   rw [hh, hput]
end Go.Proofs.YtokembhfebnjpaaGreat
