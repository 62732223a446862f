/- Package net: Take, Drop, Copy. (Written by wip/nett.py.) -/
import Derived.Test.YtgcgcdgjooaipaaNetW
namespace Go.Proofs.Ytgcgcdgjooaipaa
open Go.RowKit Go.Maps
set_option linter.unusedVariables false
set_option linter.unusedSimpArgs false
theorem results_cell_tmp_row {P : Program} {fn : Func} {p u : Tmp} {ty : TypeId} (h : fn.results = #[.cell p ty, .tmp u]) (tmps : Array Value) (w : World) (g : Nat) (t : TypeId) (cs : Array Value) (fr : Nat × Nat) (d : TypeDesc)
    (hp : tmps.getD p undef = .pointer (some ⟨g, 0, none⟩)) (hg : w.heap[g]? = some (.cells cs t fr))
    (hu : P.underlying ty = some d) (hd : (match d with | .struct _ | .array _ _ => true | _ => false) = true) (hi : (P.info? ty).map (·.size) = some cs.size) :
    (results fn tmps).run P w = .ok (.tuple #[.agg cs, tmps.getD u undef]) w := by
  rw [results_cell_tmp h, hp]
  simp [asAddr, Result.andThen, run_loadVar_row w g t ty cs fr d hg hu hd hi]
theorem dg_info : (Try.prog.info? 28).map (·.size) = some 3 := by kernel_rfl
theorem zero_dg (w : World) : (Instr.build 28 #[]).run Try.prog w = .ok (.agg #[.int .i64 0, .int .i64 0, .slice none 0 0]) w := by kernel_rfl
theorem dg_cells {w : World} {b : Nat} {fr to : Int} {B : Value} (h : At w b (dgC fr to B)) : w.cell? ⟨b, 0, none⟩ = some (.int .i64 fr) ∧ w.cell? ⟨b, 1, none⟩ = some (.int .i64 to) ∧ w.cell? ⟨b, 2, none⟩ = some B ∧
    w.frozen? ⟨b, 0, none⟩ = false ∧ w.frozen? ⟨b, 1, none⟩ = false ∧ w.frozen? ⟨b, 2, none⟩ = false :=
  ⟨(h.cell 0).trans rfl, (h.cell 1).trans rfl, (h.cell 2).trans rfl, h.frozen _, h.frozen _, h.frozen _⟩
theorem nd_cells {w : World} {b : Nat} {d : Nd} {t : Option Addr} (h : At w b (ndC d t)) : w.cell? ⟨b, 0, none⟩ = some (.int .i64 d.fr) ∧ w.cell? ⟨b, 1, none⟩ = some (.int .i64 d.to) ∧ w.cell? ⟨b, 2, none⟩ = some d.B ∧ w.cell? ⟨b, 3, none⟩ = some (.pointer t) :=
  ⟨(h.cell 0).trans rfl, (h.cell 1).trans rfl, (h.cell 2).trans rfl, (h.cell 3).trans rfl⟩
theorem dg_set {w : World} {b : Nat} {fr to fr' to' : Int} {B B' : Value} (h : At w b (dgC fr to B)) : At (((w.setCell ⟨b, 0, none⟩ (.int .i64 fr')).setCell ⟨b, 1, none⟩ (.int .i64 to')).setCell ⟨b, 2, none⟩ B') b (dgC fr' to' B') :=
  ((h.set 0 _).set 1 _).set 2 _
theorem kp_set3 {S : Nat → Prop} {w0 w : World} {b : Nat} (h : Kp S w0 w) (hb : b < w0.heap.size → S b) (u0 u1 u2 : Value) : Kp S w0 (((w.setCell ⟨b, 0, none⟩ u0).setCell ⟨b, 1, none⟩ u1).setCell ⟨b, 2, none⟩ u2) :=
  ((h.setCell (p := ⟨b, 0, none⟩) hb _).setCell (p := ⟨b, 1, none⟩) hb _).setCell (p := ⟨b, 2, none⟩) hb _
set_option maxHeartbeats 1000000 in
set_option maxRecDepth 20000 in
theorem take_no (nb mb : Nat) (nds : List Nd) (lost i : Int) (w : World) (h : NetC w nb nds nds.length mb lost) (hn : nds.length ≤ 10000) (hi : i < 0 ∨ (nds.length : Int) ≤ i) :
    Calls Try.prog 24 #[.pointer (some ⟨nb, 0, none⟩), .int .i64 i] w fun e w' => e = .returned (.tuple #[.agg #[.int .i64 0, .int .i64 0, .slice none 0 0], .int .i64 6]) ∧ Kp (fun _ => False) w w' := by
  have c0 : w.cell? ⟨nb, 0, none⟩ = some (.bool true) := (h.hat.cell 0).trans rfl
  have HN := Lib.hid (fun w' (k : Kp (fun _ => False) w w') => none_at nb w' (k.cell c0 (fun h => h)))
  have CA := Lib.hid (fun w' (k : Kp (fun _ => False) w w') => at_no nb mb nds lost i w' (h.kp k (fun _ _ h => h)) hn hi)
  have HZ := Lib.hid zero_dg
  have hzz := fun w' => HZ.out w'
  clear h c0 hi
  go_enter Try.func24, Try.ntmps24
  go_wp2_with (first | (go_at_call 31; (with_reducible refine (HN.out _ ((Kp.refl _ w).alloc _)).mono ?_); rintro e w' ⟨rfl, rfl⟩) | (go_at_call 38; (with_reducible refine (CA.out _ ((Kp.refl _ w).alloc _)).mono ?_); rintro e w1 ⟨rfl, k1⟩; have hz := k1.at (At.new w (dgC 0 0 (.slice none 0 0)) 28) (fun h => h); have K1 := Lib.hid (And.intro hz (((Kp.refl (fun _ => False) w).alloc _).trans k1)); obtain ⟨z0, z1, z2, z3, z4, z5⟩ := dg_cells hz; clear k1 hz))
  obtain ⟨T, hT⟩ := dg_set (fr' := 0) (to' := 0) (B' := .slice none 0 0) K1.out.1
  exact bodyPost_ret (results_cell_tmp_row rfl _ _ w.heap.size T _ (0, 0) _ rfl hT Try.underlying28 rfl dg_info) rfl ⟨rfl, kp_set3 K1.out.2 (fun h => absurd h (Nat.lt_irrefl _)) _ _ _⟩
theorem take_none (p : Option Addr) (i : Int) (w : World) (hno : ∀ w', Kp (fun _ => False) w w' → Calls Try.prog 31 #[.pointer p] w' fun e w'' => e = .returned (.bool true) ∧ w' = w'') :
    Calls Try.prog 24 #[.pointer p, .int .i64 i] w fun e w' => e = .returned (.tuple #[.agg #[.int .i64 0, .int .i64 0, .slice none 0 0], .int .i64 1]) ∧ Kp (fun _ => False) w w' := by
  have HN := Lib.hid hno
  have HZ := Lib.hid zero_dg
  have hzz := fun w' => HZ.out w'
  clear hno
  go_enter Try.func24, Try.ntmps24
  go_wp2_with (go_at_call 31; (with_reducible refine (HN.out _ ((Kp.refl _ w).alloc _)).mono ?_); rintro e w' ⟨rfl, rfl⟩)
  exact bodyPost_ret (results_cell_tmp_row rfl _ _ w.heap.size 28 _ (0, 0) _ rfl (heap_alloc_new w _) Try.underlying28 rfl dg_info) rfl ⟨rfl, (Kp.refl _ w).alloc _⟩
set_option maxHeartbeats 1000000 in
set_option maxRecDepth 20000 in
theorem take_yes (nb mb : Nat) (nds : List Nd) (lost : Int) (i : Nat) (w : World) (h : NetC w nb nds nds.length mb lost) (hn : nds.length ≤ 10000) (hi : i < nds.length) :
    Calls Try.prog 24 #[.pointer (some ⟨nb, 0, none⟩), .int .i64 i] w fun e w' => e = .returned (.tuple #[.agg #[.int .i64 (nd nds i).fr, .int .i64 (nd nds i).to, (nd nds i).B], .int .i64 0]) ∧
      NetC w' nb (nds.eraseIdx i) ((nds.length : Int) - 1) mb lost ∧ Kp (fun j => j = nb ∨ ∃ k, k < nds.length ∧ k + 1 = i ∧ j = (nd nds k).g) w w' := by
  have c0 : w.cell? ⟨nb, 0, none⟩ = some (.bool true) := (h.hat.cell 0).trans rfl
  have HN := Lib.hid (fun w' (k : Kp (fun _ => False) w w') => none_at nb w' (k.cell c0 (fun h => h)))
  have CA := Lib.hid (fun w' (k : Kp (fun _ => False) w w') => at_yes nb mb nds lost i w' (h.kp k (fun _ _ h => h)) hn hi)
  have hB : ∃ a m c, (nd nds i).B = .slice a m c := by obtain ⟨a, c, e, _⟩ := (h.own i hi).form; exact ⟨a, _, c, e⟩
  obtain ⟨A, m, c, hB⟩ := hB
  have H := Lib.hid h
  have HB := Lib.hid hB
  obtain ⟨len, hlen⟩ : ∃ len, len = nds.length := ⟨_, rfl⟩
  have HL := Lib.hid hlen
  obtain ⟨fr, hfr⟩ : ∃ t, t = (nd nds i).fr := ⟨_, rfl⟩
  obtain ⟨to, hto⟩ : ∃ t, t = (nd nds i).to := ⟨_, rfl⟩
  obtain ⟨g, hg⟩ : ∃ t, t = (nd nds i).g := ⟨_, rfl⟩
  obtain ⟨t, ht⟩ : ∃ t, t = nx nds (i + 1) := ⟨_, rfl⟩
  have HQ := Lib.hid (And.intro hfr (And.intro hto (And.intro hg (And.intro ht hi))))
  rw [HB.out, ← hfr, ← hto]
  rw [← hlen] at hn hi ⊢
  clear hfr hto hg ht
  clear h c0 hB hlen
  go_enter Try.func24, Try.ntmps24
  go_upto_region 6 with (first | (go_at_call 31; (with_reducible refine (HN.out _ ((Kp.refl _ w).alloc _)).mono ?_); rintro e w' ⟨rfl, rfl⟩) | (go_at_call 38; (with_reducible refine (CA.out _ ((Kp.refl _ w).alloc _)).mono ?_); rintro e w1 ⟨rfl, k1⟩; have K1 := Lib.hid (And.intro (k1.at (At.new w (dgC 0 0 (.slice none 0 0)) 28) (fun h => h)) (((Kp.refl (fun _ => False) w).alloc _).trans k1)); clear k1))
  have hN1 := H.out.kp K1.out.2 (fun _ _ h => h)
  have hil : i < nds.length := by rw [← HL.out]; exact hi
  have hx := hN1.nextCell (i := i) (by omega)
  rw [nx_at hil] at hx
  obtain ⟨hc, hf⟩ := hx
  obtain ⟨n0, n1, n2, n3⟩ := nd_cells (hN1.node i hil)
  rw [HB.out] at n2
  have HN1 := Lib.hid hN1
  clear hN1
  rw [← HQ.out.1] at n0
  rw [← HQ.out.2.1] at n1
  rw [← HQ.out.2.2.2.1] at n3
  rw [← HQ.out.2.2.1] at n0 n1 n2 n3 hc
  clear hil
  go_upto_region 7 with fail
  refine wp_world (fun wx => At wx w1.heap.size (dgC fr to (.slice A m c)) ∧ Kp (fun _ => False) w1 wx) ⟨At.new w1 (dgC fr to (.slice A m c)) 28, (Kp.refl _ w1).alloc _⟩ ?_
  rintro w2 ⟨hx2, k2⟩
  replace hc := k2.cell hc (fun h => h)
  replace n3 := k2.cell n3 (fun h => h)
  have hN2 := HN1.out.kp k2 (fun _ _ h => h)
  have hf2 := (hN2.nextCell (i := i) (by have := HQ.out.2.2.2.2; omega)).2
  have H2 := Lib.hid (And.intro hx2 (And.intro k2 hN2))
  clear n0 n1 n2 hf hx2 k2 hN2
  go_upto_region 8 with fail
  refine wp_world (fun wx => NetC wx nb (nds.eraseIdx i) len mb lost ∧ At wx w1.heap.size (dgC fr to (.slice A m c)) ∧ At wx w.heap.size (dgC 0 0 (.slice none 0 0)) ∧ Kp (fun j => j = nb ∨ ∃ k, k < len ∧ k + 1 = i ∧ j = (nd nds k).g) w wx) ?_ ?_
  · obtain ⟨hN3, k3⟩ := H2.out.2.2.erase HQ.out.2.2.2.2
    rw [← HL.out, ← HQ.out.2.2.2.1] at hN3
    rw [← HQ.out.2.2.2.1] at k3
    have hp := pB_lt H.out (i := i) (by have := HQ.out.2.2.2.2; omega)
    have hpl := H.out.lt hp
    have hs1 := K1.out.2.size
    refine ⟨hN3, k3.at H2.out.1 (by omega), k3.at (H2.out.2.1.at K1.out.1 (fun h => h)) (by omega), ((K1.out.2.trans H2.out.2.1).mono (fun _ _ h => h.elim)).then k3 (fun j hj e => ?_)⟩
    subst e
    cases i with
    | zero => exact .inl rfl
    | succ i => exact .inr ⟨i, by omega, rfl, rfl⟩
  rintro w3 ⟨hN3, hx3, hr3, k3⟩
  have c5 : w3.cell? ⟨nb, 5, none⟩ = some (.int .i64 (len : Nat)) := (hN3.hat.cell 5).trans rfl
  have f5 := hN3.hat.frozen 5
  obtain ⟨y0, y1, y2, _⟩ := dg_cells hx3
  obtain ⟨z0, z1, z2, z3, z4, z5⟩ := dg_cells hr3
  have hne : w1.heap.size ≠ nb := by have := H.out.hat.lt; have := K1.out.2.size; omega
  have hne2 : w.heap.size ≠ nb := by have := H.out.hat.lt; omega
  have hne3 : w.heap.size ≠ w1.heap.size := by have := K1.out.1.lt; omega
  have H3 := Lib.hid (And.intro hN3 (And.intro hr3 k3))
  clear hN3 hx3 hr3 k3 hc n3 hf2
  go_wp2
  have hN4 := H3.out.1.setN ((len : Int) - 1)
  have hr4 := hN4.2.at H3.out.2.1 (fun e => by have := H.out.hat.lt; omega)
  have hr5 := dg_set (fr' := fr) (to' := to) (B' := .slice A m c) hr4
  have k5 := kp_set3 (Kp.refl (· = w.heap.size) (w3.setCell ⟨nb, 5, none⟩ (.int .i64 ((len : Int) - 1)))) (fun _ => rfl) (.int .i64 fr) (.int .i64 to) (.slice A m c)
  obtain ⟨T, hT⟩ := hr5
  refine bodyPost_ret (results_cell_tmp_row rfl _ _ w.heap.size T _ (0, 0) _ rfl hT Try.underlying28 rfl dg_info) rfl ⟨rfl, hN4.1.kp k5 (fun b hb e => ?_), (H3.out.2.2.trans (hN4.2.mono (fun _ _ e => .inl e))).then k5 (fun j hj e => by omega)⟩
  have : b < w.heap.size := by
    rcases hb with rfl | ⟨j, hj, hb⟩
    · exact H.out.hat.lt
    · have hl := len_erase HQ.out.2.2.2.2
      rw [nd_erase HQ.out.2.2.2.2] at hb
      split at hb
      · exact H.out.lt (.inr ⟨j, by omega, hb⟩)
      · exact H.out.lt (.inr ⟨j + 1, by omega, hb⟩)
  omega
theorem Erased {nds : List Nd} {nb i j : Nat} (hi : i ≤ nds.length) (h : j = nb ∨ ∃ k, k < nds.length ∧ k + 1 = i ∧ j = (nd nds k).g) : Mine nb nds j := by
  rcases h with rfl | ⟨k, hk, _, rfl⟩
  · exact Mine.hd _ _
  · exact Mine.g hk
theorem drop_no (nb mb : Nat) (nds : List Nd) (lost i : Int) (w : World) (h : NetC w nb nds nds.length mb lost) (hn : nds.length ≤ 10000) (hi : i < 0 ∨ (nds.length : Int) ≤ i) :
    Calls Try.prog 23 #[.pointer (some ⟨nb, 0, none⟩), .int .i64 i] w fun e w' => e = .returned (.int .i64 6) ∧ Kp (fun _ => False) w w' := by
  have CT := Lib.hid (take_no nb mb nds lost i w h hn hi)
  clear h hi
  go_enter Try.func23, Try.ntmps23
  go_wp2_with (go_at_call 24; (with_reducible refine CT.out.mono ?_); rintro e w1 ⟨rfl, k1⟩; have K1 := Lib.hid k1; clear k1)
  go_ret
  exact ⟨rfl, K1.out.alloc _⟩
theorem drop_none (p : Option Addr) (i : Int) (w : World) (hno : ∀ w', Kp (fun _ => False) w w' → Calls Try.prog 31 #[.pointer p] w' fun e w'' => e = .returned (.bool true) ∧ w' = w'') :
    Calls Try.prog 23 #[.pointer p, .int .i64 i] w fun e w' => e = .returned (.int .i64 1) ∧ Kp (fun _ => False) w w' := by
  have CT := Lib.hid (take_none p i w hno)
  clear hno
  go_enter Try.func23, Try.ntmps23
  go_wp2_with (go_at_call 24; (with_reducible refine CT.out.mono ?_); rintro e w1 ⟨rfl, k1⟩; have K1 := Lib.hid k1; clear k1)
  go_ret
  exact ⟨rfl, K1.out.alloc _⟩
set_option maxHeartbeats 1000000 in
set_option maxRecDepth 20000 in
theorem drop_yes (nb mb : Nat) (nds : List Nd) (lost : Int) (i : Nat) (w : World) (h : NetC w nb nds nds.length mb lost) (hn : nds.length ≤ 10000) (hi : i < nds.length) (hlo : 0 ≤ lost ∧ lost ≤ 10000) :
    Calls Try.prog 23 #[.pointer (some ⟨nb, 0, none⟩), .int .i64 i] w fun e w' => e = .returned (.int .i64 0) ∧
      NetC w' nb (nds.eraseIdx i) ((nds.length : Int) - 1) mb (lost + 1) ∧ Kp (fun j => j = nb ∨ ∃ k, k < nds.length ∧ k + 1 = i ∧ j = (nd nds k).g) w w' := by
  have CT := Lib.hid (take_yes nb mb nds lost i w h hn hi)
  obtain ⟨A, c, hB, _, _⟩ := (h.own i hi).form
  rw [hB] at CT
  have hlt := h.hat.lt
  obtain ⟨nds', hnds'⟩ : ∃ x, x = nds.eraseIdx i := ⟨_, rfl⟩
  obtain ⟨S, hS⟩ : ∃ S : Nat → Prop, S = (fun j => j = nb ∨ ∃ k, k < nds.length ∧ k + 1 = i ∧ j = (nd nds k).g) := ⟨_, rfl⟩
  rw [← hnds', ← hS] at CT ⊢
  have HS := Lib.hid (show S nb by rw [hS]; exact .inl rfl)
  generalize (nd nds i).fr = fr at *
  generalize (nd nds i).to = to at *
  clear h hi hB hnds' hS
  go_enter Try.func23, Try.ntmps23
  go_upto_region 3 with (go_at_call 24; (with_reducible refine CT.out.mono ?_); rintro e w1 ⟨rfl, hN1, k1⟩; have K1 := Lib.hid (And.intro hN1 k1); clear hN1 k1)
  refine wp_world (fun wx => NetC wx nb nds' ((nds.length : Int) - 1) mb lost ∧ Kp S w wx) ⟨K1.out.1.kp ((Kp.refl (fun _ => False) w1).alloc _) (fun _ _ h => h), K1.out.2.alloc _⟩ ?_
  rintro w2 ⟨hN2, k2⟩
  have c7 : w2.cell? ⟨nb, 7, none⟩ = some (.int .i64 lost) := (hN2.hat.cell 7).trans rfl
  have f7 := hN2.hat.frozen 7
  have H2 := Lib.hid (And.intro hN2 k2)
  clear hN2 k2
  go_wp2
  go_ret
  obtain ⟨hN3, k3⟩ := H2.out.1.setLost (lost + 1)
  exact ⟨rfl, hN3, H2.out.2.then k3 (fun j _ e => by rw [e]; exact HS.out)⟩
theorem copy_none (p : Option Addr) (i : Int) (w : World) (hno : ∀ w', Kp (fun _ => False) w w' → Calls Try.prog 31 #[.pointer p] w' fun e w'' => e = .returned (.bool true) ∧ w' = w'') :
    Calls Try.prog 29 #[.pointer p, .int .i64 i] w fun e w' => e = .returned (.int .i64 1) ∧ Kp (fun _ => False) w w' := by
  have HN := Lib.hid hno
  clear hno
  go_enter Try.func29, Try.ntmps29
  go_wp2_with (go_at_call 31; (with_reducible refine (HN.out _ (Kp.refl _ w)).mono ?_); rintro e w' ⟨rfl, rfl⟩)
  go_ret
  exact ⟨rfl, Kp.refl _ w⟩
theorem copy_no (nb mb : Nat) (nds : List Nd) (lost i : Int) (w : World) (h : NetC w nb nds nds.length mb lost) (hn : nds.length ≤ 10000) (hi : i < 0 ∨ (nds.length : Int) ≤ i) :
    Calls Try.prog 29 #[.pointer (some ⟨nb, 0, none⟩), .int .i64 i] w fun e w' => e = .returned (.int .i64 6) ∧ Kp (fun _ => False) w w' := by
  have c0 : w.cell? ⟨nb, 0, none⟩ = some (.bool true) := (h.hat.cell 0).trans rfl
  have HN := Lib.hid (fun w' (k : Kp (fun _ => False) w w') => none_at nb w' (k.cell c0 (fun h => h)))
  have CA := Lib.hid (fun w' (k : Kp (fun _ => False) w w') => at_no nb mb nds lost i w' (h.kp k (fun _ _ h => h)) hn hi)
  clear h c0 hi
  go_enter Try.func29, Try.ntmps29
  go_wp2_with (first | (go_at_call 31; (with_reducible refine (HN.out _ (Kp.refl _ w)).mono ?_); rintro e w' ⟨rfl, rfl⟩) | (go_at_call 38; (with_reducible refine (CA.out _ (Kp.refl _ w)).mono ?_); rintro e w1 ⟨rfl, k1⟩; have K1 := Lib.hid k1; clear k1))
  go_ret
  exact ⟨rfl, K1.out⟩
theorem copy_full (nb mb : Nat) (nds : List Nd) (lost : Int) (i : Nat) (w : World) (h : NetC w nb nds nds.length mb lost) (hn : nds.length ≤ 10000) (hi : i < nds.length) (hf : 2000 ≤ nds.length) :
    Calls Try.prog 29 #[.pointer (some ⟨nb, 0, none⟩), .int .i64 i] w fun e w' => e = .returned (.int .i64 8) ∧ Kp (fun _ => False) w w' := by
  have c0 : w.cell? ⟨nb, 0, none⟩ = some (.bool true) := (h.hat.cell 0).trans rfl
  have HN := Lib.hid (fun w' (k : Kp (fun _ => False) w w') => none_at nb w' (k.cell c0 (fun h => h)))
  have CA := Lib.hid (fun w' (k : Kp (fun _ => False) w w') => at_yes nb mb nds lost i w' (h.kp k (fun _ _ h => h)) hn hi)
  have c5 : w.cell? ⟨nb, 5, none⟩ = some (.int .i64 (nds.length : Nat)) := (h.hat.cell 5).trans rfl
  have HC := Lib.hid c5
  have b1 : (2000 : Int) ≤ (nds.length : Int) := by omega
  clear h c0 hi c5
  go_enter Try.func29, Try.ntmps29
  go_wp2_with (first | (go_at_call 31; (with_reducible refine (HN.out _ (Kp.refl _ w)).mono ?_); rintro e w' ⟨rfl, rfl⟩) | (go_at_call 38; (with_reducible refine (CA.out _ (Kp.refl _ w)).mono ?_); rintro e w1 ⟨rfl, k1⟩; have x5 := k1.cell HC.out (fun h => h); have K1 := Lib.hid k1; clear k1))
  go_ret
  exact ⟨rfl, K1.out⟩
set_option maxHeartbeats 1000000 in
set_option maxRecDepth 20000 in
theorem copy_yes (nb mb : Nat) (nds : List Nd) (lost : Int) (i : Nat) (w : World) (h : NetC w nb nds nds.length mb lost) (hi : i < nds.length) (hf : nds.length < 2000) (hl : (nd nds i).l.length ≤ 1000000) :
    Calls Try.prog 29 #[.pointer (some ⟨nb, 0, none⟩), .int .i64 i] w fun e w' => ∃ d, e = .returned (.int .i64 0) ∧
      NetC w' nb (nds ++ [d]) ((nds.length : Int) + 1) mb lost ∧ d.fr = (nd nds i).fr ∧ d.to = (nd nds i).to ∧ d.l = (nd nds i).l ∧ w.heap.size ≤ d.g ∧ (∀ b, d.B.ownBlock = some b → w.heap.size ≤ b) ∧ Kp (Mine nb nds) w w' := by
  have c0 : w.cell? ⟨nb, 0, none⟩ = some (.bool true) := (h.hat.cell 0).trans rfl
  have HN := Lib.hid (fun w' (k : Kp (fun _ => False) w w') => none_at nb w' (k.cell c0 (fun h => h)))
  have CA := Lib.hid (fun w' (k : Kp (fun _ => False) w w') => at_yes nb mb nds lost i w' (h.kp k (fun _ _ h => h)) (by omega) hi)
  obtain ⟨A, c, hB, hR, _⟩ := (h.own i hi).form
  have CL := Lib.hid (fun w' (k : Kp (fun _ => False) w w') => last_any nb mb nds lost (nd nds i).fr (nd nds i).to A c (nd nds i).l w' (h.kp k (fun _ _ h => h)) (hR.kp0 k (fun _ _ h => h)) hl (by omega))
  have c5 : w.cell? ⟨nb, 5, none⟩ = some (.int .i64 (nds.length : Nat)) := (h.hat.cell 5).trans rfl
  have hx := h.nextCell (i := i) (by omega)
  rw [nx_at hi] at hx
  obtain ⟨n0, n1, n2, _⟩ := nd_cells (h.node i hi)
  rw [hB] at n2
  have HC := Lib.hid (And.intro c5 (And.intro hx.1 (And.intro n0 (And.intro n1 n2))))
  obtain ⟨m, hm⟩ : ∃ m, m = (nd nds i).l.length := ⟨_, rfl⟩
  rw [← hm] at CL HC
  clear hx n0 n1 n2 hB
  generalize (nd nds i).fr = fr at *
  generalize (nd nds i).to = to at *
  generalize (nd nds i).l = l at *
  obtain ⟨len, hlen⟩ : ∃ len, len = nds.length := ⟨_, rfl⟩
  rw [← hlen] at CL HC hf ⊢
  have b1 : ¬ (2000 : Int) ≤ (len : Int) := by omega
  clear h c0 hi c5 hR hm hlen hl
  go_enter Try.func29, Try.ntmps29
  go_wp2_with (first | (go_at_call 31; (with_reducible refine (HN.out _ (Kp.refl _ w)).mono ?_); rintro e w' ⟨rfl, rfl⟩) | (go_at_call 38; (with_reducible refine (CA.out _ (Kp.refl _ w)).mono ?_); rintro e w1 ⟨rfl, k1⟩; have x5 := k1.cell HC.out.1 (fun h => h); have x6 := k1.cell HC.out.2.1 (fun h => h); have x0 := k1.cell HC.out.2.2.1 (fun h => h); have x1 := k1.cell HC.out.2.2.2.1 (fun h => h); have x2 := k1.cell HC.out.2.2.2.2 (fun h => h); have K1 := Lib.hid k1; clear k1) | (go_at_call 34; (with_reducible refine (CL.out _ K1.out).mono ?_); rintro e w2 ⟨d, rfl, hN2, e1, e2, e3, g1, g2, k2⟩; have H2 := Lib.hid (And.intro hN2 (And.intro e1 (And.intro e2 (And.intro e3 (And.intro g1 (And.intro g2 k2)))))); clear hN2 e1 e2 e3 g1 g2 k2))
  go_ret
  have hs1 := K1.out.size
  exact ⟨d, rfl, H2.out.1, H2.out.2.1, H2.out.2.2.1, H2.out.2.2.2.1, Nat.le_trans hs1 H2.out.2.2.2.2.1, fun b hb => Nat.le_trans hs1 (H2.out.2.2.2.2.2.1 b hb), (K1.out.mono (fun _ _ h => h.elim)).trans H2.out.2.2.2.2.2.2⟩
end Go.Proofs.Ytgcgcdgjooaipaa
