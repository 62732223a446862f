/- The document's net: Take, Drop, First. (Written by wip/refnet5.py.) -/
import Derived.Test.YtgcgcdgjooaipaaDnC
namespace Go.Proofs.Ytgcgcdgjooaipaa
open Go.RowKit Go.Maps
set_option linter.unusedVariables false
set_option linter.unusedSimpArgs false
theorem own_none {w : World} {b : Nat} {size : Nat} (h : At w b []) : Own w (.slice (some ⟨b, 0, none⟩) 0 0) 0 size [] := ⟨by simp, .inr ⟨b, 0, [], rfl, h, by simp, by simp, by simp⟩⟩
theorem rd_take {w : World} {a : Option Addr} {vs : List Value} (h : Rd w a vs) (k : Nat) : Rd w a (vs.take k) := fun i hi => by
  rw [List.length_take] at hi
  obtain ⟨b, off, e, hc⟩ := h i (by omega)
  refine ⟨b, off, e, ?_⟩
  rw [hc, List.getD_eq_getElem?_getD, List.getD_eq_getElem?_getD, List.getElem?_take, if_pos (by omega)]
theorem rd_drop {w : World} {b off : Nat} {vs : List Value} (h : Rd w (some ⟨b, off, none⟩) vs) (k : Nat) : Rd w (some ⟨b, off + k, none⟩) (vs.drop k) := fun i hi => by
  rw [List.length_drop] at hi
  obtain ⟨b', off', e, hc⟩ := h (k + i) (by omega)
  simp only [Option.some.injEq, Addr.mk.injEq, and_true] at e
  obtain ⟨rfl, rfl⟩ := e
  refine ⟨_, _, rfl, ?_⟩
  rw [Nat.add_assoc, hc, List.getD_eq_getElem?_getD, List.getD_eq_getElem?_getD, List.getElem?_drop]
section
variable {w w' : World} {db : Nat} {L O : Value} {ds ds' : List Nd} {os : List (Int × Int)} {lost : Int}
theorem dtake_no (h : DN w db L O ds os lost) (i : Int) (hi : ¬ (0 ≤ i ∧ i < ds.length)) :
    Calls Try.prog 40 #[.pointer (some ⟨db, 0, none⟩), .int .i64 i] w fun e w' => e = .returned (.tuple #[.agg #[.int .i64 0, .int .i64 0, .slice none 0 0], .int .i64 6]) ∧ Kp (fun _ => False) w w' := by
  obtain ⟨aL, cL, hL, hcL, _, c0⟩ := h.lf
  have CT := Lib.hid (fun w' (k : Kp (fun _ => False) w w') => dthere_any db ds.length cL aL i w' (k.cell c0 (fun h => h)))
  rw [decide_eq_false hi] at CT
  have HZ := Lib.hid zero_dg
  have hzz := fun w' => HZ.out w'
  clear h hi hL
  go_enter Try.func40, Try.ntmps40
  go_wp2_with (go_at_call 50; (with_reducible refine (CT.out _ ((Kp.refl _ w).alloc _)).mono ?_); rintro e w' ⟨rfl, rfl⟩)
  have hb := At.new w (dgC 0 0 (.slice none 0 0)) 28
  first
  | exact bodyPost_ret (results_cell_tmp_row rfl _ _ w.heap.size 28 _ (0, 0) _ rfl (heap_alloc_new w _) Try.underlying28 rfl dg_info) rfl ⟨rfl, (Kp.refl _ w).alloc _⟩
  | (obtain ⟨T, hT⟩ := dg_set (fr' := 0) (to' := 0) (B' := .slice none 0 0) hb
     exact bodyPost_ret (results_cell_tmp_row rfl _ _ w.heap.size T _ (0, 0) _ rfl hT Try.underlying28 rfl dg_info) rfl ⟨rfl, kp_set3 ((Kp.refl _ w).alloc _) (fun h => absurd h (Nat.lt_irrefl _)) _ _ _⟩)
set_option maxHeartbeats 1000000 in
set_option maxRecDepth 20000 in
theorem dtake_yes (h : DN w db L O ds os lost) (i : Nat) (hi : i < ds.length) (hds : ds.length ≤ 2000) :
    Calls Try.prog 40 #[.pointer (some ⟨db, 0, none⟩), .int .i64 i] w fun e w' => e = .returned (.tuple #[.agg #[.int .i64 (nd ds i).fr, .int .i64 (nd ds i).to, (nd ds i).B], .int .i64 0]) ∧ ∃ L', DN w' db L' O (ds.eraseIdx i) os lost ∧ DStp db L O ds w L' O (ds.eraseIdx i) w' ∧ OwnB w' (nd ds i).B (nd ds i).l := by
  obtain ⟨aL, cL, hL, hcL, _, c0⟩ := h.lf
  subst hL
  obtain ⟨lb, ai, ci, rfl, hBi, e0, e1, e2, _, hown⟩ := h.elem hi
  have CT := Lib.hid (fun w' (k : Kp (fun _ => False) w w') => dthere_any db ds.length cL (some ⟨lb, 0, none⟩) i w' (k.cell c0 (fun h => h)))
  rw [decide_eq_true (show (0 : Int) ≤ i ∧ (i : Int) < ds.length by omega)] at CT
  have ned : ¬ lb = db := fun e => h.dl (.inl (by rw [e]; rfl))
  have hlt := h.hat.lt
  have hlbl : lb < w.heap.size := h.lt (.inr (.inr (.inl rfl)))
  have hdl := dgsC_len ds
  have hone := dgsC_one ds (fun j hj => by obtain ⟨a, c, e, _⟩ := (h.l.each j hj).form; exact ⟨_, _, _, e⟩)
  have hrd := h.l.own.rd
  obtain ⟨nL, hnL⟩ : ∃ nL, nL = ds.length := ⟨_, rfl⟩
  rw [← hnL] at c0 hcL hds
  have HONE := Lib.hid hone
  have j0 : (i : Int) < (nL : Int) := by omega
  have j1 : (i : Int) ≤ (cL : Int) := by omega
  have j2 : (i : Int) + 1 ≤ (nL : Int) := by omega
  have j4 : ((i : Int) + 1).toNat = i + 1 := by omega
  have j5 : 0 ≤ (i : Int) + 1 := by omega
  obtain ⟨aT, hT⟩ : ∃ aT, aT = (if cL = i + 1 then some (⟨lb, 0, none⟩ : Addr) else some ⟨lb, (i + 1) * 3, none⟩) := ⟨_, rfl⟩
  have hrt : Rd w aT ((dgsC ds).drop ((i + 1) * 3)) := by
    rw [hT]
    by_cases hcl : cL = i + 1
    · rw [if_pos hcl, List.drop_of_length_le (by omega)]
      exact fun i hi => by simp at hi
    · have h9 := rd_drop hrd ((i + 1) * 3)
      rw [Nat.zero_add] at h9
      rw [if_neg hcl]; exact h9
  have HT := Lib.hid hT
  obtain ⟨fri, hfri⟩ : ∃ x, x = (nd ds i).fr := ⟨_, rfl⟩
  obtain ⟨toi, htoi⟩ : ∃ x, x = (nd ds i).to := ⟨_, rfl⟩
  obtain ⟨m, hm⟩ : ∃ m, m = (nd ds i).l.length := ⟨_, rfl⟩
  rw [← hfri] at e0
  rw [← htoi] at e1
  rw [← hm] at e2
  have H := Lib.hid (And.intro h (And.intro hi (And.intro hnL (And.intro hBi (And.intro hfri (And.intro htoi (And.intro hm (And.intro hown (And.intro hrd hrt)))))))))
  have j3 : i < 9000 := by omega
  clear h hi hnL hBi hfri htoi hm hown hrd hrt hone hdl hT
  go_enter Try.func40, Try.ntmps40
  go_upto_region 4 with (go_at_call 50; (with_reducible refine (CT.out _ ((Kp.refl _ w).alloc _)).mono ?_); rintro e w' ⟨rfl, rfl⟩)
  refine wp_world (fun wx => At wx w.heap.size [.int .i64 0, .int .i64 0, .slice none 0 0] ∧ At wx (w.heap.size + 1) (dgC fri toi (.slice ai m ci)) ∧ Kp (fun _ => False) w wx) ?_ ?_
  · have h1 := (At.new w [.int .i64 0, .int .i64 0, .slice none 0 0] 28).alloc (.cells (dgC fri toi (.slice ai m ci)).toArray 28)
    have h2 := At.new (w.alloc (.cells #[.int .i64 0, .int .i64 0, .slice none 0 0] 28)) (dgC fri toi (.slice ai m ci)) 28
    rw [World.size_alloc] at h2
    exact ⟨h1, h2, ((Kp.refl _ w).alloc _).alloc _⟩
  rintro w3 ⟨hr3, hb3, k3⟩
  have h3 := H.out.1.kp0 k3
  have HB := Lib.hid (And.intro h3.hat (And.intro hr3 (And.intro hb3 (And.intro k3 h3))))
  have HR := Lib.hid (fun w' (k : Kp (fun _ => False) w3 w') => (H.out.2.2.2.2.2.2.2.2.1.kp (k3.trans k) (fun _ _ h => h)))
  have HRT := Lib.hid (fun w' (k : Kp (fun _ => False) w3 w') => (H.out.2.2.2.2.2.2.2.2.2.kp (k3.trans k) (fun _ _ h => h)))
  have x0 := k3.cell c0 (fun h => h)
  clear hr3 hb3 k3 h3 c0 e0 e1 e2 CT
  refine region_L (S := fun w' => w'.cell? ⟨db, 0, none⟩ = some (.slice (some ⟨lb, 0, none⟩) nL cL)) [19] rfl ?_
  have hSd : ∀ (w' : World) (n' : Nat), w'.cell? ⟨db, 0, none⟩ = some (.slice (some ⟨lb, 0, none⟩) nL cL) → (w'.drewN n').cell? ⟨db, 0, none⟩ = some (.slice (some ⟨lb, 0, none⟩) nL cL) := fun w' n' h => h
  have hS1 : w3.drew.cell? ⟨db, 0, none⟩ = some (.slice (some ⟨lb, 0, none⟩) nL cL) := x0
  refine anyL_takeF (i := 0) (d := 19) (v := (.pointer (some ⟨db, 0, none⟩))) rfl rfl (by kernel_rfl) (by kernel_rfl) (by kernel_rfl) (fun _ _ _ h => h) hSd (by kernel_rfl) (.inl (.inl ⟨rfl, fun w' hS => rfl⟩)) (fun _ => hS1) ?_
  try simp only [List.setIfInBounds_toArray, List.set_cons_succ, List.set_cons_zero]
  refine anyL_takeF (i := 2) (d := 21) (v := (.pointer (some ⟨db, 0, none⟩))) rfl rfl (by kernel_rfl) (by kernel_rfl) (by kernel_rfl) (fun _ _ _ h => h) hSd (by kernel_rfl) (.inl (.inl ⟨rfl, fun w' hS => rfl⟩)) (fun _ => hS1) ?_
  try simp only [List.setIfInBounds_toArray, List.set_cons_succ, List.set_cons_zero]
  refine anyL_takeF (i := 3) (d := 22) (v := (.pointer (some ⟨db, 0, none⟩))) rfl rfl (by kernel_rfl) (by kernel_rfl) (by kernel_rfl) (fun _ _ _ h => h) hSd (by kernel_rfl) (.inl (.inl ⟨rfl, fun w' hS => by go_simp⟩)) (fun _ => hS1) ?_
  try simp only [List.setIfInBounds_toArray, List.set_cons_succ, List.set_cons_zero]
  refine anyL_takeF (i := 4) (d := 23) (v := (.pointer (some ⟨db, 0, none⟩))) rfl rfl (by kernel_rfl) (by kernel_rfl) (by kernel_rfl) (fun _ _ _ h => h) hSd (by kernel_rfl) (.inl (.inl ⟨rfl, fun w' hS => by go_simp⟩)) (fun _ => hS1) ?_
  try simp only [List.setIfInBounds_toArray, List.set_cons_succ, List.set_cons_zero]
  refine anyL_takeD (i := 5) (d := 24) (v := (.slice (some ⟨lb, 0, none⟩) nL cL)) rfl rfl (by kernel_rfl) (by kernel_rfl) (by kernel_rfl) (fun _ _ _ h => h) hSd (by kernel_rfl) (.inl (.inl ⟨rfl, fun w' hS => by have hc := hS; go_simp⟩)) hS1 ?_
  try simp only [List.setIfInBounds_toArray, List.set_cons_succ, List.set_cons_zero]
  refine anyL_takeF (i := 6) (d := 25) (v := (.int .i64 (i : Nat))) rfl rfl (by kernel_rfl) (by kernel_rfl) (by kernel_rfl) (fun _ _ _ h => h) hSd (by kernel_rfl) (.inl (.inl ⟨rfl, fun w' hS => rfl⟩)) (fun _ => hS1) ?_
  try simp only [List.setIfInBounds_toArray, List.set_cons_succ, List.set_cons_zero]
  refine anyL_takeF (i := 7) (d := 26) (v := (.slice (some ⟨lb, 0, none⟩) i cL)) rfl rfl (by kernel_rfl) (by kernel_rfl) (by kernel_rfl) (fun _ _ _ h => h) hSd (by kernel_rfl) (.inl (.inl ⟨rfl, fun w' hS => by go_simp⟩)) (fun _ => hS1) ?_
  try simp only [List.setIfInBounds_toArray, List.set_cons_succ, List.set_cons_zero]
  refine anyL_takeF (i := 9) (d := 28) (v := (.pointer (some ⟨db, 0, none⟩))) rfl rfl (by kernel_rfl) (by kernel_rfl) (by kernel_rfl) (fun _ _ _ h => h) hSd (by kernel_rfl) (.inl (.inl ⟨rfl, fun w' hS => rfl⟩)) (fun _ => hS1) ?_
  try simp only [List.setIfInBounds_toArray, List.set_cons_succ, List.set_cons_zero]
  refine anyL_takeF (i := 10) (d := 29) (v := (.pointer (some ⟨db, 0, none⟩))) rfl rfl (by kernel_rfl) (by kernel_rfl) (by kernel_rfl) (fun _ _ _ h => h) hSd (by kernel_rfl) (.inl (.inl ⟨rfl, fun w' hS => by go_simp⟩)) (fun _ => hS1) ?_
  try simp only [List.setIfInBounds_toArray, List.set_cons_succ, List.set_cons_zero]
  refine anyL_takeF (i := 11) (d := 30) (v := (.pointer (some ⟨db, 0, none⟩))) rfl rfl (by kernel_rfl) (by kernel_rfl) (by kernel_rfl) (fun _ _ _ h => h) hSd (by kernel_rfl) (.inl (.inl ⟨rfl, fun w' hS => by go_simp⟩)) (fun _ => hS1) ?_
  try simp only [List.setIfInBounds_toArray, List.set_cons_succ, List.set_cons_zero]
  refine anyL_takeD (i := 12) (d := 31) (v := (.slice (some ⟨lb, 0, none⟩) nL cL)) rfl rfl (by kernel_rfl) (by kernel_rfl) (by kernel_rfl) (fun _ _ _ h => h) hSd (by kernel_rfl) (.inl (.inl ⟨rfl, fun w' hS => by have hc := hS; go_simp⟩)) hS1 ?_
  try simp only [List.setIfInBounds_toArray, List.set_cons_succ, List.set_cons_zero]
  refine anyL_takeF (i := 13) (d := 32) (v := (.int .i64 (i : Nat))) rfl rfl (by kernel_rfl) (by kernel_rfl) (by kernel_rfl) (fun _ _ _ h => h) hSd (by kernel_rfl) (.inl (.inl ⟨rfl, fun w' hS => rfl⟩)) (fun _ => hS1) ?_
  try simp only [List.setIfInBounds_toArray, List.set_cons_succ, List.set_cons_zero]
  refine anyL_takeF (i := 14) (d := 33) (v := (.int .i64 ((i : Int) + 1))) rfl rfl (by kernel_rfl) (by kernel_rfl) (by kernel_rfl) (fun _ _ _ h => h) hSd (by kernel_rfl) (.inl (.inl ⟨rfl, fun w' hS => by go_simp; exact IntWalk.i64_in _ (by omega)⟩)) (fun _ => hS1) ?_
  try simp only [List.setIfInBounds_toArray, List.set_cons_succ, List.set_cons_zero]
  refine anyL_takeF (i := 15) (d := 34) (v := (.slice aT (nL - (i + 1)) (cL - (i + 1)))) rfl rfl (by kernel_rfl) (by kernel_rfl) (by kernel_rfl) (fun _ _ _ h => h) hSd (by kernel_rfl) (.inl (.inl ⟨rfl, fun w' hS => by go_simp; exact HT.out.symm⟩)) (fun _ => hS1) ?_
  try simp only [List.setIfInBounds_toArray, List.set_cons_succ, List.set_cons_zero]
  refine anyL_all (rs := [1]) (by kernel_rfl) (by simp) ?_
  intro n1 i hi
  simp only [List.mem_cons, List.not_mem_nil, or_false] at hi
  obtain rfl := hi
  refine wpOp_of rfl rfl ?_
  go_simp
  try dsimp only
  refine ⟨fun _ => (((Kp.refl (fun _ => False) w3).drewN _).alloc _).cell x0 (fun h => h), ?_⟩
  refine anyL_world (fun wx => At wx w3.heap.size [] ∧ Kp (fun _ => False) w3 wx) ⟨At.new (w3.drewN _) [] _, ((Kp.refl _ w3).drewN _).alloc _⟩ ?_
  rintro w5 ⟨b5, k5⟩
  try simp only [List.setIfInBounds_toArray, List.set_cons_succ, List.set_cons_zero]
  refine anyL_all (rs := [8]) (by kernel_rfl) (by simp) ?_
  intro n8 i hi
  simp only [List.mem_cons, List.not_mem_nil, or_false] at hi
  obtain rfl := hi
  refine wpOp_of rfl rfl ?_
  obtain ⟨v6, w6, r6, o6, k6, hb6, _⟩ := run_append_at (P := Try.prog) (t := 22) (tx := 22) (ty := 22) (w5.drewN n8) Try.underlying22 elem_dg Try.underlying22
    (own_none (b5.drewN n8)) (a := some ⟨lb, 0, none⟩) (m := i) (c := cL) (news := (dgsC ds).take (i * 3)) (by have := dgsC_len ds; have := H.out.2.1; simp; omega) (rd_take (HR.out _ (k5.drewN n8)) (i * 3)) (fun u hu => HONE.out u (List.mem_of_mem_take hu)) (by unfold maxLen; omega) (by omega)
  rw [Nat.zero_add, List.nil_append] at o6
  obtain ⟨a6, c6, rfl, _, _⟩ := o6.form
  have k36 : Kp (fun _ => False) w3 w6 := (k5.drewN n8).then k6 (fun j hj e => by simp only [Value.ownBlock, Option.some.injEq] at e; omega)
  have g6 : ∀ g, (Value.slice a6 i c6).ownBlock = some g → w3.heap.size ≤ g := fun g hg => by
    rcases hb6 with e | e <;> rw [e] at hg
    · simp only [Value.ownBlock, Option.some.injEq] at hg; omega
    · simp only [Option.some.injEq] at hg; have e2 : (w5.drewN n8).heap.size = w5.heap.size := rfl; have := k5.size; omega
  refine wp_append_go r6 rfl rfl rfl ?_
  have x6 := k36.cell x0 (fun h => h)
  refine ⟨fun _ => x6, ?_⟩
  try simp only [List.setIfInBounds_toArray, List.set_cons_succ, List.set_cons_zero]
  refine anyL_all (rs := [16]) (by kernel_rfl) (by simp) ?_
  intro n16 i hi
  simp only [List.mem_cons, List.not_mem_nil, or_false] at hi
  obtain rfl := hi
  refine wpOp_of rfl rfl ?_
  obtain ⟨v7, w7, r7, o7, k7, hb7, _⟩ := run_append_at (P := Try.prog) (t := 22) (tx := 22) (ty := 22) (w6.drewN n16) Try.underlying22 elem_dg Try.underlying22
    (o6.kp ((Kp.refl (fun _ => False) w6).drewN n16) (fun _ _ h => h)) (a := aT) (m := nL - (i + 1)) (c := cL - (i + 1)) (news := (dgsC ds).drop ((i + 1) * 3)) (by have := dgsC_len ds; have := H.out.2.2.1; simp; omega) (HRT.out _ (k36.drewN n16)) (fun u hu => HONE.out u (List.mem_of_mem_drop hu)) (by unfold maxLen; omega) (by omega)
  rw [show i + (nL - (i + 1)) = nL - 1 by omega] at o7
  obtain ⟨a7, c7, rfl, _, _⟩ := o7.form
  have k37 : Kp (fun _ => False) w3 w7 := (k36.drewN n16).then k7 (fun j hj e => by have := g6 j e; omega)
  have g7 : ∀ g, (Value.slice a7 (nL - 1) c7).ownBlock = some g → w3.heap.size ≤ g := fun g hg => by
    rcases hb7 with e | e <;> rw [e] at hg
    · exact g6 g hg
    · simp only [Option.some.injEq] at hg; have e2 : (w6.drewN n16).heap.size = w6.heap.size := rfl; have := k36.size; omega
  refine wp_append_go r7 rfl rfl rfl ?_
  have x7 := k37.cell x0 (fun h => h)
  refine ⟨fun _ => x7, ?_⟩
  try simp only [List.setIfInBounds_toArray, List.set_cons_succ, List.set_cons_zero]
  have hS1 := x7
  refine anyL_takeF (i := 17) (d := 36) (v := (.pointer (some ⟨db, 0, none⟩))) rfl rfl (by kernel_rfl) (by kernel_rfl) (by kernel_rfl) (fun _ _ _ h => h) hSd (by kernel_rfl) (.inl (.inl ⟨rfl, fun w' hS => by go_simp⟩)) (fun _ => hS1) ?_
  try simp only [List.setIfInBounds_toArray, List.set_cons_succ, List.set_cons_zero]
  refine anyL_takeF (i := 18) (d := 37) (v := (.pointer (some ⟨db, 0, none⟩))) rfl rfl (by kernel_rfl) (by kernel_rfl) (by kernel_rfl) (fun _ _ _ h => h) hSd (by kernel_rfl) (.inl (.inl ⟨rfl, fun w' hS => by go_simp⟩)) (fun _ => hS1) ?_
  try simp only [List.setIfInBounds_toArray, List.set_cons_succ, List.set_cons_zero]
  refine anyL_all (rs := [19]) (by kernel_rfl) (by simp) ?_
  intro n19 i hi
  simp only [List.mem_cons, List.not_mem_nil, or_false] at hi
  obtain rfl := hi
  refine wpOp_of rfl rfl ?_
  have x7' : (w7.drewN n19).cell? ⟨db, 0, none⟩ = some (.slice (some ⟨lb, 0, none⟩) nL cL) := x7
  have f7' : (w7.drewN n19).frozen? ⟨db, 0, none⟩ = false := (k37.at HB.out.1 (fun h => h)).frozen 0
  go_simp
  refine ⟨by first | exact fun h => Bool.noConfusion (show false = true from h) | kernel_rfl, anyL_done (by kernel_rfl) (fun nn => ?_) _⟩
  have hL7 := (HB.out.2.2.2.2.l.cut H.out.2.1 k37 (v' := .slice a7 (nL - 1) c7) (by rw [dgsC_erase, show (ds.eraseIdx i).length = nL - 1 by have := len_erase H.out.2.1; have := H.out.2.2.1; omega]; exact o7) g7)
  have ned7 : ¬ (Value.slice a7 (nL - 1) c7).ownBlock = some db := fun e => by have := g7 db e; have := HB.out.1.lt; omega
  obtain ⟨W, hW⟩ : ∃ W, W = ((w7.drewN n19).setCell ⟨db, 0, none⟩ (.slice a7 (nL - 1) c7)).drewN nn := ⟨_, rfl⟩
  rw [← hW]
  have kW : Kp (· = db) w7 W := by rw [hW]; exact (((Kp.refl (· = db) w7).drewN n19).setCell (p := ⟨db, 0, none⟩) (fun _ => rfl) _).drewN nn
  have hatW : At W db [.slice a7 (nL - 1) c7, O, .int .i64 lost] := by rw [hW]; exact ((((k37.at HB.out.1 (fun h => h)).drewN n19).set 0 (.slice a7 (nL - 1) c7)).drewN nn)
  have r9 := kW.at (k37.at HB.out.2.1 (fun h => h)) (fun e => by omega)
  have b9 := kW.at (k37.at HB.out.2.2.1 (fun h => h)) (fun e => by omega)
  have p0 : W.cell? ⟨w.heap.size, 0, none⟩ = some (.int .i64 0) := (r9.cell 0).trans rfl
  have p1 : W.cell? ⟨w.heap.size, 1, none⟩ = some (.int .i64 0) := (r9.cell 1).trans rfl
  have p2 : W.cell? ⟨w.heap.size, 2, none⟩ = some (.slice none 0 0) := (r9.cell 2).trans rfl
  have f0 := r9.frozen 0
  have f1 := r9.frozen 1
  have f2 := r9.frozen 2
  have q0 : W.cell? ⟨w.heap.size + 1, 0, none⟩ = some (.int .i64 fri) := (b9.cell 0).trans rfl
  have q1 : W.cell? ⟨w.heap.size + 1, 1, none⟩ = some (.int .i64 toi) := (b9.cell 1).trans rfl
  have q2 : W.cell? ⟨w.heap.size + 1, 2, none⟩ = some (.slice ai m ci) := (b9.cell 2).trans rfl
  have hs3 := HB.out.2.2.2.1.size
  have HF := Lib.hid (And.intro hL7 (And.intro kW (And.intro hatW (And.intro r9 (And.intro ned7 (And.intro k37 (And.intro g7 hs3)))))))
  clear hL7 kW hatW r9 b9 ned7 k37 g7 hs3 hW hS1 hSd x0 x6 x7 x7' f7' k36 k5 k6 k7 o6 o7 g6 b5 r6 r7 hb6 hb7
  go_wp2
  obtain ⟨T, hT⟩ := dg_set (fr' := fri) (to' := toi) (B' := .slice ai m ci) HF.out.2.2.2.1
  have hlt0 := H.out.1.lt (b := db) (.inl rfl)
  obtain ⟨hL7, kW, hatW, r9, ned7, k37, g7, hs3⟩ := HF.out
  have kR := kp_set3 (Kp.refl (· = w.heap.size) W) (fun _ => rfl) (.int .i64 fri) (.int .i64 toi) (.slice ai m ci)
  generalize hWW : ((W.setCell ⟨w.heap.size, 0, none⟩ (.int .i64 fri)).setCell ⟨w.heap.size, 1, none⟩ (.int .i64 toi)).setCell ⟨w.heap.size, 2, none⟩ (.slice ai m ci) = WW at *
  refine bodyPost_ret (results_cell_tmp_row rfl _ _ w.heap.size T _ (0, 0) _ rfl hT Try.underlying28 rfl dg_info) rfl ⟨?_, ?_⟩
  · rw [H.out.2.2.2.1, ← H.out.2.2.2.2.1, ← H.out.2.2.2.2.2.1, ← H.out.2.2.2.2.2.2.1]
    rfl
  have hk03 := HB.out.2.2.2.1
  have hd3 := HB.out.2.2.2.2
  have h0 := H.out.1
  have k3W : Kp (· = db) w W := ((hk03.trans k37).mono (fun _ _ h => h.elim)).trans kW
  have kAll : Kp (· = db) w WW := k3W.then kR (fun j hj e => by omega)
  have hofb : ∀ b, DgL.Of (.slice a7 (nL - 1) c7) (ds.eraseIdx i) b → w3.heap.size ≤ b ∨ DgL.Of (.slice (some ⟨lb, 0, none⟩) ds.length cL) ds b := fun b hb => by
    rcases of_erase (v := .slice (some ⟨lb, 0, none⟩) ds.length cL) H.out.2.1 hb with h1 | h1
    · exact .inl (g7 b h1)
    · exact .inr h1
  have hndb : ¬ DgL.Of (.slice a7 (nL - 1) c7) (ds.eraseIdx i) db := fun hf => by
    rcases hofb db hf with h1 | h1
    · have := hd3.lt (b := db) (.inl rfl); omega
    · exact h0.dl h1
  have hs03 := hk03.size
  have hs3' : w.heap.size + 1 + 1 ≤ w3.heap.size := by have := HB.out.2.2.1.lt; omega
  refine ⟨_, ⟨kR.at hatW (fun e => by omega), (hL7.kp kW (fun b hb e => hndb (e ▸ hb))).kp kR (fun b hb e => ?_), ((hd3.o.kp k37 (fun _ _ h => h)).kp kW (fun b hb e => h0.dO (e ▸ hb))).kp kR (fun b hb e => ?_), hndb, h0.dO, fun b hb hf => ?_⟩, ⟨kAll.mono (fun j _ e => .inl e), fun b hb => ?_⟩, ?_⟩
  · rcases hofb b hb with h1 | h1
    · omega
    · have := h0.l.lt h1; omega
  · have := h0.o.lt b hb; omega
  · rcases hofb b hf with h1 | h1
    · have := hd3.o.lt b hb; omega
    · exact h0.ol b hb h1
  · rcases hb with hb | hb | hb
    · exact .inl (.inl hb)
    · exact .inl (.inr (.inl hb))
    · rcases hofb b hb with h1 | h1
      · exact .inr (by omega)
      · exact .inl (.inr (.inr h1))
  · have ho := h0.l.each i H.out.2.1
    exact ho.kp kAll (fun g hg e => h0.dl (.inr ⟨i, H.out.2.1, by rw [← e]; exact hg⟩))
end
end Go.Proofs.Ytgcgcdgjooaipaa
