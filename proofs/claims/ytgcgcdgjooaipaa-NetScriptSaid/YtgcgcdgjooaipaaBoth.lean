/- NetScript: the law's own both: a call of the net and of the document's. (Written by wip/netboth2.py.) -/
import Derived.Test.YtgcgcdgjooaipaaBothA
namespace Go.Proofs.Ytgcgcdgjooaipaa
open Go.RowKit Go.Maps
set_option linter.unusedVariables false
set_option linter.unusedSimpArgs false
section
variable {w0 w w' : World} {nb mb db c : Nat}
set_option maxHeartbeats 8000000 in
set_option maxRecDepth 20000 in
theorem both_send (h : Bo w0 w nb mb db c (fun _ => False)) (hc : c ≤ 90) (kd xi xk : Int) (is : Bool) (fr tt : Int) (a : Option Addr) (m cp : Nat) (l : List Int) (hm : m = l.length) (hb : RdB w0 a l) (hcp : m ≤ cp) (hml : m ≤ 8000) (hi : i64in xi) (hk : i64in xk) (e3 : ¬ kd = 3) (e4 : ¬ kd = 4) (e5 : ¬ kd = 5) (e6 : ¬ kd = 6) (e7 : ¬ kd = 7) (e8 : ¬ kd = 8) :
    Calls Try.prog 26 #[.pointer (some ⟨nb, 0, none⟩), .pointer (some ⟨db, 0, none⟩), .agg #[.int .i64 kd, .int .i64 xi, .int .i64 xk, .bool is, .int .i64 fr, .int .i64 tt, .slice a m cp]] w fun e w' => e = .returned (.bool true) ∧ Bo w0 w' nb mb db (c + 1) (fun _ => False) := by
  have H := Lib.hid (And.intro h (And.intro hm (And.intro hb (And.intro hi hk))))
  clear h hm hb hi hk
  go_enter Try.func26, Try.ntmps26
  go_upto_region 1 with fail
  refine wp_world (fun wx => At wx w.heap.size (actC kd xi xk is fr tt (.slice a m cp)) ∧ Kp (fun _ => False) w wx) ⟨At.new w (actC kd xi xk is fr tt (.slice a m cp)) 53, (Kp.refl _ w).alloc _⟩ ?_
  rintro w4 ⟨hb4, k4⟩
  obtain ⟨bx, hbx⟩ : ∃ bx, bx = w.heap.size := ⟨_, rfl⟩
  rw [← hbx] at hb4 ⊢
  have x0 : w4.cell? ⟨bx, 0, none⟩ = some (.int .i64 kd) := (hb4.cell 0).trans rfl
  have x1 : w4.cell? ⟨bx, 1, none⟩ = some (.int .i64 xi) := (hb4.cell 1).trans rfl
  have x2 : w4.cell? ⟨bx, 2, none⟩ = some (.int .i64 xk) := (hb4.cell 2).trans rfl
  have x3 : w4.cell? ⟨bx, 3, none⟩ = some (.bool is) := (hb4.cell 3).trans rfl
  have x4 : w4.cell? ⟨bx, 4, none⟩ = some (.int .i64 fr) := (hb4.cell 4).trans rfl
  have x5 : w4.cell? ⟨bx, 5, none⟩ = some (.int .i64 tt) := (hb4.cell 5).trans rfl
  have x6 : w4.cell? ⟨bx, 6, none⟩ = some (.slice a m cp) := (hb4.cell 6).trans rfl
  have B4 := Lib.hid (H.out.1.avoid (av := (· = bx)) k4 (fun j e => by omega))
  have hlt := hb4.lt
  have HB4 := Lib.hid (And.intro hb4 (And.intro k4 hbx))
  clear hb4 k4 hbx
  have z3 : (kd == 3) = false := by simpa using e3
  have z4 : (kd == 4) = false := by simpa using e4
  have z5 : (kd == 5) = false := by simpa using e5
  have z6 : (kd == 6) = false := by simpa using e6
  have z7 : (kd == 7) = false := by simpa using e7
  have z8 : (kd == 8) = false := by simpa using e8
  clear e3 e4 e5 e6 e7 e8
  have CL := Lib.hid (fun w' (k : Kp (fun _ => False) w0 w') => (by
    have hm := H.out.2.1
    subst hm
    exact lent_any a cp l w' (H.out.2.2.1.kp0 k (fun _ _ h => h)) (by omega) : Calls Try.prog 46 #[.slice a m cp] w' fun e w'' => e = .returned (.slice (some ⟨w'.heap.size, 0, none⟩) m (m + 3)) ∧ At w'' w'.heap.size ((l ++ marks l.length).map (Value.int .u8)) ∧ Kp (fun _ => False) w' w''))
  have K04 := Lib.hid (B4.out.k)
  go_upto_region 20 with (go_at_call 46; (refine Calls.mono (CL.out _ (K04.out.alloc _)) ?_); rintro e w6 ⟨rfl, hg6, k6⟩; have y0 : w6.cell? ⟨w4.heap.size, 0, none⟩ = some (.int .i64 fr) := ((k6.at (At.new w4 (dgC fr tt (.slice a m cp)) 28) (fun h => h)).cell 0).trans rfl; have y1 : w6.cell? ⟨w4.heap.size, 1, none⟩ = some (.int .i64 tt) := ((k6.at (At.new w4 (dgC fr tt (.slice a m cp)) 28) (fun h => h)).cell 1).trans rfl; have y2 : w6.cell? ⟨w4.heap.size, 2, none⟩ = some (.slice a m cp) := ((k6.at (At.new w4 (dgC fr tt (.slice a m cp)) 28) (fun h => h)).cell 2).trans rfl; have f2 := (k6.at (At.new w4 (dgC fr tt (.slice a m cp)) 28) (fun h => h)).frozen 2; have H6 := Lib.hid (And.intro hg6 k6); clear hg6 k6)
  obtain ⟨bl, hbl⟩ : ∃ bl, bl = w4.heap.size := ⟨_, rfl⟩
  obtain ⟨g, hgl⟩ : ∃ g, g = w4.heap.size + 1 := ⟨_, rfl⟩
  have hg6 := H6.out.1
  have k6 := H6.out.2
  rw [World.size_alloc] at hg6
  refine wp_world (fun wx => At wx bl (dgC fr tt (.slice (some ⟨g, 0, none⟩) m (m + 3))) ∧ At wx g ((l ++ marks l.length).map (Value.int .u8)) ∧ Kp (fun _ => False) w4 wx) ?_ ?_
  · have q1 := ((k6.at (At.new w4 (dgC fr tt (.slice a m cp)) 28) (fun h => h)).set 2 (.slice (some ⟨g, 0, none⟩) m (m + 3)))
    have q2 := hg6.setOther (a := ⟨w4.heap.size, 2, none⟩) (by simp) (.slice (some ⟨w4.heap.size + 1, 0, none⟩) m (m + 3))
    have q3 := (((Kp.refl (fun _ => False) w4).alloc (.cells (dgC fr tt (.slice a m cp)).toArray 28)).trans k6).setCell (p := ⟨w4.heap.size, 2, none⟩) (fun h => absurd h (Nat.lt_irrefl _)) (.slice (some ⟨w4.heap.size + 1, 0, none⟩) m (m + 3))
    rw [hbl, hgl]
    rw [hgl] at q1
    exact ⟨q1, q2, q3⟩
  rintro w7 ⟨p1, p2, k47⟩
  rw [← hbl]
  have x4 := k47.cell x4 (fun h => h)
  have x5 := k47.cell x5 (fun h => h)
  have x6 := k47.cell x6 (fun h => h)
  have l0 : w7.cell? ⟨bl, 0, none⟩ = some (.int .i64 fr) := (p1.cell 0).trans rfl
  have l1 : w7.cell? ⟨bl, 1, none⟩ = some (.int .i64 tt) := (p1.cell 1).trans rfl
  have l2 : w7.cell? ⟨bl, 2, none⟩ = some (.slice (some ⟨g, 0, none⟩) m (m + 3)) := (p1.cell 2).trans rfl
  have k07 : Kp (fun _ => False) w w7 := HB4.out.2.1.trans k47
  have hw4 := HB4.out.2.1.size
  have HG := Lib.hid (show w0.heap.size ≤ g by have := H.out.1.k.size; omega)
  have b7 := H.out.1.avoid (av := fun j => j = bx ∨ j = bl ∨ j = g) k07 (fun j e => by have := HB4.out.2.2; omega)
  have hgl7 := p2.lt
  have hbl7 := p1.lt
  have hml : m ≤ 8000 := hml
  obtain ⟨AV, hAV⟩ : ∃ AV : Nat → Prop, AV = fun j => ¬ (j = bx ∨ j = bl ∨ j = g) := ⟨_, rfl⟩
  have HAV := Lib.hid (fun (j : Nat) (_ : j < w7.heap.size ∨ True) (h : ¬ (j = bx ∨ j = bl ∨ j = g)) => (by rw [hAV]; exact h : AV j))
  have NBX := Lib.hid (show ¬ AV bx by rw [hAV]; exact fun h => h (.inl rfl))
  have NBL := Lib.hid (show ¬ AV bl by rw [hAV]; exact fun h => h (.inr (.inl rfl)))
  have NG := Lib.hid (show ¬ AV g by rw [hAV]; exact fun h => h (.inr (.inr rfl)))
  clear hAV
  have CT := Lib.hid (fun w' (kw : Kp (fun _ => False) w7 w') => two_send (av := fun j => j = bx ∨ j = bl ∨ j = g) (b7.kp0 kw) (by omega) (fun j hj => by have := kw.size; omega) fr tt (some ⟨g, 0, none⟩) a m (m + 3) cp l H.out.2.1 (RdB.lent' (kw.at p2 (fun h => h)) H.out.2.2.1.bd (by rw [← H.out.2.1]; omega)) H.out.2.2.1)
  have CK := Lib.hid (fun w' (k : Kp AV w7 w') (k0 : Kp (fun _ => False) w0 w') => (by
    have hm := H.out.2.1
    subst hm
    exact kept_any g a cp l w' (k.at p2 NG.out) (H.out.2.2.1.kp0 k0 (fun _ _ h => h)) (by omega) : Calls Try.prog 48 #[.slice (some ⟨g, 0, none⟩) m (m + 3), .slice a m cp] w' fun e w'' => e = .returned (.bool true) ∧ Kp (fun _ => False) w' w''))
  have COV := Lib.hid (fun w' (k : Kp AV w7 w') => (by
    refine (over_at g 0 m (m + 3) _ w' (k.at p2 NG.out) (isB_map (H.out.2.2.1.bd.append (byt_marks _))) (by have := H.out.2.1; simp [marks]; omega) (by omega) (by omega)).mono ?_
    rintro e wo ⟨rfl, _, ko⟩
    exact ⟨rfl, ko⟩ : Calls Try.prog 28 #[.slice (some ⟨g, 0, none⟩) m (m + 3)] w' fun e wo => e = .returned (.tuple #[]) ∧ Kp (· = g) w' wo))
  clear p1 p2 k47 k07 b7 hg6 k6 y0 y1 y2 f2 x0 x1 x2 x3 hbl hgl
  refine region_L (S := fun w' => Kp AV w7 w') [] rfl ?_
  have hSd : ∀ (w' : World) (n' : Nat), Kp AV w7 w' → Kp AV w7 (w'.drewN n') := fun w' n' h => h.drewN n'
  have hS1 : Kp AV w7 w7.drew := (Kp.refl _ w7).drew
  refine anyL_takeF (i := 0) (d := 124) (v := (.pointer (some ⟨nb, 0, none⟩))) rfl rfl (by kernel_rfl) (by kernel_rfl) (by kernel_rfl) (fun _ _ _ h => h) hSd (by kernel_rfl) (.inl (.inl ⟨rfl, fun w' hS => rfl⟩)) (fun _ => hS1) ?_
  try simp only [List.setIfInBounds_toArray, List.set_cons_succ, List.set_cons_zero]
  refine anyL_takeD (i := 1) (d := 125) (v := (.agg #[.int .i64 fr, .int .i64 tt, .slice (some ⟨g, 0, none⟩) m (m + 3)])) rfl rfl (by kernel_rfl) (by kernel_rfl) (by kernel_rfl) (fun _ _ _ h => h) hSd (by kernel_rfl) (.inl (.inl ⟨rfl, fun w' hS => by have hc0 := Kp.cell hS l0 NBL.out; have hc1 := Kp.cell hS l1 NBL.out; have hc2 := Kp.cell hS l2 NBL.out; go_simp⟩)) hS1 ?_
  try simp only [List.setIfInBounds_toArray, List.set_cons_succ, List.set_cons_zero]
  refine anyL_takeF (i := 3) (d := 127) (v := (.pointer (some ⟨db, 0, none⟩))) rfl rfl (by kernel_rfl) (by kernel_rfl) (by kernel_rfl) (fun _ _ _ h => h) hSd (by kernel_rfl) (.inl (.inl ⟨rfl, fun w' hS => rfl⟩)) (fun _ => hS1) ?_
  try simp only [List.setIfInBounds_toArray, List.set_cons_succ, List.set_cons_zero]
  refine anyL_takeF (i := 4) (d := 128) (v := (.pointer (some ⟨bx, 4, none⟩))) rfl rfl (by kernel_rfl) (by kernel_rfl) (by kernel_rfl) (fun _ _ _ h => h) hSd (by kernel_rfl) (.inl (.inl ⟨rfl, fun w' hS => by go_simp⟩)) (fun _ => hS1) ?_
  try simp only [List.setIfInBounds_toArray, List.set_cons_succ, List.set_cons_zero]
  refine anyL_takeD (i := 5) (d := 129) (v := (.agg #[.int .i64 fr, .int .i64 tt, .slice a m cp])) rfl rfl (by kernel_rfl) (by kernel_rfl) (by kernel_rfl) (fun _ _ _ h => h) hSd (by kernel_rfl) (.inl (.inl ⟨rfl, fun w' hS => by have hc0 := Kp.cell hS x4 NBX.out; have hc1 := Kp.cell hS x5 NBX.out; have hc2 := Kp.cell hS x6 NBX.out; go_simp⟩)) hS1 ?_
  try simp only [List.setIfInBounds_toArray, List.set_cons_succ, List.set_cons_zero]
  refine anyL_all (rs := [2]) (by kernel_rfl) (by simp) ?_
  intro n2 i hi
  simp only [List.mem_cons, List.not_mem_nil, or_false] at hi
  obtain rfl := hi
  refine wpOp_of rfl rfl ?_
  go_simp
  refine Calls.mono (CT.out _ ((Kp.refl _ w7).drewN _)) ?_
  rintro e w8 ⟨r, rfl, k8, C8⟩
  have k78 : Kp AV w7 w8 := ((Kp.refl _ w7).drewN _).trans (k8.mono (fun j _ h => HAV.out j (.inr trivial) h))
  try dsimp only
  refine ⟨fun _ => k78, ?_⟩
  try simp only [List.setIfInBounds_toArray, List.set_cons_succ, List.set_cons_zero]
  refine anyL_all (rs := [6]) (by kernel_rfl) (by simp) ?_
  intro n6 i hi
  simp only [List.mem_cons, List.not_mem_nil, or_false] at hi
  obtain rfl := hi
  refine wpOp_of rfl rfl ?_
  go_simp
  refine Calls.mono (C8 _ ((Kp.refl _ w8).drewN _)) ?_
  rintro e w9 ⟨rfl, b9, k9⟩
  have k79 : Kp AV w7 w9 := (k78.drewN _).trans (k9.mono (fun j _ h => HAV.out j (.inr trivial) h))
  try dsimp only
  refine ⟨fun _ => k79, ?_⟩
  have hS1 := k79
  try simp only [List.setIfInBounds_toArray, List.set_cons_succ, List.set_cons_zero]
  refine anyL_takeF (i := 7) (d := 131) (v := (.bool true)) rfl rfl (by kernel_rfl) (by kernel_rfl) (by kernel_rfl) (fun _ _ _ h => h) hSd (by kernel_rfl) (.inl (.inl ⟨rfl, fun w' hS => by go_simp⟩)) (fun _ => hS1) ?_
  try simp only [List.setIfInBounds_toArray, List.set_cons_succ, List.set_cons_zero]
  refine anyL_takeF (i := 8) (d := 132) (v := (.bool true)) rfl rfl (by kernel_rfl) (by kernel_rfl) (by kernel_rfl) (fun _ _ _ h => h) hSd (by kernel_rfl) (.inl (.inl ⟨rfl, fun w' hS => rfl⟩)) (fun _ => hS1) ?_
  try simp only [List.setIfInBounds_toArray, List.set_cons_succ, List.set_cons_zero]
  refine anyL_takeF (i := 9) (d := 133) (v := (.pointer (some ⟨bl, 2, none⟩))) rfl rfl (by kernel_rfl) (by kernel_rfl) (by kernel_rfl) (fun _ _ _ h => h) hSd (by kernel_rfl) (.inl (.inl ⟨rfl, fun w' hS => by go_simp⟩)) (fun _ => hS1) ?_
  try simp only [List.setIfInBounds_toArray, List.set_cons_succ, List.set_cons_zero]
  refine anyL_takeD (i := 10) (d := 134) (v := (.slice (some ⟨g, 0, none⟩) m (m + 3))) rfl rfl (by kernel_rfl) (by kernel_rfl) (by kernel_rfl) (fun _ _ _ h => h) hSd (by kernel_rfl) (.inl (.inl ⟨rfl, fun w' hS => by have hc0 := Kp.cell hS l0 NBL.out; have hc1 := Kp.cell hS l1 NBL.out; have hc2 := Kp.cell hS l2 NBL.out; go_simp⟩)) hS1 ?_
  try simp only [List.setIfInBounds_toArray, List.set_cons_succ, List.set_cons_zero]
  refine anyL_takeF (i := 11) (d := 135) (v := (.pointer (some ⟨bx, 4, none⟩))) rfl rfl (by kernel_rfl) (by kernel_rfl) (by kernel_rfl) (fun _ _ _ h => h) hSd (by kernel_rfl) (.inl (.inl ⟨rfl, fun w' hS => by go_simp⟩)) (fun _ => hS1) ?_
  try simp only [List.setIfInBounds_toArray, List.set_cons_succ, List.set_cons_zero]
  refine anyL_takeF (i := 12) (d := 136) (v := (.pointer (some ⟨bx, 6, none⟩))) rfl rfl (by kernel_rfl) (by kernel_rfl) (by kernel_rfl) (fun _ _ _ h => h) hSd (by kernel_rfl) (.inl (.inl ⟨rfl, fun w' hS => by go_simp⟩)) (fun _ => hS1) ?_
  try simp only [List.setIfInBounds_toArray, List.set_cons_succ, List.set_cons_zero]
  refine anyL_takeD (i := 13) (d := 137) (v := (.slice a m cp)) rfl rfl (by kernel_rfl) (by kernel_rfl) (by kernel_rfl) (fun _ _ _ h => h) hSd (by kernel_rfl) (.inl (.inl ⟨rfl, fun w' hS => by have hc0 := Kp.cell hS x4 NBX.out; have hc1 := Kp.cell hS x5 NBX.out; have hc2 := Kp.cell hS x6 NBX.out; go_simp⟩)) hS1 ?_
  try simp only [List.setIfInBounds_toArray, List.set_cons_succ, List.set_cons_zero]
  refine anyL_all (rs := [14]) (by kernel_rfl) (by simp) ?_
  intro n14 i hi
  simp only [List.mem_cons, List.not_mem_nil, or_false] at hi
  obtain rfl := hi
  refine wpOp_of rfl rfl ?_
  go_simp
  refine Calls.mono (CK.out _ (k79.drewN _) (b9.kp0 ((Kp.refl _ w9).drewN _)).k) ?_
  rintro e w10 ⟨rfl, k10⟩
  have k910 : Kp (fun _ => False) w9 w10 := ((Kp.refl _ w9).drewN _).trans k10
  have k710 : Kp AV w7 w10 := k79.trans (k910.mono (fun _ _ h => h.elim))
  try dsimp only
  refine ⟨fun _ => k710, ?_⟩
  have hS1 := k710
  try simp only [List.setIfInBounds_toArray, List.set_cons_succ, List.set_cons_zero]
  refine anyL_takeF (i := 15) (d := 139) (v := (.bool true)) rfl rfl (by kernel_rfl) (by kernel_rfl) (by kernel_rfl) (fun _ _ _ h => h) hSd (by kernel_rfl) (.inl (.inl ⟨rfl, fun w' hS => by go_simp⟩)) (fun _ => hS1) ?_
  try simp only [List.setIfInBounds_toArray, List.set_cons_succ, List.set_cons_zero]
  refine anyL_takeF (i := 16) (d := 13) (v := (.bool true)) rfl rfl (by kernel_rfl) (by kernel_rfl) (by kernel_rfl) (fun _ _ _ h => h) hSd (by kernel_rfl) (.inl (.inl ⟨rfl, fun w' hS => rfl⟩)) (fun _ => hS1) ?_
  try simp only [List.setIfInBounds_toArray, List.set_cons_succ, List.set_cons_zero]
  refine anyL_done (by kernel_rfl) (fun nn => ?_) _
  have B7 := Lib.hid ((b9.kp0 k910).kp0 ((Kp.refl _ w10).drewN nn))
  have u2 : (w10.drewN nn).cell? ⟨bl, 2, none⟩ = some (.slice (some ⟨g, 0, none⟩) m (m + 3)) := Kp.cell (k710.drewN nn) l2 NBL.out
  have KO := Lib.hid (k710.drewN nn)
  clear b9 k9 k8 k78 k79 C8 hS1 hSd CT k910 k710 k10
  go_wp2_with (go_at_call 28; (refine Calls.mono (COV.out _ KO.out) ?_); rintro e wo ⟨rfl, ko⟩; have KOV := Lib.hid ko; clear ko)
  go_ret
  exact ⟨rfl, (B7.out.kp KOV.out (fun j hj => .inr (.inr hj)) (fun j hj => by have := HG.out; omega)).free⟩
theorem both_any (h : Bo w0 w nb mb db c (fun _ => False)) (hc : c ≤ 90) (kd xi xk : Int) (is : Bool) (fr tt : Int) (a : Option Addr) (m cp : Nat) (l : List Int) (hm : m = l.length) (hb : RdB w0 a l) (hcp : m ≤ cp) (hml : m ≤ 8000) (hi : i64in xi) (hk : i64in xk) :
    Calls Try.prog 26 #[.pointer (some ⟨nb, 0, none⟩), .pointer (some ⟨db, 0, none⟩), .agg #[.int .i64 kd, .int .i64 xi, .int .i64 xk, .bool is, .int .i64 fr, .int .i64 tt, .slice a m cp]] w fun e w' => e = .returned (.bool true) ∧ Bo w0 w' nb mb db (c + 1) (fun _ => False) := by
  by_cases e3 : kd = 3
  · exact both_take h hc kd xi xk is fr tt a m cp l hm hb hcp hml hi hk e3
  by_cases e4 : kd = 4
  · exact both_drop h hc kd xi xk is fr tt a m cp l hm hb hcp hml hi hk e4
  by_cases e5 : kd = 5
  · exact both_copy h hc kd xi xk is fr tt a m cp l hm hb hcp hml hi hk e5
  by_cases e6 : kd = 6
  · exact both_turn h hc kd xi xk is fr tt a m cp l hm hb hcp hml hi hk e6
  by_cases e7 : kd = 7
  · exact both_swap h hc kd xi xk is fr tt a m cp l hm hb hcp hml hi hk e7
  by_cases e8 : kd = 8
  · exact both_cut h hc kd xi xk is fr tt a m cp l hm hb hcp hml hi hk e8
  exact both_send h hc kd xi xk is fr tt a m cp l hm hb hcp hml hi hk e3 e4 e5 e6 e7 e8
end
end Go.Proofs.Ytgcgcdgjooaipaa
