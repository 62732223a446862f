/- NetScript: the law's own both: a call of the net and of the document's. (Written by wip/netboth2.py.) -/
import Derived.Test.YtgcgcdgjooaipaaTwo
namespace Go.Proofs.Ytgcgcdgjooaipaa
open Go.RowKit Go.Maps
set_option linter.unusedVariables false
set_option linter.unusedSimpArgs false
def actC (kd i k : Int) (is : Bool) (fr tt : Int) (B : Value) : List Value := [.int .i64 kd, .int .i64 i, .int .i64 k, .bool is, .int .i64 fr, .int .i64 tt, B]
section
variable {w0 w w' : World} {nb mb db c : Nat}
set_option maxHeartbeats 8000000 in
set_option maxRecDepth 20000 in
theorem both_take (h : Bo w0 w nb mb db c (fun _ => False)) (hc : c ≤ 90) (kd xi xk : Int) (is : Bool) (fr tt : Int) (a : Option Addr) (m cp : Nat) (l : List Int) (hm : m = l.length) (hb : RdB w0 a l) (hcp : m ≤ cp) (hml : m ≤ 8000) (hi : i64in xi) (hk : i64in xk) (ekd : kd = 3) :
    Calls Try.prog 26 #[.pointer (some ⟨nb, 0, none⟩), .pointer (some ⟨db, 0, none⟩), .agg #[.int .i64 kd, .int .i64 xi, .int .i64 xk, .bool is, .int .i64 fr, .int .i64 tt, .slice a m cp]] w fun e w' => e = .returned (.bool true) ∧ Bo w0 w' nb mb db (c + 1) (fun _ => False) := by
  have H := Lib.hid (And.intro h (And.intro hm (And.intro hb (And.intro hi hk))))
  have EK := Lib.hid ekd
  clear h hm hb hi hk ekd
  go_enter Try.func26, Try.ntmps26
  go_upto_region 1 with fail
  refine wp_world (fun wx => At wx w.heap.size (actC kd xi xk is fr tt (.slice a m cp)) ∧ Kp (fun _ => False) w wx) ⟨At.new w (actC kd xi xk is fr tt (.slice a m cp)) 53, (Kp.refl _ w).alloc _⟩ ?_
  rintro w4 ⟨hb4, k4⟩
  obtain ⟨bx, hbx⟩ : ∃ bx, bx = w.heap.size := ⟨_, rfl⟩
  rw [← hbx] at hb4 ⊢
  have x0 : w4.cell? ⟨bx, 0, none⟩ = some (.int .i64 kd) := (hb4.cell 0).trans rfl
  have x1 : w4.cell? ⟨bx, 1, none⟩ = some (.int .i64 xi) := (hb4.cell 1).trans rfl
  have x2 : w4.cell? ⟨bx, 2, none⟩ = some (.int .i64 xk) := (hb4.cell 2).trans rfl
  have x3 : w4.cell? ⟨bx, 3, none⟩ = some (.bool is) := (hb4.cell 3).trans rfl
  have x4 : w4.cell? ⟨bx, 4, none⟩ = some (.int .i64 fr) := (hb4.cell 4).trans rfl
  have x5 : w4.cell? ⟨bx, 5, none⟩ = some (.int .i64 tt) := (hb4.cell 5).trans rfl
  have x6 : w4.cell? ⟨bx, 6, none⟩ = some (.slice a m cp) := (hb4.cell 6).trans rfl
  have B4 := Lib.hid (H.out.1.avoid (av := (· = bx)) k4 (fun j e => by omega))
  have hlt := hb4.lt
  have HB4 := Lib.hid (And.intro hb4 (And.intro k4 hbx))
  clear hb4 k4 hbx
  have ekd := EK.out
  clear EK
  subst ekd
  have CT := Lib.hid (two_take (av := (· = bx)) B4.out (by omega) (fun j hj => by omega) xi)
  go_upto_region 5 with (first | (go_at_call 24; (with_reducible refine CT.out.mono ?_); rintro e w5 ⟨r5, fr5, tt5, a5, n5, c5, l5, rfl, hn5, hm5, hc5, k5, C5⟩; have y1 := k5.cell x1 (fun h => h rfl); have hl5 : bx < w5.heap.size := (by have := k5.size; omega); have H5 := Lib.hid (And.intro hn5 (And.intro k5 C5)); clear hn5 k5 C5) | (go_at_call 40; (refine Calls.mono (H5.out.2.2 _ ((Kp.refl _ w5).alloc _)) ?_); rintro e w7 ⟨a7, c7, rfl, r7, hc7, o7, k7, b7, g7⟩; have H7 := Lib.hid (And.intro r7 (And.intro hc7 (And.intro o7 (And.intro k7 (And.intro b7 g7))))); clear r7 hc7 o7 k7 b7 g7))
  refine wp_world (fun wx => At wx w5.heap.size (dgC fr5 tt5 (.slice a5 n5 c5)) ∧ At wx w7.heap.size (dgC fr5 tt5 (.slice a7 n5 c7)) ∧ Kp (fun _ => False) w7 wx) ?_ ?_
  · have q1 := At.new w5 (dgC fr5 tt5 (.slice a5 n5 c5)) 28
    exact ⟨(H7.out.2.2.2.1.at q1 (fun e => by omega)).alloc _, At.new w7 (dgC fr5 tt5 (.slice a7 n5 c7)) 28, (Kp.refl _ w7).alloc _⟩
  rintro w8 ⟨p1, p2, k8⟩
  have hrr : (r5 == r5) = true := by simp
  have z0 : w8.cell? ⟨w5.heap.size, 0, none⟩ = some (.int .i64 fr5) := (p1.cell 0).trans rfl
  have z1 : w8.cell? ⟨w5.heap.size, 1, none⟩ = some (.int .i64 tt5) := (p1.cell 1).trans rfl
  have z2 : w8.cell? ⟨w5.heap.size, 2, none⟩ = some (.slice a5 n5 c5) := (p1.cell 2).trans rfl
  have v0 : w8.cell? ⟨w7.heap.size, 0, none⟩ = some (.int .i64 fr5) := (p2.cell 0).trans rfl
  have v1 : w8.cell? ⟨w7.heap.size, 1, none⟩ = some (.int .i64 tt5) := (p2.cell 1).trans rfl
  have v2 : w8.cell? ⟨w7.heap.size, 2, none⟩ = some (.slice a7 n5 c7) := (p2.cell 2).trans rfl
  have hl1 := p1.lt
  have hl2 := p2.lt
  have CS := Lib.hid (by
    have q1 := (At.new w8 (dgC fr5 tt5 (.slice a5 n5 c5)) 28).alloc (.cells (dgC fr5 tt5 (.slice a7 n5 c7)).toArray 28)
    have q2 := At.new2 w8 (.cells (dgC fr5 tt5 (.slice a5 n5 c5)).toArray 28) (dgC fr5 tt5 (.slice a7 n5 c7)) 28
    obtain ⟨_, _, ev, hr5, _⟩ := H7.out.2.2.1.form
    simp only [Value.slice.injEq] at ev
    rw [← ev.1] at hr5
    have kk := ((Kp.refl (fun _ => False) w8).alloc (.cells (dgC fr5 tt5 (.slice a5 n5 c5)).toArray 28)).alloc (.cells (dgC fr5 tt5 (.slice a7 n5 c7)).toArray 28)
    exact samedg_n (some ⟨w8.heap.size, 0, none⟩) (some ⟨w8.heap.size + 1, 0, none⟩) 1 1 1 1 [⟨0, fr5, tt5, .slice a5 n5 c5, l5⟩] [⟨0, fr5, tt5, .slice a7 n5 c7, l5⟩] _ (RdD.one q1 ((hr5.kp0 k8 (fun _ _ h => h)).kp0 kk (fun _ _ h => h)) H5.out.1.symm hc5) (RdD.one q2 ((H7.out.1.kp0 k8 (fun _ _ h => h)).kp0 kk (fun _ _ h => h)) H5.out.1.symm H7.out.2.1) rfl (by simp) rfl rfl : Calls Try.prog 12 #[.slice (some ⟨w8.heap.size, 0, none⟩) 1 1, .slice (some ⟨w8.heap.size + 1, 0, none⟩) 1 1] ((w8.alloc (.cells #[.int .i64 fr5, .int .i64 tt5, .slice a5 n5 c5] 28)).alloc (.cells #[.int .i64 fr5, .int .i64 tt5, .slice a7 n5 c7] 28)) fun e w' => e = .returned (.bool true) ∧ Kp (fun _ => False) _ w')
  have CO := Lib.hid (fun w' (k : Kp (fun _ => False) w8 w') => over_own ((H7.out.2.2.1.kp k8 (fun _ _ h => h)).kp k (fun _ _ h => h)))
  have H8 := Lib.hid (And.intro p1 k8)
  clear p1 p2 k8 x0 x1 x2 x3 x4 x5 x6 y1
  go_wp2_with (first | (go_at_call 12; (with_reducible refine CS.out.mono ?_); rintro e w9 ⟨rfl, k9⟩; have k89 := ((((Kp.refl (fun _ => False) w8).alloc _).alloc _).trans k9); have u2 := k89.cell z2 (fun h => h); have K9 := Lib.hid k89; clear k9 k89) | (go_at_call 28; (with_reducible refine (CO.out _ K9.out).mono ?_); rintro e wo ⟨rfl, ko⟩; have KO := Lib.hid ko; clear ko))
  go_ret
  exact ⟨rfl, ((((H7.out.2.2.2.2.1.kp0 H8.out.2).kp0 K9.out).kp KO.out (fun j hj => hj) (fun j hj => H7.out.2.2.2.2.2 j hj)).free)⟩
set_option maxHeartbeats 8000000 in
set_option maxRecDepth 20000 in
theorem both_drop (h : Bo w0 w nb mb db c (fun _ => False)) (hc : c ≤ 90) (kd xi xk : Int) (is : Bool) (fr tt : Int) (a : Option Addr) (m cp : Nat) (l : List Int) (hm : m = l.length) (hb : RdB w0 a l) (hcp : m ≤ cp) (hml : m ≤ 8000) (hi : i64in xi) (hk : i64in xk) (ekd : kd = 4) :
    Calls Try.prog 26 #[.pointer (some ⟨nb, 0, none⟩), .pointer (some ⟨db, 0, none⟩), .agg #[.int .i64 kd, .int .i64 xi, .int .i64 xk, .bool is, .int .i64 fr, .int .i64 tt, .slice a m cp]] w fun e w' => e = .returned (.bool true) ∧ Bo w0 w' nb mb db (c + 1) (fun _ => False) := by
  have H := Lib.hid (And.intro h (And.intro hm (And.intro hb (And.intro hi hk))))
  have EK := Lib.hid ekd
  clear h hm hb hi hk ekd
  go_enter Try.func26, Try.ntmps26
  go_upto_region 1 with fail
  refine wp_world (fun wx => At wx w.heap.size (actC kd xi xk is fr tt (.slice a m cp)) ∧ Kp (fun _ => False) w wx) ⟨At.new w (actC kd xi xk is fr tt (.slice a m cp)) 53, (Kp.refl _ w).alloc _⟩ ?_
  rintro w4 ⟨hb4, k4⟩
  obtain ⟨bx, hbx⟩ : ∃ bx, bx = w.heap.size := ⟨_, rfl⟩
  rw [← hbx] at hb4 ⊢
  have x0 : w4.cell? ⟨bx, 0, none⟩ = some (.int .i64 kd) := (hb4.cell 0).trans rfl
  have x1 : w4.cell? ⟨bx, 1, none⟩ = some (.int .i64 xi) := (hb4.cell 1).trans rfl
  have x2 : w4.cell? ⟨bx, 2, none⟩ = some (.int .i64 xk) := (hb4.cell 2).trans rfl
  have x3 : w4.cell? ⟨bx, 3, none⟩ = some (.bool is) := (hb4.cell 3).trans rfl
  have x4 : w4.cell? ⟨bx, 4, none⟩ = some (.int .i64 fr) := (hb4.cell 4).trans rfl
  have x5 : w4.cell? ⟨bx, 5, none⟩ = some (.int .i64 tt) := (hb4.cell 5).trans rfl
  have x6 : w4.cell? ⟨bx, 6, none⟩ = some (.slice a m cp) := (hb4.cell 6).trans rfl
  have B4 := Lib.hid (H.out.1.avoid (av := (· = bx)) k4 (fun j e => by omega))
  have hlt := hb4.lt
  have HB4 := Lib.hid (And.intro hb4 (And.intro k4 hbx))
  clear hb4 k4 hbx
  have ekd := EK.out
  clear EK
  subst ekd
  have CT := Lib.hid (fun w' (kw : Kp (fun _ => False) w4 w') => two_drop (av := (· = bx)) (B4.out.kp0 kw) (by omega) (fun j hj => by have := kw.size; omega) xi)
  go_upto_region 9 with fail
  refine region_L (S := fun w' => Kp (fun j => ¬ j = bx) w4 w') [] rfl ?_
  have hSd : ∀ (w' : World) (n' : Nat), Kp (fun j => ¬ j = bx) w4 w' → Kp (fun j => ¬ j = bx) w4 (w'.drewN n') := fun w' n' h => h.drewN n'
  have hS1 : Kp (fun j => ¬ j = bx) w4 w4.drew := (Kp.refl _ w4).drew
  refine anyL_takeF (i := 0) (d := 48) (v := (.pointer (some ⟨nb, 0, none⟩))) rfl rfl (by kernel_rfl) (by kernel_rfl) (by kernel_rfl) (fun _ _ _ h => h) hSd (by kernel_rfl) (.inl (.inl ⟨rfl, fun w' hS => rfl⟩)) (fun _ => hS1) ?_
  try simp only [List.setIfInBounds_toArray, List.set_cons_succ, List.set_cons_zero]
  refine anyL_takeF (i := 1) (d := 49) (v := (.pointer (some ⟨bx, 1, none⟩))) rfl rfl (by kernel_rfl) (by kernel_rfl) (by kernel_rfl) (fun _ _ _ h => h) hSd (by kernel_rfl) (.inl (.inl ⟨rfl, fun w' hS => by go_simp⟩)) (fun _ => hS1) ?_
  try simp only [List.setIfInBounds_toArray, List.set_cons_succ, List.set_cons_zero]
  refine anyL_takeD (i := 2) (d := 50) (v := (.int .i64 xi)) rfl rfl (by kernel_rfl) (by kernel_rfl) (by kernel_rfl) (fun _ _ _ h => h) hSd (by kernel_rfl) (.inl (.inl ⟨rfl, fun w' hS => by have hc := Kp.cell hS x1 (fun h => h rfl); go_simp⟩)) hS1 ?_
  try simp only [List.setIfInBounds_toArray, List.set_cons_succ, List.set_cons_zero]
  refine anyL_takeF (i := 4) (d := 52) (v := (.pointer (some ⟨db, 0, none⟩))) rfl rfl (by kernel_rfl) (by kernel_rfl) (by kernel_rfl) (fun _ _ _ h => h) hSd (by kernel_rfl) (.inl (.inl ⟨rfl, fun w' hS => rfl⟩)) (fun _ => hS1) ?_
  try simp only [List.setIfInBounds_toArray, List.set_cons_succ, List.set_cons_zero]
  refine anyL_takeF (i := 5) (d := 53) (v := (.pointer (some ⟨bx, 1, none⟩))) rfl rfl (by kernel_rfl) (by kernel_rfl) (by kernel_rfl) (fun _ _ _ h => h) hSd (by kernel_rfl) (.inl (.inl ⟨rfl, fun w' hS => by go_simp⟩)) (fun _ => hS1) ?_
  try simp only [List.setIfInBounds_toArray, List.set_cons_succ, List.set_cons_zero]
  refine anyL_takeD (i := 6) (d := 54) (v := (.int .i64 xi)) rfl rfl (by kernel_rfl) (by kernel_rfl) (by kernel_rfl) (fun _ _ _ h => h) hSd (by kernel_rfl) (.inl (.inl ⟨rfl, fun w' hS => by have hc := Kp.cell hS x1 (fun h => h rfl); go_simp⟩)) hS1 ?_
  try simp only [List.setIfInBounds_toArray, List.set_cons_succ, List.set_cons_zero]
  refine anyL_all (rs := [3]) (by kernel_rfl) (by simp) ?_
  intro n3 i hi
  simp only [List.mem_cons, List.not_mem_nil, or_false] at hi
  obtain rfl := hi
  refine wpOp_of rfl rfl ?_
  go_simp
  refine Calls.mono (CT.out _ ((Kp.refl _ w4).drewN _)) ?_
  rintro e w5 ⟨r, rfl, k5, C5⟩
  have k45 : Kp (fun j => ¬ j = bx) w4 w5 := ((Kp.refl _ w4).drewN _).trans k5
  try dsimp only
  refine ⟨fun _ => k45, ?_⟩
  try simp only [List.setIfInBounds_toArray, List.set_cons_succ, List.set_cons_zero]
  refine anyL_all (rs := [7]) (by kernel_rfl) (by simp) ?_
  intro n7 i hi
  simp only [List.mem_cons, List.not_mem_nil, or_false] at hi
  obtain rfl := hi
  refine wpOp_of rfl rfl ?_
  go_simp
  refine Calls.mono (C5 _ ((Kp.refl _ w5).drewN _)) ?_
  rintro e w7 ⟨rfl, b7, k7⟩
  have k47 : Kp (fun j => ¬ j = bx) w4 w7 := (k45.drewN _).trans k7
  try dsimp only
  refine ⟨fun _ => k47, ?_⟩
  have hS1 := k47
  try simp only [List.setIfInBounds_toArray, List.set_cons_succ, List.set_cons_zero]
  refine anyL_takeF (i := 8) (d := 56) (v := (.bool true)) rfl rfl (by kernel_rfl) (by kernel_rfl) (by kernel_rfl) (fun _ _ _ h => h) hSd (by kernel_rfl) (.inl (.inl ⟨rfl, fun w' hS => by go_simp⟩)) (fun _ => hS1) ?_
  try simp only [List.setIfInBounds_toArray, List.set_cons_succ, List.set_cons_zero]
  refine anyL_takeF (i := 9) (d := 6) (v := (.bool true)) rfl rfl (by kernel_rfl) (by kernel_rfl) (by kernel_rfl) (fun _ _ _ h => h) hSd (by kernel_rfl) (.inl (.inl ⟨rfl, fun w' hS => rfl⟩)) (fun _ => hS1) ?_
  try simp only [List.setIfInBounds_toArray, List.set_cons_succ, List.set_cons_zero]
  refine anyL_done (by kernel_rfl) (fun nn => ?_) _
  have B7 := Lib.hid (b7.kp0 ((Kp.refl _ w7).drewN nn))
  clear b7 k7 k5 k45 k47 C5 hS1 hSd CT
  go_wp2
  go_ret
  exact ⟨rfl, B7.out.free⟩
set_option maxHeartbeats 8000000 in
set_option maxRecDepth 20000 in
theorem both_copy (h : Bo w0 w nb mb db c (fun _ => False)) (hc : c ≤ 90) (kd xi xk : Int) (is : Bool) (fr tt : Int) (a : Option Addr) (m cp : Nat) (l : List Int) (hm : m = l.length) (hb : RdB w0 a l) (hcp : m ≤ cp) (hml : m ≤ 8000) (hi : i64in xi) (hk : i64in xk) (ekd : kd = 5) :
    Calls Try.prog 26 #[.pointer (some ⟨nb, 0, none⟩), .pointer (some ⟨db, 0, none⟩), .agg #[.int .i64 kd, .int .i64 xi, .int .i64 xk, .bool is, .int .i64 fr, .int .i64 tt, .slice a m cp]] w fun e w' => e = .returned (.bool true) ∧ Bo w0 w' nb mb db (c + 1) (fun _ => False) := by
  have H := Lib.hid (And.intro h (And.intro hm (And.intro hb (And.intro hi hk))))
  have EK := Lib.hid ekd
  clear h hm hb hi hk ekd
  go_enter Try.func26, Try.ntmps26
  go_upto_region 1 with fail
  refine wp_world (fun wx => At wx w.heap.size (actC kd xi xk is fr tt (.slice a m cp)) ∧ Kp (fun _ => False) w wx) ⟨At.new w (actC kd xi xk is fr tt (.slice a m cp)) 53, (Kp.refl _ w).alloc _⟩ ?_
  rintro w4 ⟨hb4, k4⟩
  obtain ⟨bx, hbx⟩ : ∃ bx, bx = w.heap.size := ⟨_, rfl⟩
  rw [← hbx] at hb4 ⊢
  have x0 : w4.cell? ⟨bx, 0, none⟩ = some (.int .i64 kd) := (hb4.cell 0).trans rfl
  have x1 : w4.cell? ⟨bx, 1, none⟩ = some (.int .i64 xi) := (hb4.cell 1).trans rfl
  have x2 : w4.cell? ⟨bx, 2, none⟩ = some (.int .i64 xk) := (hb4.cell 2).trans rfl
  have x3 : w4.cell? ⟨bx, 3, none⟩ = some (.bool is) := (hb4.cell 3).trans rfl
  have x4 : w4.cell? ⟨bx, 4, none⟩ = some (.int .i64 fr) := (hb4.cell 4).trans rfl
  have x5 : w4.cell? ⟨bx, 5, none⟩ = some (.int .i64 tt) := (hb4.cell 5).trans rfl
  have x6 : w4.cell? ⟨bx, 6, none⟩ = some (.slice a m cp) := (hb4.cell 6).trans rfl
  have B4 := Lib.hid (H.out.1.avoid (av := (· = bx)) k4 (fun j e => by omega))
  have hlt := hb4.lt
  have HB4 := Lib.hid (And.intro hb4 (And.intro k4 hbx))
  clear hb4 k4 hbx
  have ekd := EK.out
  clear EK
  subst ekd
  have CT := Lib.hid (fun w' (kw : Kp (fun _ => False) w4 w') => two_copy (av := (· = bx)) (B4.out.kp0 kw) (by omega) (fun j hj => by have := kw.size; omega) xi)
  go_upto_region 11 with fail
  refine region_L (S := fun w' => Kp (fun j => ¬ j = bx) w4 w') [] rfl ?_
  have hSd : ∀ (w' : World) (n' : Nat), Kp (fun j => ¬ j = bx) w4 w' → Kp (fun j => ¬ j = bx) w4 (w'.drewN n') := fun w' n' h => h.drewN n'
  have hS1 : Kp (fun j => ¬ j = bx) w4 w4.drew := (Kp.refl _ w4).drew
  refine anyL_takeF (i := 0) (d := 59) (v := (.pointer (some ⟨nb, 0, none⟩))) rfl rfl (by kernel_rfl) (by kernel_rfl) (by kernel_rfl) (fun _ _ _ h => h) hSd (by kernel_rfl) (.inl (.inl ⟨rfl, fun w' hS => rfl⟩)) (fun _ => hS1) ?_
  try simp only [List.setIfInBounds_toArray, List.set_cons_succ, List.set_cons_zero]
  refine anyL_takeF (i := 1) (d := 60) (v := (.pointer (some ⟨bx, 1, none⟩))) rfl rfl (by kernel_rfl) (by kernel_rfl) (by kernel_rfl) (fun _ _ _ h => h) hSd (by kernel_rfl) (.inl (.inl ⟨rfl, fun w' hS => by go_simp⟩)) (fun _ => hS1) ?_
  try simp only [List.setIfInBounds_toArray, List.set_cons_succ, List.set_cons_zero]
  refine anyL_takeD (i := 2) (d := 61) (v := (.int .i64 xi)) rfl rfl (by kernel_rfl) (by kernel_rfl) (by kernel_rfl) (fun _ _ _ h => h) hSd (by kernel_rfl) (.inl (.inl ⟨rfl, fun w' hS => by have hc := Kp.cell hS x1 (fun h => h rfl); go_simp⟩)) hS1 ?_
  try simp only [List.setIfInBounds_toArray, List.set_cons_succ, List.set_cons_zero]
  refine anyL_takeF (i := 4) (d := 63) (v := (.pointer (some ⟨db, 0, none⟩))) rfl rfl (by kernel_rfl) (by kernel_rfl) (by kernel_rfl) (fun _ _ _ h => h) hSd (by kernel_rfl) (.inl (.inl ⟨rfl, fun w' hS => rfl⟩)) (fun _ => hS1) ?_
  try simp only [List.setIfInBounds_toArray, List.set_cons_succ, List.set_cons_zero]
  refine anyL_takeF (i := 5) (d := 64) (v := (.pointer (some ⟨bx, 1, none⟩))) rfl rfl (by kernel_rfl) (by kernel_rfl) (by kernel_rfl) (fun _ _ _ h => h) hSd (by kernel_rfl) (.inl (.inl ⟨rfl, fun w' hS => by go_simp⟩)) (fun _ => hS1) ?_
  try simp only [List.setIfInBounds_toArray, List.set_cons_succ, List.set_cons_zero]
  refine anyL_takeD (i := 6) (d := 65) (v := (.int .i64 xi)) rfl rfl (by kernel_rfl) (by kernel_rfl) (by kernel_rfl) (fun _ _ _ h => h) hSd (by kernel_rfl) (.inl (.inl ⟨rfl, fun w' hS => by have hc := Kp.cell hS x1 (fun h => h rfl); go_simp⟩)) hS1 ?_
  try simp only [List.setIfInBounds_toArray, List.set_cons_succ, List.set_cons_zero]
  refine anyL_all (rs := [3]) (by kernel_rfl) (by simp) ?_
  intro n3 i hi
  simp only [List.mem_cons, List.not_mem_nil, or_false] at hi
  obtain rfl := hi
  refine wpOp_of rfl rfl ?_
  go_simp
  refine Calls.mono (CT.out _ ((Kp.refl _ w4).drewN _)) ?_
  rintro e w5 ⟨r, rfl, k5, C5⟩
  have k45 : Kp (fun j => ¬ j = bx) w4 w5 := ((Kp.refl _ w4).drewN _).trans k5
  try dsimp only
  refine ⟨fun _ => k45, ?_⟩
  try simp only [List.setIfInBounds_toArray, List.set_cons_succ, List.set_cons_zero]
  refine anyL_all (rs := [7]) (by kernel_rfl) (by simp) ?_
  intro n7 i hi
  simp only [List.mem_cons, List.not_mem_nil, or_false] at hi
  obtain rfl := hi
  refine wpOp_of rfl rfl ?_
  go_simp
  refine Calls.mono (C5 _ ((Kp.refl _ w5).drewN _)) ?_
  rintro e w7 ⟨rfl, b7, k7⟩
  have k47 : Kp (fun j => ¬ j = bx) w4 w7 := (k45.drewN _).trans k7
  try dsimp only
  refine ⟨fun _ => k47, ?_⟩
  have hS1 := k47
  try simp only [List.setIfInBounds_toArray, List.set_cons_succ, List.set_cons_zero]
  refine anyL_takeF (i := 8) (d := 67) (v := (.bool true)) rfl rfl (by kernel_rfl) (by kernel_rfl) (by kernel_rfl) (fun _ _ _ h => h) hSd (by kernel_rfl) (.inl (.inl ⟨rfl, fun w' hS => by go_simp⟩)) (fun _ => hS1) ?_
  try simp only [List.setIfInBounds_toArray, List.set_cons_succ, List.set_cons_zero]
  refine anyL_takeF (i := 9) (d := 6) (v := (.bool true)) rfl rfl (by kernel_rfl) (by kernel_rfl) (by kernel_rfl) (fun _ _ _ h => h) hSd (by kernel_rfl) (.inl (.inl ⟨rfl, fun w' hS => rfl⟩)) (fun _ => hS1) ?_
  try simp only [List.setIfInBounds_toArray, List.set_cons_succ, List.set_cons_zero]
  refine anyL_done (by kernel_rfl) (fun nn => ?_) _
  have B7 := Lib.hid (b7.kp0 ((Kp.refl _ w7).drewN nn))
  clear b7 k7 k5 k45 k47 C5 hS1 hSd CT
  go_wp2
  go_ret
  exact ⟨rfl, B7.out.free⟩
set_option maxHeartbeats 8000000 in
set_option maxRecDepth 20000 in
theorem both_turn (h : Bo w0 w nb mb db c (fun _ => False)) (hc : c ≤ 90) (kd xi xk : Int) (is : Bool) (fr tt : Int) (a : Option Addr) (m cp : Nat) (l : List Int) (hm : m = l.length) (hb : RdB w0 a l) (hcp : m ≤ cp) (hml : m ≤ 8000) (hi : i64in xi) (hk : i64in xk) (ekd : kd = 6) :
    Calls Try.prog 26 #[.pointer (some ⟨nb, 0, none⟩), .pointer (some ⟨db, 0, none⟩), .agg #[.int .i64 kd, .int .i64 xi, .int .i64 xk, .bool is, .int .i64 fr, .int .i64 tt, .slice a m cp]] w fun e w' => e = .returned (.bool true) ∧ Bo w0 w' nb mb db (c + 1) (fun _ => False) := by
  have H := Lib.hid (And.intro h (And.intro hm (And.intro hb (And.intro hi hk))))
  have EK := Lib.hid ekd
  clear h hm hb hi hk ekd
  go_enter Try.func26, Try.ntmps26
  go_upto_region 1 with fail
  refine wp_world (fun wx => At wx w.heap.size (actC kd xi xk is fr tt (.slice a m cp)) ∧ Kp (fun _ => False) w wx) ⟨At.new w (actC kd xi xk is fr tt (.slice a m cp)) 53, (Kp.refl _ w).alloc _⟩ ?_
  rintro w4 ⟨hb4, k4⟩
  obtain ⟨bx, hbx⟩ : ∃ bx, bx = w.heap.size := ⟨_, rfl⟩
  rw [← hbx] at hb4 ⊢
  have x0 : w4.cell? ⟨bx, 0, none⟩ = some (.int .i64 kd) := (hb4.cell 0).trans rfl
  have x1 : w4.cell? ⟨bx, 1, none⟩ = some (.int .i64 xi) := (hb4.cell 1).trans rfl
  have x2 : w4.cell? ⟨bx, 2, none⟩ = some (.int .i64 xk) := (hb4.cell 2).trans rfl
  have x3 : w4.cell? ⟨bx, 3, none⟩ = some (.bool is) := (hb4.cell 3).trans rfl
  have x4 : w4.cell? ⟨bx, 4, none⟩ = some (.int .i64 fr) := (hb4.cell 4).trans rfl
  have x5 : w4.cell? ⟨bx, 5, none⟩ = some (.int .i64 tt) := (hb4.cell 5).trans rfl
  have x6 : w4.cell? ⟨bx, 6, none⟩ = some (.slice a m cp) := (hb4.cell 6).trans rfl
  have B4 := Lib.hid (H.out.1.avoid (av := (· = bx)) k4 (fun j e => by omega))
  have hlt := hb4.lt
  have HB4 := Lib.hid (And.intro hb4 (And.intro k4 hbx))
  clear hb4 k4 hbx
  have ekd := EK.out
  clear EK
  subst ekd
  have CT := Lib.hid (fun w' (kw : Kp (fun _ => False) w4 w') => two_turn (av := (· = bx)) (B4.out.kp0 kw) (by omega) (fun j hj => by have := kw.size; omega) xi xk H.out.2.2.2.2)
  go_upto_region 13 with fail
  refine region_L (S := fun w' => Kp (fun j => ¬ j = bx) w4 w') [] rfl ?_
  have hSd : ∀ (w' : World) (n' : Nat), Kp (fun j => ¬ j = bx) w4 w' → Kp (fun j => ¬ j = bx) w4 (w'.drewN n') := fun w' n' h => h.drewN n'
  have hS1 : Kp (fun j => ¬ j = bx) w4 w4.drew := (Kp.refl _ w4).drew
  refine anyL_takeF (i := 0) (d := 70) (v := (.pointer (some ⟨nb, 0, none⟩))) rfl rfl (by kernel_rfl) (by kernel_rfl) (by kernel_rfl) (fun _ _ _ h => h) hSd (by kernel_rfl) (.inl (.inl ⟨rfl, fun w' hS => rfl⟩)) (fun _ => hS1) ?_
  try simp only [List.setIfInBounds_toArray, List.set_cons_succ, List.set_cons_zero]
  refine anyL_takeF (i := 1) (d := 71) (v := (.pointer (some ⟨bx, 1, none⟩))) rfl rfl (by kernel_rfl) (by kernel_rfl) (by kernel_rfl) (fun _ _ _ h => h) hSd (by kernel_rfl) (.inl (.inl ⟨rfl, fun w' hS => by go_simp⟩)) (fun _ => hS1) ?_
  try simp only [List.setIfInBounds_toArray, List.set_cons_succ, List.set_cons_zero]
  refine anyL_takeD (i := 2) (d := 72) (v := (.int .i64 xi)) rfl rfl (by kernel_rfl) (by kernel_rfl) (by kernel_rfl) (fun _ _ _ h => h) hSd (by kernel_rfl) (.inl (.inl ⟨rfl, fun w' hS => by have hc := Kp.cell hS x1 (fun h => h rfl); go_simp⟩)) hS1 ?_
  try simp only [List.setIfInBounds_toArray, List.set_cons_succ, List.set_cons_zero]
  refine anyL_takeF (i := 3) (d := 73) (v := (.pointer (some ⟨bx, 2, none⟩))) rfl rfl (by kernel_rfl) (by kernel_rfl) (by kernel_rfl) (fun _ _ _ h => h) hSd (by kernel_rfl) (.inl (.inl ⟨rfl, fun w' hS => by go_simp⟩)) (fun _ => hS1) ?_
  try simp only [List.setIfInBounds_toArray, List.set_cons_succ, List.set_cons_zero]
  refine anyL_takeD (i := 4) (d := 74) (v := (.int .i64 xk)) rfl rfl (by kernel_rfl) (by kernel_rfl) (by kernel_rfl) (fun _ _ _ h => h) hSd (by kernel_rfl) (.inl (.inl ⟨rfl, fun w' hS => by have hc := Kp.cell hS x2 (fun h => h rfl); go_simp⟩)) hS1 ?_
  try simp only [List.setIfInBounds_toArray, List.set_cons_succ, List.set_cons_zero]
  refine anyL_takeF (i := 6) (d := 76) (v := (.pointer (some ⟨db, 0, none⟩))) rfl rfl (by kernel_rfl) (by kernel_rfl) (by kernel_rfl) (fun _ _ _ h => h) hSd (by kernel_rfl) (.inl (.inl ⟨rfl, fun w' hS => rfl⟩)) (fun _ => hS1) ?_
  try simp only [List.setIfInBounds_toArray, List.set_cons_succ, List.set_cons_zero]
  refine anyL_takeF (i := 7) (d := 77) (v := (.pointer (some ⟨bx, 1, none⟩))) rfl rfl (by kernel_rfl) (by kernel_rfl) (by kernel_rfl) (fun _ _ _ h => h) hSd (by kernel_rfl) (.inl (.inl ⟨rfl, fun w' hS => by go_simp⟩)) (fun _ => hS1) ?_
  try simp only [List.setIfInBounds_toArray, List.set_cons_succ, List.set_cons_zero]
  refine anyL_takeD (i := 8) (d := 78) (v := (.int .i64 xi)) rfl rfl (by kernel_rfl) (by kernel_rfl) (by kernel_rfl) (fun _ _ _ h => h) hSd (by kernel_rfl) (.inl (.inl ⟨rfl, fun w' hS => by have hc := Kp.cell hS x1 (fun h => h rfl); go_simp⟩)) hS1 ?_
  try simp only [List.setIfInBounds_toArray, List.set_cons_succ, List.set_cons_zero]
  refine anyL_takeF (i := 9) (d := 79) (v := (.pointer (some ⟨bx, 2, none⟩))) rfl rfl (by kernel_rfl) (by kernel_rfl) (by kernel_rfl) (fun _ _ _ h => h) hSd (by kernel_rfl) (.inl (.inl ⟨rfl, fun w' hS => by go_simp⟩)) (fun _ => hS1) ?_
  try simp only [List.setIfInBounds_toArray, List.set_cons_succ, List.set_cons_zero]
  refine anyL_takeD (i := 10) (d := 80) (v := (.int .i64 xk)) rfl rfl (by kernel_rfl) (by kernel_rfl) (by kernel_rfl) (fun _ _ _ h => h) hSd (by kernel_rfl) (.inl (.inl ⟨rfl, fun w' hS => by have hc := Kp.cell hS x2 (fun h => h rfl); go_simp⟩)) hS1 ?_
  try simp only [List.setIfInBounds_toArray, List.set_cons_succ, List.set_cons_zero]
  refine anyL_all (rs := [5]) (by kernel_rfl) (by simp) ?_
  intro n5 i hi
  simp only [List.mem_cons, List.not_mem_nil, or_false] at hi
  obtain rfl := hi
  refine wpOp_of rfl rfl ?_
  go_simp
  refine Calls.mono (CT.out _ ((Kp.refl _ w4).drewN _)) ?_
  rintro e w5 ⟨r, rfl, k5, C5⟩
  have k45 : Kp (fun j => ¬ j = bx) w4 w5 := ((Kp.refl _ w4).drewN _).trans k5
  try dsimp only
  refine ⟨fun _ => k45, ?_⟩
  try simp only [List.setIfInBounds_toArray, List.set_cons_succ, List.set_cons_zero]
  refine anyL_all (rs := [11]) (by kernel_rfl) (by simp) ?_
  intro n11 i hi
  simp only [List.mem_cons, List.not_mem_nil, or_false] at hi
  obtain rfl := hi
  refine wpOp_of rfl rfl ?_
  go_simp
  refine Calls.mono (C5 _ ((Kp.refl _ w5).drewN _)) ?_
  rintro e w7 ⟨rfl, b7, k7⟩
  have k47 : Kp (fun j => ¬ j = bx) w4 w7 := (k45.drewN _).trans k7
  try dsimp only
  refine ⟨fun _ => k47, ?_⟩
  have hS1 := k47
  try simp only [List.setIfInBounds_toArray, List.set_cons_succ, List.set_cons_zero]
  refine anyL_takeF (i := 12) (d := 82) (v := (.bool true)) rfl rfl (by kernel_rfl) (by kernel_rfl) (by kernel_rfl) (fun _ _ _ h => h) hSd (by kernel_rfl) (.inl (.inl ⟨rfl, fun w' hS => by go_simp⟩)) (fun _ => hS1) ?_
  try simp only [List.setIfInBounds_toArray, List.set_cons_succ, List.set_cons_zero]
  refine anyL_takeF (i := 13) (d := 6) (v := (.bool true)) rfl rfl (by kernel_rfl) (by kernel_rfl) (by kernel_rfl) (fun _ _ _ h => h) hSd (by kernel_rfl) (.inl (.inl ⟨rfl, fun w' hS => rfl⟩)) (fun _ => hS1) ?_
  try simp only [List.setIfInBounds_toArray, List.set_cons_succ, List.set_cons_zero]
  refine anyL_done (by kernel_rfl) (fun nn => ?_) _
  have B7 := Lib.hid (b7.kp0 ((Kp.refl _ w7).drewN nn))
  clear b7 k7 k5 k45 k47 C5 hS1 hSd CT
  go_wp2
  go_ret
  exact ⟨rfl, B7.out.free⟩
set_option maxHeartbeats 8000000 in
set_option maxRecDepth 20000 in
theorem both_swap (h : Bo w0 w nb mb db c (fun _ => False)) (hc : c ≤ 90) (kd xi xk : Int) (is : Bool) (fr tt : Int) (a : Option Addr) (m cp : Nat) (l : List Int) (hm : m = l.length) (hb : RdB w0 a l) (hcp : m ≤ cp) (hml : m ≤ 8000) (hi : i64in xi) (hk : i64in xk) (ekd : kd = 7) :
    Calls Try.prog 26 #[.pointer (some ⟨nb, 0, none⟩), .pointer (some ⟨db, 0, none⟩), .agg #[.int .i64 kd, .int .i64 xi, .int .i64 xk, .bool is, .int .i64 fr, .int .i64 tt, .slice a m cp]] w fun e w' => e = .returned (.bool true) ∧ Bo w0 w' nb mb db (c + 1) (fun _ => False) := by
  have H := Lib.hid (And.intro h (And.intro hm (And.intro hb (And.intro hi hk))))
  have EK := Lib.hid ekd
  clear h hm hb hi hk ekd
  go_enter Try.func26, Try.ntmps26
  go_upto_region 1 with fail
  refine wp_world (fun wx => At wx w.heap.size (actC kd xi xk is fr tt (.slice a m cp)) ∧ Kp (fun _ => False) w wx) ⟨At.new w (actC kd xi xk is fr tt (.slice a m cp)) 53, (Kp.refl _ w).alloc _⟩ ?_
  rintro w4 ⟨hb4, k4⟩
  obtain ⟨bx, hbx⟩ : ∃ bx, bx = w.heap.size := ⟨_, rfl⟩
  rw [← hbx] at hb4 ⊢
  have x0 : w4.cell? ⟨bx, 0, none⟩ = some (.int .i64 kd) := (hb4.cell 0).trans rfl
  have x1 : w4.cell? ⟨bx, 1, none⟩ = some (.int .i64 xi) := (hb4.cell 1).trans rfl
  have x2 : w4.cell? ⟨bx, 2, none⟩ = some (.int .i64 xk) := (hb4.cell 2).trans rfl
  have x3 : w4.cell? ⟨bx, 3, none⟩ = some (.bool is) := (hb4.cell 3).trans rfl
  have x4 : w4.cell? ⟨bx, 4, none⟩ = some (.int .i64 fr) := (hb4.cell 4).trans rfl
  have x5 : w4.cell? ⟨bx, 5, none⟩ = some (.int .i64 tt) := (hb4.cell 5).trans rfl
  have x6 : w4.cell? ⟨bx, 6, none⟩ = some (.slice a m cp) := (hb4.cell 6).trans rfl
  have B4 := Lib.hid (H.out.1.avoid (av := (· = bx)) k4 (fun j e => by omega))
  have hlt := hb4.lt
  have HB4 := Lib.hid (And.intro hb4 (And.intro k4 hbx))
  clear hb4 k4 hbx
  have ekd := EK.out
  clear EK
  subst ekd
  have CT := Lib.hid (fun w' (kw : Kp (fun _ => False) w4 w') => two_swap (av := (· = bx)) (B4.out.kp0 kw) (by omega) (fun j hj => by have := kw.size; omega) xi xk)
  go_upto_region 15 with fail
  refine region_L (S := fun w' => Kp (fun j => ¬ j = bx) w4 w') [] rfl ?_
  have hSd : ∀ (w' : World) (n' : Nat), Kp (fun j => ¬ j = bx) w4 w' → Kp (fun j => ¬ j = bx) w4 (w'.drewN n') := fun w' n' h => h.drewN n'
  have hS1 : Kp (fun j => ¬ j = bx) w4 w4.drew := (Kp.refl _ w4).drew
  refine anyL_takeF (i := 0) (d := 85) (v := (.pointer (some ⟨nb, 0, none⟩))) rfl rfl (by kernel_rfl) (by kernel_rfl) (by kernel_rfl) (fun _ _ _ h => h) hSd (by kernel_rfl) (.inl (.inl ⟨rfl, fun w' hS => rfl⟩)) (fun _ => hS1) ?_
  try simp only [List.setIfInBounds_toArray, List.set_cons_succ, List.set_cons_zero]
  refine anyL_takeF (i := 1) (d := 86) (v := (.pointer (some ⟨bx, 1, none⟩))) rfl rfl (by kernel_rfl) (by kernel_rfl) (by kernel_rfl) (fun _ _ _ h => h) hSd (by kernel_rfl) (.inl (.inl ⟨rfl, fun w' hS => by go_simp⟩)) (fun _ => hS1) ?_
  try simp only [List.setIfInBounds_toArray, List.set_cons_succ, List.set_cons_zero]
  refine anyL_takeD (i := 2) (d := 87) (v := (.int .i64 xi)) rfl rfl (by kernel_rfl) (by kernel_rfl) (by kernel_rfl) (fun _ _ _ h => h) hSd (by kernel_rfl) (.inl (.inl ⟨rfl, fun w' hS => by have hc := Kp.cell hS x1 (fun h => h rfl); go_simp⟩)) hS1 ?_
  try simp only [List.setIfInBounds_toArray, List.set_cons_succ, List.set_cons_zero]
  refine anyL_takeF (i := 3) (d := 88) (v := (.pointer (some ⟨bx, 2, none⟩))) rfl rfl (by kernel_rfl) (by kernel_rfl) (by kernel_rfl) (fun _ _ _ h => h) hSd (by kernel_rfl) (.inl (.inl ⟨rfl, fun w' hS => by go_simp⟩)) (fun _ => hS1) ?_
  try simp only [List.setIfInBounds_toArray, List.set_cons_succ, List.set_cons_zero]
  refine anyL_takeD (i := 4) (d := 89) (v := (.int .i64 xk)) rfl rfl (by kernel_rfl) (by kernel_rfl) (by kernel_rfl) (fun _ _ _ h => h) hSd (by kernel_rfl) (.inl (.inl ⟨rfl, fun w' hS => by have hc := Kp.cell hS x2 (fun h => h rfl); go_simp⟩)) hS1 ?_
  try simp only [List.setIfInBounds_toArray, List.set_cons_succ, List.set_cons_zero]
  refine anyL_takeF (i := 6) (d := 91) (v := (.pointer (some ⟨db, 0, none⟩))) rfl rfl (by kernel_rfl) (by kernel_rfl) (by kernel_rfl) (fun _ _ _ h => h) hSd (by kernel_rfl) (.inl (.inl ⟨rfl, fun w' hS => rfl⟩)) (fun _ => hS1) ?_
  try simp only [List.setIfInBounds_toArray, List.set_cons_succ, List.set_cons_zero]
  refine anyL_takeF (i := 7) (d := 92) (v := (.pointer (some ⟨bx, 1, none⟩))) rfl rfl (by kernel_rfl) (by kernel_rfl) (by kernel_rfl) (fun _ _ _ h => h) hSd (by kernel_rfl) (.inl (.inl ⟨rfl, fun w' hS => by go_simp⟩)) (fun _ => hS1) ?_
  try simp only [List.setIfInBounds_toArray, List.set_cons_succ, List.set_cons_zero]
  refine anyL_takeD (i := 8) (d := 93) (v := (.int .i64 xi)) rfl rfl (by kernel_rfl) (by kernel_rfl) (by kernel_rfl) (fun _ _ _ h => h) hSd (by kernel_rfl) (.inl (.inl ⟨rfl, fun w' hS => by have hc := Kp.cell hS x1 (fun h => h rfl); go_simp⟩)) hS1 ?_
  try simp only [List.setIfInBounds_toArray, List.set_cons_succ, List.set_cons_zero]
  refine anyL_takeF (i := 9) (d := 94) (v := (.pointer (some ⟨bx, 2, none⟩))) rfl rfl (by kernel_rfl) (by kernel_rfl) (by kernel_rfl) (fun _ _ _ h => h) hSd (by kernel_rfl) (.inl (.inl ⟨rfl, fun w' hS => by go_simp⟩)) (fun _ => hS1) ?_
  try simp only [List.setIfInBounds_toArray, List.set_cons_succ, List.set_cons_zero]
  refine anyL_takeD (i := 10) (d := 95) (v := (.int .i64 xk)) rfl rfl (by kernel_rfl) (by kernel_rfl) (by kernel_rfl) (fun _ _ _ h => h) hSd (by kernel_rfl) (.inl (.inl ⟨rfl, fun w' hS => by have hc := Kp.cell hS x2 (fun h => h rfl); go_simp⟩)) hS1 ?_
  try simp only [List.setIfInBounds_toArray, List.set_cons_succ, List.set_cons_zero]
  refine anyL_all (rs := [5]) (by kernel_rfl) (by simp) ?_
  intro n5 i hi
  simp only [List.mem_cons, List.not_mem_nil, or_false] at hi
  obtain rfl := hi
  refine wpOp_of rfl rfl ?_
  go_simp
  refine Calls.mono (CT.out _ ((Kp.refl _ w4).drewN _)) ?_
  rintro e w5 ⟨r, rfl, k5, C5⟩
  have k45 : Kp (fun j => ¬ j = bx) w4 w5 := ((Kp.refl _ w4).drewN _).trans k5
  try dsimp only
  refine ⟨fun _ => k45, ?_⟩
  try simp only [List.setIfInBounds_toArray, List.set_cons_succ, List.set_cons_zero]
  refine anyL_all (rs := [11]) (by kernel_rfl) (by simp) ?_
  intro n11 i hi
  simp only [List.mem_cons, List.not_mem_nil, or_false] at hi
  obtain rfl := hi
  refine wpOp_of rfl rfl ?_
  go_simp
  refine Calls.mono (C5 _ ((Kp.refl _ w5).drewN _)) ?_
  rintro e w7 ⟨rfl, b7, k7⟩
  have k47 : Kp (fun j => ¬ j = bx) w4 w7 := (k45.drewN _).trans k7
  try dsimp only
  refine ⟨fun _ => k47, ?_⟩
  have hS1 := k47
  try simp only [List.setIfInBounds_toArray, List.set_cons_succ, List.set_cons_zero]
  refine anyL_takeF (i := 12) (d := 97) (v := (.bool true)) rfl rfl (by kernel_rfl) (by kernel_rfl) (by kernel_rfl) (fun _ _ _ h => h) hSd (by kernel_rfl) (.inl (.inl ⟨rfl, fun w' hS => by go_simp⟩)) (fun _ => hS1) ?_
  try simp only [List.setIfInBounds_toArray, List.set_cons_succ, List.set_cons_zero]
  refine anyL_takeF (i := 13) (d := 6) (v := (.bool true)) rfl rfl (by kernel_rfl) (by kernel_rfl) (by kernel_rfl) (fun _ _ _ h => h) hSd (by kernel_rfl) (.inl (.inl ⟨rfl, fun w' hS => rfl⟩)) (fun _ => hS1) ?_
  try simp only [List.setIfInBounds_toArray, List.set_cons_succ, List.set_cons_zero]
  refine anyL_done (by kernel_rfl) (fun nn => ?_) _
  have B7 := Lib.hid (b7.kp0 ((Kp.refl _ w7).drewN nn))
  clear b7 k7 k5 k45 k47 C5 hS1 hSd CT
  go_wp2
  go_ret
  exact ⟨rfl, B7.out.free⟩
set_option maxHeartbeats 8000000 in
set_option maxRecDepth 20000 in
theorem both_cut (h : Bo w0 w nb mb db c (fun _ => False)) (hc : c ≤ 90) (kd xi xk : Int) (is : Bool) (fr tt : Int) (a : Option Addr) (m cp : Nat) (l : List Int) (hm : m = l.length) (hb : RdB w0 a l) (hcp : m ≤ cp) (hml : m ≤ 8000) (hi : i64in xi) (hk : i64in xk) (ekd : kd = 8) :
    Calls Try.prog 26 #[.pointer (some ⟨nb, 0, none⟩), .pointer (some ⟨db, 0, none⟩), .agg #[.int .i64 kd, .int .i64 xi, .int .i64 xk, .bool is, .int .i64 fr, .int .i64 tt, .slice a m cp]] w fun e w' => e = .returned (.bool true) ∧ Bo w0 w' nb mb db (c + 1) (fun _ => False) := by
  have H := Lib.hid (And.intro h (And.intro hm (And.intro hb (And.intro hi hk))))
  have EK := Lib.hid ekd
  clear h hm hb hi hk ekd
  go_enter Try.func26, Try.ntmps26
  go_upto_region 1 with fail
  refine wp_world (fun wx => At wx w.heap.size (actC kd xi xk is fr tt (.slice a m cp)) ∧ Kp (fun _ => False) w wx) ⟨At.new w (actC kd xi xk is fr tt (.slice a m cp)) 53, (Kp.refl _ w).alloc _⟩ ?_
  rintro w4 ⟨hb4, k4⟩
  obtain ⟨bx, hbx⟩ : ∃ bx, bx = w.heap.size := ⟨_, rfl⟩
  rw [← hbx] at hb4 ⊢
  have x0 : w4.cell? ⟨bx, 0, none⟩ = some (.int .i64 kd) := (hb4.cell 0).trans rfl
  have x1 : w4.cell? ⟨bx, 1, none⟩ = some (.int .i64 xi) := (hb4.cell 1).trans rfl
  have x2 : w4.cell? ⟨bx, 2, none⟩ = some (.int .i64 xk) := (hb4.cell 2).trans rfl
  have x3 : w4.cell? ⟨bx, 3, none⟩ = some (.bool is) := (hb4.cell 3).trans rfl
  have x4 : w4.cell? ⟨bx, 4, none⟩ = some (.int .i64 fr) := (hb4.cell 4).trans rfl
  have x5 : w4.cell? ⟨bx, 5, none⟩ = some (.int .i64 tt) := (hb4.cell 5).trans rfl
  have x6 : w4.cell? ⟨bx, 6, none⟩ = some (.slice a m cp) := (hb4.cell 6).trans rfl
  have B4 := Lib.hid (H.out.1.avoid (av := (· = bx)) k4 (fun j e => by omega))
  have hlt := hb4.lt
  have HB4 := Lib.hid (And.intro hb4 (And.intro k4 hbx))
  clear hb4 k4 hbx
  have ekd := EK.out
  clear EK
  subst ekd
  have CT := Lib.hid (fun w' (kw : Kp (fun _ => False) w4 w') => two_cut (av := (· = bx)) (B4.out.kp0 kw) (by omega) (fun j hj => by have := kw.size; omega) xi xk is)
  go_upto_region 17 with fail
  refine region_L (S := fun w' => Kp (fun j => ¬ j = bx) w4 w') [] rfl ?_
  have hSd : ∀ (w' : World) (n' : Nat), Kp (fun j => ¬ j = bx) w4 w' → Kp (fun j => ¬ j = bx) w4 (w'.drewN n') := fun w' n' h => h.drewN n'
  have hS1 : Kp (fun j => ¬ j = bx) w4 w4.drew := (Kp.refl _ w4).drew
  refine anyL_takeF (i := 0) (d := 100) (v := (.pointer (some ⟨nb, 0, none⟩))) rfl rfl (by kernel_rfl) (by kernel_rfl) (by kernel_rfl) (fun _ _ _ h => h) hSd (by kernel_rfl) (.inl (.inl ⟨rfl, fun w' hS => rfl⟩)) (fun _ => hS1) ?_
  try simp only [List.setIfInBounds_toArray, List.set_cons_succ, List.set_cons_zero]
  refine anyL_takeF (i := 1) (d := 101) (v := (.pointer (some ⟨bx, 1, none⟩))) rfl rfl (by kernel_rfl) (by kernel_rfl) (by kernel_rfl) (fun _ _ _ h => h) hSd (by kernel_rfl) (.inl (.inl ⟨rfl, fun w' hS => by go_simp⟩)) (fun _ => hS1) ?_
  try simp only [List.setIfInBounds_toArray, List.set_cons_succ, List.set_cons_zero]
  refine anyL_takeD (i := 2) (d := 102) (v := (.int .i64 xi)) rfl rfl (by kernel_rfl) (by kernel_rfl) (by kernel_rfl) (fun _ _ _ h => h) hSd (by kernel_rfl) (.inl (.inl ⟨rfl, fun w' hS => by have hc := Kp.cell hS x1 (fun h => h rfl); go_simp⟩)) hS1 ?_
  try simp only [List.setIfInBounds_toArray, List.set_cons_succ, List.set_cons_zero]
  refine anyL_takeF (i := 3) (d := 103) (v := (.pointer (some ⟨bx, 2, none⟩))) rfl rfl (by kernel_rfl) (by kernel_rfl) (by kernel_rfl) (fun _ _ _ h => h) hSd (by kernel_rfl) (.inl (.inl ⟨rfl, fun w' hS => by go_simp⟩)) (fun _ => hS1) ?_
  try simp only [List.setIfInBounds_toArray, List.set_cons_succ, List.set_cons_zero]
  refine anyL_takeD (i := 4) (d := 104) (v := (.int .i64 xk)) rfl rfl (by kernel_rfl) (by kernel_rfl) (by kernel_rfl) (fun _ _ _ h => h) hSd (by kernel_rfl) (.inl (.inl ⟨rfl, fun w' hS => by have hc := Kp.cell hS x2 (fun h => h rfl); go_simp⟩)) hS1 ?_
  try simp only [List.setIfInBounds_toArray, List.set_cons_succ, List.set_cons_zero]
  refine anyL_takeF (i := 5) (d := 105) (v := (.pointer (some ⟨bx, 3, none⟩))) rfl rfl (by kernel_rfl) (by kernel_rfl) (by kernel_rfl) (fun _ _ _ h => h) hSd (by kernel_rfl) (.inl (.inl ⟨rfl, fun w' hS => by go_simp⟩)) (fun _ => hS1) ?_
  try simp only [List.setIfInBounds_toArray, List.set_cons_succ, List.set_cons_zero]
  refine anyL_takeD (i := 6) (d := 106) (v := (.bool is)) rfl rfl (by kernel_rfl) (by kernel_rfl) (by kernel_rfl) (fun _ _ _ h => h) hSd (by kernel_rfl) (.inl (.inl ⟨rfl, fun w' hS => by have hc := Kp.cell hS x3 (fun h => h rfl); go_simp⟩)) hS1 ?_
  try simp only [List.setIfInBounds_toArray, List.set_cons_succ, List.set_cons_zero]
  refine anyL_takeF (i := 8) (d := 108) (v := (.pointer (some ⟨db, 0, none⟩))) rfl rfl (by kernel_rfl) (by kernel_rfl) (by kernel_rfl) (fun _ _ _ h => h) hSd (by kernel_rfl) (.inl (.inl ⟨rfl, fun w' hS => rfl⟩)) (fun _ => hS1) ?_
  try simp only [List.setIfInBounds_toArray, List.set_cons_succ, List.set_cons_zero]
  refine anyL_takeF (i := 9) (d := 109) (v := (.pointer (some ⟨bx, 1, none⟩))) rfl rfl (by kernel_rfl) (by kernel_rfl) (by kernel_rfl) (fun _ _ _ h => h) hSd (by kernel_rfl) (.inl (.inl ⟨rfl, fun w' hS => by go_simp⟩)) (fun _ => hS1) ?_
  try simp only [List.setIfInBounds_toArray, List.set_cons_succ, List.set_cons_zero]
  refine anyL_takeD (i := 10) (d := 110) (v := (.int .i64 xi)) rfl rfl (by kernel_rfl) (by kernel_rfl) (by kernel_rfl) (fun _ _ _ h => h) hSd (by kernel_rfl) (.inl (.inl ⟨rfl, fun w' hS => by have hc := Kp.cell hS x1 (fun h => h rfl); go_simp⟩)) hS1 ?_
  try simp only [List.setIfInBounds_toArray, List.set_cons_succ, List.set_cons_zero]
  refine anyL_takeF (i := 11) (d := 111) (v := (.pointer (some ⟨bx, 2, none⟩))) rfl rfl (by kernel_rfl) (by kernel_rfl) (by kernel_rfl) (fun _ _ _ h => h) hSd (by kernel_rfl) (.inl (.inl ⟨rfl, fun w' hS => by go_simp⟩)) (fun _ => hS1) ?_
  try simp only [List.setIfInBounds_toArray, List.set_cons_succ, List.set_cons_zero]
  refine anyL_takeD (i := 12) (d := 112) (v := (.int .i64 xk)) rfl rfl (by kernel_rfl) (by kernel_rfl) (by kernel_rfl) (fun _ _ _ h => h) hSd (by kernel_rfl) (.inl (.inl ⟨rfl, fun w' hS => by have hc := Kp.cell hS x2 (fun h => h rfl); go_simp⟩)) hS1 ?_
  try simp only [List.setIfInBounds_toArray, List.set_cons_succ, List.set_cons_zero]
  refine anyL_takeF (i := 13) (d := 113) (v := (.pointer (some ⟨bx, 3, none⟩))) rfl rfl (by kernel_rfl) (by kernel_rfl) (by kernel_rfl) (fun _ _ _ h => h) hSd (by kernel_rfl) (.inl (.inl ⟨rfl, fun w' hS => by go_simp⟩)) (fun _ => hS1) ?_
  try simp only [List.setIfInBounds_toArray, List.set_cons_succ, List.set_cons_zero]
  refine anyL_takeD (i := 14) (d := 114) (v := (.bool is)) rfl rfl (by kernel_rfl) (by kernel_rfl) (by kernel_rfl) (fun _ _ _ h => h) hSd (by kernel_rfl) (.inl (.inl ⟨rfl, fun w' hS => by have hc := Kp.cell hS x3 (fun h => h rfl); go_simp⟩)) hS1 ?_
  try simp only [List.setIfInBounds_toArray, List.set_cons_succ, List.set_cons_zero]
  refine anyL_all (rs := [7]) (by kernel_rfl) (by simp) ?_
  intro n7 i hi
  simp only [List.mem_cons, List.not_mem_nil, or_false] at hi
  obtain rfl := hi
  refine wpOp_of rfl rfl ?_
  go_simp
  refine Calls.mono (CT.out _ ((Kp.refl _ w4).drewN _)) ?_
  rintro e w5 ⟨r, rfl, k5, C5⟩
  have k45 : Kp (fun j => ¬ j = bx) w4 w5 := ((Kp.refl _ w4).drewN _).trans k5
  try dsimp only
  refine ⟨fun _ => k45, ?_⟩
  try simp only [List.setIfInBounds_toArray, List.set_cons_succ, List.set_cons_zero]
  refine anyL_all (rs := [15]) (by kernel_rfl) (by simp) ?_
  intro n15 i hi
  simp only [List.mem_cons, List.not_mem_nil, or_false] at hi
  obtain rfl := hi
  refine wpOp_of rfl rfl ?_
  go_simp
  refine Calls.mono (C5 _ ((Kp.refl _ w5).drewN _)) ?_
  rintro e w7 ⟨rfl, b7, k7⟩
  have k47 : Kp (fun j => ¬ j = bx) w4 w7 := (k45.drewN _).trans k7
  try dsimp only
  refine ⟨fun _ => k47, ?_⟩
  have hS1 := k47
  try simp only [List.setIfInBounds_toArray, List.set_cons_succ, List.set_cons_zero]
  refine anyL_takeF (i := 16) (d := 116) (v := (.bool true)) rfl rfl (by kernel_rfl) (by kernel_rfl) (by kernel_rfl) (fun _ _ _ h => h) hSd (by kernel_rfl) (.inl (.inl ⟨rfl, fun w' hS => by go_simp⟩)) (fun _ => hS1) ?_
  try simp only [List.setIfInBounds_toArray, List.set_cons_succ, List.set_cons_zero]
  refine anyL_takeF (i := 17) (d := 6) (v := (.bool true)) rfl rfl (by kernel_rfl) (by kernel_rfl) (by kernel_rfl) (fun _ _ _ h => h) hSd (by kernel_rfl) (.inl (.inl ⟨rfl, fun w' hS => rfl⟩)) (fun _ => hS1) ?_
  try simp only [List.setIfInBounds_toArray, List.set_cons_succ, List.set_cons_zero]
  refine anyL_done (by kernel_rfl) (fun nn => ?_) _
  have B7 := Lib.hid (b7.kp0 ((Kp.refl _ w7).drewN nn))
  clear b7 k7 k5 k45 k47 C5 hS1 hSd CT
  go_wp2
  go_ret
  exact ⟨rfl, B7.out.free⟩
end
end Go.Proofs.Ytgcgcdgjooaipaa
