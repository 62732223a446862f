/- Chapter 15: an agent's end takes a frame. (Written by wip/lng.py.) -/
import Derived.Test.YtokembhfebnjpaaQBsM
import Derived.Test.YtokembhfebnjpaaQLnF
namespace Go.Proofs.Ytokembhfebnjpaa
set_option maxRecDepth 20000
open Go.RowKit Flt
set_option linter.unusedVariables false
set_option linter.unusedSimpArgs false
/-- A call tells a value and an error, and this holds then, whatever is drawn behind it. -/
def Tells (P : Program) (f : FuncId) (args : Array Value) (W : World) (Q : Value → Int → World → Prop) : Prop := Calls P f args W fun e w' => ∃ v k, e = .returned (.tuple #[v, .int .i64 k]) ∧ Q v k w'
def Stays (Q : Value → Int → World → Prop) : Prop := ∀ v k w n, Q v k w → Q v k (w.drewN n)
set_option maxHeartbeats 1000000 in
theorem anews_yes {W : World} {o I : Nat} {t : Tk} {ext : List Value} (h : TkC W o t ext I) (hst : t.st = 2) (f : Fr) (a : Option Addr) (c : Nat) (now : Int) (hbo : f.bo = t.bo) {Q : Value → Int → World → Prop} (hQ : Stays Q)
    (C : ∀ w', Kp (fun _ => False) W w' → Tells Try.prog 79 #[.pointer (some ⟨o, 0, none⟩), .agg (frA f a c), .int .i64 now] w' Q) :
    Tells Try.prog 73 #[.pointer (some ⟨o, 0, none⟩), .agg (frA f a c), .int .i64 now] W Q := by
  obtain ⟨bx, w1, hbx, hw1, k1, ab⟩ := frame_box f a c W
  have h1 := h.kp0 k1
  have c2 := h1.c.2.2.1
  rw [hbo] at ab
  have b2 : w1.cell? ⟨bx, 2, none⟩ = some (.int .i64 (t.bo : Nat)) := ab.cell 2
  have K1 := Lib.hid k1
  have CI := fun n => Calls.quiet_of_same (n := n) (Calls.turn (tis_any o t.st (w1.drewN n) (h1.drewN0 n).c.1))
  rw [decide_eq_true hst] at CI
  have HC := Lib.hid (And.intro hQ C)
  have heb : ((t.bo : Int) != (t.bo : Int)) = false := by simp
  have AB := Lib.hid ab
  obtain ⟨ty, se, bo, sq, ac, bd⟩ := f
  dsimp only [frA] at *
  subst hbo
  generalize bd.length = nb at *
  generalize t.bo = b at *
  clear h h1 k1 ab hst hQ C
  unfold Tells
  go_enter Try.func73, Try.ntmps73
  go_upto_region 1 with fail
  rw [← hbx, ← hw1]
  clear hbx hw1
  have q0 : w1.cell? ⟨bx, 0, none⟩ = some (.int .i64 ty) := AB.out.cell 0
  have q1 : w1.cell? ⟨bx, 1, none⟩ = some (.int .i64 se) := AB.out.cell 1
  have q3 : w1.cell? ⟨bx, 3, none⟩ = some (.int .i64 sq) := AB.out.cell 3
  have q4 : w1.cell? ⟨bx, 4, none⟩ = some (.int .i64 ac) := AB.out.cell 4
  have q5 : w1.cell? ⟨bx, 5, none⟩ = some (.slice a nb c) := AB.out.cell 5
  go_wp2_with fail
  go_quiet (exact CI _)
  go_upto_region 3 with fail
  refine wp_world (fun wx => Kp (fun _ => False) w1 wx) (by first | exact Kp.refl _ _ | exact (Kp.refl _ _).drew | exact (Kp.refl _ _).drewN _) ?_
  intro w2 k12
  have q0 := k12.cell q0 (fun h => h)
  have q1 := k12.cell q1 (fun h => h)
  have b2 := k12.cell b2 (fun h => h)
  have q3 := k12.cell q3 (fun h => h)
  have q4 := k12.cell q4 (fun h => h)
  have q5 := k12.cell q5 (fun h => h)
  refine region_L (S := fun w' => Kp (fun _ => False) w2 w') [5] rfl ?_
  have hSd : ∀ (w' : World) (n' : Nat), Kp (fun _ => False) w2 w' → Kp (fun _ => False) w2 (w'.drewN n') := fun w' n' h => h.drewN n'
  have hS0 : Kp (fun _ => False) w2 w2.drew := (Kp.refl _ w2).drew
  refine anyL_world (fun w' => Kp (fun _ => False) w2 w') hS0 ?_
  clear hS0
  intro z0 kz0
  refine anyL_takeF (i := 0) (d := 23) (v := (.pointer (some ⟨o, 0, none⟩))) rfl rfl (by kernel_rfl) (by kernel_rfl) (by kernel_rfl) (fun _ _ _ h => h) hSd (by kernel_rfl) (.inl (.inl ⟨rfl, fun w' hS => by first | rfl | go_simp⟩)) (fun _ => kz0) ?_
  try simp only [List.setIfInBounds_toArray, List.set_cons_succ, List.set_cons_zero]
  refine anyL_takeF (i := 1) (d := 24) (v := (.pointer (some ⟨o, 0, none⟩))) rfl rfl (by kernel_rfl) (by kernel_rfl) (by kernel_rfl) (fun _ _ _ h => h) hSd (by kernel_rfl) (.inl (.inl ⟨rfl, fun w' hS => by first | rfl | go_simp⟩)) (fun _ => kz0) ?_
  try simp only [List.setIfInBounds_toArray, List.set_cons_succ, List.set_cons_zero]
  refine anyL_takeF (i := 2) (d := 25) (v := (.pointer (some ⟨o, 0, none⟩))) rfl rfl (by kernel_rfl) (by kernel_rfl) (by kernel_rfl) (fun _ _ _ h => h) hSd (by kernel_rfl) (.inl (.inl ⟨rfl, fun w' hS => by first | rfl | go_simp⟩)) (fun _ => kz0) ?_
  try simp only [List.setIfInBounds_toArray, List.set_cons_succ, List.set_cons_zero]
  refine anyL_takeD (i := 3) (d := 26) (v := (.agg #[.int .i64 ty, .int .i64 se, .int .i64 (b : Nat), .int .i64 sq, .int .i64 ac, .slice a nb c])) rfl rfl (by kernel_rfl) (by kernel_rfl) (by kernel_rfl) (fun _ _ _ h => h) hSd (by kernel_rfl) (.inl (.inl ⟨rfl, fun w' hS => by have h0 := hS.cell q0 (fun h => h); have h1 := hS.cell q1 (fun h => h); have h2 := hS.cell b2 (fun h => h); have h3 := hS.cell q3 (fun h => h); have h4 := hS.cell q4 (fun h => h); have h5 := hS.cell q5 (fun h => h); go_simp⟩)) kz0 ?_
  try simp only [List.setIfInBounds_toArray, List.set_cons_succ, List.set_cons_zero]
  refine anyL_takeF (i := 4) (d := 27) (v := (.int .i64 now)) rfl rfl (by kernel_rfl) (by kernel_rfl) (by kernel_rfl) (fun _ _ _ h => h) hSd (by kernel_rfl) (.inl (.inl ⟨rfl, fun w' hS => by first | rfl | go_simp⟩)) (fun _ => kz0) ?_
  try simp only [List.setIfInBounds_toArray, List.set_cons_succ, List.set_cons_zero]
  refine anyL_all (rs := [5]) (by kernel_rfl) (by simp) ?_
  intro n11 i' hi'
  simp only [List.mem_cons, List.not_mem_nil, or_false] at hi'
  obtain rfl := hi'
  refine wpOp_of rfl rfl ?_
  go_simp
  refine Calls.mono (HC.out.2 (z0.drewN n11) ((K1.out.trans k12).trans (kz0.drewN n11))) ?_
  rintro e w9p ⟨v, k, rfl, hq⟩
  try dsimp only
  refine ⟨fun h => Bool.noConfusion (show false = true from h), ?_⟩
  try simp only [List.setIfInBounds_toArray, List.set_cons_succ, List.set_cons_zero]
  refine anyL_takeF (i := 6) (d := 29) (v := v) rfl rfl (by kernel_rfl) (by kernel_rfl) (by kernel_rfl) (fun _ _ _ h => h) hSd (by kernel_rfl) (.inl (.inl ⟨rfl, fun w' hS => by first | rfl | go_simp⟩)) (fun h => Bool.noConfusion (show false = true from h)) ?_
  try simp only [List.setIfInBounds_toArray, List.set_cons_succ, List.set_cons_zero]
  refine anyL_takeF (i := 7) (d := 30) (v := (.int .i64 k)) rfl rfl (by kernel_rfl) (by kernel_rfl) (by kernel_rfl) (fun _ _ _ h => h) hSd (by kernel_rfl) (.inl (.inl ⟨rfl, fun w' hS => by first | rfl | go_simp⟩)) (fun h => Bool.noConfusion (show false = true from h)) ?_
  try simp only [List.setIfInBounds_toArray, List.set_cons_succ, List.set_cons_zero]
  refine anyL_takeF (i := 8) (d := 6) (v := v) rfl rfl (by kernel_rfl) (by kernel_rfl) (by kernel_rfl) (fun _ _ _ h => h) hSd (by kernel_rfl) (.inl (.inl ⟨rfl, fun w' hS => by first | rfl | go_simp⟩)) (fun h => Bool.noConfusion (show false = true from h)) ?_
  try simp only [List.setIfInBounds_toArray, List.set_cons_succ, List.set_cons_zero]
  refine anyL_takeF (i := 9) (d := 7) (v := (.int .i64 k)) rfl rfl (by kernel_rfl) (by kernel_rfl) (by kernel_rfl) (fun _ _ _ h => h) hSd (by kernel_rfl) (.inl (.inl ⟨rfl, fun w' hS => by first | rfl | go_simp⟩)) (fun h => Bool.noConfusion (show false = true from h)) ?_
  try simp only [List.setIfInBounds_toArray, List.set_cons_succ, List.set_cons_zero]
  refine anyL_done (by kernel_rfl) (fun nn => ?_) _
  clear hSd kz0
  go_wp2_with fail
  go_ret2
  exact ⟨v, k, rfl, HC.out.1 _ _ _ _ hq⟩
set_option maxHeartbeats 1000000 in
theorem atakes_1 {W : World} (o : Nat) (f : Fr) (a : Option Addr) (c : Nat) (now : Int) (hty : f.ty = 1) {Q : Value → Int → World → Prop} (hQ : Stays Q)
    (C : ∀ w', Kp (fun _ => False) W w' → Tells Try.prog 71 #[.pointer (some ⟨o, 0, none⟩), .agg (frA f a c), .int .i64 now] w' Q) :
    Tells Try.prog 67 #[.pointer (some ⟨o, 0, none⟩), .agg (frA f a c), .int .i64 now] W Q := by
  obtain ⟨bx, w1, hbx, hw1, k1, ab⟩ := frame_box f a c W
  rw [hty] at ab
  have F0 := FnM.made w1
  have HW := Lib.hid (And.intro hbx hw1)
  obtain ⟨mb, hmb⟩ : ∃ mb, mb = w1.heap.size := ⟨_, rfl⟩
  obtain ⟨m0, hm0⟩ : ∃ m0, m0 = w1.alloc (.map #[] 0) := ⟨_, rfl⟩
  have km0 : Kp (fun _ => False) w1 m0 := by rw [hm0]; exact (Kp.refl _ w1).alloc _
  have hmk : (Instr.makeMap 122 none).run Try.prog w1 = .ok (.map (some mb)) m0 := by rw [hmb, hm0]; exact run_makeMap _ w1
  rw [← hm0, ← hmb] at F0
  obtain ⟨m1, r1, F1, k11⟩ := F0.upd (P := Try.prog) (T := 122) Try.underlying122 Try.underlying3 1 (Value.func (Fn.func 71) #[] #[]) (by simp)
  obtain ⟨m2, r2, F2, k12⟩ := F1.upd (P := Try.prog) (T := 122) Try.underlying122 Try.underlying3 2 (Value.func (Fn.func 72) #[] #[]) (by simp)
  obtain ⟨m3, r3, F3, k13⟩ := F2.upd (P := Try.prog) (T := 122) Try.underlying122 Try.underlying3 3 (Value.func (Fn.func 73) #[] #[]) (by simp)
  obtain ⟨m4, r4, F4, k14⟩ := F3.upd (P := Try.prog) (T := 122) Try.underlying122 Try.underlying3 4 (Value.func (Fn.func 73) #[] #[]) (by simp)
  obtain ⟨m5, r5, F5, k15⟩ := F4.upd (P := Try.prog) (T := 122) Try.underlying122 Try.underlying3 5 (Value.func (Fn.func 74) #[] #[]) (by simp)
  simp only [List.nil_append, List.cons_append] at F5
  have rl := F5.look (P := Try.prog) (T := 122) Try.underlying122 Try.underlying3 1 (Value.func (Fn.func 71) #[] #[]) (by rfl)
  have kk : Kp (fun k => k = mb) w1 m5 := ((((((km0.mono (fun _ _ h => h.elim)).trans k11).trans k12).trans k13).trans k14).trans k15)
  have hmbx : ¬ bx = mb := fun e => by have h1 := ab.lt; omega
  have ab5 := kk.at ab (fun e => hmbx e)
  have k5 : Kp (fun _ => False) W m5 := k1.then kk (fun i hi e => by have := k1.size; have e : i = mb := e; omega)
  have b0 : m5.cell? ⟨bx, 0, none⟩ = some (.int .i64 1) := ab5.cell 0
  have b1 : m5.cell? ⟨bx, 1, none⟩ = some (.int .i64 f.se) := ab5.cell 1
  have b2 : m5.cell? ⟨bx, 2, none⟩ = some (.int .i64 f.bo) := ab5.cell 2
  have b3 : m5.cell? ⟨bx, 3, none⟩ = some (.int .i64 f.sq) := ab5.cell 3
  have b4 : m5.cell? ⟨bx, 4, none⟩ = some (.int .i64 f.ac) := ab5.cell 4
  have b5 : m5.cell? ⟨bx, 5, none⟩ = some (.slice a f.bd.length c) := ab5.cell 5
  have HC := Lib.hid (And.intro hQ (C m5 k5))
  obtain ⟨ty, se, bo, sq, ac, bd⟩ := f
  dsimp only [frA] at *
  subst hty
  generalize bd.length = nb at *
  clear k1 ab ab5 hQ C F0 F1 F2 F3 F4 F5 k11 k12 k13 k14 k15 kk km0 hm0 hmb hmbx k5 hbx hw1
  unfold Tells
  go_enter Try.func67, Try.ntmps67
  go_upto_region 1 with fail
  rw [← HW.out.1, ← HW.out.2]
  go_wp2_with fail
  refine Calls.mono HC.out.2 ?_
  rintro e w9 ⟨v, k, rfl, hq⟩
  have HQ := Lib.hid hq
  clear hq
  go_wp2_with fail
  go_ret2
  exact ⟨v, k, rfl, HQ.out⟩
set_option maxHeartbeats 1000000 in
theorem atakes_2 {W : World} (o : Nat) (f : Fr) (a : Option Addr) (c : Nat) (now : Int) (hty : f.ty = 2) {Q : Value → Int → World → Prop} (hQ : Stays Q)
    (C : ∀ w', Kp (fun _ => False) W w' → Tells Try.prog 72 #[.pointer (some ⟨o, 0, none⟩), .agg (frA f a c), .int .i64 now] w' Q) :
    Tells Try.prog 67 #[.pointer (some ⟨o, 0, none⟩), .agg (frA f a c), .int .i64 now] W Q := by
  obtain ⟨bx, w1, hbx, hw1, k1, ab⟩ := frame_box f a c W
  rw [hty] at ab
  have F0 := FnM.made w1
  have HW := Lib.hid (And.intro hbx hw1)
  obtain ⟨mb, hmb⟩ : ∃ mb, mb = w1.heap.size := ⟨_, rfl⟩
  obtain ⟨m0, hm0⟩ : ∃ m0, m0 = w1.alloc (.map #[] 0) := ⟨_, rfl⟩
  have km0 : Kp (fun _ => False) w1 m0 := by rw [hm0]; exact (Kp.refl _ w1).alloc _
  have hmk : (Instr.makeMap 122 none).run Try.prog w1 = .ok (.map (some mb)) m0 := by rw [hmb, hm0]; exact run_makeMap _ w1
  rw [← hm0, ← hmb] at F0
  obtain ⟨m1, r1, F1, k11⟩ := F0.upd (P := Try.prog) (T := 122) Try.underlying122 Try.underlying3 1 (Value.func (Fn.func 71) #[] #[]) (by simp)
  obtain ⟨m2, r2, F2, k12⟩ := F1.upd (P := Try.prog) (T := 122) Try.underlying122 Try.underlying3 2 (Value.func (Fn.func 72) #[] #[]) (by simp)
  obtain ⟨m3, r3, F3, k13⟩ := F2.upd (P := Try.prog) (T := 122) Try.underlying122 Try.underlying3 3 (Value.func (Fn.func 73) #[] #[]) (by simp)
  obtain ⟨m4, r4, F4, k14⟩ := F3.upd (P := Try.prog) (T := 122) Try.underlying122 Try.underlying3 4 (Value.func (Fn.func 73) #[] #[]) (by simp)
  obtain ⟨m5, r5, F5, k15⟩ := F4.upd (P := Try.prog) (T := 122) Try.underlying122 Try.underlying3 5 (Value.func (Fn.func 74) #[] #[]) (by simp)
  simp only [List.nil_append, List.cons_append] at F5
  have rl := F5.look (P := Try.prog) (T := 122) Try.underlying122 Try.underlying3 2 (Value.func (Fn.func 72) #[] #[]) (by rfl)
  have kk : Kp (fun k => k = mb) w1 m5 := ((((((km0.mono (fun _ _ h => h.elim)).trans k11).trans k12).trans k13).trans k14).trans k15)
  have hmbx : ¬ bx = mb := fun e => by have h1 := ab.lt; omega
  have ab5 := kk.at ab (fun e => hmbx e)
  have k5 : Kp (fun _ => False) W m5 := k1.then kk (fun i hi e => by have := k1.size; have e : i = mb := e; omega)
  have b0 : m5.cell? ⟨bx, 0, none⟩ = some (.int .i64 2) := ab5.cell 0
  have b1 : m5.cell? ⟨bx, 1, none⟩ = some (.int .i64 f.se) := ab5.cell 1
  have b2 : m5.cell? ⟨bx, 2, none⟩ = some (.int .i64 f.bo) := ab5.cell 2
  have b3 : m5.cell? ⟨bx, 3, none⟩ = some (.int .i64 f.sq) := ab5.cell 3
  have b4 : m5.cell? ⟨bx, 4, none⟩ = some (.int .i64 f.ac) := ab5.cell 4
  have b5 : m5.cell? ⟨bx, 5, none⟩ = some (.slice a f.bd.length c) := ab5.cell 5
  have HC := Lib.hid (And.intro hQ (C m5 k5))
  obtain ⟨ty, se, bo, sq, ac, bd⟩ := f
  dsimp only [frA] at *
  subst hty
  generalize bd.length = nb at *
  clear k1 ab ab5 hQ C F0 F1 F2 F3 F4 F5 k11 k12 k13 k14 k15 kk km0 hm0 hmb hmbx k5 hbx hw1
  unfold Tells
  go_enter Try.func67, Try.ntmps67
  go_upto_region 1 with fail
  rw [← HW.out.1, ← HW.out.2]
  go_wp2_with fail
  refine Calls.mono HC.out.2 ?_
  rintro e w9 ⟨v, k, rfl, hq⟩
  have HQ := Lib.hid hq
  clear hq
  go_wp2_with fail
  go_ret2
  exact ⟨v, k, rfl, HQ.out⟩
set_option maxHeartbeats 1000000 in
theorem atakes_3 {W : World} (o : Nat) (f : Fr) (a : Option Addr) (c : Nat) (now : Int) (hty : f.ty = 3) {Q : Value → Int → World → Prop} (hQ : Stays Q)
    (C : ∀ w', Kp (fun _ => False) W w' → Tells Try.prog 73 #[.pointer (some ⟨o, 0, none⟩), .agg (frA f a c), .int .i64 now] w' Q) :
    Tells Try.prog 67 #[.pointer (some ⟨o, 0, none⟩), .agg (frA f a c), .int .i64 now] W Q := by
  obtain ⟨bx, w1, hbx, hw1, k1, ab⟩ := frame_box f a c W
  rw [hty] at ab
  have F0 := FnM.made w1
  have HW := Lib.hid (And.intro hbx hw1)
  obtain ⟨mb, hmb⟩ : ∃ mb, mb = w1.heap.size := ⟨_, rfl⟩
  obtain ⟨m0, hm0⟩ : ∃ m0, m0 = w1.alloc (.map #[] 0) := ⟨_, rfl⟩
  have km0 : Kp (fun _ => False) w1 m0 := by rw [hm0]; exact (Kp.refl _ w1).alloc _
  have hmk : (Instr.makeMap 122 none).run Try.prog w1 = .ok (.map (some mb)) m0 := by rw [hmb, hm0]; exact run_makeMap _ w1
  rw [← hm0, ← hmb] at F0
  obtain ⟨m1, r1, F1, k11⟩ := F0.upd (P := Try.prog) (T := 122) Try.underlying122 Try.underlying3 1 (Value.func (Fn.func 71) #[] #[]) (by simp)
  obtain ⟨m2, r2, F2, k12⟩ := F1.upd (P := Try.prog) (T := 122) Try.underlying122 Try.underlying3 2 (Value.func (Fn.func 72) #[] #[]) (by simp)
  obtain ⟨m3, r3, F3, k13⟩ := F2.upd (P := Try.prog) (T := 122) Try.underlying122 Try.underlying3 3 (Value.func (Fn.func 73) #[] #[]) (by simp)
  obtain ⟨m4, r4, F4, k14⟩ := F3.upd (P := Try.prog) (T := 122) Try.underlying122 Try.underlying3 4 (Value.func (Fn.func 73) #[] #[]) (by simp)
  obtain ⟨m5, r5, F5, k15⟩ := F4.upd (P := Try.prog) (T := 122) Try.underlying122 Try.underlying3 5 (Value.func (Fn.func 74) #[] #[]) (by simp)
  simp only [List.nil_append, List.cons_append] at F5
  have rl := F5.look (P := Try.prog) (T := 122) Try.underlying122 Try.underlying3 3 (Value.func (Fn.func 73) #[] #[]) (by rfl)
  have kk : Kp (fun k => k = mb) w1 m5 := ((((((km0.mono (fun _ _ h => h.elim)).trans k11).trans k12).trans k13).trans k14).trans k15)
  have hmbx : ¬ bx = mb := fun e => by have h1 := ab.lt; omega
  have ab5 := kk.at ab (fun e => hmbx e)
  have k5 : Kp (fun _ => False) W m5 := k1.then kk (fun i hi e => by have := k1.size; have e : i = mb := e; omega)
  have b0 : m5.cell? ⟨bx, 0, none⟩ = some (.int .i64 3) := ab5.cell 0
  have b1 : m5.cell? ⟨bx, 1, none⟩ = some (.int .i64 f.se) := ab5.cell 1
  have b2 : m5.cell? ⟨bx, 2, none⟩ = some (.int .i64 f.bo) := ab5.cell 2
  have b3 : m5.cell? ⟨bx, 3, none⟩ = some (.int .i64 f.sq) := ab5.cell 3
  have b4 : m5.cell? ⟨bx, 4, none⟩ = some (.int .i64 f.ac) := ab5.cell 4
  have b5 : m5.cell? ⟨bx, 5, none⟩ = some (.slice a f.bd.length c) := ab5.cell 5
  have HC := Lib.hid (And.intro hQ (C m5 k5))
  obtain ⟨ty, se, bo, sq, ac, bd⟩ := f
  dsimp only [frA] at *
  subst hty
  generalize bd.length = nb at *
  clear k1 ab ab5 hQ C F0 F1 F2 F3 F4 F5 k11 k12 k13 k14 k15 kk km0 hm0 hmb hmbx k5 hbx hw1
  unfold Tells
  go_enter Try.func67, Try.ntmps67
  go_upto_region 1 with fail
  rw [← HW.out.1, ← HW.out.2]
  go_wp2_with fail
  refine Calls.mono HC.out.2 ?_
  rintro e w9 ⟨v, k, rfl, hq⟩
  have HQ := Lib.hid hq
  clear hq
  go_wp2_with fail
  go_ret2
  exact ⟨v, k, rfl, HQ.out⟩
set_option maxHeartbeats 1000000 in
theorem atakes_4 {W : World} (o : Nat) (f : Fr) (a : Option Addr) (c : Nat) (now : Int) (hty : f.ty = 4) {Q : Value → Int → World → Prop} (hQ : Stays Q)
    (C : ∀ w', Kp (fun _ => False) W w' → Tells Try.prog 73 #[.pointer (some ⟨o, 0, none⟩), .agg (frA f a c), .int .i64 now] w' Q) :
    Tells Try.prog 67 #[.pointer (some ⟨o, 0, none⟩), .agg (frA f a c), .int .i64 now] W Q := by
  obtain ⟨bx, w1, hbx, hw1, k1, ab⟩ := frame_box f a c W
  rw [hty] at ab
  have F0 := FnM.made w1
  have HW := Lib.hid (And.intro hbx hw1)
  obtain ⟨mb, hmb⟩ : ∃ mb, mb = w1.heap.size := ⟨_, rfl⟩
  obtain ⟨m0, hm0⟩ : ∃ m0, m0 = w1.alloc (.map #[] 0) := ⟨_, rfl⟩
  have km0 : Kp (fun _ => False) w1 m0 := by rw [hm0]; exact (Kp.refl _ w1).alloc _
  have hmk : (Instr.makeMap 122 none).run Try.prog w1 = .ok (.map (some mb)) m0 := by rw [hmb, hm0]; exact run_makeMap _ w1
  rw [← hm0, ← hmb] at F0
  obtain ⟨m1, r1, F1, k11⟩ := F0.upd (P := Try.prog) (T := 122) Try.underlying122 Try.underlying3 1 (Value.func (Fn.func 71) #[] #[]) (by simp)
  obtain ⟨m2, r2, F2, k12⟩ := F1.upd (P := Try.prog) (T := 122) Try.underlying122 Try.underlying3 2 (Value.func (Fn.func 72) #[] #[]) (by simp)
  obtain ⟨m3, r3, F3, k13⟩ := F2.upd (P := Try.prog) (T := 122) Try.underlying122 Try.underlying3 3 (Value.func (Fn.func 73) #[] #[]) (by simp)
  obtain ⟨m4, r4, F4, k14⟩ := F3.upd (P := Try.prog) (T := 122) Try.underlying122 Try.underlying3 4 (Value.func (Fn.func 73) #[] #[]) (by simp)
  obtain ⟨m5, r5, F5, k15⟩ := F4.upd (P := Try.prog) (T := 122) Try.underlying122 Try.underlying3 5 (Value.func (Fn.func 74) #[] #[]) (by simp)
  simp only [List.nil_append, List.cons_append] at F5
  have rl := F5.look (P := Try.prog) (T := 122) Try.underlying122 Try.underlying3 4 (Value.func (Fn.func 73) #[] #[]) (by rfl)
  have kk : Kp (fun k => k = mb) w1 m5 := ((((((km0.mono (fun _ _ h => h.elim)).trans k11).trans k12).trans k13).trans k14).trans k15)
  have hmbx : ¬ bx = mb := fun e => by have h1 := ab.lt; omega
  have ab5 := kk.at ab (fun e => hmbx e)
  have k5 : Kp (fun _ => False) W m5 := k1.then kk (fun i hi e => by have := k1.size; have e : i = mb := e; omega)
  have b0 : m5.cell? ⟨bx, 0, none⟩ = some (.int .i64 4) := ab5.cell 0
  have b1 : m5.cell? ⟨bx, 1, none⟩ = some (.int .i64 f.se) := ab5.cell 1
  have b2 : m5.cell? ⟨bx, 2, none⟩ = some (.int .i64 f.bo) := ab5.cell 2
  have b3 : m5.cell? ⟨bx, 3, none⟩ = some (.int .i64 f.sq) := ab5.cell 3
  have b4 : m5.cell? ⟨bx, 4, none⟩ = some (.int .i64 f.ac) := ab5.cell 4
  have b5 : m5.cell? ⟨bx, 5, none⟩ = some (.slice a f.bd.length c) := ab5.cell 5
  have HC := Lib.hid (And.intro hQ (C m5 k5))
  obtain ⟨ty, se, bo, sq, ac, bd⟩ := f
  dsimp only [frA] at *
  subst hty
  generalize bd.length = nb at *
  clear k1 ab ab5 hQ C F0 F1 F2 F3 F4 F5 k11 k12 k13 k14 k15 kk km0 hm0 hmb hmbx k5 hbx hw1
  unfold Tells
  go_enter Try.func67, Try.ntmps67
  go_upto_region 1 with fail
  rw [← HW.out.1, ← HW.out.2]
  go_wp2_with fail
  refine Calls.mono HC.out.2 ?_
  rintro e w9 ⟨v, k, rfl, hq⟩
  have HQ := Lib.hid hq
  clear hq
  go_wp2_with fail
  go_ret2
  exact ⟨v, k, rfl, HQ.out⟩
set_option maxHeartbeats 1000000 in
theorem atakes_5 {W : World} (o : Nat) (f : Fr) (a : Option Addr) (c : Nat) (now : Int) (hty : f.ty = 5) {Q : Value → Int → World → Prop} (hQ : Stays Q)
    (C : ∀ w', Kp (fun _ => False) W w' → Tells Try.prog 74 #[.pointer (some ⟨o, 0, none⟩), .agg (frA f a c), .int .i64 now] w' Q) :
    Tells Try.prog 67 #[.pointer (some ⟨o, 0, none⟩), .agg (frA f a c), .int .i64 now] W Q := by
  obtain ⟨bx, w1, hbx, hw1, k1, ab⟩ := frame_box f a c W
  rw [hty] at ab
  have F0 := FnM.made w1
  have HW := Lib.hid (And.intro hbx hw1)
  obtain ⟨mb, hmb⟩ : ∃ mb, mb = w1.heap.size := ⟨_, rfl⟩
  obtain ⟨m0, hm0⟩ : ∃ m0, m0 = w1.alloc (.map #[] 0) := ⟨_, rfl⟩
  have km0 : Kp (fun _ => False) w1 m0 := by rw [hm0]; exact (Kp.refl _ w1).alloc _
  have hmk : (Instr.makeMap 122 none).run Try.prog w1 = .ok (.map (some mb)) m0 := by rw [hmb, hm0]; exact run_makeMap _ w1
  rw [← hm0, ← hmb] at F0
  obtain ⟨m1, r1, F1, k11⟩ := F0.upd (P := Try.prog) (T := 122) Try.underlying122 Try.underlying3 1 (Value.func (Fn.func 71) #[] #[]) (by simp)
  obtain ⟨m2, r2, F2, k12⟩ := F1.upd (P := Try.prog) (T := 122) Try.underlying122 Try.underlying3 2 (Value.func (Fn.func 72) #[] #[]) (by simp)
  obtain ⟨m3, r3, F3, k13⟩ := F2.upd (P := Try.prog) (T := 122) Try.underlying122 Try.underlying3 3 (Value.func (Fn.func 73) #[] #[]) (by simp)
  obtain ⟨m4, r4, F4, k14⟩ := F3.upd (P := Try.prog) (T := 122) Try.underlying122 Try.underlying3 4 (Value.func (Fn.func 73) #[] #[]) (by simp)
  obtain ⟨m5, r5, F5, k15⟩ := F4.upd (P := Try.prog) (T := 122) Try.underlying122 Try.underlying3 5 (Value.func (Fn.func 74) #[] #[]) (by simp)
  simp only [List.nil_append, List.cons_append] at F5
  have rl := F5.look (P := Try.prog) (T := 122) Try.underlying122 Try.underlying3 5 (Value.func (Fn.func 74) #[] #[]) (by rfl)
  have kk : Kp (fun k => k = mb) w1 m5 := ((((((km0.mono (fun _ _ h => h.elim)).trans k11).trans k12).trans k13).trans k14).trans k15)
  have hmbx : ¬ bx = mb := fun e => by have h1 := ab.lt; omega
  have ab5 := kk.at ab (fun e => hmbx e)
  have k5 : Kp (fun _ => False) W m5 := k1.then kk (fun i hi e => by have := k1.size; have e : i = mb := e; omega)
  have b0 : m5.cell? ⟨bx, 0, none⟩ = some (.int .i64 5) := ab5.cell 0
  have b1 : m5.cell? ⟨bx, 1, none⟩ = some (.int .i64 f.se) := ab5.cell 1
  have b2 : m5.cell? ⟨bx, 2, none⟩ = some (.int .i64 f.bo) := ab5.cell 2
  have b3 : m5.cell? ⟨bx, 3, none⟩ = some (.int .i64 f.sq) := ab5.cell 3
  have b4 : m5.cell? ⟨bx, 4, none⟩ = some (.int .i64 f.ac) := ab5.cell 4
  have b5 : m5.cell? ⟨bx, 5, none⟩ = some (.slice a f.bd.length c) := ab5.cell 5
  have HC := Lib.hid (And.intro hQ (C m5 k5))
  obtain ⟨ty, se, bo, sq, ac, bd⟩ := f
  dsimp only [frA] at *
  subst hty
  generalize bd.length = nb at *
  clear k1 ab ab5 hQ C F0 F1 F2 F3 F4 F5 k11 k12 k13 k14 k15 kk km0 hm0 hmb hmbx k5 hbx hw1
  unfold Tells
  go_enter Try.func67, Try.ntmps67
  go_upto_region 1 with fail
  rw [← HW.out.1, ← HW.out.2]
  go_wp2_with fail
  refine Calls.mono HC.out.2 ?_
  rintro e w9 ⟨v, k, rfl, hq⟩
  have HQ := Lib.hid hq
  clear hq
  go_wp2_with fail
  go_ret2
  exact ⟨v, k, rfl, HQ.out⟩
end Go.Proofs.Ytokembhfebnjpaa
