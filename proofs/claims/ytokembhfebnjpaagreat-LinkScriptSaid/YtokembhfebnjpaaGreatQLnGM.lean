/- Chapter 15: an agent's end takes a frame. (Written by wip/lng.py.) -/
import Derived.Test.YtokembhfebnjpaaGreatQMapF
import Derived.Test.YtokembhfebnjpaaGreatQLnEM
namespace Go.Proofs.YtokembhfebnjpaaGreat
set_option maxRecDepth 20000
open Go.RowKit Flt
set_option linter.unusedVariables false
set_option linter.unusedSimpArgs false
def Tells (P : Program) (f : FuncId) (args : Array Value) (W : World) (Q : Value → Int → World → Prop) : Prop := Calls P f args W fun e w' => ∃ v k, e = .returned (.tuple #[v, .int .i64 k]) ∧ Q v k w'
def Stays (Q : Value → Int → World → Prop) : Prop := ∀ v k w n, Q v k w → Q v k (w.drewN n)
set_option maxHeartbeats 1000000 in
theorem anews_yes {W : World} {o I : Nat} {t : Tk} {ext : List Value} (h : TkC W o t ext I) (hst : t.st = 2) (f : Fr) (a : Option Addr) (c : Nat) (now : Int) (hbo : f.bo = t.bo) {Q : Value → Int → World → Prop} (hQ : Stays Q)
 (C : ∀ w', Kp (fun _ => False) W w' → Tells Tryz.prog 112 #[.pointer (some ⟨o, 0, none⟩), .agg (frA f a c), .int .i64 now] w' Q) :
 Tells Tryz.prog 159 #[.pointer (some ⟨o, 0, none⟩), .agg (frA f a c), .int .i64 now] W Q := by
 obtain ⟨bx, w1, hbx, hw1, k1, ab⟩ := frame_box f a c W
 have h1 := h.kp0 k1
 have c2 := h1.c.2.2.1
 rw [hbo] at ab
 have b2 : w1.cell? ⟨bx, 2, none⟩ = some (.int .i64 (t.bo : Nat)) := ab.cell 2
 have K1 := Lib.hid k1
 have CI := fun n => Calls.quiet_of_same (n := n) (Calls.turn (tis_any o t.st (w1.drewN n) (h1.drewN0 n).c.1))
 rw [decide_eq_true hst] at CI
 have HC := Lib.hid (And.intro hQ C)
 have heb : ((t.bo : Int) != (t.bo : Int)) = false := by simp
 have AB := Lib.hid ab
 obtain ⟨ty, se, bo, sq, ac, bd⟩ := f
 dsimp only [frA] at *
 subst hbo
 generalize bd.length = nb at *
 generalize t.bo = b at *
 clear h h1 k1 ab hst hQ C
 unfold Tells
 go_enter Tryz.func159, Tryz.ntmps159
 go_upto_region 1 with fail
 rw [← hbx, ← hw1]
 clear hbx hw1
 have q0 : w1.cell? ⟨bx, 0, none⟩ = some (.int .i64 ty) := AB.out.cell 0
 have q1 : w1.cell? ⟨bx, 1, none⟩ = some (.int .i64 se) := AB.out.cell 1
 have q3 : w1.cell? ⟨bx, 3, none⟩ = some (.int .i64 sq) := AB.out.cell 3
 have q4 : w1.cell? ⟨bx, 4, none⟩ = some (.int .i64 ac) := AB.out.cell 4
 have q5 : w1.cell? ⟨bx, 5, none⟩ = some (.slice a nb c) := AB.out.cell 5
 go_wp2_with fail
 go_quiet (exact CI _)
 go_upto_region 3 with fail
 refine wp_world (fun wx => Kp (fun _ => False) w1 wx) (by first | exact Kp.refl _ _ | exact (Kp.refl _ _).drew | exact (Kp.refl _ _).drewN _) ?_
 intro w2 k12
 have q0 := k12.cell q0 (fun h => h)
 have q1 := k12.cell q1 (fun h => h)
 have b2 := k12.cell b2 (fun h => h)
 have q3 := k12.cell q3 (fun h => h)
 have q4 := k12.cell q4 (fun h => h)
 have q5 := k12.cell q5 (fun h => h)
 refine region_L (S := fun w' => Kp (fun _ => False) w2 w') [5] rfl ?_
 have hSd : ∀ (w' : World) (n' : Nat), Kp (fun _ => False) w2 w' → Kp (fun _ => False) w2 (w'.drewN n') := fun w' n' h => h.drewN n'
 have hS0 : Kp (fun _ => False) w2 w2.drew := (Kp.refl _ w2).drew
 refine anyL_world (fun w' => Kp (fun _ => False) w2 w') hS0 ?_
 clear hS0
 intro z0 kz0
 refine tF 0 23 (.pointer (some ⟨o, 0, none⟩)) rfl rfl hSd (fun _ => kz0) ?_
 try simp only [sC]
 refine tF 1 24 (.pointer (some ⟨o, 0, none⟩)) rfl rfl hSd (fun _ => kz0) ?_
 try simp only [sC]
 refine tF 2 25 (.pointer (some ⟨o, 0, none⟩)) rfl rfl hSd (fun _ => kz0) ?_
 try simp only [sC]
 refine tD 3 26 (.agg #[.int .i64 ty, .int .i64 se, .int .i64 (b : Nat), .int .i64 sq, .int .i64 ac, .slice a nb c]) rfl rfl hSd (.inl (.inl ⟨rfl, fun w' hS => by have h0 := hS.cell q0 (fun h => h); have h1 := hS.cell q1 (fun h => h); have h2 := hS.cell b2 (fun h => h); have h3 := hS.cell q3 (fun h => h); have h4 := hS.cell q4 (fun h => h); have h5 := hS.cell q5 (fun h => h); go_simp⟩)) kz0 ?_
 try simp only [sC]
 refine tF 4 27 (.int .i64 now) rfl rfl hSd (fun _ => kz0) ?_
 try simp only [sC]
 refine tA 5 ?_
 intro n11
 refine wpOp_of rfl rfl ?_
 go_simp
 refine Calls.mono (HC.out.2 (z0.drewN n11) ((K1.out.trans k12).trans (kz0.drewN n11))) ?_
 rintro e w9p ⟨v, k, rfl, hq⟩
 try dsimp only
 refine ⟨fun h => Bool.noConfusion (show false = true from h), ?_⟩
 try simp only [sC]
 refine tF 6 29 v rfl rfl hSd (fun h => Bool.noConfusion (show false = true from h)) ?_
 try simp only [sC]
 refine tF 7 30 (.int .i64 k) rfl rfl hSd (fun h => Bool.noConfusion (show false = true from h)) ?_
 try simp only [sC]
 refine tF 8 6 v rfl rfl hSd (fun h => Bool.noConfusion (show false = true from h)) ?_
 try simp only [sC]
 refine tF 9 7 (.int .i64 k) rfl rfl hSd (fun h => Bool.noConfusion (show false = true from h)) ?_
 try simp only [sC]
 refine anyL_done (by kernel_rfl) (fun nn => ?_) _
 clear hSd kz0
 go_wp2_with fail
 go_ret2
 exact ⟨v, k, rfl, HC.out.1 _ _ _ _ hq⟩
set_option maxHeartbeats 1000000 in
theorem atakes_1 {W : World} (o : Nat) (f : Fr) (a : Option Addr) (c : Nat) (now : Int) (hty : f.ty = 1) {Q : Value → Int → World → Prop} (hQ : Stays Q)
 (C : ∀ w', Kp (fun _ => False) W w' → Tells Tryz.prog 157 #[.pointer (some ⟨o, 0, none⟩), .agg (frA f a c), .int .i64 now] w' Q) :
 Tells Tryz.prog 155 #[.pointer (some ⟨o, 0, none⟩), .agg (frA f a c), .int .i64 now] W Q := by
 obtain ⟨bx, w1, hbx, hw1, k1, ab⟩ := frame_box f a c W
 rw [hty] at ab
 have F0 := FnM.made w1
 have HW := Lib.hid (And.intro hbx hw1)
 obtain ⟨mb, hmb⟩ : ∃ mb, mb = w1.heap.size := ⟨_, rfl⟩
 obtain ⟨m0, hm0⟩ : ∃ m0, m0 = w1.alloc (.map #[] 0) := ⟨_, rfl⟩
 have km0 : Kp (fun _ => False) w1 m0 := by rw [hm0]; exact (Kp.refl _ w1).alloc _
 have hmk : (Instr.makeMap 182 none).run Tryz.prog w1 = .ok (.map (some mb)) m0 := by rw [hmb, hm0]; exact run_makeMap _ w1
 rw [← hm0, ← hmb] at F0
 obtain ⟨m1, r1, F1, k11⟩ := F0.upd (P := Tryz.prog) (T := 182) Tryz.underlying182 Tryz.underlying3 1 (Value.func (Fn.func 157) #[] #[]) (by simp)
 obtain ⟨m2, r2, F2, k12⟩ := F1.upd (P := Tryz.prog) (T := 182) Tryz.underlying182 Tryz.underlying3 2 (Value.func (Fn.func 158) #[] #[]) (by simp)
 obtain ⟨m3, r3, F3, k13⟩ := F2.upd (P := Tryz.prog) (T := 182) Tryz.underlying182 Tryz.underlying3 3 (Value.func (Fn.func 159) #[] #[]) (by simp)
 obtain ⟨m4, r4, F4, k14⟩ := F3.upd (P := Tryz.prog) (T := 182) Tryz.underlying182 Tryz.underlying3 4 (Value.func (Fn.func 159) #[] #[]) (by simp)
 obtain ⟨m5, r5, F5, k15⟩ := F4.upd (P := Tryz.prog) (T := 182) Tryz.underlying182 Tryz.underlying3 5 (Value.func (Fn.func 160) #[] #[]) (by simp)
 simp only [List.nil_append, List.cons_append] at F5
 have rl := F5.look (P := Tryz.prog) (T := 182) Tryz.underlying182 Tryz.underlying3 1 (Value.func (Fn.func 157) #[] #[]) (by rfl)
 have kk : Kp (fun k => k = mb) w1 m5 := ((((((km0.mono (fun _ _ h => h.elim)).trans k11).trans k12).trans k13).trans k14).trans k15)
 have hmbx : ¬ bx = mb := fun e => by have h1 := ab.lt; omega
 have ab5 := kk.at ab (fun e => hmbx e)
 have k5 : Kp (fun _ => False) W m5 := k1.then kk (fun i hi e => by have := k1.size; have e : i = mb := e; omega)
 have b0 : m5.cell? ⟨bx, 0, none⟩ = some (.int .i64 1) := ab5.cell 0
 have b1 : m5.cell? ⟨bx, 1, none⟩ = some (.int .i64 f.se) := ab5.cell 1
 have b2 : m5.cell? ⟨bx, 2, none⟩ = some (.int .i64 f.bo) := ab5.cell 2
 have b3 : m5.cell? ⟨bx, 3, none⟩ = some (.int .i64 f.sq) := ab5.cell 3
 have b4 : m5.cell? ⟨bx, 4, none⟩ = some (.int .i64 f.ac) := ab5.cell 4
 have b5 : m5.cell? ⟨bx, 5, none⟩ = some (.slice a f.bd.length c) := ab5.cell 5
 have HC := Lib.hid (And.intro hQ (C m5 k5))
 obtain ⟨ty, se, bo, sq, ac, bd⟩ := f
 dsimp only [frA] at *
 subst hty
 generalize bd.length = nb at *
 clear k1 ab ab5 hQ C F0 F1 F2 F3 F4 F5 k11 k12 k13 k14 k15 kk km0 hm0 hmb hmbx k5 hbx hw1
 unfold Tells
 go_enter Tryz.func155, Tryz.ntmps155
 go_upto_region 1 with fail
 rw [← HW.out.1, ← HW.out.2]
 go_wp2_with fail
 refine Calls.mono HC.out.2 ?_
 rintro e w9 ⟨v, k, rfl, hq⟩
 have HQ := Lib.hid hq
 clear hq
 go_wp2_with fail
 go_ret2
 exact ⟨v, k, rfl, HQ.out⟩
set_option maxHeartbeats 1000000 in
theorem atakes_2 {W : World} (o : Nat) (f : Fr) (a : Option Addr) (c : Nat) (now : Int) (hty : f.ty = 2) {Q : Value → Int → World → Prop} (hQ : Stays Q)
 (C : ∀ w', Kp (fun _ => False) W w' → Tells Tryz.prog 158 #[.pointer (some ⟨o, 0, none⟩), .agg (frA f a c), .int .i64 now] w' Q) :
 Tells Tryz.prog 155 #[.pointer (some ⟨o, 0, none⟩), .agg (frA f a c), .int .i64 now] W Q := by
 obtain ⟨bx, w1, hbx, hw1, k1, ab⟩ := frame_box f a c W
 rw [hty] at ab
 have F0 := FnM.made w1
 have HW := Lib.hid (And.intro hbx hw1)
 obtain ⟨mb, hmb⟩ : ∃ mb, mb = w1.heap.size := ⟨_, rfl⟩
 obtain ⟨m0, hm0⟩ : ∃ m0, m0 = w1.alloc (.map #[] 0) := ⟨_, rfl⟩
 have km0 : Kp (fun _ => False) w1 m0 := by rw [hm0]; exact (Kp.refl _ w1).alloc _
 have hmk : (Instr.makeMap 182 none).run Tryz.prog w1 = .ok (.map (some mb)) m0 := by rw [hmb, hm0]; exact run_makeMap _ w1
 rw [← hm0, ← hmb] at F0
 obtain ⟨m1, r1, F1, k11⟩ := F0.upd (P := Tryz.prog) (T := 182) Tryz.underlying182 Tryz.underlying3 1 (Value.func (Fn.func 157) #[] #[]) (by simp)
 obtain ⟨m2, r2, F2, k12⟩ := F1.upd (P := Tryz.prog) (T := 182) Tryz.underlying182 Tryz.underlying3 2 (Value.func (Fn.func 158) #[] #[]) (by simp)
 obtain ⟨m3, r3, F3, k13⟩ := F2.upd (P := Tryz.prog) (T := 182) Tryz.underlying182 Tryz.underlying3 3 (Value.func (Fn.func 159) #[] #[]) (by simp)
 obtain ⟨m4, r4, F4, k14⟩ := F3.upd (P := Tryz.prog) (T := 182) Tryz.underlying182 Tryz.underlying3 4 (Value.func (Fn.func 159) #[] #[]) (by simp)
 obtain ⟨m5, r5, F5, k15⟩ := F4.upd (P := Tryz.prog) (T := 182) Tryz.underlying182 Tryz.underlying3 5 (Value.func (Fn.func 160) #[] #[]) (by simp)
 simp only [List.nil_append, List.cons_append] at F5
 have rl := F5.look (P := Tryz.prog) (T := 182) Tryz.underlying182 Tryz.underlying3 2 (Value.func (Fn.func 158) #[] #[]) (by rfl)
 have kk : Kp (fun k => k = mb) w1 m5 := ((((((km0.mono (fun _ _ h => h.elim)).trans k11).trans k12).trans k13).trans k14).trans k15)
 have hmbx : ¬ bx = mb := fun e => by have h1 := ab.lt; omega
 have ab5 := kk.at ab (fun e => hmbx e)
 have k5 : Kp (fun _ => False) W m5 := k1.then kk (fun i hi e => by have := k1.size; have e : i = mb := e; omega)
 have b0 : m5.cell? ⟨bx, 0, none⟩ = some (.int .i64 2) := ab5.cell 0
 have b1 : m5.cell? ⟨bx, 1, none⟩ = some (.int .i64 f.se) := ab5.cell 1
 have b2 : m5.cell? ⟨bx, 2, none⟩ = some (.int .i64 f.bo) := ab5.cell 2
 have b3 : m5.cell? ⟨bx, 3, none⟩ = some (.int .i64 f.sq) := ab5.cell 3
 have b4 : m5.cell? ⟨bx, 4, none⟩ = some (.int .i64 f.ac) := ab5.cell 4
 have b5 : m5.cell? ⟨bx, 5, none⟩ = some (.slice a f.bd.length c) := ab5.cell 5
 have HC := Lib.hid (And.intro hQ (C m5 k5))
 obtain ⟨ty, se, bo, sq, ac, bd⟩ := f
 dsimp only [frA] at *
 subst hty
 generalize bd.length = nb at *
 clear k1 ab ab5 hQ C F0 F1 F2 F3 F4 F5 k11 k12 k13 k14 k15 kk km0 hm0 hmb hmbx k5 hbx hw1
 unfold Tells
 go_enter Tryz.func155, Tryz.ntmps155
 go_upto_region 1 with fail
 rw [← HW.out.1, ← HW.out.2]
 go_wp2_with fail
 refine Calls.mono HC.out.2 ?_
 rintro e w9 ⟨v, k, rfl, hq⟩
 have HQ := Lib.hid hq
 clear hq
 go_wp2_with fail
 go_ret2
 exact ⟨v, k, rfl, HQ.out⟩
set_option maxHeartbeats 1000000 in
theorem atakes_3 {W : World} (o : Nat) (f : Fr) (a : Option Addr) (c : Nat) (now : Int) (hty : f.ty = 3) {Q : Value → Int → World → Prop} (hQ : Stays Q)
 (C : ∀ w', Kp (fun _ => False) W w' → Tells Tryz.prog 159 #[.pointer (some ⟨o, 0, none⟩), .agg (frA f a c), .int .i64 now] w' Q) :
 Tells Tryz.prog 155 #[.pointer (some ⟨o, 0, none⟩), .agg (frA f a c), .int .i64 now] W Q := by
 obtain ⟨bx, w1, hbx, hw1, k1, ab⟩ := frame_box f a c W
 rw [hty] at ab
 have F0 := FnM.made w1
 have HW := Lib.hid (And.intro hbx hw1)
 obtain ⟨mb, hmb⟩ : ∃ mb, mb = w1.heap.size := ⟨_, rfl⟩
 obtain ⟨m0, hm0⟩ : ∃ m0, m0 = w1.alloc (.map #[] 0) := ⟨_, rfl⟩
 have km0 : Kp (fun _ => False) w1 m0 := by rw [hm0]; exact (Kp.refl _ w1).alloc _
 have hmk : (Instr.makeMap 182 none).run Tryz.prog w1 = .ok (.map (some mb)) m0 := by rw [hmb, hm0]; exact run_makeMap _ w1
 rw [← hm0, ← hmb] at F0
 obtain ⟨m1, r1, F1, k11⟩ := F0.upd (P := Tryz.prog) (T := 182) Tryz.underlying182 Tryz.underlying3 1 (Value.func (Fn.func 157) #[] #[]) (by simp)
 obtain ⟨m2, r2, F2, k12⟩ := F1.upd (P := Tryz.prog) (T := 182) Tryz.underlying182 Tryz.underlying3 2 (Value.func (Fn.func 158) #[] #[]) (by simp)
 obtain ⟨m3, r3, F3, k13⟩ := F2.upd (P := Tryz.prog) (T := 182) Tryz.underlying182 Tryz.underlying3 3 (Value.func (Fn.func 159) #[] #[]) (by simp)
 obtain ⟨m4, r4, F4, k14⟩ := F3.upd (P := Tryz.prog) (T := 182) Tryz.underlying182 Tryz.underlying3 4 (Value.func (Fn.func 159) #[] #[]) (by simp)
 obtain ⟨m5, r5, F5, k15⟩ := F4.upd (P := Tryz.prog) (T := 182) Tryz.underlying182 Tryz.underlying3 5 (Value.func (Fn.func 160) #[] #[]) (by simp)
 simp only [List.nil_append, List.cons_append] at F5
 have rl := F5.look (P := Tryz.prog) (T := 182) Tryz.underlying182 Tryz.underlying3 3 (Value.func (Fn.func 159) #[] #[]) (by rfl)
 have kk : Kp (fun k => k = mb) w1 m5 := ((((((km0.mono (fun _ _ h => h.elim)).trans k11).trans k12).trans k13).trans k14).trans k15)
 have hmbx : ¬ bx = mb := fun e => by have h1 := ab.lt; omega
 have ab5 := kk.at ab (fun e => hmbx e)
 have k5 : Kp (fun _ => False) W m5 := k1.then kk (fun i hi e => by have := k1.size; have e : i = mb := e; omega)
 have b0 : m5.cell? ⟨bx, 0, none⟩ = some (.int .i64 3) := ab5.cell 0
 have b1 : m5.cell? ⟨bx, 1, none⟩ = some (.int .i64 f.se) := ab5.cell 1
 have b2 : m5.cell? ⟨bx, 2, none⟩ = some (.int .i64 f.bo) := ab5.cell 2
 have b3 : m5.cell? ⟨bx, 3, none⟩ = some (.int .i64 f.sq) := ab5.cell 3
 have b4 : m5.cell? ⟨bx, 4, none⟩ = some (.int .i64 f.ac) := ab5.cell 4
 have b5 : m5.cell? ⟨bx, 5, none⟩ = some (.slice a f.bd.length c) := ab5.cell 5
 have HC := Lib.hid (And.intro hQ (C m5 k5))
 obtain ⟨ty, se, bo, sq, ac, bd⟩ := f
 dsimp only [frA] at *
 subst hty
 generalize bd.length = nb at *
 clear k1 ab ab5 hQ C F0 F1 F2 F3 F4 F5 k11 k12 k13 k14 k15 kk km0 hm0 hmb hmbx k5 hbx hw1
 unfold Tells
 go_enter Tryz.func155, Tryz.ntmps155
 go_upto_region 1 with fail
 rw [← HW.out.1, ← HW.out.2]
 go_wp2_with fail
 refine Calls.mono HC.out.2 ?_
 rintro e w9 ⟨v, k, rfl, hq⟩
 have HQ := Lib.hid hq
 clear hq
 go_wp2_with fail
 go_ret2
 exact ⟨v, k, rfl, HQ.out⟩
set_option maxHeartbeats 1000000 in
theorem atakes_4 {W : World} (o : Nat) (f : Fr) (a : Option Addr) (c : Nat) (now : Int) (hty : f.ty = 4) {Q : Value → Int → World → Prop} (hQ : Stays Q)
 (C : ∀ w', Kp (fun _ => False) W w' → Tells Tryz.prog 159 #[.pointer (some ⟨o, 0, none⟩), .agg (frA f a c), .int .i64 now] w' Q) :
 Tells Tryz.prog 155 #[.pointer (some ⟨o, 0, none⟩), .agg (frA f a c), .int .i64 now] W Q := by
 obtain ⟨bx, w1, hbx, hw1, k1, ab⟩ := frame_box f a c W
 rw [hty] at ab
 have F0 := FnM.made w1
 have HW := Lib.hid (And.intro hbx hw1)
 obtain ⟨mb, hmb⟩ : ∃ mb, mb = w1.heap.size := ⟨_, rfl⟩
 obtain ⟨m0, hm0⟩ : ∃ m0, m0 = w1.alloc (.map #[] 0) := ⟨_, rfl⟩
 have km0 : Kp (fun _ => False) w1 m0 := by rw [hm0]; exact (Kp.refl _ w1).alloc _
 have hmk : (Instr.makeMap 182 none).run Tryz.prog w1 = .ok (.map (some mb)) m0 := by rw [hmb, hm0]; exact run_makeMap _ w1
 rw [← hm0, ← hmb] at F0
 obtain ⟨m1, r1, F1, k11⟩ := F0.upd (P := Tryz.prog) (T := 182) Tryz.underlying182 Tryz.underlying3 1 (Value.func (Fn.func 157) #[] #[]) (by simp)
 obtain ⟨m2, r2, F2, k12⟩ := F1.upd (P := Tryz.prog) (T := 182) Tryz.underlying182 Tryz.underlying3 2 (Value.func (Fn.func 158) #[] #[]) (by simp)
 obtain ⟨m3, r3, F3, k13⟩ := F2.upd (P := Tryz.prog) (T := 182) Tryz.underlying182 Tryz.underlying3 3 (Value.func (Fn.func 159) #[] #[]) (by simp)
 obtain ⟨m4, r4, F4, k14⟩ := F3.upd (P := Tryz.prog) (T := 182) Tryz.underlying182 Tryz.underlying3 4 (Value.func (Fn.func 159) #[] #[]) (by simp)
 obtain ⟨m5, r5, F5, k15⟩ := F4.upd (P := Tryz.prog) (T := 182) Tryz.underlying182 Tryz.underlying3 5 (Value.func (Fn.func 160) #[] #[]) (by simp)
 simp only [List.nil_append, List.cons_append] at F5
 have rl := F5.look (P := Tryz.prog) (T := 182) Tryz.underlying182 Tryz.underlying3 4 (Value.func (Fn.func 159) #[] #[]) (by rfl)
 have kk : Kp (fun k => k = mb) w1 m5 := ((((((km0.mono (fun _ _ h => h.elim)).trans k11).trans k12).trans k13).trans k14).trans k15)
 have hmbx : ¬ bx = mb := fun e => by have h1 := ab.lt; omega
 have ab5 := kk.at ab (fun e => hmbx e)
 have k5 : Kp (fun _ => False) W m5 := k1.then kk (fun i hi e => by have := k1.size; have e : i = mb := e; omega)
 have b0 : m5.cell? ⟨bx, 0, none⟩ = some (.int .i64 4) := ab5.cell 0
 have b1 : m5.cell? ⟨bx, 1, none⟩ = some (.int .i64 f.se) := ab5.cell 1
 have b2 : m5.cell? ⟨bx, 2, none⟩ = some (.int .i64 f.bo) := ab5.cell 2
 have b3 : m5.cell? ⟨bx, 3, none⟩ = some (.int .i64 f.sq) := ab5.cell 3
 have b4 : m5.cell? ⟨bx, 4, none⟩ = some (.int .i64 f.ac) := ab5.cell 4
 have b5 : m5.cell? ⟨bx, 5, none⟩ = some (.slice a f.bd.length c) := ab5.cell 5
 have HC := Lib.hid (And.intro hQ (C m5 k5))
 obtain ⟨ty, se, bo, sq, ac, bd⟩ := f
 dsimp only [frA] at *
 subst hty
 generalize bd.length = nb at *
 clear k1 ab ab5 hQ C F0 F1 F2 F3 F4 F5 k11 k12 k13 k14 k15 kk km0 hm0 hmb hmbx k5 hbx hw1
 unfold Tells
 go_enter Tryz.func155, Tryz.ntmps155
 go_upto_region 1 with fail
 rw [← HW.out.1, ← HW.out.2]
 go_wp2_with fail
 refine Calls.mono HC.out.2 ?_
 rintro e w9 ⟨v, k, rfl, hq⟩
 have HQ := Lib.hid hq
 clear hq
 go_wp2_with fail
 go_ret2
 exact ⟨v, k, rfl, HQ.out⟩
set_option maxHeartbeats 1000000 in
theorem atakes_5 {W : World} (o : Nat) (f : Fr) (a : Option Addr) (c : Nat) (now : Int) (hty : f.ty = 5) {Q : Value → Int → World → Prop} (hQ : Stays Q)
 (C : ∀ w', Kp (fun _ => False) W w' → Tells Tryz.prog 160 #[.pointer (some ⟨o, 0, none⟩), .agg (frA f a c), .int .i64 now] w' Q) :
 Tells Tryz.prog 155 #[.pointer (some ⟨o, 0, none⟩), .agg (frA f a c), .int .i64 now] W Q := by
 obtain ⟨bx, w1, hbx, hw1, k1, ab⟩ := frame_box f a c W
 rw [hty] at ab
 have F0 := FnM.made w1
 have HW := Lib.hid (And.intro hbx hw1)
 obtain ⟨mb, hmb⟩ : ∃ mb, mb = w1.heap.size := ⟨_, rfl⟩
 obtain ⟨m0, hm0⟩ : ∃ m0, m0 = w1.alloc (.map #[] 0) := ⟨_, rfl⟩
 have km0 : Kp (fun _ => False) w1 m0 := by rw [hm0]; exact (Kp.refl _ w1).alloc _
 have hmk : (Instr.makeMap 182 none).run Tryz.prog w1 = .ok (.map (some mb)) m0 := by rw [hmb, hm0]; exact run_makeMap _ w1
 rw [← hm0, ← hmb] at F0
 obtain ⟨m1, r1, F1, k11⟩ := F0.upd (P := Tryz.prog) (T := 182) Tryz.underlying182 Tryz.underlying3 1 (Value.func (Fn.func 157) #[] #[]) (by simp)
 obtain ⟨m2, r2, F2, k12⟩ := F1.upd (P := Tryz.prog) (T := 182) Tryz.underlying182 Tryz.underlying3 2 (Value.func (Fn.func 158) #[] #[]) (by simp)
 obtain ⟨m3, r3, F3, k13⟩ := F2.upd (P := Tryz.prog) (T := 182) Tryz.underlying182 Tryz.underlying3 3 (Value.func (Fn.func 159) #[] #[]) (by simp)
 obtain ⟨m4, r4, F4, k14⟩ := F3.upd (P := Tryz.prog) (T := 182) Tryz.underlying182 Tryz.underlying3 4 (Value.func (Fn.func 159) #[] #[]) (by simp)
 obtain ⟨m5, r5, F5, k15⟩ := F4.upd (P := Tryz.prog) (T := 182) Tryz.underlying182 Tryz.underlying3 5 (Value.func (Fn.func 160) #[] #[]) (by simp)
 simp only [List.nil_append, List.cons_append] at F5
 have rl := F5.look (P := Tryz.prog) (T := 182) Tryz.underlying182 Tryz.underlying3 5 (Value.func (Fn.func 160) #[] #[]) (by rfl)
 have kk : Kp (fun k => k = mb) w1 m5 := ((((((km0.mono (fun _ _ h => h.elim)).trans k11).trans k12).trans k13).trans k14).trans k15)
 have hmbx : ¬ bx = mb := fun e => by have h1 := ab.lt; omega
 have ab5 := kk.at ab (fun e => hmbx e)
 have k5 : Kp (fun _ => False) W m5 := k1.then kk (fun i hi e => by have := k1.size; have e : i = mb := e; omega)
 have b0 : m5.cell? ⟨bx, 0, none⟩ = some (.int .i64 5) := ab5.cell 0
 have b1 : m5.cell? ⟨bx, 1, none⟩ = some (.int .i64 f.se) := ab5.cell 1
 have b2 : m5.cell? ⟨bx, 2, none⟩ = some (.int .i64 f.bo) := ab5.cell 2
 have b3 : m5.cell? ⟨bx, 3, none⟩ = some (.int .i64 f.sq) := ab5.cell 3
 have b4 : m5.cell? ⟨bx, 4, none⟩ = some (.int .i64 f.ac) := ab5.cell 4
 have b5 : m5.cell? ⟨bx, 5, none⟩ = some (.slice a f.bd.length c) := ab5.cell 5
 have HC := Lib.hid (And.intro hQ (C m5 k5))
 obtain ⟨ty, se, bo, sq, ac, bd⟩ := f
 dsimp only [frA] at *
 subst hty
 generalize bd.length = nb at *
 clear k1 ab ab5 hQ C F0 F1 F2 F3 F4 F5 k11 k12 k13 k14 k15 kk km0 hm0 hmb hmbx k5 hbx hw1
 unfold Tells
 go_enter Tryz.func155, Tryz.ntmps155
 go_upto_region 1 with fail
 rw [← HW.out.1, ← HW.out.2]
 go_wp2_with fail
 refine Calls.mono HC.out.2 ?_
 rintro e w9 ⟨v, k, rfl, hq⟩
 have HQ := Lib.hid hq
 clear hq
 go_wp2_with fail
 go_ret2
 exact ⟨v, k, rfl, HQ.out⟩
def synF (se : Nat) : Fr := ⟨1, se, 0, 0, 0, []⟩
theorem TkC.mono {W : World} {o I J : Nat} {t : Tk} {ext : List Value} (h : TkC W o t ext I) (hIJ : I ≤ J) : TkC W o t ext J :=
 { h with up := fun e => { h.up e with last := Nat.le_trans (h.up e).last hIJ, times := fun j hj => Nat.le_trans ((h.up e).times j hj) hIJ } }
theorem TkC.extS {W W' : World} {o I : Nat} {t : Tk} {ext ext' : List Value} (h : TkC W o t ext I) (ha : At W' o (talkC t ++ ext')) (k : Kp (fun k => k = o) W W') : TkC W' o t ext' I :=
 { h with hat := ha, up := fun e => (h.up e).kp k (fun j hj e' => (h.up e).oW (by have e' : j = o := e'; exact e' ▸ hj)) (fun j hj e' => (h.up e).oX (by have e' : j = o := e'; exact e' ▸ hj)) }
theorem atells_due {W : World} {o I : Nat} {t : Tk} {ext : List Value} (h : TkC W o t ext I) (hst : t.st ≠ 1) (now : Int) {Q : Value → World → Prop}
 (C : Calls Tryz.prog 114 #[.pointer (some ⟨o, 0, none⟩), .slice none 0 0, .int .i64 now] W fun e w' => ∃ v, e = .returned v ∧ Q v w') :
 Calls Tryz.prog 156 #[.pointer (some ⟨o, 0, none⟩), .int .i64 now] W fun e w' => ∃ v, e = .returned v ∧ Q v w' := by
 have c0 := h.c.1
 have hs1 : ¬ (t.st : Int) = 1 := by omega
 have hs2 : ((t.st : Int) != 1) = true := by simpa using hs1
 have HC := Lib.hid C
 generalize t.st = st at *
 clear h hst C
 go_enter Tryz.func156, Tryz.ntmps156
 go_wp2_with fail
 go_at_call 114
 refine HC.out.mono ?_
 rintro e w1 ⟨v, rfl, hq⟩
 have HQ := Lib.hid hq
 clear hq HC
 go_wp2_with fail
 go_ret
 exact ⟨v, rfl, HQ.out⟩
set_option maxHeartbeats 1000000 in
theorem atells_first {W : World} {o I at_ : Nat} {t : Tk} (h : TkC W o t (agX false at_) I) (hst : t.st = 1) (now : Nat) (ht : now ≤ 2147483647) :
 Calls Tryz.prog 156 #[.pointer (some ⟨o, 0, none⟩), .int .i64 (now : Nat)] W fun e w' => ∃ v, e = .returned v ∧ ∃ vs, LLs W.heap.size w' v (layP [] (synF t.se)) vs ∧ TkC w' o t (agX true now) I ∧ Kp (fun k => k = o) W w' := by
 obtain ⟨se, hse⟩ : ∃ se, se = t.se := ⟨_, rfl⟩
 have hseb := h.se
 rw [← hse] at hseb
 have h7 : W.cell? ⟨o, 7, none⟩ = some (.bool false) := h.hat.cell 7
 have h8 : W.cell? ⟨o, 8, none⟩ = some (.int .i64 (at_ : Nat)) := h.hat.cell 8
 have c0 : W.cell? ⟨o, 0, none⟩ = some (.int .i64 1) := by rw [h.c.1, hst]; rfl
 have g7 := h.hat.frozen 7
 have g8 := h.hat.frozen 8
 have H := Lib.hid (And.intro h hse)
 clear h hst hse
 go_enter Tryz.func156, Tryz.ntmps156
 go_upto_region 8 with fail
 have hat1 : At ((W.setCell ⟨o, 7, none⟩ (.bool true)).setCell ⟨o, 8, none⟩ (.int .i64 (now : Nat))) o (talkC t ++ agX true now) := (H.out.1.hat.set 7 (.bool true)).set 8 (.int .i64 (now : Nat))
 have k1 : Kp (fun k => k = o) W ((W.setCell ⟨o, 7, none⟩ (.bool true)).setCell ⟨o, 8, none⟩ (.int .i64 (now : Nat))) := Kp.setCell (S := fun k => k = o) (Kp.setCell (S := fun k => k = o) (Kp.refl _ W) (p := ⟨o, 7, none⟩) (fun _ => rfl) _) (p := ⟨o, 8, none⟩) (fun _ => rfl) _
 obtain ⟨W1, hW1⟩ : ∃ w1, w1 = (W.setCell ⟨o, 7, none⟩ (.bool true)).setCell ⟨o, 8, none⟩ (.int .i64 (now : Nat)) := ⟨_, rfl⟩
 rw [← hW1] at hat1 k1 ⊢
 have h1 := H.out.1.extS hat1 k1
 have e1 : W1.cell? ⟨o, 1, none⟩ = some (.int .i64 (se : Nat)) := by rw [H.out.2]; exact h1.c.2.1
 have CL := lay_any (LLs.nil W1.heap.size W1) (synF se) none 0 ⟨by show (-9223372036854775808 ≤ (se : Int)) ∧ ((se : Int) ≤ 9223372036854775807); omega, by show (-9223372036854775808 ≤ (0 : Int)) ∧ ((0 : Int) ≤ 9223372036854775807); omega, by show (-9223372036854775808 ≤ (0 : Int)) ∧ ((0 : Int) ≤ 9223372036854775807); omega, by show (-9223372036854775808 ≤ (0 : Int)) ∧ ((0 : Int) ≤ 9223372036854775807); omega⟩ (RdB.nil W1 none) (Nat.le_refl 0) (Nat.le_refl _) (by simp) (by show 0 ≤ _; omega)
 dsimp only [frA, synF, List.length_nil] at CL
 have CL := Lib.hid CL
 have hsz := k1.size
 have H1 := Lib.hid (And.intro h1 (And.intro k1 hsz))
 clear hat1 k1 hW1 h1 hsz g7 g8 h7 h8 c0
 go_wp2_with fail
 go_at_call 113
 refine CL.out.mono ?_
 rintro e w2 ⟨v2, vs2, rfl, hl2, _, k2⟩
 obtain ⟨a2, c2, e2, _⟩ := hl2.form
 obtain ⟨n2, hn2⟩ : ∃ n, n = (layP [] (synF se)).length := ⟨_, rfl⟩
 have hl2 : LLs W1.heap.size w2 v2 (layP [] (synF se)) vs2 := hl2
 have e2 : v2 = .slice a2 n2 c2 := by rw [hn2]; exact e2
 subst e2
 have k2 : Kp (fun _ => False) W1 w2 := k2.mono (fun k _ e => by cases e)
 have H2 := Lib.hid (And.intro (hl2.weaken H1.out.2.2) (And.intro (H1.out.1.kp0 k2) (H1.out.2.1.trans (k2.mono (fun _ _ h => h.elim)))))
 clear hl2 k2 hn2 CL
 go_wp2_with fail
 go_ret
 exact ⟨_, rfl, vs2, by rw [← H.out.2]; exact H2.out.1, H2.out.2.1, H2.out.2.2⟩
set_option maxHeartbeats 1000000 in
theorem atells_again {W : World} {o I at_ : Nat} {t : Tk} (h : TkC W o t (agX true at_) I) (hst : t.st = 1) (now : Nat) (ht : now ≤ 2147483647) (hw : at_ + 8 ≤ now) :
 Calls Tryz.prog 156 #[.pointer (some ⟨o, 0, none⟩), .int .i64 (now : Nat)] W fun e w' => ∃ v, e = .returned v ∧ ∃ vs, LLs W.heap.size w' v (layP [] (synF t.se)) vs ∧ TkC w' o t (agX true now) I ∧ Kp (fun k => k = o) W w' := by
 obtain ⟨se, hse⟩ : ∃ se, se = t.se := ⟨_, rfl⟩
 have hseb := h.se
 rw [← hse] at hseb
 have h7 : W.cell? ⟨o, 7, none⟩ = some (.bool true) := h.hat.cell 7
 have h8 : W.cell? ⟨o, 8, none⟩ = some (.int .i64 (at_ : Nat)) := h.hat.cell 8
 have c0 : W.cell? ⟨o, 0, none⟩ = some (.int .i64 1) := by rw [h.c.1, hst]; rfl
 have g7 := h.hat.frozen 7
 have g8 := h.hat.frozen 8
 have H := Lib.hid (And.intro h hse)
 clear h hst hse
 have j1 : ¬ (now : Int) < (at_ : Int) := by omega
 have j2 : (at_ : Int) ≤ (now : Int) := by omega
 have j2b : ¬ (now : Int) ≤ (at_ : Int) := by omega
 have j3 : ¬ (now : Int) - (at_ : Int) < 8 := by omega
 go_enter Tryz.func156, Tryz.ntmps156
 go_upto_region 8 with fail
 have hat1 : At ((W.setCell ⟨o, 7, none⟩ (.bool true)).setCell ⟨o, 8, none⟩ (.int .i64 (now : Nat))) o (talkC t ++ agX true now) := (H.out.1.hat.set 7 (.bool true)).set 8 (.int .i64 (now : Nat))
 have k1 : Kp (fun k => k = o) W ((W.setCell ⟨o, 7, none⟩ (.bool true)).setCell ⟨o, 8, none⟩ (.int .i64 (now : Nat))) := Kp.setCell (S := fun k => k = o) (Kp.setCell (S := fun k => k = o) (Kp.refl _ W) (p := ⟨o, 7, none⟩) (fun _ => rfl) _) (p := ⟨o, 8, none⟩) (fun _ => rfl) _
 obtain ⟨W1, hW1⟩ : ∃ w1, w1 = (W.setCell ⟨o, 7, none⟩ (.bool true)).setCell ⟨o, 8, none⟩ (.int .i64 (now : Nat)) := ⟨_, rfl⟩
 rw [← hW1] at hat1 k1 ⊢
 have h1 := H.out.1.extS hat1 k1
 have e1 : W1.cell? ⟨o, 1, none⟩ = some (.int .i64 (se : Nat)) := by rw [H.out.2]; exact h1.c.2.1
 have CL := lay_any (LLs.nil W1.heap.size W1) (synF se) none 0 ⟨by show (-9223372036854775808 ≤ (se : Int)) ∧ ((se : Int) ≤ 9223372036854775807); omega, by show (-9223372036854775808 ≤ (0 : Int)) ∧ ((0 : Int) ≤ 9223372036854775807); omega, by show (-9223372036854775808 ≤ (0 : Int)) ∧ ((0 : Int) ≤ 9223372036854775807); omega, by show (-9223372036854775808 ≤ (0 : Int)) ∧ ((0 : Int) ≤ 9223372036854775807); omega⟩ (RdB.nil W1 none) (Nat.le_refl 0) (Nat.le_refl _) (by simp) (by show 0 ≤ _; omega)
 dsimp only [frA, synF, List.length_nil] at CL
 have CL := Lib.hid CL
 have hsz := k1.size
 have H1 := Lib.hid (And.intro h1 (And.intro k1 hsz))
 clear hat1 k1 hW1 h1 hsz g7 g8 h7 h8 c0
 go_wp2_with fail
 go_at_call 113
 refine CL.out.mono ?_
 rintro e w2 ⟨v2, vs2, rfl, hl2, _, k2⟩
 obtain ⟨a2, c2, e2, _⟩ := hl2.form
 obtain ⟨n2, hn2⟩ : ∃ n, n = (layP [] (synF se)).length := ⟨_, rfl⟩
 have hl2 : LLs W1.heap.size w2 v2 (layP [] (synF se)) vs2 := hl2
 have e2 : v2 = .slice a2 n2 c2 := by rw [hn2]; exact e2
 subst e2
 have k2 : Kp (fun _ => False) W1 w2 := k2.mono (fun k _ e => by cases e)
 have H2 := Lib.hid (And.intro (hl2.weaken H1.out.2.2) (And.intro (H1.out.1.kp0 k2) (H1.out.2.1.trans (k2.mono (fun _ _ h => h.elim)))))
 clear hl2 k2 hn2 CL
 go_wp2_with fail
 go_ret
 exact ⟨_, rfl, vs2, by rw [← H.out.2]; exact H2.out.1, H2.out.2.1, H2.out.2.2⟩
set_option maxHeartbeats 1000000 in
theorem atells_wait {W : World} {o I at_ : Nat} {t : Tk} (h : TkC W o t (agX true at_) I) (hst : t.st = 1) (now : Nat) (ht : now ≤ 2147483647) (hw : now < at_ + 8) :
 Calls Tryz.prog 156 #[.pointer (some ⟨o, 0, none⟩), .int .i64 (now : Nat)] W fun e w' => e = .returned (.slice none 0 0) ∧ Kp (fun _ => False) W w' := by
 obtain ⟨se, hse⟩ : ∃ se, se = t.se := ⟨_, rfl⟩
 have hseb := h.se
 rw [← hse] at hseb
 have h7 : W.cell? ⟨o, 7, none⟩ = some (.bool true) := h.hat.cell 7
 have h8 : W.cell? ⟨o, 8, none⟩ = some (.int .i64 (at_ : Nat)) := h.hat.cell 8
 have c0 : W.cell? ⟨o, 0, none⟩ = some (.int .i64 1) := by rw [h.c.1, hst]; rfl
 have g7 := h.hat.frozen 7
 have g8 := h.hat.frozen 8
 have H := Lib.hid (And.intro h hse)
 clear h hst hse
 by_cases hle : now < at_
 · have j2 : ¬ (at_ : Int) ≤ (now : Int) := by omega
   have j2b : (now : Int) ≤ (at_ : Int) := by omega
   have j1 : (now : Int) < (at_ : Int) := by omega
   go_enter Tryz.func156, Tryz.ntmps156
   go_wp2_with fail
   go_ret
   exact ⟨rfl, Kp.refl _ _⟩
 · rcases Nat.lt_or_ge at_ now with hlt | hge
   · have j2 : (at_ : Int) ≤ (now : Int) := by omega
     have j2b : ¬ (now : Int) ≤ (at_ : Int) := by omega
     have j1 : ¬ (now : Int) < (at_ : Int) := by omega
     have j3 : (now : Int) - (at_ : Int) < 8 := by omega
     go_enter Tryz.func156, Tryz.ntmps156
     go_wp2_with fail
     go_ret
     exact ⟨rfl, Kp.refl _ _⟩
   · obtain rfl : at_ = now := by omega
     go_enter Tryz.func156, Tryz.ntmps156
     go_wp2_with fail
     go_ret
     exact ⟨rfl, Kp.refl _ _⟩
def intsV (l : List Nat) : List Value := l.map fun (k : Nat) => Value.int .i64 k
theorem intsV_at {l : List Nat} {i : Nat} (h : i < l.length) : (intsV l)[i]? = some (.int .i64 ((l.getD i 0 : Nat) : Int)) := by
 unfold intsV; simp [List.getD_eq_getElem?_getD, h]
theorem index_any (a : Option Addr) (n c : Nat) (l : List Nat) (v : Nat) (w : World) (hn : n = l.length) (h : Rd w a (intsV l)) (hb : n ≤ 1000) :
 Calls Tryz.prog 122 #[.slice a n c, .int .i64 (v : Nat)] w fun e w' => ∃ k : Int, e = .returned (.int .i64 k) ∧ (0 ≤ k ↔ v ∈ l) ∧ w = w' := by
 have H := Lib.hid (And.intro h hn)
 clear h hn
 go_enter Tryz.func122, Tryz.ntmps122
 go_wp2_with fail
 go_loopw [8] (fun iv wr => ∃ i : Nat, i ≤ n ∧ iv = .int .i64 i ∧ v ∉ l.take i ∧ w = wr) (fun iv _ => n - (intOf iv).toNat)
 case atStart => exact ⟨0, by omega, rfl, by simp, rfl⟩
 case round =>
  obtain ⟨i, hi, rfl, hno, rfl⟩ := hrel
  by_cases hlt : i < n
  · have j1 : (i : Int) < n := by omega
    have hil : i < l.length := by have := H.out.2; omega
    obtain ⟨b, off, ha, hc0⟩ := H.out.1 i (by unfold intsV; simpa using hil)
    have e1 := intsV_at hil
    have hc : w.cell? ⟨b, off + i, none⟩ = some (.int .i64 ((l.getD i 0 : Nat) : Int)) := by
     rw [hc0]
     unfold intsV
     simp [List.getD_eq_getElem?_getD, hil]
    have htk : l.take (i + 1) = l.take i ++ [l.getD i 0] := take_snoc l 0 i hil
    obtain ⟨u, hu⟩ : ∃ u, u = l.getD i 0 := ⟨_, rfl⟩
    rw [← hu] at hc htk
    have HX := Lib.hid (And.intro htk (And.intro hno (And.intro hu hil)))
    subst ha
    clear hc0 e1 htk hno hu hil
    by_cases hv : v = u
    · subst hv
      go_wp2_with fail
      go_ret
      refine ⟨_, rfl, ⟨fun _ => ?_, fun _ => by omega⟩, rfl⟩
      rw [HX.out.2.2.1, List.getD_eq_getElem?_getD, List.getElem?_eq_getElem HX.out.2.2.2]
      exact List.getElem_mem _
    · have hv2 : ¬ (v : Int) = (u : Int) := by omega
      have hv3 : ((v : Int) == (u : Int)) = false := by simpa using hv2
      go_wp2_with fail
      go_roundw
      case rel => exact ⟨i + 1, by omega, by go_num, by rw [HX.out.1]; intro hm; rcases List.mem_append.1 hm with h1 | h1; exact HX.out.2.1 h1; exact hv (List.mem_singleton.1 h1), by first | rfl | trivial⟩
      case measure => simp [intOf]; omega
  · obtain rfl : i = n := by omega
    have hal : v ∉ l := by rw [H.out.2, List.take_length] at hno; exact hno
    clear hno
    go_wp2_with fail
    go_ret
    exact ⟨-1, rfl, ⟨fun h => absurd h (by omega), fun h => absurd h hal⟩, rfl⟩
theorem contains_any (a : Option Addr) (n c : Nat) (l : List Nat) (v : Nat) (w : World) (hn : n = l.length) (h : Rd w a (intsV l)) (hb : n ≤ 1000) :
 Calls Tryz.prog 117 #[.slice a n c, .int .i64 (v : Nat)] w fun e w' => e = .returned (.bool (decide (v ∈ l))) ∧ w = w' := by
 have C := Lib.hid (index_any a n c l v w hn h hb)
 clear h hn
 go_enter Tryz.func117, Tryz.ntmps117
 go_wp2_with fail
 go_at_call 122
 refine C.out.mono ?_
 rintro e w' ⟨k, rfl, hk, rfl⟩
 by_cases hv : v ∈ l
 · have h0 := hk.2 hv
   have hd : decide (v ∈ l) = true := decide_eq_true hv
   have HD := Lib.hid hd
   clear hk hd C
   go_wp2_with fail
   go_ret
   exact ⟨ret_bool (by rw [HD.out]), rfl⟩
 · have h0 : ¬ 0 ≤ k := fun h => hv (hk.1 h)
   have hd : decide (v ∈ l) = false := decide_eq_false hv
   have HD := Lib.hid hd
   clear hk hd C
   go_wp2_with fail
   go_ret
   exact ⟨ret_bool (by rw [HD.out]; exact decide_eq_false (by omega)), rfl⟩
theorem elem_i64 : Elem Tryz.prog 3 (.int .i64 0) 1 8 := Elem.mk' (by kernel_rfl) rfl (by omega) (by simp [Value.cells, Value.oneCell'])
structure DmC (W : World) (o : Nat) (t : Tk) (wel : Bool) (rv : Value) (rs : List Nat) (I : Nat) : Prop where
 tk : TkC W o t [.bool wel, rv] I
 own : Own W rv rs.length 1 (intsV rs)
 ap : ∀ g, rv.ownBlock = some g → ¬ Me o t g
 len : rs.length ≤ 8
def MeD (o : Nat) (t : Tk) (rv : Value) (k : Nat) : Prop := Me o t k ∨ rv.ownBlock = some k
theorem DmC.kp {S : Nat → Prop} {W W' : World} {o I : Nat} {t : Tk} {wel : Bool} {rv : Value} {rs : List Nat} (h : DmC W o t wel rv rs I) (k : Kp S W W') (hs : ∀ j, MeD o t rv j → ¬ S j) : DmC W' o t wel rv rs I :=
 ⟨h.tk.kp k (fun j hj => hs j (.inl hj)), h.own.kp k (fun g hg => hs g (.inr hg)), h.ap, h.len⟩
theorem DmC.kp0 {W W' : World} {o I : Nat} {t : Tk} {wel : Bool} {rv : Value} {rs : List Nat} (h : DmC W o t wel rv rs I) (k : Kp (fun _ => False) W W') : DmC W' o t wel rv rs I := h.kp k (fun _ _ h => h)
def refL (rs : List Nat) (s : Nat) : List Nat := if s ∉ rs ∧ rs.length < 8 then rs ++ [s] else rs
set_option maxHeartbeats 1000000 in
theorem refuse_any {W : World} {o I : Nat} {t : Tk} {wel : Bool} {rv : Value} {rs : List Nat} (h : DmC W o t wel rv rs I) (s : Nat) :
 Calls Tryz.prog 111 #[.pointer (some ⟨o, 0, none⟩), .int .i64 (s : Nat)] W fun e w' => e = .returned (.tuple #[.slice none 0 0, .int .i64 6]) ∧ ∃ rv', DmC w' o t wel rv' (refL rs s) I ∧ (∀ g, rv'.ownBlock = some g → rv.ownBlock = some g ∨ W.heap.size ≤ g) ∧ Kp (MeD o t rv) W w' := by
 obtain ⟨ra, rc, hrv, hrc, _⟩ := h.own.form
 have h8 : W.cell? ⟨o, 8, none⟩ = some rv := h.tk.hat.cell 8
 have g8 := h.tk.hat.frozen 8
 have hlen := h.len
 have hrd : Rd W ra (intsV rs) := by have := h.own; rw [hrv] at this; exact this.rd
 have C := contains_any ra rs.length rc rs s W rfl hrd (by omega)
 rw [hrv] at h8
 obtain ⟨n, hn⟩ : ∃ n, n = rs.length := ⟨_, rfl⟩
 rw [← hn] at h8 C hlen hrv
 have H := Lib.hid (And.intro h (And.intro hrv hn))
 by_cases hm : s ∈ rs
 · rw [decide_eq_true hm] at C
   have C := Lib.hid C
   have hR : refL rs s = rs := by unfold refL; rw [if_neg (fun e => e.1 hm)]
   rw [hR]
   clear h hrv hn hrd hm hR
   go_enter Tryz.func111, Tryz.ntmps111
   go_wp2_with fail
   go_at_call 117
   refine C.out.mono ?_
   rintro e w' ⟨rfl, rfl⟩
   go_wp2_with fail
   go_ret2
   exact ⟨rfl, rv, H.out.1, fun g hg => .inl hg, Kp.refl _ _⟩
 · rw [decide_eq_false hm] at C
   have C := Lib.hid C
   by_cases hf : n < 8
   · have j1 : (n : Int) < 8 := by omega
     obtain ⟨w1, hw1⟩ : ∃ w1, w1 = W.alloc (.cells #[.int .i64 (s : Nat)] 3) := ⟨_, rfl⟩
     have k1 : Kp (fun _ => False) W w1 := by rw [hw1]; exact (Kp.refl _ W).alloc _
     have hat : At w1 W.heap.size [.int .i64 (s : Nat)] := by rw [hw1]; exact At.new W [.int .i64 (s : Nat)] _
     have hd1 := h.kp0 k1
     obtain ⟨v', w2, hr2, ho2, k2, hb2, _⟩ := run_append_at (P := Tryz.prog) (t := 46) (tx := 46) (ty := 46) w1 Tryz.underlying46 elem_i64 Tryz.underlying46 hd1.own (a := some ⟨W.heap.size, 0, none⟩) (m := 1) (c := 1) (news := [.int .i64 (s : Nat)]) (by simp) (fun i hi => by simp at hi; subst hi; exact ⟨_, _, rfl, by rw [hat.cell]; rfl⟩) (fun u hu => by simp at hu; subst hu; rfl) (by unfold maxLen; omega) (by omega)
     rw [hrv, hw1] at hr2
     have hR : refL rs s = rs ++ [s] := by unfold refL; rw [if_pos ⟨hm, by omega⟩]
     obtain ⟨a2, c2, e2, _, _⟩ := ho2.form
     subst e2
     have HR2 := Lib.hid hr2
     have H2 := Lib.hid (And.intro ho2 (And.intro k1 (And.intro k2 (And.intro hb2 (And.intro hR hd1)))))
     have hoat := k2.at hd1.tk.hat (fun e => h.ap o e (.inl rfl))
     have f8 := hoat.frozen 8
     have d8 : w2.cell? ⟨o, 8, none⟩ = some rv := hoat.cell 8
     have HO := Lib.hid hoat
     clear h hrv hn hrd hm hR hw1 k1 hat hd1 hr2 ho2 k2 hb2 hoat
     go_enter Tryz.func111, Tryz.ntmps111
     go_wp2_with fail
     go_at_call 117
     refine C.out.mono ?_
     rintro e w' ⟨rfl, rfl⟩
     go_wp2_with (at_builtin; refine wpList_append_run _ HR2.out rfl rfl rfl rfl ?_)
     go_ret2
     obtain ⟨ho2, k1, k2, hb2, hR, hd1⟩ := H2.out
     have hs1 : w1.heap.size = w1.heap.size := rfl
     have hol := H.out.1.tk.hat.lt
     have hWs := k1.size
     have hown : ∀ g, (Value.slice a2 (rs.length + 1) c2).ownBlock = some g → rv.ownBlock = some g ∨ W.heap.size ≤ g := fun g hg => by
      rcases hb2 with e | e
      · exact .inl (e ▸ hg)
      · rw [hg] at e; have := Option.some.inj e; right; omega
     have hne : ∀ g, (Value.slice a2 (rs.length + 1) c2).ownBlock = some g → ¬ Me o t g := fun g hg hm => by
      rcases hown g hg with e | e
      · exact H.out.1.ap g e hm
      · have := H.out.1.tk.lt hm; omega
     have k3 := Kp.setCell (S := fun k => k = o) (Kp.refl _ w2) (p := ⟨o, 8, none⟩) (fun _ => rfl) (Value.slice a2 (rs.length + 1) c2)
     have tk2 : TkC w2 o t [.bool wel, rv] I := hd1.tk.kp k2 (fun j hj e => hd1.ap j e hj)
     refine ⟨rfl, (Value.slice a2 (rs.length + 1) c2), ⟨tk2.extS (HO.out.set 8 (Value.slice a2 (rs.length + 1) c2)) k3, ?_, hne, ?_⟩, hown, ?_⟩
     · rw [hR, List.length_append, List.length_singleton]
       have e : intsV (rs ++ [s]) = intsV rs ++ [.int .i64 (s : Nat)] := by simp [intsV]
       rw [e]
       exact ho2.kp k3 (fun g hg e => hne g hg (.inl e))
     · rw [hR, List.length_append, List.length_singleton]; have := H.out.2.2; omega
     · exact ((k1.mono (fun _ _ h => h.elim)).trans (k2.mono (fun k _ e => .inr e))).trans (k3.mono (fun k _ e => .inl (.inl e)))
   · have j1 : ¬ (n : Int) < 8 := by omega
     have hR : refL rs s = rs := by unfold refL; rw [if_neg (fun e => by omega)]
     rw [hR]
     clear h hrv hn hrd hm hR
     go_enter Tryz.func111, Tryz.ntmps111
     go_wp2_with fail
     go_at_call 117
     refine C.out.mono ?_
     rintro e w' ⟨rfl, rfl⟩
     go_wp2_with fail
     go_ret2
     exact ⟨rfl, rv, H.out.1, fun g hg => .inl hg, Kp.refl _ _⟩
theorem dhears_any (o : Nat) (W : World) (f : Fr) (a : Option Addr) (c : Nat) :
 Calls Tryz.prog 105 #[.pointer (some ⟨o, 0, none⟩), .agg (frA f a c)] W fun e w' => e = .returned (.int .i64 0) ∧ Kp (fun _ => False) W w' := by
 obtain ⟨ty, se, bo, sq, ac, bd⟩ := f
 dsimp only [frA] at *
 generalize bd.length = nb at *
 go_enter Tryz.func105, Tryz.ntmps105
 go_wp2_with fail
 go_ret
 exact ⟨rfl, by first | exact (Kp.refl _ W).alloc _ | exact Kp.refl _ W⟩
theorem TkC.set1 {W : World} {o I : Nat} {t : Tk} {ext : List Value} (h : TkC W o t ext I) (b : Nat) (hb : b ≤ 2147483647) : TkC (W.setCell ⟨o, 1, none⟩ (.int .i64 (b : Nat))) o { t with se := b } ext I := by
 have k : Kp (fun k => k = o) W (W.setCell ⟨o, 1, none⟩ (.int .i64 (b : Nat))) := Kp.setCell (S := fun k => k = o) (Kp.refl _ W) (p := ⟨o, 1, none⟩) (fun _ => rfl) _
 refine { h with hat := h.hat.set 1 (.int .i64 (b : Nat)), se := hb, up := fun e => ?_ }
 have hu := h.up e
 exact { hu.kp k (fun j hj e => hu.oW (by have e : j = o := e; exact e ▸ hj)) (fun j hj e => hu.oX (by have e : j = o := e; exact e ▸ hj)) with }
set_option maxHeartbeats 1000000 in
theorem dsyn_elder {W : World} {o I : Nat} {t : Tk} {wel : Bool} {rv : Value} {rs : List Nat} (h : DmC W o t wel rv rs I) (f : Fr) (a : Option Addr) (c : Nat) (s : Nat) (hs : f.se = (s : Nat)) (hsb : s ≤ 2147483647) (hlt : s < t.se) :
 Calls Tryz.prog 110 #[.pointer (some ⟨o, 0, none⟩), .agg (frA f a c)] W fun e w' => e = .returned (.tuple #[.slice none 0 0, .int .i64 6]) ∧ ∃ rv', DmC w' o t wel rv' (refL rs s) I ∧ (∀ g, rv'.ownBlock = some g → rv.ownBlock = some g ∨ W.heap.size ≤ g) ∧ Kp (MeD o t rv) W w' := by
 obtain ⟨bx, w1, hbx, hw1, k1, ab⟩ := frame_box f a c W
 rw [hs] at ab
 have h1 := h.kp0 k1
 have hlw : ∀ x, rv.ownBlock = some x → x < W.heap.size := fun x hx => h.own.lt x hx
 have c1 := h1.tk.c.2.1
 have b1 : w1.cell? ⟨bx, 1, none⟩ = some (.int .i64 (s : Nat)) := ab.cell 1
 have H := Lib.hid (And.intro h1 (And.intro k1 ab))
 obtain ⟨ty, se, bo, sq, ac, bd⟩ := f
 dsimp only [frA] at *
 subst hs
 generalize bd.length = nb at *
 obtain ⟨q, hq⟩ : ∃ q, q = t.se := ⟨_, rfl⟩
 rw [← hq] at c1 hlt
 clear h h1 k1 ab hq
 have j1 : (s : Int) < (q : Int) := by omega
 have j2 : decide ((s : Int) < (q : Int)) = true := decide_eq_true j1
 go_enter Tryz.func110, Tryz.ntmps110
 go_upto_region 1 with fail
 rw [← hbx, ← hw1]
 clear hbx hw1
 go_wp2_with fail
 go_quiet (fail)
 go_upto_region 2 with fail
 refine wp_world (fun wx => Kp (fun _ => False) w1 wx) (by first | exact Kp.refl _ _ | exact (Kp.refl _ w1).drew | exact (Kp.refl _ w1).drewN _ | exact ((Kp.refl _ w1).drew).drew | exact ((Kp.refl _ w1).drewN _).drew | exact ((Kp.refl _ w1).drew).drewN _ | exact ((Kp.refl _ w1).drewN _).drewN _) ?_
 intro w2 k12
 have b1 := k12.cell b1 (fun h => h)
 have CR := Lib.hid (refuse_any (H.out.1.kp0 k12) s)
 have K2 := Lib.hid (H.out.2.1.trans k12)
 clear k12
 go_wp2_with fail
 go_at_call 111
 refine CR.out.mono ?_
 rintro e w3 ⟨rfl, rv', h3, hb3, k3⟩
 have hsz := K2.out.size
 have H3 := Lib.hid (And.intro h3 (And.intro (show ∀ g, rv'.ownBlock = some g → rv.ownBlock = some g ∨ W.heap.size ≤ g from fun g hg => (hb3 g hg).imp_right (fun e => by omega)) ((K2.out.mono (fun _ _ h => h.elim)).trans k3)))
 clear h3 hb3 k3 CR
 go_wp2_with fail
 go_ret2
 exact ⟨rfl, rv', H3.out⟩
set_option maxHeartbeats 1000000 in
theorem dsyn_same {W : World} {o I : Nat} {t : Tk} {wel : Bool} {rv : Value} {rs : List Nat} (h : DmC W o t wel rv rs I) (f : Fr) (a : Option Addr) (c : Nat) (s : Nat) (hs : f.se = (s : Nat)) (hsb : s ≤ 2147483647) (hlt : s = t.se) :
 Calls Tryz.prog 110 #[.pointer (some ⟨o, 0, none⟩), .agg (frA f a c)] W fun e w' => e = .returned (.tuple #[.slice none 0 0, .int .i64 0]) ∧ DmC w' o t true rv rs I ∧ Kp (fun k => k = o) W w' := by
 obtain ⟨bx, w1, hbx, hw1, k1, ab⟩ := frame_box f a c W
 rw [hs] at ab
 have h1 := h.kp0 k1
 have hlw : ∀ x, rv.ownBlock = some x → x < W.heap.size := fun x hx => h.own.lt x hx
 have c1 := h1.tk.c.2.1
 have b1 : w1.cell? ⟨bx, 1, none⟩ = some (.int .i64 (s : Nat)) := ab.cell 1
 have H := Lib.hid (And.intro h1 (And.intro k1 ab))
 obtain ⟨ty, se, bo, sq, ac, bd⟩ := f
 dsimp only [frA] at *
 subst hs
 generalize bd.length = nb at *
 obtain ⟨q, hq⟩ : ∃ q, q = t.se := ⟨_, rfl⟩
 rw [← hq] at c1 hlt
 clear h h1 k1 ab hq
 obtain rfl : q = s := hlt.symm
 have j1 : ¬ (q : Int) < (q : Int) := by omega
 have j2 : decide ((q : Int) < (q : Int)) = false := decide_eq_false j1
 clear hlt
 go_enter Tryz.func110, Tryz.ntmps110
 go_upto_region 1 with fail
 rw [← hbx, ← hw1]
 clear hbx hw1
 go_wp2_with fail
 go_quiet (fail)
 go_wp2_with fail
 go_quiet (fail)
 go_upto_region 6 with fail
 refine wp_world (fun wx => Kp (fun _ => False) w1 wx) (by first | exact Kp.refl _ _ | exact (Kp.refl _ w1).drew | exact (Kp.refl _ w1).drewN _ | exact ((Kp.refl _ w1).drew).drew | exact ((Kp.refl _ w1).drewN _).drew | exact ((Kp.refl _ w1).drew).drewN _ | exact ((Kp.refl _ w1).drewN _).drewN _) ?_
 intro w2 k12
 have h2 := H.out.1.kp0 k12
 have d7 : w2.cell? ⟨o, 7, none⟩ = some (.bool wel) := h2.tk.hat.cell 7
 have g7 := h2.tk.hat.frozen 7
 have K2 := Lib.hid (And.intro (H.out.2.1.trans k12) h2)
 clear k12 h2
 go_wp2_with fail
 go_ret2
 have k3 := Kp.setCell (S := fun k => k = o) (K2.out.1.mono (fun _ _ h => h.elim)) (p := ⟨o, 7, none⟩) (fun _ => rfl) (.bool true)
 have k4 := Kp.setCell (S := fun k => k = o) (Kp.refl _ w2) (p := ⟨o, 7, none⟩) (fun _ => rfl) (.bool true)
 exact ⟨rfl, ⟨K2.out.2.tk.extS (K2.out.2.tk.hat.set 7 (.bool true)) k4, K2.out.2.own.kp k4 (fun g hg e => K2.out.2.ap g hg (.inl e)), K2.out.2.ap, K2.out.2.len⟩, k3⟩
set_option maxHeartbeats 1000000 in
theorem dsyn_newer {W : World} {o I : Nat} {t : Tk} {wel : Bool} {rv : Value} {rs : List Nat} (h : DmC W o t wel rv rs I) (f : Fr) (a : Option Addr) (c : Nat) (s : Nat) (hs : f.se = (s : Nat)) (hsb : s ≤ 2147483647) (hlt : t.se < s) :
 Calls Tryz.prog 110 #[.pointer (some ⟨o, 0, none⟩), .agg (frA f a c)] W fun e w' => e = .returned (.tuple #[.slice none 0 0, .int .i64 0]) ∧ ∃ g b, DmC w' o (upT { t with se := s } g b) true rv rs I ∧ W.heap.size ≤ g ∧ W.heap.size ≤ b ∧ Kp (fun k => k = o) W w' := by
 obtain ⟨bx, w1, hbx, hw1, k1, ab⟩ := frame_box f a c W
 rw [hs] at ab
 have h1 := h.kp0 k1
 have hlw : ∀ x, rv.ownBlock = some x → x < W.heap.size := fun x hx => h.own.lt x hx
 have c1 := h1.tk.c.2.1
 have b1 : w1.cell? ⟨bx, 1, none⟩ = some (.int .i64 (s : Nat)) := ab.cell 1
 have H := Lib.hid (And.intro h1 (And.intro k1 ab))
 obtain ⟨ty, se, bo, sq, ac, bd⟩ := f
 dsimp only [frA] at *
 subst hs
 generalize bd.length = nb at *
 obtain ⟨q, hq⟩ : ∃ q, q = t.se := ⟨_, rfl⟩
 rw [← hq] at c1 hlt
 clear h h1 k1 ab hq
 have j1 : ¬ (s : Int) < (q : Int) := by omega
 have j2 : decide ((s : Int) < (q : Int)) = false := decide_eq_false j1
 have j3 : (s : Int) > (q : Int) := by omega
 have j4 : decide ((q : Int) < (s : Int)) = true := decide_eq_true (by omega)
 go_enter Tryz.func110, Tryz.ntmps110
 go_upto_region 1 with fail
 rw [← hbx, ← hw1]
 clear hbx hw1
 go_wp2_with fail
 go_quiet (fail)
 go_wp2_with fail
 go_quiet (fail)
 go_upto_region 4 with fail
 refine wp_world (fun wx => Kp (fun _ => False) w1 wx) (by first | exact Kp.refl _ _ | exact (Kp.refl _ w1).drew | exact (Kp.refl _ w1).drewN _ | exact ((Kp.refl _ w1).drew).drew | exact ((Kp.refl _ w1).drewN _).drew | exact ((Kp.refl _ w1).drew).drewN _ | exact ((Kp.refl _ w1).drewN _).drewN _) ?_
 intro w2 k12
 have b1 := k12.cell b1 (fun h => h)
 have h2 := H.out.1.kp0 k12
 have c1 := k12.cell c1 (fun h => h)
 have g1 := h2.tk.hat.frozen 1
 have K2 := Lib.hid (And.intro (H.out.2.1.trans k12) h2)
 clear k12 h2
 go_upto_region 5 with fail
 have h3 := K2.out.2.tk.set1 s hsb
 have k3 := Kp.setCell (S := fun k => k = o) (K2.out.1.mono (fun _ _ h => h.elim)) (p := ⟨o, 1, none⟩) (fun _ => rfl) (.int .i64 (s : Nat))
 have k23 := Kp.setCell (S := fun k => k = o) (Kp.refl _ w2) (p := ⟨o, 1, none⟩) (fun _ => rfl) (.int .i64 (s : Nat))
 obtain ⟨w3, hw3⟩ : ∃ w3, w3 = w2.setCell ⟨o, 1, none⟩ (.int .i64 (s : Nat)) := ⟨_, rfl⟩
 rw [← hw3] at h3 k3 k23 ⊢
 have CU := Lib.hid (up_any h3)
 have K3 := Lib.hid (And.intro k3 k23)
 clear hw3 h3 k3 k23 c1 b1 g1
 go_wp2_with fail
 go_at_call 109
 refine CU.out.mono ?_
 rintro e w4 ⟨rfl, g, b, h4, hg, hb, hm, k4⟩
 have hsz := K3.out.1.size
 have d7 : w4.cell? ⟨o, 7, none⟩ = some (.bool wel) := h4.hat.cell 7
 have g7 := h4.hat.frozen 7
 have H4 := Lib.hid (And.intro h4 (And.intro (show W.heap.size ≤ g by omega) (And.intro (show W.heap.size ≤ b by omega) (And.intro hm k4))))
 clear h4 hg hb hm k4 CU
 go_wp2_with fail
 go_ret2
 obtain ⟨h4, hg, hb, hm, k4⟩ := H4.out
 have k5 := Kp.setCell (S := fun k => k = o) (Kp.refl _ w4) (p := ⟨o, 7, none⟩) (fun _ => rfl) (.bool true)
 have kall := ((K3.out.1.trans k4).trans k5)
 have hrv : ∀ x, rv.ownBlock = some x → x ≠ o ∧ x < W.heap.size := fun x hx => ⟨fun e => K2.out.2.ap x hx (.inl e), by
  have h6 := H.out.1.own.lt x hx
  have h7 := H.out.2.1
  exact hlw x hx⟩
 exact ⟨rfl, g, b, ⟨h4.extS (h4.hat.set 7 (.bool true)) k5, ((K2.out.2.own.kp (K3.out.2.trans k4) (fun x hx e => (hrv x hx).1 e)).kp k5 (fun x hx e => (hrv x hx).1 e)), fun x hx hme => by
  rcases hm x hme with e | e | e
  · exact (hrv x hx).1 e
  · have := (hrv x hx).2; omega
  · have := (hrv x hx).2; omega, K2.out.2.len⟩, hg, hb, kall⟩
theorem dtakes_other (o : Nat) (W : World) (f : Fr) (a : Option Addr) (c : Nat) (now : Int) (h1 : f.ty ≠ 1) (h3 : f.ty ≠ 3) (h4 : f.ty ≠ 4) :
 Calls Tryz.prog 106 #[.pointer (some ⟨o, 0, none⟩), .agg (frA f a c), .int .i64 now] W fun e w' => e = .returned (.tuple #[.slice none 0 0, .int .i64 6]) ∧ Kp (fun _ => False) W w' := by
 obtain ⟨bx, w1, hbx, hw1, k1, ab⟩ := frame_box f a c W
 have b0 : w1.cell? ⟨bx, 0, none⟩ = some (.int .i64 f.ty) := ab.cell 0
 have K1 := Lib.hid k1
 obtain ⟨ty, se, bo, sq, ac, bd⟩ := f
 dsimp only [frA] at *
 generalize bd.length = nb at *
 have e1 : (ty == 1) = false := by simpa using h1
 have e3 : (ty == 3) = false := by simpa using h3
 have e4 : (ty == 4) = false := by simpa using h4
 clear k1 ab
 go_enter Tryz.func106, Tryz.ntmps106
 go_upto_region 1 with fail
 rw [← hbx, ← hw1]
 clear hbx hw1
 go_wp2_with fail
 go_ret2
 exact ⟨rfl, K1.out⟩
set_option maxHeartbeats 1000000 in
theorem dtakes_syn (o : Nat) (W : World) (f : Fr) (a : Option Addr) (c : Nat) (now : Int) (h1 : f.ty = 1) {Q : Value → Int → World → Prop}
 (C : ∀ w', Kp (fun _ => False) W w' → Tells Tryz.prog 110 #[.pointer (some ⟨o, 0, none⟩), .agg (frA f a c)] w' Q) :
 Tells Tryz.prog 106 #[.pointer (some ⟨o, 0, none⟩), .agg (frA f a c), .int .i64 now] W Q := by
 obtain ⟨bx, w1, hbx, hw1, k1, ab⟩ := frame_box f a c W
 rw [h1] at ab
 have b0 : w1.cell? ⟨bx, 0, none⟩ = some (.int .i64 1) := ab.cell 0
 have b1 : w1.cell? ⟨bx, 1, none⟩ = some (.int .i64 f.se) := ab.cell 1
 have b2 : w1.cell? ⟨bx, 2, none⟩ = some (.int .i64 f.bo) := ab.cell 2
 have b3 : w1.cell? ⟨bx, 3, none⟩ = some (.int .i64 f.sq) := ab.cell 3
 have b4 : w1.cell? ⟨bx, 4, none⟩ = some (.int .i64 f.ac) := ab.cell 4
 have b5 : w1.cell? ⟨bx, 5, none⟩ = some (.slice a f.bd.length c) := ab.cell 5
 have HC := Lib.hid (C w1 k1)
 obtain ⟨ty, se, bo, sq, ac, bd⟩ := f
 dsimp only [frA] at *
 subst h1
 generalize bd.length = nb at *
 clear k1 ab C
 unfold Tells
 go_enter Tryz.func106, Tryz.ntmps106
 go_upto_region 1 with fail
 rw [← hbx, ← hw1]
 clear hbx hw1
 go_wp2_with fail
 refine Calls.mono HC.out ?_
 rintro e w9 ⟨v, k, rfl, hq⟩
 have HQ := Lib.hid hq
 clear hq
 go_wp2_with fail
 go_ret2
 exact ⟨v, k, rfl, HQ.out⟩
set_option maxHeartbeats 1000000 in
theorem dtakes_no3 {W : World} {o I : Nat} {t : Tk} {wel : Bool} {rv : Value} {rs : List Nat} (h : DmC W o t wel rv rs I) (f : Fr) (a : Option Addr) (c : Nat) (now : Int) (s : Nat) (hs : f.se = (s : Nat)) (hty : f.ty = 3) (hno : t.st ≠ 2 ∨ s ≠ t.se ∨ f.bo ≠ t.bo) :
 Calls Tryz.prog 106 #[.pointer (some ⟨o, 0, none⟩), .agg (frA f a c), .int .i64 now] W fun e w' => e = .returned (.tuple #[.slice none 0 0, .int .i64 6]) ∧ ∃ rv', DmC w' o t wel rv' (refL rs s) I ∧ (∀ g, rv'.ownBlock = some g → rv.ownBlock = some g ∨ W.heap.size ≤ g) ∧ Kp (MeD o t rv) W w' := by
 obtain ⟨bx, w1, hbx, hw1, k1, ab⟩ := frame_box f a c W
 rw [hty] at ab
 have h1 := h.kp0 k1
 have c1 := h1.tk.c.2.1
 have c2 := h1.tk.c.2.2.1
 have b0 : w1.cell? ⟨bx, 0, none⟩ = some (.int .i64 3) := ab.cell 0
 have b1 : w1.cell? ⟨bx, 1, none⟩ = some (.int .i64 f.se) := ab.cell 1
 have b2 : w1.cell? ⟨bx, 2, none⟩ = some (.int .i64 f.bo) := ab.cell 2
 have b3 : w1.cell? ⟨bx, 3, none⟩ = some (.int .i64 f.sq) := ab.cell 3
 have b4 : w1.cell? ⟨bx, 4, none⟩ = some (.int .i64 f.ac) := ab.cell 4
 have b5 : w1.cell? ⟨bx, 5, none⟩ = some (.slice a f.bd.length c) := ab.cell 5
 have CI := fun n => Calls.quiet_of_same (n := n) (Calls.turn (tis_any o t.st (w1.drewN n) (h1.tk.drewN0 n).c.1))
 rw [hs] at b1
 have H := Lib.hid (And.intro h1 k1)
 have HN := Lib.hid hno
 obtain ⟨ty, se, bo, sq, ac, bd⟩ := f
 dsimp only [frA] at *
 subst hty hs
 generalize bd.length = nb at *
 obtain ⟨q, hq⟩ : ∃ q, q = t.se := ⟨_, rfl⟩
 obtain ⟨b, hb⟩ : ∃ b, b = t.bo := ⟨_, rfl⟩
 obtain ⟨st, hst⟩ : ∃ st, st = t.st := ⟨_, rfl⟩
 rw [← hq] at c1 hno
 rw [← hb] at c2 hno
 rw [← hst] at CI hno
 clear h h1 k1 ab hq hb hst HN
 by_cases h2 : st = 2
 · rw [decide_eq_true h2] at CI
   by_cases h3 : s = q
   · subst h3
     have h4 : bo ≠ (b : Int) := by
      rcases hno with h | h | h
      · exact absurd h2 h
      · exact absurd rfl h
      · exact h
     have e3 : ((s : Int) != (s : Int)) = false := by simp
     have e4 : (bo != (b : Int)) = true := by simpa using h4
     clear hno h2 h4
     go_enter Tryz.func106, Tryz.ntmps106
     go_upto_region 1 with fail
     rw [← hbx, ← hw1]
     clear hbx hw1
     go_wp2_with fail
     go_quiet (exact CI _)
     go_upto_region 7 with fail
     refine wp_world (fun wx => Kp (fun _ => False) w1 wx) (by first | exact Kp.refl _ _ | exact (Kp.refl _ w1).drew | exact (Kp.refl _ w1).drewN _ | exact ((Kp.refl _ w1).drew).drew | exact ((Kp.refl _ w1).drewN _).drew | exact ((Kp.refl _ w1).drew).drewN _ | exact ((Kp.refl _ w1).drewN _).drewN _) ?_
     intro w2 k12
     have b1 := k12.cell b1 (fun h => h)
     have CR := Lib.hid (refuse_any (H.out.1.kp0 k12) s)
     have K2 := Lib.hid (H.out.2.trans k12)
     clear k12
     go_wp2_with fail
     go_at_call 111
     refine CR.out.mono ?_
     rintro e w3 ⟨rfl, rv', h3, hb3, k3⟩
     have hsz := K2.out.size
     have H3 := Lib.hid (And.intro h3 (And.intro (show ∀ g, rv'.ownBlock = some g → rv.ownBlock = some g ∨ W.heap.size ≤ g from fun g hg => (hb3 g hg).imp_right (fun e => by omega)) ((K2.out.mono (fun _ _ h => h.elim)).trans k3)))
     clear h3 hb3 k3 CR
     go_wp2_with fail
     go_ret2
     exact ⟨rfl, rv', H3.out⟩
   · have e3 : ((s : Int) != (q : Int)) = true := by simp; omega
     clear hno h2 h3
     go_enter Tryz.func106, Tryz.ntmps106
     go_upto_region 1 with fail
     rw [← hbx, ← hw1]
     clear hbx hw1
     go_wp2_with fail
     go_quiet (exact CI _)
     go_upto_region 7 with fail
     refine wp_world (fun wx => Kp (fun _ => False) w1 wx) (by first | exact Kp.refl _ _ | exact (Kp.refl _ w1).drew | exact (Kp.refl _ w1).drewN _ | exact ((Kp.refl _ w1).drew).drew | exact ((Kp.refl _ w1).drewN _).drew | exact ((Kp.refl _ w1).drew).drewN _ | exact ((Kp.refl _ w1).drewN _).drewN _) ?_
     intro w2 k12
     have b1 := k12.cell b1 (fun h => h)
     have CR := Lib.hid (refuse_any (H.out.1.kp0 k12) s)
     have K2 := Lib.hid (H.out.2.trans k12)
     clear k12
     go_wp2_with fail
     go_at_call 111
     refine CR.out.mono ?_
     rintro e w3 ⟨rfl, rv', h3, hb3, k3⟩
     have hsz := K2.out.size
     have H3 := Lib.hid (And.intro h3 (And.intro (show ∀ g, rv'.ownBlock = some g → rv.ownBlock = some g ∨ W.heap.size ≤ g from fun g hg => (hb3 g hg).imp_right (fun e => by omega)) ((K2.out.mono (fun _ _ h => h.elim)).trans k3)))
     clear h3 hb3 k3 CR
     go_wp2_with fail
     go_ret2
     exact ⟨rfl, rv', H3.out⟩
 · rw [decide_eq_false h2] at CI
   clear hno h2
   go_enter Tryz.func106, Tryz.ntmps106
   go_upto_region 1 with fail
   rw [← hbx, ← hw1]
   clear hbx hw1
   go_wp2_with fail
   go_quiet (exact CI _)
   go_upto_region 7 with fail
   refine wp_world (fun wx => Kp (fun _ => False) w1 wx) (by first | exact Kp.refl _ _ | exact (Kp.refl _ w1).drew | exact (Kp.refl _ w1).drewN _ | exact ((Kp.refl _ w1).drew).drew | exact ((Kp.refl _ w1).drewN _).drew | exact ((Kp.refl _ w1).drew).drewN _ | exact ((Kp.refl _ w1).drewN _).drewN _) ?_
   intro w2 k12
   have b1 := k12.cell b1 (fun h => h)
   have CR := Lib.hid (refuse_any (H.out.1.kp0 k12) s)
   have K2 := Lib.hid (H.out.2.trans k12)
   clear k12
   go_wp2_with fail
   go_at_call 111
   refine CR.out.mono ?_
   rintro e w3 ⟨rfl, rv', h3, hb3, k3⟩
   have hsz := K2.out.size
   have H3 := Lib.hid (And.intro h3 (And.intro (show ∀ g, rv'.ownBlock = some g → rv.ownBlock = some g ∨ W.heap.size ≤ g from fun g hg => (hb3 g hg).imp_right (fun e => by omega)) ((K2.out.mono (fun _ _ h => h.elim)).trans k3)))
   clear h3 hb3 k3 CR
   go_wp2_with fail
   go_ret2
   exact ⟨rfl, rv', H3.out⟩
set_option maxHeartbeats 1000000 in
theorem dtakes_no4 {W : World} {o I : Nat} {t : Tk} {wel : Bool} {rv : Value} {rs : List Nat} (h : DmC W o t wel rv rs I) (f : Fr) (a : Option Addr) (c : Nat) (now : Int) (s : Nat) (hs : f.se = (s : Nat)) (hty : f.ty = 4) (hno : t.st ≠ 2 ∨ s ≠ t.se ∨ f.bo ≠ t.bo) :
 Calls Tryz.prog 106 #[.pointer (some ⟨o, 0, none⟩), .agg (frA f a c), .int .i64 now] W fun e w' => e = .returned (.tuple #[.slice none 0 0, .int .i64 6]) ∧ ∃ rv', DmC w' o t wel rv' (refL rs s) I ∧ (∀ g, rv'.ownBlock = some g → rv.ownBlock = some g ∨ W.heap.size ≤ g) ∧ Kp (MeD o t rv) W w' := by
 obtain ⟨bx, w1, hbx, hw1, k1, ab⟩ := frame_box f a c W
 rw [hty] at ab
 have h1 := h.kp0 k1
 have c1 := h1.tk.c.2.1
 have c2 := h1.tk.c.2.2.1
 have b0 : w1.cell? ⟨bx, 0, none⟩ = some (.int .i64 4) := ab.cell 0
 have b1 : w1.cell? ⟨bx, 1, none⟩ = some (.int .i64 f.se) := ab.cell 1
 have b2 : w1.cell? ⟨bx, 2, none⟩ = some (.int .i64 f.bo) := ab.cell 2
 have b3 : w1.cell? ⟨bx, 3, none⟩ = some (.int .i64 f.sq) := ab.cell 3
 have b4 : w1.cell? ⟨bx, 4, none⟩ = some (.int .i64 f.ac) := ab.cell 4
 have b5 : w1.cell? ⟨bx, 5, none⟩ = some (.slice a f.bd.length c) := ab.cell 5
 have CI := fun n => Calls.quiet_of_same (n := n) (Calls.turn (tis_any o t.st (w1.drewN n) (h1.tk.drewN0 n).c.1))
 rw [hs] at b1
 have H := Lib.hid (And.intro h1 k1)
 have HN := Lib.hid hno
 obtain ⟨ty, se, bo, sq, ac, bd⟩ := f
 dsimp only [frA] at *
 subst hty hs
 generalize bd.length = nb at *
 obtain ⟨q, hq⟩ : ∃ q, q = t.se := ⟨_, rfl⟩
 obtain ⟨b, hb⟩ : ∃ b, b = t.bo := ⟨_, rfl⟩
 obtain ⟨st, hst⟩ : ∃ st, st = t.st := ⟨_, rfl⟩
 rw [← hq] at c1 hno
 rw [← hb] at c2 hno
 rw [← hst] at CI hno
 clear h h1 k1 ab hq hb hst HN
 by_cases h2 : st = 2
 · rw [decide_eq_true h2] at CI
   by_cases h3 : s = q
   · subst h3
     have h4 : bo ≠ (b : Int) := by
      rcases hno with h | h | h
      · exact absurd h2 h
      · exact absurd rfl h
      · exact h
     have e3 : ((s : Int) != (s : Int)) = false := by simp
     have e4 : (bo != (b : Int)) = true := by simpa using h4
     clear hno h2 h4
     go_enter Tryz.func106, Tryz.ntmps106
     go_upto_region 1 with fail
     rw [← hbx, ← hw1]
     clear hbx hw1
     go_wp2_with fail
     go_quiet (exact CI _)
     go_upto_region 7 with fail
     refine wp_world (fun wx => Kp (fun _ => False) w1 wx) (by first | exact Kp.refl _ _ | exact (Kp.refl _ w1).drew | exact (Kp.refl _ w1).drewN _ | exact ((Kp.refl _ w1).drew).drew | exact ((Kp.refl _ w1).drewN _).drew | exact ((Kp.refl _ w1).drew).drewN _ | exact ((Kp.refl _ w1).drewN _).drewN _) ?_
     intro w2 k12
     have b1 := k12.cell b1 (fun h => h)
     have CR := Lib.hid (refuse_any (H.out.1.kp0 k12) s)
     have K2 := Lib.hid (H.out.2.trans k12)
     clear k12
     go_wp2_with fail
     go_at_call 111
     refine CR.out.mono ?_
     rintro e w3 ⟨rfl, rv', h3, hb3, k3⟩
     have hsz := K2.out.size
     have H3 := Lib.hid (And.intro h3 (And.intro (show ∀ g, rv'.ownBlock = some g → rv.ownBlock = some g ∨ W.heap.size ≤ g from fun g hg => (hb3 g hg).imp_right (fun e => by omega)) ((K2.out.mono (fun _ _ h => h.elim)).trans k3)))
     clear h3 hb3 k3 CR
     go_wp2_with fail
     go_ret2
     exact ⟨rfl, rv', H3.out⟩
   · have e3 : ((s : Int) != (q : Int)) = true := by simp; omega
     clear hno h2 h3
     go_enter Tryz.func106, Tryz.ntmps106
     go_upto_region 1 with fail
     rw [← hbx, ← hw1]
     clear hbx hw1
     go_wp2_with fail
     go_quiet (exact CI _)
     go_upto_region 7 with fail
     refine wp_world (fun wx => Kp (fun _ => False) w1 wx) (by first | exact Kp.refl _ _ | exact (Kp.refl _ w1).drew | exact (Kp.refl _ w1).drewN _ | exact ((Kp.refl _ w1).drew).drew | exact ((Kp.refl _ w1).drewN _).drew | exact ((Kp.refl _ w1).drew).drewN _ | exact ((Kp.refl _ w1).drewN _).drewN _) ?_
     intro w2 k12
     have b1 := k12.cell b1 (fun h => h)
     have CR := Lib.hid (refuse_any (H.out.1.kp0 k12) s)
     have K2 := Lib.hid (H.out.2.trans k12)
     clear k12
     go_wp2_with fail
     go_at_call 111
     refine CR.out.mono ?_
     rintro e w3 ⟨rfl, rv', h3, hb3, k3⟩
     have hsz := K2.out.size
     have H3 := Lib.hid (And.intro h3 (And.intro (show ∀ g, rv'.ownBlock = some g → rv.ownBlock = some g ∨ W.heap.size ≤ g from fun g hg => (hb3 g hg).imp_right (fun e => by omega)) ((K2.out.mono (fun _ _ h => h.elim)).trans k3)))
     clear h3 hb3 k3 CR
     go_wp2_with fail
     go_ret2
     exact ⟨rfl, rv', H3.out⟩
 · rw [decide_eq_false h2] at CI
   clear hno h2
   go_enter Tryz.func106, Tryz.ntmps106
   go_upto_region 1 with fail
   rw [← hbx, ← hw1]
   clear hbx hw1
   go_wp2_with fail
   go_quiet (exact CI _)
   go_upto_region 7 with fail
   refine wp_world (fun wx => Kp (fun _ => False) w1 wx) (by first | exact Kp.refl _ _ | exact (Kp.refl _ w1).drew | exact (Kp.refl _ w1).drewN _ | exact ((Kp.refl _ w1).drew).drew | exact ((Kp.refl _ w1).drewN _).drew | exact ((Kp.refl _ w1).drew).drewN _ | exact ((Kp.refl _ w1).drewN _).drewN _) ?_
   intro w2 k12
   have b1 := k12.cell b1 (fun h => h)
   have CR := Lib.hid (refuse_any (H.out.1.kp0 k12) s)
   have K2 := Lib.hid (H.out.2.trans k12)
   clear k12
   go_wp2_with fail
   go_at_call 111
   refine CR.out.mono ?_
   rintro e w3 ⟨rfl, rv', h3, hb3, k3⟩
   have hsz := K2.out.size
   have H3 := Lib.hid (And.intro h3 (And.intro (show ∀ g, rv'.ownBlock = some g → rv.ownBlock = some g ∨ W.heap.size ≤ g from fun g hg => (hb3 g hg).imp_right (fun e => by omega)) ((K2.out.mono (fun _ _ h => h.elim)).trans k3)))
   clear h3 hb3 k3 CR
   go_wp2_with fail
   go_ret2
   exact ⟨rfl, rv', H3.out⟩
set_option maxHeartbeats 1000000 in
theorem dtakes_yes3 {W : World} {o I : Nat} {t : Tk} {wel : Bool} {rv : Value} {rs : List Nat} (h : DmC W o t wel rv rs I) (f : Fr) (a : Option Addr) (c : Nat) (now : Int) (hty : f.ty = 3) (hst : t.st = 2) (hse : f.se = t.se) (hbo : f.bo = t.bo) {Q : Value → Int → World → Prop} (hQ : Stays Q)
 (C : ∀ w', Kp (fun _ => False) W w' → Tells Tryz.prog 112 #[.pointer (some ⟨o, 0, none⟩), .agg (frA f a c), .int .i64 now] w' Q) :
 Tells Tryz.prog 106 #[.pointer (some ⟨o, 0, none⟩), .agg (frA f a c), .int .i64 now] W Q := by
 obtain ⟨bx, w1, hbx, hw1, k1, ab⟩ := frame_box f a c W
 rw [hty] at ab
 have h1 := h.kp0 k1
 have c1 := h1.tk.c.2.1
 have c2 := h1.tk.c.2.2.1
 have b0 : w1.cell? ⟨bx, 0, none⟩ = some (.int .i64 3) := ab.cell 0
 have b1 : w1.cell? ⟨bx, 1, none⟩ = some (.int .i64 f.se) := ab.cell 1
 have b2 : w1.cell? ⟨bx, 2, none⟩ = some (.int .i64 f.bo) := ab.cell 2
 have b3 : w1.cell? ⟨bx, 3, none⟩ = some (.int .i64 f.sq) := ab.cell 3
 have b4 : w1.cell? ⟨bx, 4, none⟩ = some (.int .i64 f.ac) := ab.cell 4
 have b5 : w1.cell? ⟨bx, 5, none⟩ = some (.slice a f.bd.length c) := ab.cell 5
 have CI := fun n => Calls.quiet_of_same (n := n) (Calls.turn (tis_any o t.st (w1.drewN n) (h1.tk.drewN0 n).c.1))
 rw [hse] at b1
 rw [hbo] at b2
 rw [decide_eq_true hst] at CI
 have HC := Lib.hid (And.intro hQ C)
 have K1 := Lib.hid k1
 obtain ⟨ty, se, bo, sq, ac, bd⟩ := f
 dsimp only [frA] at *
 subst hty hse hbo
 generalize bd.length = nb at *
 generalize t.se = q at *
 generalize t.bo = b at *
 have e3 : ((q : Int) != (q : Int)) = false := by simp
 have e4 : ((b : Int) != (b : Int)) = false := by simp
 clear h h1 k1 ab hst hQ C
 unfold Tells
 go_enter Tryz.func106, Tryz.ntmps106
 go_upto_region 1 with fail
 rw [← hbx, ← hw1]
 clear hbx hw1
 go_wp2_with fail
 go_quiet (exact CI _)
 go_upto_region 8 with fail
 refine wp_world (fun wx => Kp (fun _ => False) w1 wx) (by first | exact Kp.refl _ _ | exact (Kp.refl _ w1).drew | exact (Kp.refl _ w1).drewN _ | exact ((Kp.refl _ w1).drew).drew | exact ((Kp.refl _ w1).drewN _).drew | exact ((Kp.refl _ w1).drew).drewN _ | exact ((Kp.refl _ w1).drewN _).drewN _) ?_
 intro w2 k12
 have b0 := k12.cell b0 (fun h => h)
 have b1 := k12.cell b1 (fun h => h)
 have b2 := k12.cell b2 (fun h => h)
 have b3 := k12.cell b3 (fun h => h)
 have b4 := k12.cell b4 (fun h => h)
 have b5 := k12.cell b5 (fun h => h)
 refine region_L (S := fun w' => Kp (fun _ => False) w2 w') [5] rfl ?_
 have hSd : ∀ (w' : World) (n' : Nat), Kp (fun _ => False) w2 w' → Kp (fun _ => False) w2 (w'.drewN n') := fun w' n' h => h.drewN n'
 have hS0 : Kp (fun _ => False) w2 w2.drew := (Kp.refl _ w2).drew
 refine anyL_world (fun w' => Kp (fun _ => False) w2 w') hS0 ?_
 clear hS0
 intro z0 kz0
 refine tF 0 51 (.pointer (some ⟨o, 0, none⟩)) rfl rfl hSd (fun _ => kz0) ?_
 try simp only [sC]
 refine tF 1 52 (.pointer (some ⟨o, 0, none⟩)) rfl rfl hSd (fun _ => kz0) ?_
 try simp only [sC]
 refine tF 2 53 (.pointer (some ⟨o, 0, none⟩)) rfl rfl hSd (fun _ => kz0) ?_
 try simp only [sC]
 refine tD 3 54 (.agg #[.int .i64 3, .int .i64 (q : Nat), .int .i64 (b : Nat), .int .i64 sq, .int .i64 ac, .slice a nb c]) rfl rfl hSd (.inl (.inl ⟨rfl, fun w' hS => by have h0 := hS.cell b0 (fun h => h); have h1 := hS.cell b1 (fun h => h); have h2 := hS.cell b2 (fun h => h); have h3 := hS.cell b3 (fun h => h); have h4 := hS.cell b4 (fun h => h); have h5 := hS.cell b5 (fun h => h); go_simp⟩)) kz0 ?_
 try simp only [sC]
 refine tF 4 55 (.int .i64 now) rfl rfl hSd (fun _ => kz0) ?_
 try simp only [sC]
 refine tA 5 ?_
 intro n11
 refine wpOp_of rfl rfl ?_
 go_simp
 refine Calls.mono (HC.out.2 (z0.drewN n11) ((K1.out.trans k12).trans (kz0.drewN n11))) ?_
 rintro e w9p ⟨v, k, rfl, hq⟩
 try dsimp only
 refine ⟨fun h => Bool.noConfusion (show false = true from h), ?_⟩
 try simp only [sC]
 refine tF 6 57 v rfl rfl hSd (fun h => Bool.noConfusion (show false = true from h)) ?_
 try simp only [sC]
 refine tF 7 58 (.int .i64 k) rfl rfl hSd (fun h => Bool.noConfusion (show false = true from h)) ?_
 try simp only [sC]
 refine tF 8 6 v rfl rfl hSd (fun h => Bool.noConfusion (show false = true from h)) ?_
 try simp only [sC]
 refine tF 9 7 (.int .i64 k) rfl rfl hSd (fun h => Bool.noConfusion (show false = true from h)) ?_
 try simp only [sC]
 refine anyL_done (by kernel_rfl) (fun nn => ?_) _
 clear hSd kz0
 go_wp2_with fail
 go_ret2
 exact ⟨v, k, rfl, HC.out.1 _ _ _ _ hq⟩
set_option maxHeartbeats 1000000 in
theorem dtakes_yes4 {W : World} {o I : Nat} {t : Tk} {wel : Bool} {rv : Value} {rs : List Nat} (h : DmC W o t wel rv rs I) (f : Fr) (a : Option Addr) (c : Nat) (now : Int) (hty : f.ty = 4) (hst : t.st = 2) (hse : f.se = t.se) (hbo : f.bo = t.bo) {Q : Value → Int → World → Prop} (hQ : Stays Q)
 (C : ∀ w', Kp (fun _ => False) W w' → Tells Tryz.prog 112 #[.pointer (some ⟨o, 0, none⟩), .agg (frA f a c), .int .i64 now] w' Q) :
 Tells Tryz.prog 106 #[.pointer (some ⟨o, 0, none⟩), .agg (frA f a c), .int .i64 now] W Q := by
 obtain ⟨bx, w1, hbx, hw1, k1, ab⟩ := frame_box f a c W
 rw [hty] at ab
 have h1 := h.kp0 k1
 have c1 := h1.tk.c.2.1
 have c2 := h1.tk.c.2.2.1
 have b0 : w1.cell? ⟨bx, 0, none⟩ = some (.int .i64 4) := ab.cell 0
 have b1 : w1.cell? ⟨bx, 1, none⟩ = some (.int .i64 f.se) := ab.cell 1
 have b2 : w1.cell? ⟨bx, 2, none⟩ = some (.int .i64 f.bo) := ab.cell 2
 have b3 : w1.cell? ⟨bx, 3, none⟩ = some (.int .i64 f.sq) := ab.cell 3
 have b4 : w1.cell? ⟨bx, 4, none⟩ = some (.int .i64 f.ac) := ab.cell 4
 have b5 : w1.cell? ⟨bx, 5, none⟩ = some (.slice a f.bd.length c) := ab.cell 5
 have CI := fun n => Calls.quiet_of_same (n := n) (Calls.turn (tis_any o t.st (w1.drewN n) (h1.tk.drewN0 n).c.1))
 rw [hse] at b1
 rw [hbo] at b2
 rw [decide_eq_true hst] at CI
 have HC := Lib.hid (And.intro hQ C)
 have K1 := Lib.hid k1
 obtain ⟨ty, se, bo, sq, ac, bd⟩ := f
 dsimp only [frA] at *
 subst hty hse hbo
 generalize bd.length = nb at *
 generalize t.se = q at *
 generalize t.bo = b at *
 have e3 : ((q : Int) != (q : Int)) = false := by simp
 have e4 : ((b : Int) != (b : Int)) = false := by simp
 clear h h1 k1 ab hst hQ C
 unfold Tells
 go_enter Tryz.func106, Tryz.ntmps106
 go_upto_region 1 with fail
 rw [← hbx, ← hw1]
 clear hbx hw1
 go_wp2_with fail
 go_quiet (exact CI _)
 go_upto_region 8 with fail
 refine wp_world (fun wx => Kp (fun _ => False) w1 wx) (by first | exact Kp.refl _ _ | exact (Kp.refl _ w1).drew | exact (Kp.refl _ w1).drewN _ | exact ((Kp.refl _ w1).drew).drew | exact ((Kp.refl _ w1).drewN _).drew | exact ((Kp.refl _ w1).drew).drewN _ | exact ((Kp.refl _ w1).drewN _).drewN _) ?_
 intro w2 k12
 have b0 := k12.cell b0 (fun h => h)
 have b1 := k12.cell b1 (fun h => h)
 have b2 := k12.cell b2 (fun h => h)
 have b3 := k12.cell b3 (fun h => h)
 have b4 := k12.cell b4 (fun h => h)
 have b5 := k12.cell b5 (fun h => h)
 refine region_L (S := fun w' => Kp (fun _ => False) w2 w') [5] rfl ?_
 have hSd : ∀ (w' : World) (n' : Nat), Kp (fun _ => False) w2 w' → Kp (fun _ => False) w2 (w'.drewN n') := fun w' n' h => h.drewN n'
 have hS0 : Kp (fun _ => False) w2 w2.drew := (Kp.refl _ w2).drew
 refine anyL_world (fun w' => Kp (fun _ => False) w2 w') hS0 ?_
 clear hS0
 intro z0 kz0
 refine tF 0 51 (.pointer (some ⟨o, 0, none⟩)) rfl rfl hSd (fun _ => kz0) ?_
 try simp only [sC]
 refine tF 1 52 (.pointer (some ⟨o, 0, none⟩)) rfl rfl hSd (fun _ => kz0) ?_
 try simp only [sC]
 refine tF 2 53 (.pointer (some ⟨o, 0, none⟩)) rfl rfl hSd (fun _ => kz0) ?_
 try simp only [sC]
 refine tD 3 54 (.agg #[.int .i64 4, .int .i64 (q : Nat), .int .i64 (b : Nat), .int .i64 sq, .int .i64 ac, .slice a nb c]) rfl rfl hSd (.inl (.inl ⟨rfl, fun w' hS => by have h0 := hS.cell b0 (fun h => h); have h1 := hS.cell b1 (fun h => h); have h2 := hS.cell b2 (fun h => h); have h3 := hS.cell b3 (fun h => h); have h4 := hS.cell b4 (fun h => h); have h5 := hS.cell b5 (fun h => h); go_simp⟩)) kz0 ?_
 try simp only [sC]
 refine tF 4 55 (.int .i64 now) rfl rfl hSd (fun _ => kz0) ?_
 try simp only [sC]
 refine tA 5 ?_
 intro n11
 refine wpOp_of rfl rfl ?_
 go_simp
 refine Calls.mono (HC.out.2 (z0.drewN n11) ((K1.out.trans k12).trans (kz0.drewN n11))) ?_
 rintro e w9p ⟨v, k, rfl, hq⟩
 try dsimp only
 refine ⟨fun h => Bool.noConfusion (show false = true from h), ?_⟩
 try simp only [sC]
 refine tF 6 57 v rfl rfl hSd (fun h => Bool.noConfusion (show false = true from h)) ?_
 try simp only [sC]
 refine tF 7 58 (.int .i64 k) rfl rfl hSd (fun h => Bool.noConfusion (show false = true from h)) ?_
 try simp only [sC]
 refine tF 8 6 v rfl rfl hSd (fun h => Bool.noConfusion (show false = true from h)) ?_
 try simp only [sC]
 refine tF 9 7 (.int .i64 k) rfl rfl hSd (fun h => Bool.noConfusion (show false = true from h)) ?_
 try simp only [sC]
 refine anyL_done (by kernel_rfl) (fun nn => ?_) _
 clear hSd kz0
 go_wp2_with fail
 go_ret2
 exact ⟨v, k, rfl, HC.out.1 _ _ _ _ hq⟩

def welF (se bo : Nat) : Fr := ⟨2, se, bo, 0, 0, []⟩
def rstF (bo s : Nat) : Fr := ⟨5, s, bo, 0, 0, []⟩
def rstL (bo : Nat) (ls : List (List Int)) (rs : List Nat) : List (List Int) := rs.foldl (fun ls s => layP ls (rstF bo s)) ls
theorem rstL_len (bo : Nat) : ∀ (ls : List (List Int)) (rs : List Nat), (rstL bo ls rs).length ≤ ls.length + rs.length
 | ls, [] => Nat.le_refl _
 | ls, s :: r => by
  have h1 := rstL_len bo (layP ls (rstF bo s)) r
  have h2 := layP_len ls (rstF bo s)
  have e : rstL bo ls (s :: r) = rstL bo (layP ls (rstF bo s)) r := rfl
  rw [e, List.length_cons]; omega
set_option maxHeartbeats 2000000 in
theorem dtells_any {W : World} {o I : Nat} {t : Tk} {rv : Value} {rs : List Nat} (wel : Bool) (h : DmC W o t wel rv rs I) (hrb : ∀ s ∈ rs, s ≤ 2147483647) (now : Int) (P0 : List (List Int)) (hP0 : P0 = if wel then layP [] (welF t.se t.bo) else []) {Q : Value → World → Prop}
 (C : ∀ w' v vs, LLs W.heap.size w' v (rstL t.bo P0 rs) vs → DmC w' o t false (.slice none 0 0) [] I → Kp (fun k => k = o) W w' → Calls Tryz.prog 114 #[.pointer (some ⟨o, 0, none⟩), v, .int .i64 now] w' fun e w'' => ∃ v', e = .returned v' ∧ Q v' w'') :
 Calls Tryz.prog 108 #[.pointer (some ⟨o, 0, none⟩), .int .i64 now] W fun e w' => ∃ v', e = .returned v' ∧ Q v' w' := by
 obtain ⟨ra, rc, hrv, _⟩ := h.own.form
 obtain ⟨n, hn⟩ : ∃ n, n = rs.length := ⟨_, rfl⟩
 rw [← hn] at hrv
 have hlen := h.len
 rw [← hn] at hlen
 have c1 := h.tk.c.2.1
 have c2 := h.tk.c.2.2.1
 have c7 : W.cell? ⟨o, 7, none⟩ = some (.bool wel) := h.tk.hat.cell 7
 have c8 : W.cell? ⟨o, 8, none⟩ = some rv := h.tk.hat.cell 8
 rw [hrv] at c8
 obtain ⟨se, hse⟩ : ∃ x, x = t.se := ⟨_, rfl⟩
 obtain ⟨bo, hbo⟩ : ∃ x, x = t.bo := ⟨_, rfl⟩
 have hseb := h.tk.se
 have hbob := h.tk.bo
 rw [← hse] at c1 hseb
 rw [← hbo] at c2 hbob
 have H := Lib.hid (And.intro h (And.intro hrv (And.intro hn (And.intro hse (And.intro hbo (And.intro hrb hP0))))))
 have HC := Lib.hid C
 clear h hrv hn hse hbo hrb hP0 C
 go_enter Tryz.func108, Tryz.ntmps108
 go_upto_if 11 with fail
 go_cut [5] (fun ov wx => ∃ vs, LLs W.heap.size wx ov P0 vs ∧ (∃ x y z, ov = .slice x y z) ∧ Kp (fun _ => False) W wx)
 case first =>
  cases wel
  · go_wp2_with fail
    go_meet
    refine ⟨[], ?_, ⟨_, _, _, rfl⟩, Kp.refl _ _⟩
    rw [H.out.2.2.2.2.2.2]
    exact LLs.nil _ _
  · have CL := fun w' (k : Kp (fun _ => False) W w') => lay_any (LLs.nil W.heap.size w') (welF se bo) none 0 ⟨by show (-9223372036854775808 ≤ (se : Int)) ∧ ((se : Int) ≤ 9223372036854775807); omega, by show (-9223372036854775808 ≤ (bo : Int)) ∧ ((bo : Int) ≤ 9223372036854775807); omega, by show (-9223372036854775808 ≤ (0 : Int)) ∧ ((0 : Int) ≤ 9223372036854775807); omega, by show (-9223372036854775808 ≤ (0 : Int)) ∧ ((0 : Int) ≤ 9223372036854775807); omega⟩ (RdB.nil w' none) (Nat.le_refl 0) k.size (by simp) (by show 0 ≤ _; omega)
    dsimp only [frA, welF, List.length_nil] at CL
    have CL := Lib.hid CL
    go_upto_region 3 with fail
    refine region_L (S := fun w' => Kp (fun _ => False) W w') [11] rfl ?_
    have hSd : ∀ (w' : World) (n' : Nat), Kp (fun _ => False) W w' → Kp (fun _ => False) W (w'.drewN n') := fun w' n' h => h.drewN n'
    have hS0 : Kp (fun _ => False) W W.drew := (Kp.refl _ W).drew
    refine anyL_world (fun w' => Kp (fun _ => False) W w') hS0 ?_
    clear hS0
    intro z0 kz0
    refine tF 0 12 (.slice none 0 0) rfl rfl hSd (fun _ => kz0) ?_
    try simp only [sC]
    refine tF 1 13 (.pointer (some ⟨o, 0, none⟩)) rfl rfl hSd (fun _ => kz0) ?_
    try simp only [sC]
    refine tF 2 14 (.pointer (some ⟨o, 0, none⟩)) rfl rfl hSd (fun _ => kz0) ?_
    try simp only [sC]
    refine tF 3 15 (.pointer (some ⟨o, 0, none⟩)) rfl rfl hSd (fun _ => kz0) ?_
    try simp only [sC]
    refine tF 4 16 (.pointer (some ⟨o, 1, none⟩)) rfl rfl hSd (fun _ => kz0) ?_
    try simp only [sC]
    refine tD 5 17 (.int .i64 (se : Nat)) rfl rfl hSd (.inl (.inl ⟨rfl, fun w' hS => by have h := hS.cell c1 (fun h => h); go_simp⟩)) kz0 ?_
    try simp only [sC]
    refine tF 6 18 (.pointer (some ⟨o, 0, none⟩)) rfl rfl hSd (fun _ => kz0) ?_
    try simp only [sC]
    refine tF 7 19 (.pointer (some ⟨o, 0, none⟩)) rfl rfl hSd (fun _ => kz0) ?_
    try simp only [sC]
    refine tF 8 20 (.pointer (some ⟨o, 0, none⟩)) rfl rfl hSd (fun _ => kz0) ?_
    try simp only [sC]
    refine tF 9 21 (.pointer (some ⟨o, 2, none⟩)) rfl rfl hSd (fun _ => kz0) ?_
    try simp only [sC]
    refine tD 10 22 (.int .i64 (bo : Nat)) rfl rfl hSd (.inl (.inl ⟨rfl, fun w' hS => by have h := hS.cell c2 (fun h => h); go_simp⟩)) kz0 ?_
    try simp only [sC]
    refine tA 11 ?_
    intro n10
    refine wpOp_of rfl rfl ?_
    go_simp
    try dsimp only
    try refine ⟨fun h => Bool.noConfusion (show false = true from h), ?_⟩
    try simp only [sC]
    refine tA 12 ?_
    intro n11
    have kzz := (kz0.drewN n10).drewN n11
    generalize (z0.drewN n10).drewN n11 = zz at *
    refine wpOp_of rfl rfl ?_
    go_simp
    refine Calls.mono (CL.out zz kzz) ?_
    rintro e w5p ⟨v5, vs5, rfl, hll5, _, k5⟩
    have kk5 : Kp (fun _ => False) W w5p := kzz.trans (k5.mono (fun k _ e => by cases e))
    clear k5
    try dsimp only
    refine ⟨fun h => Bool.noConfusion (show false = true from h), ?_⟩
    try simp only [sC]
    refine tF 13 5 v5 rfl rfl hSd (fun h => Bool.noConfusion (show false = true from h)) ?_
    try simp only [sC]
    refine anyL_done (by kernel_rfl) (fun nn => ?_) _
    have kw5 : Kp (fun _ => False) w5p (w5p.drewN nn) := (Kp.refl _ w5p).drewN nn
    generalize w5p.drewN nn = w5 at *
    have hll5 := hll5.kp0 kw5
    clear hSd kz0 kzz
    go_wp2_with fail
    go_meet
    obtain ⟨a5, c5, e5, _⟩ := hll5.form
    refine ⟨vs5, ?_, ⟨_, _, _, e5⟩, kk5.trans kw5⟩
    rw [H.out.2.2.2.2.2.2, ← H.out.2.2.2.1, ← H.out.2.2.2.2.1]
    simp only [if_true]
    exact hll5
 case rest =>
  obtain ⟨vs0, hll0, ⟨x0, y0, z0, rfl⟩, k1⟩ := hcut
  obtain ⟨w1, hw1⟩ : ∃ w1, w1 = wc := ⟨_, rfl⟩
  rw [← hw1] at hll0 k1 ⊢
  have h1 := H.out.1.kp0 k1
  have d2 := h1.tk.c.2.2.1
  rw [← H.out.2.2.2.2.1] at d2
  have d8 : w1.cell? ⟨o, 8, none⟩ = some (.slice ra n rc) := by rw [← H.out.2.1]; exact h1.tk.hat.cell 8
  have H1 := Lib.hid (And.intro h1 (And.intro k1 hll0))
  have hP0l : P0.length ≤ 1 := by
   rw [H.out.2.2.2.2.2.2]
   split
   · exact layP_len [] _
   · simp
  clear hw1 h1 k1 hll0 c1 c2 c7 c8
  go_wp2_with fail
  go_loopw [5, 30] (fun ov iv wr => ∃ (i : Nat) (vs' : List Value), i ≤ n ∧ iv = .int .i64 i ∧ LLs W.heap.size wr ov (rstL bo P0 (rs.take i)) vs' ∧ (∃ x y z, ov = .slice x y z) ∧ Kp (fun k => W.heap.size ≤ k) w1 wr) (fun _ iv _ => n - (intOf iv).toNat)
  case atStart => exact ⟨0, vs0, by omega, rfl, H1.out.2.2, ⟨_, _, _, rfl⟩, Kp.refl _ _⟩
  case round =>
   obtain ⟨i, vs', hi, rfl, hll, ⟨x1, y1, z1, rfl⟩, hk⟩ := hrel
   have hd := H1.out.1.kp hk (fun j hj e => by
    have h2 : j < W.heap.size := by
     rcases hj with hj | hj
     · exact H.out.1.tk.lt hj
     · exact H.out.1.own.lt j hj
    omega)
   by_cases hlt : i < n
   · have j1 : (i : Int) < n := by omega
     have hil : i < rs.length := by have := H.out.2.2.1; omega
     have hown := hd.own
     rw [H.out.2.1, ← H.out.2.2.1] at hown
     obtain ⟨b, off, ha, hc0⟩ := hown.rd i (by unfold intsV; simpa using hil)
     have hc : wr.cell? ⟨b, off + i, none⟩ = some (.int .i64 ((rs.getD i 0 : Nat) : Int)) := by
      rw [hc0]
      unfold intsV
      simp [List.getD_eq_getElem?_getD, hil]
     have e2 := hd.tk.c.2.2.1
     rw [← H.out.2.2.2.2.1] at e2
     have hsb : rs.getD i 0 ≤ 2147483647 := H.out.2.2.2.2.2.1 _ (by rw [List.getD_eq_getElem?_getD, List.getElem?_eq_getElem hil]; exact List.getElem_mem _)
     have htk : rs.take (i + 1) = rs.take i ++ [rs.getD i 0] := take_snoc rs 0 i hil
     obtain ⟨s, hs⟩ : ∃ s, s = rs.getD i 0 := ⟨_, rfl⟩
     rw [← hs] at hc hsb htk
     have hrl := rstL_len bo P0 (rs.take i)
     rw [List.length_take] at hrl
     have CL := lay_any hll (rstF bo s) none 0 ⟨by show (-9223372036854775808 ≤ (s : Int)) ∧ ((s : Int) ≤ 9223372036854775807); omega, by show (-9223372036854775808 ≤ (bo : Int)) ∧ ((bo : Int) ≤ 9223372036854775807); omega, by show (-9223372036854775808 ≤ (0 : Int)) ∧ ((0 : Int) ≤ 9223372036854775807); omega, by show (-9223372036854775808 ≤ (0 : Int)) ∧ ((0 : Int) ≤ 9223372036854775807); omega⟩ (RdB.nil wr none) (Nat.le_refl 0) (by have := hk.size; have := H1.out.2.1.size; omega) (by omega) (by show 0 ≤ _; omega)
     dsimp only [frA, rstF, List.length_nil] at CL
     have CL := Lib.hid CL
     have HX := Lib.hid (And.intro hll (And.intro hk htk))
     have HI := Lib.hid (show i + 1 ≤ n from hlt)
     subst ha
     clear hll hk htk hd hown hc0 hrl hs hil
     go_wp2_with fail
     go_at_call 113
     refine CL.out.mono ?_
     rintro e w5 ⟨v5, vs5, rfl, hll5, _, k5⟩
     obtain ⟨a5, c5, e5, _⟩ := hll5.form
     obtain ⟨n5, hn5⟩ : ∃ n, n = (layP (rstL bo P0 (rs.take i)) ⟨5, s, bo, 0, 0, []⟩).length := ⟨_, rfl⟩
     rw [← hn5] at e5
     subst e5
     have H5 := Lib.hid (And.intro hll5 k5)
     clear hn5 hll5 k5 CL
     go_wp2_with fail
     go_roundw
     case rel =>
      refine ⟨i + 1, vs5, HI.out, by go_num, ?_, ⟨_, _, _, rfl⟩, HX.out.2.1.trans (H5.out.2.mono (fun k _ e => HX.out.1.ge k e))⟩
      have e : rstL bo P0 (rs.take (i + 1)) = layP (rstL bo P0 (rs.take i)) ⟨5, s, bo, 0, 0, []⟩ := by
       rw [HX.out.2.2]
       unfold rstL
       rw [List.foldl_append]
       rfl
      rw [e]
      exact H5.out.1
     case measure =>
      have := HI.out
      simp [intOf]
      omega
   · obtain rfl : i = n := by omega
     have htk : rs.take i = rs := by rw [H.out.2.2.1, List.take_length]
     rw [htk] at hll
     have f7 := hd.tk.hat.frozen 7
     have f8 := hd.tk.hat.frozen 8
     have e7 : wr.cell? ⟨o, 7, none⟩ = some (.bool wel) := hd.tk.hat.cell 7
     have e8 : wr.cell? ⟨o, 8, none⟩ = some (.slice ra i rc) := by rw [← H.out.2.1]; exact hd.tk.hat.cell 8
     have HE := Lib.hid (And.intro hd (And.intro hll hk))
     clear hd hll hk htk hP0l d2 d8
     go_upto_region 10 with fail
     have hat2 : At ((wr.setCell ⟨o, 7, none⟩ (.bool false)).setCell ⟨o, 8, none⟩ (.slice none 0 0)) o (talkC t ++ [.bool false, .slice none 0 0]) := (HE.out.1.tk.hat.set 7 (.bool false)).set 8 (.slice none 0 0)
     have k2 : Kp (fun k => k = o) wr ((wr.setCell ⟨o, 7, none⟩ (.bool false)).setCell ⟨o, 8, none⟩ (.slice none 0 0)) := Kp.setCell (S := fun k => k = o) (Kp.setCell (S := fun k => k = o) (Kp.refl _ wr) (p := ⟨o, 7, none⟩) (fun _ => rfl) _) (p := ⟨o, 8, none⟩) (fun _ => rfl) _
     obtain ⟨w6, hw6⟩ : ∃ w6, w6 = (wr.setCell ⟨o, 7, none⟩ (.bool false)).setCell ⟨o, 8, none⟩ (.slice none 0 0) := ⟨_, rfl⟩
     rw [← hw6] at hat2 k2 ⊢
     have hol := H.out.1.tk.hat.lt
     have ht6 := HE.out.1.tk.extS hat2 k2
     have hll6 := HE.out.2.1.kpB k2 (fun k e => by have e : k = o := e; omega)
     have kW6 : Kp (fun k => k = o) W w6 := ((H1.out.2.1.mono (fun _ _ h => h.elim)).then HE.out.2.2 (fun k hk e => by omega)).trans k2
     have CD := Lib.hid (HC.out w6 _ _ (by rw [← H.out.2.2.2.2.1]; exact hll6) ⟨ht6, Own.nil w6 1, fun g hg => (by cases hg), Nat.zero_le _⟩ kW6)
     clear hw6 hat2 k2 ht6 hll6 kW6 e7 e8 f7 f8
     go_wp2_with fail
     go_at_call 114
     refine CD.out.mono ?_
     rintro e w7 ⟨v7, rfl, hq⟩
     have HQ := Lib.hid hq
     clear hq
     go_wp2_with fail
     go_ret
     exact ⟨v7, rfl, HQ.out⟩
def noIx : Ix := ⟨0, wnew 1, 0, fun _ => none, 1, 0, fun _ => False⟩
def agT (s z : Nat) : Tk := ⟨1, s, 0, z, .pointer none, .pointer none, false, noIx⟩
def dmT (b z : Nat) : Tk := ⟨3, 0, b, z, .pointer none, .pointer none, false, noIx⟩
theorem fitB_yes {n z : Int} (h : fitB n z = true) : 1 ≤ n ∧ n ≤ 2147483647 ∧ 1 ≤ z ∧ z ≤ 64 := by
 unfold fitB at h
 simp only [Bool.and_eq_true, decide_eq_true_eq] at h
 exact ⟨h.1.1.1, h.1.1.2, h.1.2, h.2⟩
theorem agent_ok (s z : Nat) (w : World) (h : fitB s z = true) : Calls Tryz.prog 7 #[.int .i64 (s : Nat), .int .i64 (z : Nat)] w fun e w' => ∃ lb o, e = .returned (.tuple #[.pointer (some ⟨lb, 0, none⟩), .int .i64 0]) ∧ LkC w' lb 58 o ∧ TkC w' o (agT s z) (agX false 0) 0 ∧ w.heap.size ≤ lb ∧ w.heap.size ≤ o ∧ lb ≠ o ∧ Kp (fun _ => False) w w' := by
 have C := lfits_any s z w
 rw [h] at C
 have C := Lib.hid C
 have hf := fitB_yes h
 have HF := Lib.hid hf
 clear h hf
 go_enter Tryz.func7, Tryz.ntmps7
 go_wp2_with (go_at_call 12; refine C.out.mono ?_; rintro e w' ⟨rfl, rfl⟩)
 go_ret2
 have hf := HF.out
 have a1 := At.new w (talkC (agT s z) ++ agX false 0) 60
 have a2 := At.new (w.alloc (.cells (talkC (agT s z) ++ agX false 0).toArray 60)) [.iface 58 (.pointer (some ⟨w.heap.size, 0, none⟩))] 52
 rw [World.size_alloc] at a2
 refine ⟨w.heap.size + 1, w.heap.size, rfl, a2, ⟨a1.alloc _, fun e => absurd (show (1 : Nat) = 2 from e) (by decide), by show s ≤ _; omega, by show 0 ≤ _; omega, by show 1 ≤ z ∧ z ≤ 64; omega⟩, by omega, Nat.le_refl _, by omega, ((Kp.refl _ w).alloc _).alloc _⟩
theorem daemon_ok (s z : Nat) (w : World) (h : fitB s z = true) : Calls Tryz.prog 5 #[.int .i64 (s : Nat), .int .i64 (z : Nat)] w fun e w' => ∃ lb o, e = .returned (.tuple #[.pointer (some ⟨lb, 0, none⟩), .int .i64 0]) ∧ LkC w' lb 41 o ∧ DmC w' o (dmT s z) false (.slice none 0 0) [] 0 ∧ w.heap.size ≤ lb ∧ w.heap.size ≤ o ∧ lb ≠ o ∧ Kp (fun _ => False) w w' := by
 have C := lfits_any s z w
 rw [h] at C
 have C := Lib.hid C
 have hf := fitB_yes h
 have HF := Lib.hid hf
 clear h hf
 go_enter Tryz.func5, Tryz.ntmps5
 go_wp2_with (go_at_call 12; refine C.out.mono ?_; rintro e w' ⟨rfl, rfl⟩)
 go_ret2
 have hf := HF.out
 have a1 := At.new w (talkC (dmT s z) ++ [Value.bool false, Value.slice none 0 0]) 48
 have a2 := At.new (w.alloc (.cells (talkC (dmT s z) ++ [Value.bool false, Value.slice none 0 0]).toArray 48)) [.iface 41 (.pointer (some ⟨w.heap.size, 0, none⟩))] 52
 rw [World.size_alloc] at a2
 refine ⟨w.heap.size + 1, w.heap.size, rfl, a2, ⟨⟨a1.alloc _, fun e => absurd (show (3 : Nat) = 2 from e) (by decide), by show 0 ≤ _; omega, by show s ≤ _; omega, by show 1 ≤ z ∧ z ≤ 64; omega⟩, Own.nil _ 1, fun g hg => (by cases hg), Nat.zero_le _⟩, by omega, Nat.le_refl _, by omega, ((Kp.refl _ w).alloc _).alloc _⟩
theorem agent_bad (s z : Int) (w : World) (h : fitB s z = false) : Calls Tryz.prog 7 #[.int .i64 s, .int .i64 z] w fun e w' => e = .returned (.tuple #[.pointer none, .int .i64 2]) ∧ w = w' := by
 have C := lfits_any s z w
 rw [h] at C
 have C := Lib.hid C
 clear h
 go_enter Tryz.func7, Tryz.ntmps7
 go_wp2_with (go_at_call 12; refine C.out.mono ?_; rintro e w' ⟨rfl, rfl⟩)
 go_ret2
 exact ⟨rfl, rfl⟩
theorem daemon_bad (s z : Int) (w : World) (h : fitB s z = false) : Calls Tryz.prog 5 #[.int .i64 s, .int .i64 z] w fun e w' => e = .returned (.tuple #[.pointer none, .int .i64 2]) ∧ w = w' := by
 have C := lfits_any s z w
 rw [h] at C
 have C := Lib.hid C
 clear h
 go_enter Tryz.func5, Tryz.ntmps5
 go_wp2_with (go_at_call 12; refine C.out.mono ?_; rintro e w' ⟨rfl, rfl⟩)
 go_ret2
 exact ⟨rfl, rfl⟩
theorem ltick_a {lb o : Nat} {w : World} (h : LkC w lb 58 o) (now : Int) (ht : timeB now = true) {Q : Value → World → Prop}
 (C : Calls Tryz.prog 156 #[.pointer (some ⟨o, 0, none⟩), .int .i64 now] w fun e w' => ∃ v, e = .returned v ∧ Q v w') :
 Calls Tryz.prog 21 #[.pointer (some ⟨lb, 0, none⟩), .int .i64 now] w fun e w' => ∃ v, e = .returned v ∧ Q v w' := by
 have c0 : w.cell? ⟨lb, 0, none⟩ = some (.iface 58 (.pointer (some ⟨o, 0, none⟩))) := h.cell 0
 have CN := Lib.hid (lnone_at lb _ o w c0)
 have CT := ltime_any now w
 rw [ht] at CT
 have CT := Lib.hid CT
 have HC := Lib.hid C
 have hm : ∀ (F : Nat) (w : World), (method (F + 1) 58 (.pointer (some ⟨o, 0, none⟩)) "satchel/link.tells").run Tryz.prog w = .ok (156, .pointer (some ⟨o, 0, none⟩)) w := fun F w => by kernel_rfl
 clear h C ht
 go_enter Tryz.func21, Tryz.ntmps21
 go_wp2_with (first | (go_at_call 33; refine CN.out.mono ?_; rintro e w' ⟨rfl, rfl⟩) | (go_at_call 42; refine CT.out.mono ?_; rintro e w' ⟨rfl, rfl⟩))
 go_at_call 156
 refine HC.out.mono ?_
 rintro e w1 ⟨v, rfl, hq⟩
 have HQ := Lib.hid hq
 clear hq
 go_wp2_with fail
 go_ret
 exact ⟨v, rfl, HQ.out⟩
theorem ltick_d {lb o : Nat} {w : World} (h : LkC w lb 41 o) (now : Int) (ht : timeB now = true) {Q : Value → World → Prop}
 (C : Calls Tryz.prog 108 #[.pointer (some ⟨o, 0, none⟩), .int .i64 now] w fun e w' => ∃ v, e = .returned v ∧ Q v w') :
 Calls Tryz.prog 21 #[.pointer (some ⟨lb, 0, none⟩), .int .i64 now] w fun e w' => ∃ v, e = .returned v ∧ Q v w' := by
 have c0 : w.cell? ⟨lb, 0, none⟩ = some (.iface 41 (.pointer (some ⟨o, 0, none⟩))) := h.cell 0
 have CN := Lib.hid (lnone_at lb _ o w c0)
 have CT := ltime_any now w
 rw [ht] at CT
 have CT := Lib.hid CT
 have HC := Lib.hid C
 have hm : ∀ (F : Nat) (w : World), (method (F + 1) 41 (.pointer (some ⟨o, 0, none⟩)) "satchel/link.tells").run Tryz.prog w = .ok (108, .pointer (some ⟨o, 0, none⟩)) w := fun F w => by kernel_rfl
 clear h C ht
 go_enter Tryz.func21, Tryz.ntmps21
 go_wp2_with (first | (go_at_call 33; refine CN.out.mono ?_; rintro e w' ⟨rfl, rfl⟩) | (go_at_call 42; refine CT.out.mono ?_; rintro e w' ⟨rfl, rfl⟩))
 go_at_call 108
 refine HC.out.mono ?_
 rintro e w1 ⟨v, rfl, hq⟩
 have HQ := Lib.hid hq
 clear hq
 go_wp2_with fail
 go_ret
 exact ⟨v, rfl, HQ.out⟩
end Go.Proofs.YtokembhfebnjpaaGreat
