/- LinkKnown: the walk. (Written by wip/lnknown.py.) -/
import Derived.Test.YtokembhfebnjpaaQBsM
import Derived.Test.YtokembhfebnjpaaQLnZ
namespace Go.Proofs.Ytokembhfebnjpaa
set_option maxRecDepth 20000
open Go.RowKit Flt
set_option linter.unusedVariables false
set_option linter.unusedSimpArgs false
theorem two_after {w W W' : World} (k : Kp (fun _ => False) w W) (k' : Kp (fun _ => False) W W') : Kp (fun _ => False) w W' := k.trans k'
/-- Ends that are made: what they answer first. -/
theorem lk_send (lb o s z : Nat) (w W : World) (h : AgS w W.heap.size (ae0 lb o s z)) (w' : World) (k : Kp (fun _ => False) w w') (a : Option Addr) (n c : Nat) : Calls Try.prog 12 #[.pointer (some ⟨lb, 0, none⟩), .slice a n c] w' fun e w'' => e = .returned (.int .i64 9) ∧ w' = w'' :=
  lsend_ashut (h.kp0 k).lk (h.kp0 k).tk (by show ¬ (1 : Nat) = 2; decide) a n c
def synK : Array Value := #[.int .i64 1, .int .i64 4, .int .i64 0, .int .i64 0, .int .i64 0, .slice none 0 0]
def rstK : Array Value := #[.int .i64 5, .int .i64 5, .int .i64 0, .int .i64 0, .int .i64 0, .slice none 0 0]
theorem put_syn (w : World) : Calls Try.prog 13 #[.agg #[.int .i64 1, .int .i64 4, .int .i64 0, .int .i64 0, .int .i64 0, .slice none 0 0]] w fun e w' => ∃ a c, e = .returned (.tuple #[.slice a (layF (synF 4)).length c, .int .i64 0]) ∧ OwnB w' (.slice a (layF (synF 4)).length c) (layF (synF 4)) ∧ (layF (synF 4)).length ≤ c ∧ c ≤ maxLen ∧ RdB w' a (layF (synF 4)) ∧ (∀ g, (Value.slice a (layF (synF 4)).length c).ownBlock = some g → w.heap.size ≤ g) ∧ Kp (fun _ => False) w w' := by
  refine (fput_ok (synF 4) none 0 w (by unfold frI synF; simp) (RdB.nil _ _) (Nat.le_refl _) (errF_syn (by omega) (by omega))).mono ?_
  rintro e w' ⟨v, rfl, h1, h2, h3⟩
  obtain ⟨a, c, rfl, h4, h5, h6⟩ := h1.form3
  exact ⟨a, c, rfl, h1, h5, h6, h4, h2, h3⟩
theorem put_rst (w : World) : Calls Try.prog 13 #[.agg #[.int .i64 5, .int .i64 5, .int .i64 0, .int .i64 0, .int .i64 0, .slice none 0 0]] w fun e w' => ∃ a c, e = .returned (.tuple #[.slice a (layF (rstF 0 5)).length c, .int .i64 0]) ∧ OwnB w' (.slice a (layF (rstF 0 5)).length c) (layF (rstF 0 5)) ∧ (layF (rstF 0 5)).length ≤ c ∧ c ≤ maxLen ∧ RdB w' a (layF (rstF 0 5)) ∧ (∀ g, (Value.slice a (layF (rstF 0 5)).length c).ownBlock = some g → w.heap.size ≤ g) ∧ Kp (fun _ => False) w w' := by
  refine (fput_ok (rstF 0 5) none 0 w (by unfold frI rstF; simp) (RdB.nil _ _) (Nat.le_refl _) (errF_rst (by omega) (by omega) (by omega))).mono ?_
  rintro e w' ⟨v, rfl, h1, h2, h3⟩
  obtain ⟨a, c, rfl, h4, h5, h6⟩ := h1.form3
  exact ⟨a, c, rfl, h1, h5, h6, h4, h2, h3⟩
/-- A Reset for a session that is refused, and an Ack. -/
theorem two_due {y : De} {s n : Nat} (hw : y.wel = false) (hr : y.rs = [s]) (ho : y.t.owed = true) (hn : y.t.i.n = n + 1) (he : errF (rstF y.t.bo s) = 0) (he2 : errF ⟨4, y.t.se, y.t.bo, 0, n, []⟩ = 0) : dueL y.t (rstL y.t.bo (welL y) y.rs) [] = [layF (rstF y.t.bo s), layF ⟨4, y.t.se, y.t.bo, 0, n, []⟩] := by
  unfold dueL welL
  rw [hw, hr, ho, if_pos ⟨rfl, rfl⟩, hn]
  show layP (layP [] (rstF y.t.bo s)) ⟨4, y.t.se, y.t.bo, 0, n, []⟩ = _
  rw [layP_one he]
  unfold layP
  rw [if_pos he2]
  rfl
/-- A daemon's end to which the first body came. -/
structure Dk (y : De) (lb : Nat) (rs : List Nat) : Prop where
  l : y.lb = lb
  st : y.t.st = 2
  se : y.t.se = 5
  bo : y.t.bo = 9
  ow : y.t.owed = true
  n : y.t.i.n = 2
  f1 : (y.t.i.f 1).isSome = true
  f2 : y.t.i.f 2 = none
  E : WE y.t.i.x 0
  w : y.wel = false
  rs : y.rs = rs
  I : y.I = 1
theorem WE.ack {x : Wn} (h : WE x 0) (now : Int) (V : Value) : WE (ackX x 0 now V) 0 := ⟨by show List.drop _ x.l = []; rw [h.1]; simp, h.2⟩
theorem Dk.fst {la ld z : Nat} {x : Ae} {y : De} (j : Jn la ld x y z 9) (now : Int) (V : Value) (hd : Nat) (F : Nat → Prop) : Dk { y with t := takeT y.t (ackX y.t.i.x 0 now V) (put y.t.i.f 1 [120]) 2 hd F } ld [] :=
  ⟨j.yl, j.yst, j.yse, j.ybo, rfl, rfl, by show (put y.t.i.f 1 [120] 1).isSome = true; rw [put_same]; rfl, by show put y.t.i.f 1 [120] 2 = none; rw [put_ne _ _ (by decide), j.yf], j.yE.ack _ _, j.yw, j.yr, j.yI⟩
theorem Dk.dup {y : De} {lb : Nat} {rs : List Nat} (h : Dk y lb rs) (now : Int) (V : Value) (hd : Nat) (F : Nat → Prop) : Dk { y with t := takeT y.t (ackX y.t.i.x 0 now V) y.t.i.f 2 hd F } lb rs :=
  ⟨h.l, h.st, h.se, h.bo, rfl, rfl, h.f1, h.f2, h.E.ack _ _, h.w, h.rs, h.I⟩
theorem Dk.eld {y : De} {lb : Nat} (h : Dk y lb []) (rv : Value) (s : Nat) : Dk { y with rv := rv, rs := refL y.rs s } lb [s] :=
  ⟨h.l, h.st, h.se, h.bo, h.ow, h.n, h.f1, h.f2, h.E, h.w, by show refL y.rs s = [s]; rw [h.rs]; simp [refL], h.I⟩
set_option maxHeartbeats 8000000 in
theorem linkKnown_walk (w : World) : Calls Try.prog 4 #[] w fun e w' => e = .returned (.bool true) ∧ Below w.heap.size w w' := by
  have CE := Lib.hid (ends_any 4 4 rfl (by omega) w)
  have kc := fun (w : World) (C : Array Value) (n c : Nat) => kc_any w C n c
  have AW := Lib.hid (fun w => awake_any w)
  go_enter Try.func4, Try.ntmps4
  go_wp2_with fail
  go_at_call 18
  refine CE.out.mono ?_
  rintro e w1 ⟨la, oa, ld, od, rfl, h1⟩
  have CA : Calls Try.prog 16 #[.pointer (some ⟨la, 0, none⟩)] w1 fun e w' => e = .returned (.int .i64 1) ∧ w1 = w' := lstate_a h1.a.lk h1.a.tk
  have CD : Calls Try.prog 16 #[.pointer (some ⟨ld, 0, none⟩)] w1 fun e w' => e = .returned (.int .i64 3) ∧ w1 = w' := lstate_d h1.d.lk h1.d.dm.tk
  have CS := lk_send la oa 5 4 w1 w h1.a (w1.alloc (.cells #[.int .u8 120] 5 (1, 2))) ((Kp.refl _ w1).alloc _) (some ⟨w1.heap.size, 0, none⟩) 1 1
  have H1 := Lib.hid h1
  have CA := Lib.hid CA
  have CD := Lib.hid CD
  have CS := Lib.hid CS
  obtain ⟨m1, hm1⟩ : ∃ m, m = w1.alloc (.cells #[.int .u8 120] 5 (1, 2)) := ⟨_, rfl⟩
  have hT1 : Two w m1 (ae0 la oa 5 4) (de0 ld od 9 4) := by rw [hm1]; exact h1.kp0 ((Kp.refl _ w1).alloc _)
  have CT1 : Calls Try.prog 15 #[.pointer (some ⟨la, 0, none⟩), .int .i64 0] m1 fun e w' => ∃ a c, e = .returned (.slice a 1 c) ∧ Two w w' { ae0 la oa 5 4 with sent := true, at_ := 0 } (de0 ld od 9 4) := by
    refine (ag_tick_first hT1.a hT1.sz rfl rfl 0 (by omega)).mono ?_
    rintro e w' ⟨v, rfl, vs, g1, g2, g3⟩
    rw [layP_one (errF_syn (by show 1 ≤ 5; omega) (by show 5 ≤ _; omega))] at g1
    obtain ⟨a, c, rfl, _⟩ := g1.form
    exact ⟨a, c, rfl, hT1.stepA g2 g3⟩
  rw [hm1] at CT1
  have CT1 := Lib.hid CT1
  clear h1 hT1 CE hm1
  go_wp2_with (first | (go_at_call 16; (with_reducible refine CA.out.mono ?_); rintro e w' ⟨rfl, rfl⟩) | (go_at_call 16; (with_reducible refine CD.out.mono ?_); rintro e w' ⟨rfl, rfl⟩) | (go_at_call 12; (with_reducible refine CS.out.mono ?_); rintro e w' ⟨rfl, rfl⟩))
  go_at_call 15
  refine CT1.out.mono ?_
  rintro e w2 ⟨a1, c1, rfl, h2⟩
  have CT2 : Calls Try.prog 15 #[.pointer (some ⟨la, 0, none⟩), .int .i64 7] w2 fun e w' => e = .returned (.slice none 0 0) ∧ Two w w' { ae0 la oa 5 4 with sent := true, at_ := 0 } (de0 ld od 9 4) := by
    refine (ag_tick_wait h2.a rfl rfl 7 (by omega) (by show 7 < 0 + 8; omega)).mono ?_
    rintro e w' ⟨v, rfl, rfl, g1⟩
    exact ⟨rfl, h2.kp0 g1⟩
  have CT2 := Lib.hid CT2
  clear h2 CT1 CA CD CS
  go_wp2_with fail
  go_at_call 15
  refine CT2.out.mono ?_
  rintro e w3 ⟨rfl, h3⟩
  have CT3 : Calls Try.prog 15 #[.pointer (some ⟨la, 0, none⟩), .int .i64 8] w3 fun e w' => ∃ a c, e = .returned (.slice a 1 c) ∧ Kp (fun _ => False) w w' := by
    refine (ag_tick_again h3.a h3.sz rfl rfl 8 (by omega) (by show 0 + 8 ≤ 8; omega)).mono ?_
    rintro e w' ⟨v, rfl, vs, g1, g2, g3⟩
    rw [layP_one (errF_syn (by show 1 ≤ 5; omega) (by show 5 ≤ _; omega))] at g1
    obtain ⟨a, c, rfl, _⟩ := g1.form
    exact ⟨a, c, rfl, (h3.stepA g2 g3).kp⟩
  have CT3 := Lib.hid CT3
  clear h3 CT2
  go_wp2_with fail
  go_at_call 15
  refine CT3.out.mono ?_
  rintro e w4 ⟨a2, c2, rfl, k4⟩
  have K4 := Lib.hid k4
  have CJ := Lib.hid (joined_any 4 4 rfl (by omega) w4)
  clear k4 CT3
  go_wp2_with fail
  go_at_call 19
  refine CJ.out.mono ?_
  rintro e w5 ⟨la, ld, x, y, rfl, j, h5⟩
  obtain rfl := j.xl
  obtain rfl := j.yl
  obtain ⟨m1, hm1⟩ : ∃ m, m = w5.alloc (.cells #[.int .u8 120] 5 (1, 2)) := ⟨_, rfl⟩
  have km1 : Kp (fun _ => False) w5 m1 := by rw [hm1]; exact (Kp.refl _ w5).alloc _
  have rm1 : RdB m1 (some ⟨w5.heap.size, 0, none⟩) [120] := by rw [hm1]; exact rdb_mark w5 [120] (by intro z hz; simp at hz; omega) (by simp) _ _
  have hm := h5.kp0 km1
  have CS := ag_send hm.a hm.sz j.xst (by rw [j.xI]; omega) (some ⟨w5.heap.size, 0, none⟩) 1 1 [120] rfl rm1 (by omega) (by rw [j.xE.1, j.xsz]; decide)
  rw [hm1] at CS
  have CS := Lib.hid CS
  have HJ := Lib.hid (And.intro j (h5.kp0 km1))
  have HM := Lib.hid hm1
  clear j h5 km1 rm1 hm hm1 CJ
  go_wp2_with fail
  go_at_call 12
  refine CS.out.mono ?_
  rintro e w6 ⟨rfl, p, V, h1, h2, h3, h4, h5⟩
  rw [← HM.out] at h5
  have hT := HJ.out.2.stepA h4 h5
  have j := HJ.out.1
  have hW : W1 (sendT x.t p V).i.x 1 [120] 1 := j.xE.push (q := 0) h1 h2 h3
  have he : errF ⟨3, x.t.se, x.t.bo, 1, 0, [120]⟩ = 0 := errF_dat (q := 1) (a := 0) (by rw [j.xse]; omega) (by rw [j.xse]; omega) (by rw [j.xbo]; omega) (by rw [j.xbo]; omega) (by omega) (by omega) (by omega) (by simp)
  obtain ⟨b, hb⟩ : ∃ b, b = layF ⟨3, x.t.se, x.t.bo, 1, 0, [120]⟩ := ⟨_, rfl⟩
  have CT : Calls Try.prog 15 #[.pointer (some ⟨x.lb, 0, none⟩), .int .i64 3] w6 fun e w' => ∃ a c us, e = .returned (.slice a 1 c) ∧ Two w4 w' { x with t := dueT (sendT x.t p V) 3, I := x.I + 1 + 1 } y ∧ Hl w' { x with t := dueT (sendT x.t p V) 3, I := x.I + 1 + 1 } y (.slice a 1 c) [b] us := by
    refine (ag_tick_up hT.a hT.sz j.xst (by show x.I + 1 ≤ _; rw [j.xI]; omega) 3 (by omega)).mono ?_
    rintro e w' ⟨v, rfl, vs, l8, g0, g1, g2, g3⟩
    obtain ⟨u, rfl, hu1, hu2⟩ := (hW.due 3).2.1 l8 g0
    rw [dat_due (x := { x with t := sendT x.t p V, I := x.I + 1 }) hu1 hu2 j.xn he] at g1
    have g1 : LLs w6.heap.size w' v [layF ⟨3, x.t.se, x.t.bo, 1, 0, [120]⟩] vs := g1
    rw [← hb] at g1
    obtain ⟨a, c, rfl, _⟩ := g1.form
    exact ⟨a, c, vs, rfl, hT.stepA g2 g3, Hl.of g1.u (fun g hg => ⟨fun e => by have := hT.a.lt g (af_due.1 e); have := (hg.elim (g1.ge g) (fun ⟨i, hi, q⟩ => g1.geE i g hi q)); omega, fun e => by have := hT.d.lt g e; have := (hg.elim (g1.ge g) (fun ⟨i, hi, q⟩ => g1.geE i g hi q)); omega⟩)⟩
  have CT := Lib.hid CT
  have HW := Lib.hid hW
  have HJ := Lib.hid (And.intro j (And.intro he hb))
  clear h1 h2 h3 h4 h5 hT j hW CS he hb
  go_wp2_with fail
  go_at_call 15
  refine CT.out.mono ?_
  rintro e w7 ⟨al, cl, us, rfl, h7, l7⟩
  obtain ⟨x7, hx7⟩ : ∃ x7, x7 = { x with t := dueT (sendT x.t p V) 3, I := x.I + 1 + 1 } := ⟨_, rfl⟩
  rw [← hx7] at h7 l7
  obtain ⟨gl, A, cA, rfl, c7, r7, hcA, hcM⟩ := l7.one
  have HX7 := Lib.hid hx7
  clear hx7
  have j := HJ.out.1
  have CR1 : Tells Try.prog 14 #[.pointer (some ⟨y.lb, 0, none⟩), .slice A b.length cA, .int .i64 4] w7 fun v k w' => k = 0 ∧ ∃ u4, LLu w' v [[120]] u4 ∧ ∃ V' hd' F', Two w4 w' x7 { y with t := takeT y.t (ackX y.t.i.x 0 4 V') (put y.t.i.f 1 [120]) 2 hd' F' } ∧ (∀ g, (v.ownBlock = some g ∨ ∃ i, i < 1 ∧ (u4.getD i undef).ownBlock = some g) → ¬ x7.F g ∧ ¬ De.F { y with t := takeT y.t (ackX y.t.i.x 0 4 V') (put y.t.i.f 1 [120]) 2 hd' F' } g) ∧ Mv y.F (De.F { y with t := takeT y.t (ackX y.t.i.x 0 4 V') (put y.t.i.f 1 [120]) 2 hd' F' }) w7 w' := by
    have := HJ.out.2.2
    subst this
    exact dm_first h7 j.yst (by rw [j.yI]; omega) _ [120] HJ.out.2.1 rfl (by show (x.t.se : Int) = _; rw [j.xse, j.yse]) (by show (x.t.bo : Int) = _; rw [j.xbo, j.ybo]) rfl rfl rfl j.yf j.yn 4 (timeN (n := 4) (by omega)) A cA r7 hcA hcM
  have CR1 := Lib.hid CR1
  have H7 := Lib.hid (And.intro l7 (And.intro hcA hcM))
  obtain ⟨nb, hnb⟩ : ∃ nb, nb = b.length := ⟨_, rfl⟩
  rw [← hnb] at CR1 c7
  have HNB := Lib.hid hnb
  clear h7 l7 r7 hcA hcM j hnb CT
  go_wp2_with fail
  go_at_call 14
  refine CR1.out.mono ?_
  rintro e w8 ⟨v, k, rfl, rfl, u4, hu, V4, hd4, F4, h8, hap, m8⟩
  have d8 := Dk.fst HJ.out.1 4 V4 hd4 F4
  obtain ⟨y8, hy8⟩ : ∃ y8, y8 = { y with t := takeT y.t (ackX y.t.i.x 0 4 V4) (put y.t.i.f 1 [120]) 2 hd4 F4 } := ⟨_, rfl⟩
  rw [← hy8] at h8 hap m8 d8
  obtain ⟨at_, ct, rfl⟩ := hu.form
  have t8 := Hl.of (x := x7) (y := y8) hu hap
  have l8 := H7.out.1.stepD m8
  obtain ⟨g8, A8, cA8, eg, c8, r8, hcA, hcM⟩ := l8.one
  obtain rfl : gl = g8 := by simpa using eg
  have CR2 : Tells Try.prog 14 #[.pointer (some ⟨y.lb, 0, none⟩), .slice A8 b.length cA8, .int .i64 5] w8 fun v k w' => k = 0 ∧ (∃ a c, v = .slice a 0 c) ∧ ∃ y9, Two w4 w' x7 y9 ∧ Dk y9 y.lb [] ∧ Mv y8.F y9.F w8 w' := by
    have hb := HJ.out.2.2
    subst hb
    rw [← d8.l]
    refine (dm_dup h8 d8.st (by rw [d8.I]; omega) _ HJ.out.2.1 rfl (by show (x.t.se : Int) = _; rw [HJ.out.1.xse, d8.se]) (by show (x.t.bo : Int) = _; rw [HJ.out.1.xbo, d8.bo]) rfl rfl d8.f1 d8.f2 d8.n 5 (timeN (n := 5) (by omega)) A8 cA8 r8 hcA hcM).mono ?_
    rintro e w' ⟨v, k, rfl, rfl, hv, V5, hd5, F5, h9, m9⟩
    exact ⟨v, 0, rfl, rfl, hv, _, h9, d8.l ▸ d8.dup 5 V5 hd5 F5, m9⟩
  rw [← HNB.out] at CR2 c8
  have CR2 := Lib.hid CR2
  have H8 := Lib.hid t8
  have HY8 := Lib.hid hy8
  clear hu hap m8 t8 l8 eg h8 d8 hy8 CR1 c7 r8 hcA hcM
  go_wp2_with fail
  go_at_call 14
  refine CR2.out.mono ?_
  rintro e w9 ⟨v, k, rfl, rfl, ⟨a9, c9, rfl⟩, y9, h9, d9, m9⟩
  have H9 := Lib.hid (And.intro h9 (And.intro d9 (H8.out.stepD m9)))
  have CP1 := Lib.hid (put_syn w9)
  clear h9 d9 m9 CR2 c8
  go_wp2_with fail
  go_at_call 13
  refine CP1.out.mono ?_
  rintro e w10 ⟨as_, cs, rfl, o10, hcs, hcsm, rs10, hgs, k10⟩
  have hs10 := Hb.own H9.out.1 o10 rfl hgs rs10
  have H10 := Lib.hid (And.intro (H9.out.1.kp0 k10) (And.intro H9.out.2.1 (And.intro (H9.out.2.2.kp0 k10) hs10)))
  have HC := Lib.hid (And.intro hcs hcsm)
  have CP2 := Lib.hid (put_rst w10)
  obtain ⟨ns, hns⟩ : ∃ ns, ns = (layF (synF 4)).length := ⟨_, rfl⟩
  rw [← hns]
  have HNS := Lib.hid hns
  clear o10 hcs hcsm rs10 hgs k10 hs10 CP1 hns
  go_wp2_with fail
  go_at_call 13
  refine CP2.out.mono ?_
  rintro e w11 ⟨ar, cr, rfl, o11, hcr, hcrm, rr11, hgr, k11⟩
  have hr11 := Hb.own H10.out.1 o11 rfl hgr rr11
  obtain ⟨h10, d10, t10, s10⟩ := H10.out
  have h11 := h10.kp0 k11
  have CR3 : Tells Try.prog 14 #[.pointer (some ⟨y.lb, 0, none⟩), .slice as_ (layF (synF 4)).length cs, .int .i64 7] w11 fun v k w' => v = .slice none 0 0 ∧ k = 6 ∧ ∃ y12, Two w4 w' x7 y12 ∧ Dk y12 y.lb [4] ∧ Mv y9.F y12.F w11 w' := by
    rw [← d10.l]
    refine (dm_elder h11.d h11.sz 4 (by rw [d10.se]; omega) (by omega) (by omega) 7 (timeN (n := 7) (by omega)) as_ cs (s10.kp0 k11).1 HC.out.1 HC.out.2).mono ?_
    rintro e w' ⟨v, k, rfl, rfl, rfl, rv', h12, m12⟩
    exact ⟨_, _, rfl, rfl, rfl, _, h11.stepD h12 m12, d10.l ▸ d10.eld rv' 4, m12⟩
  rw [← HNS.out] at CR3
  have CR3 := Lib.hid CR3
  have H11 := Lib.hid (And.intro (t10.kp0 k11) (And.intro hr11 (And.intro hcr hcrm)))
  obtain ⟨nr, hnr⟩ : ∃ nr, nr = (layF (rstF 0 5)).length := ⟨_, rfl⟩
  rw [← hnr]
  have HNR := Lib.hid hnr
  clear o11 hcr hcrm rr11 hgr k11 hr11 h10 d10 t10 s10 h11 CP2 hnr
  go_wp2_with fail
  go_at_call 14
  refine CR3.out.mono ?_
  rintro e w12 ⟨v, k, rfl, rfl, rfl, y12, h12, d12, m12⟩
  have t12 := H11.out.1.stepD m12
  have r12 := H11.out.2.1.stepD m12
  have he5 : errF (rstF y12.t.bo 4) = 0 := errF_rst (by omega) (by omega) (by rw [d12.bo]; omega)
  have he4 : errF ⟨4, y12.t.se, y12.t.bo, 0, (1 : Nat), []⟩ = 0 := errF_ack (by rw [d12.se]; omega) (by rw [d12.se]; omega) (by rw [d12.bo]; omega) (by rw [d12.bo]; omega) (by omega)
  have CT2 : Calls Try.prog 15 #[.pointer (some ⟨y.lb, 0, none⟩), .int .i64 7] w12 fun e w' => ∃ a c, e = .returned (.slice a 2 c) ∧ ∃ y13, Two w4 w' x7 y13 ∧ Mv y12.F y13.F w12 w' := by
    rw [← d12.l]
    refine (dm_tick h12.d h12.sz d12.st (by rw [d12.I]; omega) (fun s hs => by rw [d12.rs] at hs; simp at hs; omega) 7 (by omega)).mono ?_
    rintro e w' ⟨v, rfl, vs, l8, g0, g1, g2, g3⟩
    rw [(d12.E.due 7).1] at g0
    rw [tel_nil g0, two_due d12.w d12.rs d12.ow d12.n he5 he4] at g1
    obtain ⟨a, c, rfl, _⟩ := g1.form
    exact ⟨a, c, rfl, _, h12.stepD g2 g3, g3⟩
  have CT2 := Lib.hid CT2
  have H12 := Lib.hid (And.intro t12 r12)
  clear t12 r12 h12 d12 m12 he5 he4 CR3
  go_wp2_with fail
  go_at_call 15
  refine CT2.out.mono ?_
  rintro e w13 ⟨a13, c13, rfl, y13, h13, m13⟩
  have t13 := H12.out.1.stepD m13
  have r13 := H12.out.2.stepD m13
  have hx7 := HX7.out
  have xst : ¬ x7.t.st = 3 := by rw [hx7]; show ¬ x.t.st = 3; rw [HJ.out.1.xst]; decide
  have xse : x7.t.se = 5 := by rw [hx7]; exact HJ.out.1.xse
  have xlb : x7.lb = x.lb := by rw [hx7]
  have CR4 : Tells Try.prog 14 #[.pointer (some ⟨x.lb, 0, none⟩), .slice ar (layF (rstF 0 5)).length cr, .int .i64 8] w13 fun v k w' => v = .slice none 0 0 ∧ k = 0 ∧ ∃ x14, Two w4 w' x14 y13 ∧ Mv x7.F x14.F w13 w' ∧ x14.lb = x.lb ∧ x14.t.st = 3 := by
    have := ag_reset h13.a h13.sz xst 0 (by rw [xse]; omega) (by omega) 8 (timeN (n := 8) (by omega)) ar cr (by rw [xse]; exact r13.1) (by rw [xse]; exact H11.out.2.2.1) H11.out.2.2.2
    unfold apt at this
    rw [xse, xlb] at this
    refine this.mono ?_
    rintro e w' ⟨v, k, rfl, rfl, rfl, h14, m14⟩
    exact ⟨_, _, rfl, rfl, rfl, _, h13.stepA h14 m14, m14, rfl, rfl⟩
  rw [← HNR.out] at CR4
  have CR4 := Lib.hid CR4
  have H13 := Lib.hid t13
  clear h13 m13 t13 r13 hx7 xst xse xlb CT2
  go_wp2_with fail
  go_at_call 14
  refine CR4.out.mono ?_
  rintro e w14 ⟨v, k, rfl, rfl, rfl, x14, h14, m14, xl14, xs14⟩
  have H14 := Lib.hid (And.intro h14 (And.intro (H13.out.stepA m14) (And.intro xl14 xs14)))
  clear h14 m14 xl14 xs14 CR4
  go_wp2_with fail
  go_at_call 7
  refine (AW.out _).mono ?_
  rintro e w15 ⟨rfl, k15⟩
  have hl1 := (H14.out.2.1.kp0 k15).1.rdl
  have h15 := H14.out.1.kp0 k15
  obtain ⟨m2, hm2⟩ : ∃ m, m = w15.alloc (.cells #[.int .u8 120] 5 (1, 2)) := ⟨_, rfl⟩
  obtain ⟨m3, hm3⟩ : ∃ m, m = m2.alloc (.cells #[.slice (some ⟨w15.heap.size, 0, none⟩) 1 1] 22) := ⟨_, rfl⟩
  have km2 : Kp (fun _ => False) w15 m2 := by rw [hm2]; exact (Kp.refl _ w15).alloc _
  have km3 : Kp (fun _ => False) m2 m3 := by rw [hm3]; exact (Kp.refl _ m2).alloc _
  have rm2 : RdB m2 (some ⟨w15.heap.size, 0, none⟩) [120] := by rw [hm2]; exact rdb_mark w15 [120] (by intro z hz; simp at hz; omega) (by simp) _ _
  have rl3 : RdL m3 (some ⟨m2.heap.size, 0, none⟩) [[120]] := fun i hi => by
    obtain rfl : i = 0 := by simp at hi; omega
    exact ⟨m2.heap.size, 0, some ⟨w15.heap.size, 0, none⟩, 1, rfl, by rw [hm3]; exact (At.new m2 [.slice (some ⟨w15.heap.size, 0, none⟩) 1 1] _).cell 0, rm2.kp km3 (fun _ _ h => h), Nat.le_refl _⟩
  have CL := samelists_any at_ (some ⟨m2.heap.size, 0, none⟩) 1 1 ct 1 [[120]] [[120]] m3 (hl1.kp0 (km2.trans km3) (fun _ _ h => h)) rl3 rfl rfl (by omega)
  rw [decide_eq_true rfl] at CL
  have h16 := h15.kp0 (km2.trans km3)
  have CA : ∀ w', Kp (fun _ => False) m3 w' → Calls Try.prog 16 #[.pointer (some ⟨x.lb, 0, none⟩)] w' fun e w'' => e = .returned (.int .i64 3) ∧ w' = w'' := fun w' k => by
    have h := h16.kp0 k
    have := lstate_a h.a.lk h.a.tk
    rw [H14.out.2.2.1, H14.out.2.2.2] at this
    exact this
  have hs2 : m2.heap.size = w15.heap.size + 1 := by rw [hm2]; simp
  rw [hs2] at CL
  rw [hm3, hm2] at CL
  have CL := Lib.hid CL
  have CA := Lib.hid CA
  have K15 := Lib.hid (h15.kp.trans (km2.trans km3))
  have HM := Lib.hid (And.intro hm2 hm3)
  clear hl1 h15 km2 km3 rm2 rl3 h16 hs2 hm2 hm3
  go_wp2_with fail
  go_at_call 20
  refine CL.out.mono ?_
  rintro e w16 ⟨rfl, k16⟩
  rw [← HM.out.1, ← HM.out.2] at k16
  have CA16 := Lib.hid (CA.out w16 k16)
  have K16 := Lib.hid ((K4.out.trans (K15.out)).trans k16)
  clear k16 CA CL
  go_wp2_with (go_at_call 16; refine CA16.out.mono ?_; rintro e w' ⟨rfl, rfl⟩)
  go_ret
  exact ⟨rfl, K16.out.below (fun _ _ h => h)⟩
end Go.Proofs.Ytokembhfebnjpaa
