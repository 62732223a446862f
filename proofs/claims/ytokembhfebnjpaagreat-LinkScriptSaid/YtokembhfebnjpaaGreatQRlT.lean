/- The document's link: Tick. (Written by wip/rlt.py.) -/
import Derived.Test.YtokembhfebnjpaaGreatQRwAM
import Derived.Test.YtokembhfebnjpaaGreatQRlNM
import Derived.Deep.DeepCutAuto
namespace Go.Proofs.YtokembhfebnjpaaGreat
set_option maxRecDepth 20000
open Go.RowKit Flt
set_option linter.unusedVariables false
set_option linter.unusedSimpArgs false
theorem rltick_late (r : Nat) (now : Int) (W : World) (ht : timeB now = false) :
 Calls Tryz.prog 23 #[.pointer (some ⟨r, 0, none⟩), .int .i64 now] W fun e1 w' => e1 = .returned (.slice none 0 0) ∧ W = w' := by
 by_cases h1 : now < 0
 · clear ht
   go_enter Tryz.func23, Tryz.ntmps23
   go_wp2
   go_ret
   exact ⟨rfl, rfl⟩
 · have h2 : now > 2147483647 := by
    unfold timeB at ht
    simp at ht
    omega
   clear ht
   go_enter Tryz.func23, Tryz.ntmps23
   go_wp2
   go_ret
   exact ⟨rfl, rfl⟩
section
variable {W : World} {r : Nat} {t : Tk} {e : Dl}
theorem RlC.due {W' : World} {x' : Wn} {D' : List Dr} (h : RlC W r t e) (hst : t.st = 2) (hw : RwC W' e.dw x' e.dv D') (hfr : ∀ k, RwF e.dw e.dv D' k ↔ RwF e.dw e.dv e.D k) (hwt : ∀ i, i < D'.length → (dr D' i).att ≤ 2147483647 ∧ (dr D' i).wt ≤ 60) (k : Kp (RwF e.dw e.dv e.D) W W') : RlC W' r (ackT t x') { e with D := D' } :=
 have hu := h.up hst
 ⟨k.at h.hat hu.oW, fun _ => ⟨hu.wv, hu.xv, hw, hwt, hu.inb.kp k (fun g hg ee => hu.ap g ee hg), hu.fn, hu.got, fun hk => hu.oW ((hfr _).1 hk), hu.oX, fun k hk => hu.ap k ((hfr k).1 hk), fun g hg => ⟨fun hk => (hu.rW g hg).1 ((hfr g).1 hk), (hu.rW g hg).2⟩⟩, h.res.kp k (fun g hg ee => (hu.rW g hg).1 ee), h.rr, h.rl⟩
theorem LLs.cast {B : Nat} {w : World} {v : Value} {ls ls' : List (List Int)} {vs : List Value} (h : LLs B w v ls vs) (e : ls = ls') : LLs B w v ls' vs := e ▸ h
set_option maxHeartbeats 8000000 in
theorem rltick_any (h : RlC W r t e) (now : Nat) (hnow : now ≤ 2147483647) (hat : e.at_ ≤ 2147483647) (sy : Bool) (hsy : sy = decide (t.st = 1 ∧ (e.asked = false ∨ e.at_ + 8 ≤ now)))
 (hup : t.st = 2 → Wf t.i.x ∧ (∀ i, i < t.i.x.l.length → (pk t.i.x.l i).times ≤ 1000000) ∧ (∀ i, i < t.i.x.l.length → (pk t.i.x.l i).body.length ≤ 1000000)) :
 Calls Tryz.prog 23 #[.pointer (some ⟨r, 0, none⟩), .int .i64 (now : Nat)] W fun e1 w' => ∃ v, e1 = .returned v ∧ ∃ ls vs e', LLs W.heap.size w' v ls vs ∧ Ke (tikF (tikE e sy now)) e' ∧ (∀ t' k, RlF r t' e' k → RlF r t' e k) ∧ Kp (RlF r t e) W w' ∧
  ((¬ t.st = 2 ∧ ls = tikD t e sy ∧ RlC w' r t e') ∨ (t.st = 2 ∧ ∃ l8, TelL (atW t.i.x now) (dueI (atW t.i.x now)) l8 ∧ ls = dueD t (tikD t e sy) l8 ∧ RlC w' r (dueT t now) e')) := by
 have c2 : W.cell? ⟨r, 2, none⟩ = some (.int .i64 t.st) := h.hat.cell 2
 have c10 : W.cell? ⟨r, 10, none⟩ = some (.bool e.asked) := h.hat.cell 10
 have c11 : W.cell? ⟨r, 11, none⟩ = some (.int .i64 e.at_) := h.hat.cell 11
 have f10 := h.hat.frozen 10
 have f11 := h.hat.frozen 11
 have hb1 : decide ((now : Int) < 0) = false := decide_eq_false (by omega)
 have hb2 : decide ((2147483647 : Int) < (now : Int)) = false := decide_eq_false (by omega)
 have hb2n : decide (2147483647 < now) = false := decide_eq_false (by omega)
 obtain ⟨aq, has⟩ : ∃ x, x = e.asked := ⟨_, rfl⟩
 obtain ⟨a0, ha0⟩ : ∃ x, x = e.at_ := ⟨_, rfl⟩
 obtain ⟨st, hst⟩ : ∃ x, x = t.st := ⟨_, rfl⟩
 rw [← has] at c10 hsy
 rw [← ha0] at c11 hat hsy
 rw [← hst] at c2 hsy
 have H := Lib.hid (And.intro h (And.intro hup (And.intro has (And.intro ha0 hst))))
 have HS := Lib.hid hsy
 have hsub : IntKind.i64.wrap ((now : Int) - (a0 : Int)) = (now : Int) - (a0 : Int) := IntWalk.i64_in _ (by omega)
 clear h hup has ha0 hst hsy
 go_enter Tryz.func23, Tryz.ntmps23
 go_upto_region 4 with fail
 go_cut [36] (fun cv wx => cv = .bool sy ∧ W = wx)
 case first =>
  by_cases hs1 : st = 1
  · have js : ((st : Int) == 1) = true := by simp; omega
    cases aq
    · have hsy : sy = true := by rw [HS.out]; simp [hs1]
      have HSY := Lib.hid hsy
      clear hs1 hsy
      go_wp2_with fail
      go_meet
      exact ⟨by rw [HSY.out], rfl⟩
    · by_cases hc : (now : Int) - (a0 : Int) ≥ 8
      · have hsy : sy = true := by rw [HS.out]; simp [hs1]; omega
        have HSY := Lib.hid hsy
        have jd : decide ((8 : Int) ≤ (now : Int) - (a0 : Int)) = true := decide_eq_true hc
        clear hs1 hsy
        go_wp2_with fail
        go_meet
        exact ⟨by rw [HSY.out], rfl⟩
      · have hsy : sy = false := by rw [HS.out]; simp [hs1]; omega
        have HSY := Lib.hid hsy
        have jd : decide ((8 : Int) ≤ (now : Int) - (a0 : Int)) = false := decide_eq_false hc
        clear hs1 hsy
        go_wp2_with fail
        go_meet
        exact ⟨by rw [HSY.out], rfl⟩
  · have js : ((st : Int) == 1) = false := by simp; omega
    have hsy : sy = false := by rw [HS.out]; simp [hs1]
    have HSY := Lib.hid hsy
    clear hs1 hsy
    go_wp2_with fail
    go_meet
    exact ⟨by rw [HSY.out], rfl⟩
 case rest =>
 obtain ⟨rfl, rfl⟩ := hcut
 go_upto_if 36 with fail
 go_cut [5] (fun ov wx => ∃ vs, LLs W.heap.size wx ov (synD t sy) vs ∧ (∃ x y z, ov = .slice x y z) ∧ RlC wx r t (tikE e sy now) ∧ Kp (fun k => k = r) W wx)
 case first =>
  cases sy
  · go_wp2_with fail
    go_meet
    refine ⟨[], LLs.nil _ _, ⟨_, _, _, rfl⟩, ?_, Kp.refl _ _⟩
    have e1 : tikE e false now = e := by unfold tikE; simp
    rw [e1]; exact H.out.1
  · go_upto_region 7 with fail
    refine wp_world (fun wx => RlC wx r t { e with asked := true, at_ := now } ∧ Kp (fun k => k = r) W wx) ⟨(H.out.1.set10 true).set11 now, (kp_set _ _ _ _).trans (kp_set _ _ _ _)⟩ ?_
    rintro w2 ⟨h2, k2⟩
    have H2 := Lib.hid (And.intro h2 k2)
    clear h2 k2 c2 c10 c11 f10 f11
    have CP := Lib.hid (rlput_any H2.out.1 1 0 0 none 0 0 [] rfl (RdB.nil _ none) (Nat.le_refl 0) (by omega))
    go_wp2_with fail
    go_at_call 43
    refine CP.out.mono ?_
    rintro e1 w3 ⟨u, rfl, hu, hug, k3⟩
    have hll3 := (LLs.nil W.heap.size w2).kp0 k3
    obtain ⟨w4, hw4⟩ : ∃ w4, w4 = w3.alloc (.cells #[u] 32) := ⟨_, rfl⟩
    have k4 : Kp (fun _ => False) w3 w4 := by rw [hw4]; exact (Kp.refl _ w3).alloc _
    have hat4 : At w4 w3.heap.size [u] := by rw [hw4]; exact At.new w3 [u] _
    have hs3 := k3.size
    have hs4 := k4.size
    have hsW : W.heap.size ≤ w2.heap.size := H2.out.2.size
    obtain ⟨ua, uc, eu, _⟩ := hu.form
    subst eu
    obtain ⟨a5, c5, w5, hr5, hll5, hb5, k5⟩ := app_any (hll3.kp0 k4) hat4 (hu.kp k4 (fun _ _ h => h)) (fun k hk => by
     have h1 := hug k hk
     refine ⟨fun ee => ?_, by omega, fun i hi ee => ?_⟩
     · have := (LLs.nil W.heap.size w2).own.lt k ee; omega
     · have := (LLs.nil W.heap.size w2).ltE hi ee; omega) (by omega) (by simp)
    rw [hw4] at hr5
    have HR5 := Lib.hid hr5
    have H5 := Lib.hid (And.intro hll5 (And.intro k3 (And.intro k4 (And.intro k5 hb5))))
    clear hu hug k3 hll3 hw4 k4 hat4 hs3 hs4 hsW hr5 hll5 hb5 k5 CP
    go_wp2_with (at_builtin; refine wpList_append_run _ HR5.out rfl rfl rfl rfl ?_)
    go_meet
    obtain ⟨hll5, k3, k4, k5, hb5⟩ := H5.out
    have k25 : Kp (fun _ => False) w2 w5 := (k3.trans k4).trans (k5.mono (fun i _ ee => by cases ee))
    refine ⟨_, by unfold synD; simpa using hll5, ⟨_, _, _, rfl⟩, ?_, H2.out.2.trans (k25.mono (fun _ _ h => h.elim))⟩
    have e1 : tikE e true now = { e with asked := true, at_ := now } := by unfold tikE; simp
    rw [e1]
    exact H2.out.1.kp0 k25
 case rest =>
  obtain ⟨vs0, hll0, ⟨x0, y0, z0, rfl⟩, h1, k1⟩ := hcut
  obtain ⟨w1, hw1⟩ : ∃ w1, w1 = wc := ⟨_, rfl⟩
  rw [← hw1] at hll0 k1 h1 ⊢
  have d8 : w1.cell? ⟨r, 8, none⟩ = some (.bool e.hello) := h1.hat.cell 8
  have hov := hll0.form
  have H1 := Lib.hid (And.intro h1 (And.intro k1 hll0))
  obtain ⟨he, hhe⟩ : ∃ x, x = e.hello := ⟨_, rfl⟩
  rw [← hhe] at d8
  have HHE := Lib.hid hhe
  clear hw1 h1 k1 hll0 c2 c10 c11 f10 f11 hsub hhe hov
  go_upto_if 52 with fail
  go_cut [5] (fun ov wx => ∃ vs, LLs W.heap.size wx ov (welD t he (synD t sy)) vs ∧ (∃ x y z, ov = .slice x y z) ∧ Kp (fun k => W.heap.size ≤ k) w1 wx)
  case first =>
   cases he
   · go_wp2_with fail
     go_meet
     exact ⟨vs0, H1.out.2.2, ⟨_, _, _, rfl⟩, Kp.refl _ _⟩
   · have CP := Lib.hid (rlput_any H1.out.1 2 0 0 none 0 0 [] rfl (RdB.nil _ none) (Nat.le_refl 0) (by omega))
     go_wp2_with fail
     go_at_call 43
     refine CP.out.mono ?_
     rintro e1 w3 ⟨u, rfl, hu, hug, k3⟩
     have hll3 := H1.out.2.2.kp0 k3
     obtain ⟨w4, hw4⟩ : ∃ w4, w4 = w3.alloc (.cells #[u] 32) := ⟨_, rfl⟩
     have k4 : Kp (fun _ => False) w3 w4 := by rw [hw4]; exact (Kp.refl _ w3).alloc _
     have hat4 : At w4 w3.heap.size [u] := by rw [hw4]; exact At.new w3 [u] _
     have hs3 := k3.size
     have hs4 := k4.size
     have hsW : W.heap.size ≤ w1.heap.size := H1.out.2.1.size
     obtain ⟨ua, uc, eu, _⟩ := hu.form
     subst eu
     obtain ⟨a5, c5, w5, hr5, hll5, hb5, k5⟩ := app_any (hll3.kp0 k4) hat4 (hu.kp k4 (fun _ _ h => h)) (fun k hk => by
      have h1 := hug k hk
      refine ⟨fun ee => ?_, by omega, fun i hi ee => ?_⟩
      · have := H1.out.2.2.own.lt k ee; omega
      · have := H1.out.2.2.ltE hi ee; omega) (by omega) (by have := synD_len t sy; omega)
     rw [hw4] at hr5
     have HR5 := Lib.hid hr5
     have H5 := Lib.hid (And.intro hll5 (And.intro k3 (And.intro k4 (And.intro k5 hb5))))
     clear hu hug k3 hll3 hw4 k4 hat4 hs3 hs4 hsW hr5 hll5 hb5 k5 CP
     go_wp2_with (at_builtin; refine wpList_append_run _ HR5.out rfl rfl rfl rfl ?_)
     go_meet
     obtain ⟨hll5, k3, k4, k5, hb5⟩ := H5.out
     exact ⟨_, hll5.cast (by unfold welD; rw [if_pos rfl]), ⟨_, _, _, rfl⟩, ((k3.trans k4).mono (fun _ _ h => h.elim)).trans (k5.mono (fun i _ ee => H1.out.2.2.ge i ee))⟩
  case rest =>
   obtain ⟨vs1, hll1, ⟨x1, y1, z1, rfl⟩, k2⟩ := hcut
   obtain ⟨w2, hw2⟩ : ∃ w2, w2 = wc := ⟨_, rfl⟩
   rw [← hw2] at hll1 k2 ⊢
   have hlt0 : ∀ k, RlF r t (tikE e sy now) k → k < W.heap.size := fun k hk => H.out.1.lt hk
   have h2 := H1.out.1.kp k2 (fun k hk ee => by have := hlt0 k hk; omega)
   have kW2 : Kp (fun k => k = r) W w2 := H1.out.2.1.then k2 (fun i hi ee => by omega)
   obtain ⟨ra, rc, hrv, _⟩ := h2.res.form
   obtain ⟨n, hn⟩ : ∃ n, n = e.rs.length := ⟨_, rfl⟩
   have hrv : e.rv = .slice ra n rc := by rw [hn]; exact hrv
   have hn8 : n ≤ 8 := by rw [hn]; exact h2.rl
   obtain ⟨P1, hP1⟩ : ∃ P1, P1 = welD t he (synD t sy) := ⟨_, rfl⟩
   rw [← hP1] at hll1
   have hP1l : P1.length ≤ 2 := by rw [hP1]; have := welD_len t he (synD t sy); have := synD_len t sy; omega
   obtain ⟨bo, hbo⟩ : ∃ bo, bo = t.bo := ⟨_, rfl⟩
   have H2 := Lib.hid (And.intro h2 (And.intro kW2 (And.intro hll1 (And.intro hrv (And.intro hn (And.intro hbo hP1))))))
   have HLT := Lib.hid hlt0
   clear hw2 h2 kW2 hll1 k2 hrv hn hbo hP1 d8 hlt0
   go_wp2_with fail
   go_loopw [5, 6] (fun ov iv wr => ∃ (i : Nat) (vs' : List Value), i ≤ n ∧ iv = .int .i64 i ∧ LLs W.heap.size wr ov (rstD bo P1 (e.rs.take i)) vs' ∧ (∃ x y z, ov = .slice x y z) ∧ Kp (fun k => W.heap.size ≤ k) w2 wr) (fun _ iv _ => n - (intOf iv).toNat)
   case atStart => exact ⟨0, vs1, by omega, rfl, by rw [show rstD bo P1 (e.rs.take 0) = P1 by simp [rstD]]; exact H2.out.2.2.1, ⟨_, _, _, rfl⟩, Kp.refl _ _⟩
   case round =>
    obtain ⟨i, vs', hi, rfl, hll, ⟨x3, y3, z3, rfl⟩, hk⟩ := hrel
    have hd := H2.out.1.kp hk (fun k hk ee => by have := HLT.out k hk; omega)
    have d9 : wr.cell? ⟨r, 9, none⟩ = some (.slice ra n rc) := by rw [← H2.out.2.2.2.1]; exact hd.hat.cell 9
    by_cases hlt : i < n
    · have j1 : (i : Int) < n := by omega
      have hil : i < e.rs.length := by have := H2.out.2.2.2.2.1; omega
      have hown := hd.res
      have hown : Own wr e.rv e.rs.length 1 (intsV e.rs) := hown
      rw [H2.out.2.2.2.1, ← H2.out.2.2.2.2.1] at hown
      obtain ⟨b, off, ha, hc0⟩ := hown.rd i (by unfold intsV; simpa using hil)
      have hc : wr.cell? ⟨b, off + i, none⟩ = some (.int .i64 ((e.rs.getD i 0 : Nat) : Int)) := by
       rw [hc0]
       unfold intsV
       simp [List.getD_eq_getElem?_getD, hil]
      have d4 : wr.cell? ⟨r, 4, none⟩ = some (.int .i64 (bo : Nat)) := by rw [H2.out.2.2.2.2.2.1]; exact hd.hat.cell 4
      have htk : e.rs.take (i + 1) = e.rs.take i ++ [e.rs.getD i 0] := take_snoc e.rs 0 i hil
      obtain ⟨s, hs⟩ : ∃ s, s = e.rs.getD i 0 := ⟨_, rfl⟩
      rw [← hs] at hc htk
      have CL := fun w' (k : Kp (fun _ => False) wr w') => rlay_any ⟨5, (s : Nat), (bo : Nat), 0, 0, []⟩ none 0 w' (RdB.nil w' none) (Nat.le_refl 0) (by simp)
      dsimp only [frA, List.length_nil] at CL
      have CL := Lib.hid CL
      obtain ⟨oa, oc, hov, _⟩ := hll.form
      obtain ⟨on, hon⟩ : ∃ on, on = (rstD bo P1 (e.rs.take i)).length := ⟨_, rfl⟩
      rw [← hon] at hov
      simp only [Value.slice.injEq] at hov
      obtain ⟨hv1, hv2, hv3⟩ := hov
      subst hv1 hv3
      have hv2 := hv2.symm
      subst hv2
      have hsz : W.heap.size ≤ wr.heap.size := by have := hk.size; have := H2.out.2.1.size; omega
      have HX := Lib.hid (And.intro hll (And.intro hk (And.intro htk hsz)))
      have HON := Lib.hid hon
      have HI := Lib.hid (show i + 1 ≤ n from hlt)
      have hbl : b < W.heap.size := HLT.out b (.inr (.inl (by show e.rv.ownBlock = some b; rw [H2.out.2.2.2.1, ha]; rfl)))
      have hrl : r < W.heap.size := HLT.out r (.inl rfl)
      subst ha
      clear hll hk htk hd hown hc0 hs hil hsz hon
      go_upto_region 13 with fail
      refine region_L (S := fun w' => Kp (fun k => W.heap.size ≤ k) wr w') [] rfl ?_
      have hSd : ∀ (w' : World) (n' : Nat), Kp (fun k => W.heap.size ≤ k) wr w' → Kp (fun k => W.heap.size ≤ k) wr (w'.drewN n') := fun w' n' h => h.drewN n'
      have hS0 : Kp (fun k => W.heap.size ≤ k) wr wr.drew := (Kp.refl _ wr).drew
      refine anyL_world (fun w' => Kp (fun k => W.heap.size ≤ k) wr w' ∧ Kp (fun _ => False) wr w') ⟨hS0, (Kp.refl _ wr).drew⟩ ?_
      clear hS0
      rintro z0 ⟨kz0, kq0⟩
      refine tF 0 67 (.slice x3 on z3) rfl rfl hSd (fun _ => kz0) ?_
      try simp only [sC]
      refine tF 1 68 (.pointer (some ⟨r, 0, none⟩)) rfl rfl hSd (fun _ => kz0) ?_
      try simp only [sC]
      refine tF 2 69 (.pointer (some ⟨r, 0, none⟩)) rfl rfl hSd (fun _ => kz0) ?_
      try simp only [sC]
      refine tF 3 70 (.pointer (some ⟨r, 9, none⟩)) rfl rfl hSd (fun _ => kz0) ?_
      try simp only [sC]
      refine tD 4 71 (.slice (some ⟨b, off, none⟩) n rc) rfl rfl hSd (.inl (.inl ⟨rfl, fun w' hS => by have h := hS.cell d9 (show ¬ W.heap.size ≤ r by omega); go_simp⟩)) kz0 ?_
      try simp only [sC]
      refine tF 5 72 (.int .i64 i) rfl rfl hSd (fun _ => kz0) ?_
      try simp only [sC]
      refine tF 6 73 (.pointer (some ⟨b, off + i, none⟩)) rfl rfl hSd (fun _ => kz0) ?_
      try simp only [sC]
      refine tD 7 74 (.int .i64 (s : Nat)) rfl rfl hSd (.inl (.inl ⟨rfl, fun w' hS => by have h := hS.cell hc (show ¬ W.heap.size ≤ b by omega); go_simp⟩)) kz0 ?_
      try simp only [sC]
      refine tF 8 75 (.pointer (some ⟨r, 0, none⟩)) rfl rfl hSd (fun _ => kz0) ?_
      try simp only [sC]
      refine tF 9 76 (.pointer (some ⟨r, 0, none⟩)) rfl rfl hSd (fun _ => kz0) ?_
      try simp only [sC]
      refine tF 10 77 (.pointer (some ⟨r, 4, none⟩)) rfl rfl hSd (fun _ => kz0) ?_
      try simp only [sC]
      refine tD 11 78 (.int .i64 (bo : Nat)) rfl rfl hSd (.inl (.inl ⟨rfl, fun w' hS => by have h := hS.cell d4 (show ¬ W.heap.size ≤ r by omega); go_simp⟩)) kz0 ?_
      try simp only [sC]
      refine tA 12 ?_
      intro n10
      refine wpOp_of rfl rfl ?_
      go_simp
      try dsimp only
      try refine ⟨fun _ => kz0.drewN n10, ?_⟩
      try simp only [sC]
      refine tA 13 ?_
      intro n11
      have kzz := (kq0.drewN n10).drewN n11
      generalize (z0.drewN n10).drewN n11 = zz at *
      refine wpOp_of rfl rfl ?_
      go_simp
      refine Calls.mono (CL.out zz kzz) ?_
      rintro e w5p ⟨u, rfl, hu, hug, k5⟩
      have kk5 : Kp (fun _ => False) wr w5p := kzz.trans k5
      have hz5 := kzz.size
      clear k5 kzz
      obtain ⟨ua, ul, uc, eu⟩ : ∃ a n c, u = .slice a n c := by obtain ⟨a, c, e, _⟩ := hu.form; exact ⟨_, _, _, e⟩
      subst eu
      try dsimp only
      refine ⟨fun _ => kk5.mono (fun _ _ h => h.elim), ?_⟩
      try simp only [sC]
      refine tA 14 ?_
      intro n12
      refine wpOp_of rfl rfl ?_
      go_simp
      try dsimp only
      refine ⟨fun _ => ((kk5.mono (fun _ _ h => h.elim)).drewN n12).alloc _, ?_⟩
      try rw [show (w5p.drewN n12).heap.size = w5p.heap.size from rfl]
      try simp only [sC]
      refine anyL_world (fun wx => At wx w5p.heap.size [.slice ua ul uc] ∧ Kp (fun _ => False) w5p wx) ⟨At.new (w5p.drewN n12) [.slice ua ul uc] _, ((Kp.refl _ w5p).drewN n12).alloc _⟩ ?_
      rintro z7 ⟨hat7, k7⟩
      obtain ⟨gr, egr⟩ : ∃ g, g = w5p.heap.size := ⟨_, rfl⟩
      rw [← egr] at hat7 ⊢
      clear egr
      refine tA 15 ?_
      intro n13
      have k7n := k7.drewN n13
      have hat7 := hat7.drewN n13
      generalize z7.drewN n13 = z8 at *
      have hs7 := k7n.size
      obtain ⟨a9, c9, w9, hr9, hll9, hb9, k9⟩ := app_any ((HX.out.1.kp0 kk5).kp0 k7n) hat7 (hu.kp k7n (fun _ _ h => h)) (fun k hk => by
       have h1 := hug k hk
       refine ⟨fun ee => ?_, ?_, fun j hj ee => ?_⟩
       · have := HX.out.1.own.lt k ee; omega
       · have := HX.out.2.2.2; omega
       · have := HX.out.1.ltE hj ee; omega) (by have := HX.out.2.2.2; have := kk5.size; omega) (by have h := rstD_len bo P1 (e.rs.take i); rw [List.length_take] at h; omega)
      refine wpOp_of rfl rfl ?_
      rw [← HON.out] at hr9
      refine wp_append_rw hr9 rfl rfl rfl ?_
      have kS9 : Kp (fun k => W.heap.size ≤ k) wr w9 := ((kk5.trans k7n).mono (fun _ _ h => h.elim)).trans (k9.mono (fun k _ ee => HX.out.1.ge k ee))
      refine ⟨fun _ => kS9, ?_⟩
      try simp only [sC]
      refine tF 16 5 (.slice a9 (on + 1) c9) rfl rfl hSd (fun _ => kS9) ?_
      try simp only [sC]
      refine anyL_done (by kernel_rfl) (fun nn => ?_) _
      have kw9 : Kp (fun _ => False) w9 (w9.drewN nn) := (Kp.refl _ w9).drewN nn
      generalize w9.drewN nn = w10 at *
      rw [← HON.out] at hll9 hb9
      have k510 : Kp (fun k => W.heap.size ≤ k) wr w10 := (((kk5.trans k7n).mono (fun _ _ h => h.elim)).trans (k9.mono (fun k _ ee => HX.out.1.ge k ee))).trans (kw9.mono (fun _ _ h => h.elim))
      have H9 := Lib.hid (And.intro (hll9.kp0 kw9) k510)
      clear hSd kz0 kk5 hz5 hu hug k7 k7n hat7 hs7 hr9 hll9 hb9 k9 kw9 k510 d9 d4 hc CL
      go_wp2_with fail
      go_roundw
      case rel =>
       exact ⟨i + 1, _, HI.out, by go_num, H9.out.1.cast (by rw [HX.out.2.2.1, rstD_snoc]), ⟨_, _, _, rfl⟩, HX.out.2.1.trans H9.out.2⟩
      case measure =>
       have := HI.out
       simp [intOf]
       omega
    · obtain rfl : i = n := by omega
      have htk : e.rs.take i = e.rs := by rw [H2.out.2.2.2.2.1, List.take_length]
      rw [htk] at hll
      have f8 := hd.hat.frozen 8
      have f9 := hd.hat.frozen 9
      have e8 : wr.cell? ⟨r, 8, none⟩ = some (.bool e.hello) := hd.hat.cell 8
      have HE := Lib.hid (And.intro hd (And.intro hll hk))
      clear hd hll hk htk
      go_upto_region 16 with fail
      refine wp_world (fun wx => RlC wx r t (tikF (tikE e sy now)) ∧ LLs W.heap.size wx (.slice x3 y3 z3) (rstD bo P1 e.rs) vs' ∧ Kp (fun k => k = r) W wx) ⟨(HE.out.1.set8 false).set9, ?_, ?_⟩ ?_
      · exact HE.out.2.1.kpB ((kp_set _ _ _ _).trans (kp_set _ _ _ _)) (fun k ee => by have ee : k = r := ee; have := H.out.1.hat.lt; omega)
      · exact (H2.out.2.1.then HE.out.2.2 (fun k hk ee => by omega)).trans ((kp_set _ _ _ _).trans (kp_set _ _ _ _))
      rintro w6 ⟨h6, hll6, k6⟩
      have g2 : w6.cell? ⟨r, 2, none⟩ = some (.int .i64 st) := by rw [H.out.2.2.2.2]; exact h6.hat.cell 2
      have htik : rstD bo P1 e.rs = tikD t e sy := by unfold tikD; rw [H2.out.2.2.2.2.2.2, H2.out.2.2.2.2.2.1, HHE.out]
      rw [htik] at hll6
      clear d9 f8 f9 e8
      have H6 := Lib.hid (And.intro h6 (And.intro hll6 k6))
      clear h6 hll6 k6 htik
      by_cases hs2 : st = 2
      · have j2 : ((st : Int) != 2) = false := by simp; omega
        have HS2 := Lib.hid (show t.st = 2 by rw [← H.out.2.2.2.2]; exact hs2)
        clear hs2
        obtain ⟨h6, hll6, k6⟩ := H6.out
        have hu6 := h6.up HS2.out
        obtain ⟨hwf, hts, hbl⟩ := H.out.2.1 HS2.out
        have CD := rwdue_ok hu6.win hwf hts hu6.wt hbl now hnow
        have c6 : w6.cell? ⟨r, 6, none⟩ = some (tikF (tikE e sy now)).xv := h6.hat.cell 6
        have c5 : w6.cell? ⟨r, 5, none⟩ = some (tikF (tikE e sy now)).wv := h6.hat.cell 5
        rw [hu6.xv] at c6
        rw [hu6.wv] at c5
        have d1 := hu6.inb.at_.cell 1
        have d1 : w6.cell? ⟨(tikF (tikE e sy now)).dx, 1, none⟩ = some (.int .i64 (t.i.n : Nat)) := d1
        have hnb := hu6.inb.n_bd
        have hxl : t.i.x.l.length ≤ 64 := hwf.len
        obtain ⟨e6, he6⟩ : ∃ x, x = tikF (tikE e sy now) := ⟨_, rfl⟩
        rw [← he6] at c6 c5 d1 CD h6 hu6
        obtain ⟨dx, hdx⟩ : ∃ x, x = e6.dx := ⟨_, rfl⟩
        obtain ⟨dw, hdw⟩ : ∃ x, x = e6.dw := ⟨_, rfl⟩
        rw [← hdx] at c6 d1
        rw [← hdw] at c5
        obtain ⟨nn, hnn⟩ : ∃ x, x = t.i.n := ⟨_, rfl⟩
        rw [← hnn] at d1 hnb
        obtain ⟨ac, hac⟩ : ∃ ac, nn = ac + 1 := ⟨nn - 1, by omega⟩
        replace d1 : w6.cell? ⟨dx, 1, none⟩ = some (.int .i64 ((ac : Int) + 1)) := by rw [d1, hac]; rfl
        have hacb : (ac : Int) ≤ 2147483646 := by omega
        have HAC := Lib.hid (show t.i.n - 1 = ac by omega)
        have H6b := Lib.hid (And.intro h6 (And.intro hu6 (And.intro hll6 k6)))
        have HE6 := Lib.hid he6
        rw [← hdw] at CD
        have CD := Lib.hid CD
        have HDW := Lib.hid (And.intro hdx hdw)
        have HXL := Lib.hid hxl
        have HBL := Lib.hid hbl
        clear h6 hll6 k6 hu6 hwf hts hbl he6 hdx hdw hnn hac hnb hxl
        go_upto_region 19 with fail
        go_wp2_with fail
        go_at_call 44
        refine CD.out.mono ?_
        rintro e1 w7 ⟨vo, l8, D', rfl, hoT, htel, hw7, hwt7, hfr7, k7⟩
        obtain ⟨h6, hu6, hll6, k6⟩ := H6b.out
        rw [HDW.out.2] at hw7 hfr7 k7
        have h7 := h6.due HS2.out hw7 hfr7 hwt7 k7
        have hll7 := hll6.kpB k7 (fun k hk => by have := h6.lt (.inr (.inr ⟨HS2.out, .inl hk⟩)); have h2 := HLT.out k (.inr (.inr ⟨HS2.out, .inl (by rw [HE6.out] at hk; exact hk)⟩)); exact h2)
        obtain ⟨K, hK⟩ : ∃ K, K = l8.length := ⟨_, rfl⟩
        obtain ⟨a8, c8, ev, _⟩ := hoT.form
        rw [← hK] at ev
        subst ev
        have hK64 : l8.length ≤ 64 := by
         rw [htel.1]
         have h1 : (dueI (atW t.i.x now)).length ≤ (atW t.i.x now).l.length := by unfold dueI; exact Nat.le_trans (List.length_filter_le _ _) (by rw [List.length_range]; exact Nat.le_refl _)
         exact Nat.le_trans h1 HXL.out
        have hN : W.heap.size ≤ w7.heap.size := by have := k7.size; have := k6.size; omega
        have hK6 : K ≤ 64 := by omega
        obtain ⟨P2, hP2⟩ : ∃ P, P = tikD t e sy := ⟨_, rfl⟩
        rw [← hP2] at hll7
        have P2L : P2.length ≤ 20 := by
         rw [hP2]
         unfold tikD
         have h1 := rstD_len t.bo (welD t e.hello (synD t sy)) e.rs
         have h2 := welD_len t e.hello (synD t sy)
         have h3 := synD_len t sy
         have h4 := H.out.1.rl
         omega
        obtain ⟨se, hse⟩ : ∃ x, x = t.se := ⟨_, rfl⟩
        obtain ⟨bo, hbo⟩ : ∃ x, x = t.bo := ⟨_, rfl⟩
        obtain ⟨ow, how⟩ : ∃ x, x = t.owed := ⟨_, rfl⟩
        have HSB := Lib.hid (And.intro hse (And.intro hbo (And.intro how (show ac = t.i.n - 1 from HAC.out.symm))))
        obtain ⟨N, hNe⟩ : ∃ N, N = w6.heap.size := ⟨_, rfl⟩
        rw [← hNe] at hoT
        have hNl : N ≤ w7.heap.size := by have := k7.size; omega
        have hN3 : ∀ k, (Value.slice x3 y3 z3).ownBlock = some k → k < N ∨ w7.heap.size ≤ k := fun k hk => .inl (by rw [hNe]; exact hll6.own.lt k hk)
        have hbl8 : ∀ i, i < l8.length → (tp l8 i).body.length ≤ 1000000 := fun i hi => tel_ok (Pr := fun _ b => b.length ≤ 1000000) htel HBL.out _ (by rw [tp_getL hi]; exact List.getElem_mem hi)
        have hlt7 : ∀ k, RlF r (ackT t (dueW (atW t.i.x now))) { e6 with D := D' } k → k < W.heap.size := fun k hk => HLT.out k (by
         rw [HE6.out] at hk hfr7
         rcases hk with hk | hk | ⟨_, hk | hk⟩
         · exact .inl hk
         · cases hk
         · exact .inr (.inr ⟨HS2.out, .inl ((hfr7 k).1 hk)⟩)
         · exact .inr (.inr ⟨HS2.out, .inr hk⟩))
        have hD : ∀ k, RwF e.dw e.dv D' k ↔ RwF e.dw e.dv e.D k := by rw [HE6.out] at hfr7; exact hfr7
        have hk7 : Kp (RwF e.dw e.dv e.D) w6 w7 := by rw [HE6.out] at k7; exact k7
        rw [HE6.out] at h7 hlt7
        have H7 := Lib.hid (And.intro h7 (And.intro htel (And.intro hD (And.intro (And.intro k6 hk7) (And.intro hN (And.intro hlt7 (And.intro hK (And.intro hK64 (And.intro hP2 hbl8)))))))))
        have H8 := Lib.hid (And.intro hoT (And.intro hll7 (And.intro hN3 hNl)))
        clear h7 htel hD k6 hk7 k7 hN hlt7 hK hK64 hP2 hbl8 hoT hll7 hN3 hNl h6 hu6 hll6 hw7 hwt7 hfr7 hse hbo how hNe CD c5 c6 d1 g2
        go_wp2_with fail
        go_loopw [5, 9] (fun ov iv wr => ∃ (i : Nat) (vs' : List Value), i ≤ K ∧ iv = .int .i64 i ∧ LLs W.heap.size wr ov (datD se bo ac P2 (l8.take i)) vs' ∧ (∃ x y z, ov = .slice x y z) ∧ (∀ k, ov.ownBlock = some k → k < N ∨ w7.heap.size ≤ k) ∧ Kp (fun k => W.heap.size ≤ k ∧ k < N) w7 wr) (fun _ iv _ => K - (intOf iv).toNat)
        case atStart => exact ⟨0, vs', by omega, rfl, by rw [show datD se bo ac P2 (l8.take 0) = P2 by simp [datD]]; exact H8.out.2.1, ⟨_, _, _, rfl⟩, H8.out.2.2.1, Kp.refl _ _⟩
        case round =>
         obtain ⟨i, vs', hi, rfl, hll, ⟨x5, y5, z5, rfl⟩, hob, hk⟩ := hrel
         have hd := H7.out.1.kp hk (fun k hk ee => by have := ee.1; have := H7.out.2.2.2.2.2.1 k hk; omega)
         have hoT : OwnT N wr (.slice a8 K c8) l8 := H8.out.1.kp hk (fun g hg ee => by have := H8.out.1.lo g hg; have := ee.2; omega) (fun j g hj hg ee => by have := H8.out.1.loB j g hj hg; have := ee.2; omega)
         by_cases hlt : i < K
         · have j1 : (i : Int) < K := by omega
           have hil : i < l8.length := by rw [← H7.out.2.2.2.2.2.2.1]; exact hlt
           obtain ⟨g8, e8, hg8, d0, d1⟩ := hoT.at' hil
           have hob8 := hoT.each i hil
           obtain ⟨aB, cB, eB, hrB, hcB⟩ := hob8.form
           subst e8
           have htk : l8.take (i + 1) = l8.take i ++ [tp l8 i] := take_snoc l8 default i hil
           have hbl8 := H7.out.2.2.2.2.2.2.2.2.2 i hil
           obtain ⟨T8, hT8⟩ : ∃ T, T = tp l8 i := ⟨_, rfl⟩
           rw [← hT8] at d0 d1 eB hrB hcB htk hbl8
           obtain ⟨sq, B8, bd⟩ := T8
           dsimp only at d0 d1 eB hrB hcB hbl8
           obtain ⟨nb, hnb⟩ : ∃ nb, nb = bd.length := ⟨_, rfl⟩
           rw [← hnb] at eB hcB hbl8
           subst eB
           have CP := fun w' (k : Kp (fun _ => False) wr w') => rlput_any (hd.kp0 k) 3 (sq : Nat) (ac : Nat) aB nb cB bd hnb (hrB.kp k (fun _ _ h => h)) hcB hbl8
           dsimp only [ackT] at CP
           rw [← HSB.out.1, ← HSB.out.2.1] at CP
           have CP := Lib.hid CP
           obtain ⟨oa, oc, hov, _⟩ := hll.form
           obtain ⟨on, hon⟩ : ∃ on, on = (datD se bo ac P2 (l8.take i)).length := ⟨_, rfl⟩
           rw [← hon] at hov
           simp only [Value.slice.injEq] at hov
           obtain ⟨hv1, hv2, hv3⟩ := hov
           subst hv1 hv3
           have hv2 := hv2.symm
           subst hv2
           have hsz : W.heap.size ≤ wr.heap.size := by have := hk.size; have := H7.out.2.2.2.2.1; omega
           have hK64 : l8.length ≤ 64 := H7.out.2.2.2.2.2.2.2.1
           have hob' : ∀ k, (Value.slice x5 on z5).ownBlock = some k → k < N ∨ w7.heap.size ≤ k := hob
           have HX := Lib.hid (And.intro hll (And.intro hk (And.intro htk (And.intro hsz (And.intro hob' (And.intro hK64 P2L))))))
           have HON := Lib.hid hon
           have HI := Lib.hid (show i + 1 ≤ K from hlt)
           have HT8 := Lib.hid (And.intro hT8 hnb)
           clear hll hk htk hsz hon hob hob' hT8 hnb hoT hob8 hd hil hK64 hrB hcB hbl8 hg8
           go_upto_region 23 with fail
           refine region_L (S := fun w' => Kp (fun _ => False) wr w') [13] rfl ?_
           have hSd : ∀ (w' : World) (n' : Nat), Kp (fun _ => False) wr w' → Kp (fun _ => False) wr (w'.drewN n') := fun w' n' h => h.drewN n'
           have hS0 : Kp (fun _ => False) wr wr.drew := (Kp.refl _ wr).drew
           refine anyL_world (fun w' => Kp (fun _ => False) wr w') hS0 ?_
           clear hS0
           intro z0 kz0
           refine tF 0 115 (.slice x5 on z5) rfl rfl hSd (fun _ => kz0) ?_
           try simp only [sC]
           refine tF 1 116 (.pointer (some ⟨r, 0, none⟩)) rfl rfl hSd (fun _ => kz0) ?_
           try simp only [sC]
           refine tF 2 117 (.slice (some ⟨g8, 0, none⟩) K c8) rfl rfl hSd (fun _ => kz0) ?_
           try simp only [sC]
           refine tF 3 118 (.int .i64 i) rfl rfl hSd (fun _ => kz0) ?_
           try simp only [sC]
           refine tF 4 119 (.pointer (some ⟨g8, i * 2, none⟩)) rfl rfl hSd (fun _ => kz0) ?_
           try simp only [sC]
           refine tF 5 120 (.pointer (some ⟨g8, i * 2, none⟩)) rfl rfl hSd (fun _ => kz0) ?_
           try simp only [sC]
           refine tD 6 121 (.int .i64 (sq : Nat)) rfl rfl hSd (.inl (.inl ⟨rfl, fun w' hS => by have h := hS.cell d0 (fun h => h); go_simp⟩)) kz0 ?_
           try simp only [sC]
           refine tF 7 122 (.int .i64 ac) rfl rfl hSd (fun _ => kz0) ?_
           try simp only [sC]
           refine tF 8 123 (.slice (some ⟨g8, 0, none⟩) K c8) rfl rfl hSd (fun _ => kz0) ?_
           try simp only [sC]
           refine tF 9 124 (.int .i64 i) rfl rfl hSd (fun _ => kz0) ?_
           try simp only [sC]
           refine tF 10 125 (.pointer (some ⟨g8, i * 2, none⟩)) rfl rfl hSd (fun _ => kz0) ?_
           try simp only [sC]
           refine tF 11 126 (.pointer (some ⟨g8, i * 2 + 1, none⟩)) rfl rfl hSd (fun _ => kz0) ?_
           try simp only [sC]
           refine tD 12 127 (.slice aB nb cB) rfl rfl hSd (.inl (.inl ⟨rfl, fun w' hS => by have h := hS.cell d1 (fun h => h); go_simp⟩)) kz0 ?_
           try simp only [sC]
           refine tA 13 ?_
           intro n11
           have kzz := kz0.drewN n11
           generalize z0.drewN n11 = zz at *
           refine wpOp_of rfl rfl ?_
           go_simp
           refine Calls.mono (CP.out zz kzz) ?_
           rintro e w5p ⟨u, rfl, hu, hug, k5⟩
           have kk5 : Kp (fun _ => False) wr w5p := kzz.trans k5
           have hz5 := kzz.size
           clear k5 kzz
           obtain ⟨ua, ul, uc, eu⟩ : ∃ a n c, u = .slice a n c := by obtain ⟨a, c, e, _⟩ := hu.form; exact ⟨_, _, _, e⟩
           subst eu
           try dsimp only
           refine ⟨fun h => Bool.noConfusion (show false = true from h), ?_⟩
           try simp only [sC]
           refine tA 14 ?_
           intro n12
           refine wpOp_of rfl rfl ?_
           go_simp
           try dsimp only
           refine ⟨fun h => Bool.noConfusion (show false = true from h), ?_⟩
           try rw [show (w5p.drewN n12).heap.size = w5p.heap.size from rfl]
           try simp only [sC]
           refine anyL_world (fun wx => At wx w5p.heap.size [.slice ua ul uc] ∧ Kp (fun _ => False) w5p wx) ⟨At.new (w5p.drewN n12) [.slice ua ul uc] _, ((Kp.refl _ w5p).drewN n12).alloc _⟩ ?_
           rintro z7 ⟨hat7, k7⟩
           obtain ⟨gr, egr⟩ : ∃ g, g = w5p.heap.size := ⟨_, rfl⟩
           rw [← egr] at hat7 ⊢
           clear egr
           refine tA 15 ?_
           intro n13
           have k7n := k7.drewN n13
           have hat7 := hat7.drewN n13
           generalize z7.drewN n13 = z8 at *
           have hs7 := k7n.size
           obtain ⟨a9, c9, w9, hr9, hll9, hb9, k9⟩ := app_any ((HX.out.1.kp0 kk5).kp0 k7n) hat7 (hu.kp k7n (fun _ _ h => h)) (fun k hk => by
            have h1 := hug k hk
            refine ⟨fun ee => ?_, ?_, fun j hj ee => ?_⟩
            · have := HX.out.1.own.lt k ee; omega
            · have := HX.out.2.2.2.1; omega
            · have := HX.out.1.ltE hj ee; omega) (by have := HX.out.2.2.2.1; have := kk5.size; omega) (by have h := datD_len se bo ac P2 (l8.take i); rw [List.length_take] at h; have := HX.out.2.2.2.2.2; omega)
           refine wpOp_of rfl rfl ?_
           rw [← HON.out] at hr9
           refine wp_append_rw hr9 rfl rfl rfl ?_
           refine ⟨fun h => Bool.noConfusion (show false = true from h), ?_⟩
           try simp only [sC]
           refine tF 16 5 (.slice a9 (on + 1) c9) rfl rfl hSd (fun h => Bool.noConfusion (show false = true from h)) ?_
           try simp only [sC]
           refine anyL_done (by kernel_rfl) (fun nn => ?_) _
           have kw9 : Kp (fun _ => False) w9 (w9.drewN nn) := (Kp.refl _ w9).drewN nn
           generalize w9.drewN nn = w10 at *
           rw [← HON.out] at hll9 hb9
           have k59 : Kp (fun _ => False) wr z8 := kk5.trans k7n
           have k510 : Kp (fun k => (Value.slice x5 on z5).ownBlock = some k) wr w10 := ((k59.mono (fun _ _ h => h.elim)).trans k9).trans (kw9.mono (fun _ _ h => h.elim))
           have hs59 := k59.size
           have H9 := Lib.hid (And.intro (hll9.kp0 kw9) (And.intro k510 (And.intro hb9 hs59)))
           clear hSd kz0 kk5 hz5 hu hug k7 k7n hat7 hs7 hr9 hll9 hb9 k9 kw9 k510 k59 hs59 d0 d1 CP
           go_wp2_with fail
           go_roundw
           case rel =>
            obtain ⟨q1, q2, q3, q4⟩ := H9.out
            have hwr := HX.out.2.1.size
            refine ⟨i + 1, _, HI.out, by go_num, q1.cast (by rw [HX.out.2.2.1, datD_snoc]), ⟨_, _, _, rfl⟩, fun k hk => ?_, HX.out.2.1.then q2 (fun k hk ee => ?_)⟩
            · rcases q3 k hk with h | h
              · exact HX.out.2.2.2.2.1 k h
              · exact .inr (by omega)
            · rcases HX.out.2.2.2.2.1 k ee with h | h
              · exact ⟨HX.out.1.ge k ee, h⟩
              · omega
           case measure =>
            have := HI.out
            simp [intOf]
            omega
         · obtain rfl : i = K := by omega
           have htk : l8.take i = l8 := by rw [H7.out.2.2.2.2.2.2.1, List.take_length]
           rw [htk] at hll
           have c7 : wr.cell? ⟨r, 7, none⟩ = some (.bool ow) := by rw [HSB.out.2.2.1]; exact hd.hat.cell 7
           have f7 := hd.hat.frozen 7
           obtain ⟨oa, oc, hov, _⟩ := hll.form
           simp only [Value.slice.injEq] at hov
           have HE := Lib.hid (And.intro hd (And.intro hll hk))
           have hwr := hk.size
           have hWr : W.heap.size ≤ wr.heap.size := by have := H7.out.2.2.2.2.1; omega
           clear hd hll hk htk hoT hob hov
           obtain ⟨qb, hqb⟩ : ∃ q, q = (decide (i = 0) && ow) := ⟨_, rfl⟩
           have HQ := Lib.hid hqb
           clear hqb
           go_upto_region 24 with fail
           go_cut [139] (fun cv wx => cv = .bool qb ∧ wr = wx)
           case first =>
            by_cases hi0 : i = 0
            · have HI0 := Lib.hid hi0
              have jz : ((i : Int) == 0) = true := by simp [hi0]
              clear hi0
              cases ow
              · go_wp2_with fail
                go_meet
                exact ⟨by rw [HQ.out, HI0.out]; rfl, rfl⟩
              · go_wp2_with fail
                go_meet
                exact ⟨by rw [HQ.out, HI0.out]; rfl, rfl⟩
            · have HI0 := Lib.hid hi0
              have jz : ((i : Int) == 0) = false := by simp; omega
              clear hi0
              go_wp2_with fail
              go_meet
              exact ⟨by rw [HQ.out, decide_eq_false HI0.out]; rfl, rfl⟩
           case rest =>
           obtain ⟨rfl, rfl⟩ := hcut
           go_upto_if 139 with fail
           go_cut [5] (fun ov wx => ∃ vs, LLs W.heap.size wx ov (if (decide (i = 0) && ow) = true then datD se bo ac P2 l8 ++ [layF ⟨4, (se : Nat), (bo : Nat), 0, (ac : Nat), []⟩] else datD se bo ac P2 l8) vs ∧ (∃ x y z, ov = .slice x y z) ∧ Kp (fun k => W.heap.size ≤ k) wr wx)
           case first =>
            cases qb
            · go_wp2_with fail
              go_meet
              exact ⟨_, HE.out.2.1.cast (by rw [if_neg (by rw [← HQ.out]; decide)]), ⟨_, _, _, rfl⟩, Kp.refl _ _⟩
            · have CP := Lib.hid (rlput_any HE.out.1 4 0 (ac : Nat) none 0 0 [] rfl (RdB.nil _ none) (Nat.le_refl 0) (by omega))
              go_wp2_with fail
              go_at_call 43
              refine CP.out.mono ?_
              rintro e1 w3 ⟨u, rfl, hu, hug, k3⟩
              have hll3 := HE.out.2.1.kp0 k3
              obtain ⟨w4, hw4⟩ : ∃ w4, w4 = w3.alloc (.cells #[u] 32) := ⟨_, rfl⟩
              have k4 : Kp (fun _ => False) w3 w4 := by rw [hw4]; exact (Kp.refl _ w3).alloc _
              have hat4 : At w4 w3.heap.size [u] := by rw [hw4]; exact At.new w3 [u] _
              have hs3 := k3.size
              have hs4 := k4.size
              have hsW : W.heap.size ≤ wr.heap.size := hWr
              obtain ⟨ua, uc, eu, _⟩ := hu.form
              subst eu
              obtain ⟨a5, c5, w5, hr5, hll5, hb5, k5⟩ := app_any (hll3.kp0 k4) hat4 (hu.kp k4 (fun _ _ h => h)) (fun k hk => by
               have h1 := hug k hk
               refine ⟨fun ee => ?_, by omega, fun i hi ee => ?_⟩
               · have := HE.out.2.1.own.lt k ee; omega
               · have := HE.out.2.1.ltE hi ee; omega) (by omega) (by have h := datD_len se bo ac P2 l8; have := H7.out.2.2.2.2.2.2.2.1; omega)
              rw [hw4] at hr5
              have HR5 := Lib.hid hr5
              have H5 := Lib.hid (And.intro hll5 (And.intro k3 (And.intro k4 (And.intro k5 hb5))))
              clear hu hug k3 hll3 hw4 k4 hat4 hs3 hs4 hsW hr5 hll5 hb5 k5 CP
              go_wp2_with (at_builtin; refine wpList_append_run _ HR5.out rfl rfl rfl rfl ?_)
              go_meet
              obtain ⟨hll5, k3, k4, k5, hb5⟩ := H5.out
              dsimp only [ackT] at hll5
              rw [← HSB.out.1, ← HSB.out.2.1] at hll5
              exact ⟨_, hll5.cast (by rw [if_pos HQ.out.symm]), ⟨_, _, _, rfl⟩, ((k3.trans k4).mono (fun _ _ h => h.elim)).trans (k5.mono (fun i _ ee => HE.out.2.1.ge i ee))⟩
           case rest =>
            obtain ⟨vs9, hll9, ⟨x9, y9, z9, rfl⟩, k9⟩ := hcut
            obtain ⟨w9, hw9⟩ : ∃ w9, w9 = wc := ⟨_, rfl⟩
            rw [← hw9] at hll9 k9 ⊢
            have h9 := HE.out.1.kp k9 (fun k hk ee => by have ee : W.heap.size ≤ k := ee; have := H7.out.2.2.2.2.2.1 k hk; omega)
            have f79 := h9.hat.frozen 7
            have c79 : w9.cell? ⟨r, 7, none⟩ = some (.bool ow) := by rw [HSB.out.2.2.1]; exact h9.hat.cell 7
            have H9 := Lib.hid (And.intro h9 (And.intro hll9 k9))
            clear hw9 h9 hll9 k9 c7 f7
            go_wp2_with fail
            go_ret
            obtain ⟨h9, hll9, k9⟩ := H9.out
            obtain ⟨h7, htel, hD, ⟨hk6, hk7⟩, hN, hlt7, hK, hK64, hPe, _⟩ := H7.out
            have h10 := h9.set7 false
            refine ⟨_, rfl, _, _, { tikF (tikE e sy now) with D := D' }, hll9.kpB (kp_set _ _ _ _) (fun k ee => by have ee : k = r := ee; have := H.out.1.hat.lt; omega), ⟨rfl, rfl, rfl, rfl, rfl, rfl⟩, fun t' k hk => ?_, ?_, .inr ⟨HS2.out, l8, htel, ?_, h10⟩⟩
            · rcases hk with hk | hk | ⟨hq, hk | hk⟩
              · exact .inl hk
              · cases hk
              · exact .inr (.inr ⟨hq, .inl ((hD k).1 hk)⟩)
              · exact .inr (.inr ⟨hq, .inr hk⟩)
            · have ka : Kp (RlF r t e) W w7 := (hk6.mono (fun i _ ee => .inl ee)).trans (hk7.mono (fun i _ ee => .inr (.inr ⟨HS2.out, .inl ee⟩)))
              exact ((ka.then HE.out.2.2 (fun k hk ee => by have := ee.1; omega)).then k9 (fun k hk ee => by have ee : W.heap.size ≤ k := ee; omega)).trans ((kp_set _ _ _ _).mono (fun i _ ee => .inl ee))
            · unfold dueD
              rw [← hK, ← hPe, ← HSB.out.1, ← HSB.out.2.1, ← HSB.out.2.2.1, ← HSB.out.2.2.2]
              simp only [Bool.and_eq_true, decide_eq_true_eq]
              by_cases q : i = 0 ∧ ow = true
              · have e8 : l8 = [] := List.eq_nil_of_length_eq_zero (by omega)
                rw [if_pos q, if_pos q, e8]
                simp [datD]
              · rw [if_neg q, if_neg q]
      · have j2 : ((st : Int) != 2) = true := by simp; omega
        have HS2 := Lib.hid (show ¬ t.st = 2 by rw [← H.out.2.2.2.2]; exact hs2)
        clear hs2
        go_wp2_with fail
        go_ret
        refine ⟨_, rfl, _, _, _, H6.out.2.1, ⟨rfl, rfl, rfl, rfl, rfl, rfl⟩, fun t' k hk => ?_, H6.out.2.2.mono (fun i _ ee => .inl ee), .inl ⟨HS2.out, rfl, H6.out.1⟩⟩
        exact hk.imp_right (fun hk => hk.elim (fun e => by cases e) .inr)
end
end Go.Proofs.YtokembhfebnjpaaGreat
