/- The document's link: what a Data or an Ack tells. (Written by wip/rln.py.) -/
import Derived.Test.YtokembhfebnjpaaGreatQFrmPM
import Derived.Test.YtokembhfebnjpaaGreatQFrmJM
import Derived.Test.YtokembhfebnjpaaGreatQRwAM
import Derived.Test.YtokembhfebnjpaaGreatQLnXM
import Derived.Test.YtokembhfebnjpaaGreatQRlR
namespace Go.Proofs.YtokembhfebnjpaaGreat
set_option maxRecDepth 20000
open Go.RowKit Flt
set_option linter.unusedVariables false
set_option linter.unusedSimpArgs false
section
variable {W : World} {r : Nat} {t : Tk} {e : Dl}
theorem RlU.ack {W' : World} {x' : Wn} {v' : Value} {D' : List Dr} (hu : RlU W r t e) (hw : RwC W' e.dw x' v' D') (hfr : ∀ k, RwF e.dw v' D' k → RwF e.dw e.dv e.D k) (hwt : ∀ i, i < D'.length → (dr D' i).att ≤ 2147483647 ∧ (dr D' i).wt ≤ 60) (k : Kp (· = e.dw) W W') : RlU W' r (ackT t x') { e with dv := v', D := D' } :=
 ⟨hu.wv, hu.xv, hw, hwt, hu.inb.kp k (fun g hg ee => hu.ap g (.inl ee) hg), hu.fn, hu.got, fun hk => hu.oW (hfr _ hk), hu.oX, fun k hk => hu.ap k (hfr k hk), fun g hg => ⟨fun hk => (hu.rW g hg).1 (hfr g hk), (hu.rW g hg).2⟩⟩
theorem RlC.ack {W' : World} {x' : Wn} {v' : Value} {D' : List Dr} (h : RlC W r t e) (hst : t.st = 2) (hw : RwC W' e.dw x' v' D') (hfr : ∀ k, RwF e.dw v' D' k → RwF e.dw e.dv e.D k) (hwt : ∀ i, i < D'.length → (dr D' i).att ≤ 2147483647 ∧ (dr D' i).wt ≤ 60) (k : Kp (· = e.dw) W W') : RlC W' r (ackT t x') { e with dv := v', D := D' } :=
 have hu := h.up hst
 ⟨k.at h.hat (fun ee => hu.oW (by have ee : r = e.dw := ee; exact .inl ee)), fun _ => hu.ack hw hfr hwt k, h.res.kp k (fun g hg ee => (hu.rW g hg).1 (.inl ee)), h.rr, h.rl⟩
theorem RlU.take {W' : World} {iv' : Value} {n' : Nat} {L' : List (Nat × Value)} {f' : Bodies} {G' : Nat → Prop} (hu : RlU W r t e) (hi : RefC W' e.dx iv' t.sz n' L' f' G') (hfn : f' n' = none) (hn : 1 ≤ n') (hG : ∀ g, G' g → e.G g ∨ W.heap.size ≤ g) (k : Kp e.G W W') (hr : r < W.heap.size) (hrv : ∀ g, e.rv.ownBlock = some g → g < W.heap.size) :
 RlU W' r { t with i := { t.i with f := f', n := n' } } { e with iv := iv', L := L', G := G', got := n' - 1 } :=
 ⟨hu.wv, hu.xv, hu.win.kp k (fun g hg => hu.ap g hg), hu.wt, hi, hfn, by show n' - 1 + 1 = n'; omega, hu.oW, fun hk => (hG _ hk).elim hu.oX (fun ee => by omega), fun j hj hk => (hG j hk).elim (hu.ap j hj) (fun ee => by have := hu.win.lt j hj; omega), fun g hg => ⟨(hu.rW g hg).1, fun hk => (hG g hk).elim (hu.rW g hg).2 (fun ee => by have := hrv g hg; omega)⟩⟩
theorem wt_drop {D : List Dr} (h : ∀ i, i < D.length → (dr D i).att ≤ 2147483647 ∧ (dr D i).wt ≤ 60) (k : Nat) : ∀ i, i < (D.drop k).length → (dr (D.drop k) i).att ≤ 2147483647 ∧ (dr (D.drop k) i).wt ≤ 60 := fun i hi => by
 rw [List.length_drop] at hi
 rw [dr_drop]
 exact h _ (by omega)
theorem rwack_yes {w : World} {b : Nat} {x : Wn} {v : Value} {D : List Dr} (h : RwC w b x v D) (hx : Wf x) (n now : Int) (hb : ackB x n now = true) :
 Calls Tryz.prog 78 #[.pointer (some ⟨b, 0, none⟩), .int .i64 n, .int .i64 now] w fun e w' => ∃ k v' D', e = .returned (.tuple #[.int .i64 (k : Nat), .int .i64 0]) ∧ (∀ V', RwC w' b (ackX x n now V') v' D') ∧ (∀ k, RwF b v' D' k → RwF b v D k) ∧ (∃ j, D' = D.drop j) ∧ Kp (· = b) w w' := by
 unfold ackB at hb
 simp only [Bool.and_eq_true, decide_eq_true_eq] at hb
 obtain ⟨⟨h1, h2⟩, h3⟩ := hb
 have h4 := timeB_yes h3
 obtain ⟨n', rfl⟩ := Int.eq_ofNat_of_zero_le h1
 obtain ⟨tt, rfl⟩ := Int.eq_ofNat_of_zero_le h4.1
 refine (rwack_ok h hx n' tt (by omega) (by omega)).mono ?_
 rintro e w' ⟨h5, v', h6, h7, h8⟩
 exact ⟨_, v', _, h5, fun V' => h6.same rfl rfl rfl rfl rfl rfl, h7, ⟨_, rfl⟩, h8⟩
set_option maxHeartbeats 2000000 in
theorem rlnews_bad (h : RlC W r t e) (hst : t.st = 2) (hx : t.i.x.now ≤ 2147483647) (f : Fr) (a : Option Addr) (c : Nat) (now : Int) (hb : ackB t.i.x f.ac now = false) :
 Calls Tryz.prog 69 #[.pointer (some ⟨r, 0, none⟩), .agg (frA f a c), .int .i64 now] W fun e1 w' => e1 = .returned (.tuple #[.slice none 0 0, .int .i64 5]) ∧ RlC w' r t e ∧ Kp (RlF r t e) W w' := by
 obtain ⟨bx, w1, hbx, hw1, k1, ab⟩ := frame_box f a c W
 have hu := h.up hst
 have C := Lib.hid (fun w' (k : Kp (fun _ => False) w1 w') => rwack_bad (hu.win.kp0 (k1.trans k)) f.ac now hb hx)
 have c5 : w1.cell? ⟨r, 5, none⟩ = some (.pointer (some ⟨e.dw, 0, none⟩)) := by rw [← hu.wv]; exact k1.cell (h.hat.cell 5) (fun h => h)
 have b4 : w1.cell? ⟨bx, 4, none⟩ = some (.int .i64 f.ac) := ab.cell 4
 have hgl : e.dw < bx := by rw [hbx]; exact hu.win.hat.lt
 have hol : r < bx := by rw [hbx]; exact h.hat.lt
 have HH := Lib.hid (And.intro h (And.intro hst (And.intro hb (And.intro k1 ab))))
 have HBX := Lib.hid hbx
 obtain ⟨ty, se, bo, sq, ac, bd⟩ := f
 dsimp only [frA] at *
 generalize hnb : bd.length = nb at *
 have HNB := Lib.hid hnb
 obtain ⟨g, hg⟩ : ∃ g, g = e.dw := ⟨_, rfl⟩
 rw [← hg] at c5 C hgl
 have HG := Lib.hid hg
 clear h hu ab k1 hb hst hnb hg hx
 go_enter Tryz.func69, Tryz.ntmps69
 go_upto_region 1 with fail
 rw [← hbx, ← hw1]
 clear hbx hw1
 refine region_L (S := fun w' => Kp (fun _ => False) w1 w') [7] rfl ?_
 have hSd : ∀ (w' : World) (n' : Nat), Kp (fun _ => False) w1 w' → Kp (fun _ => False) w1 (w'.drewN n') := fun w' n' h => h.drewN n'
 have hS0 : Kp (fun _ => False) w1 w1.drew := (Kp.refl _ w1).drew
 refine anyL_world (fun w' => Kp (fun _ => False) w1 w') hS0 ?_
 clear hS0
 intro z0 kz0
 refine tF 0 13 (.pointer (some ⟨r, 0, none⟩)) rfl rfl hSd (fun _ => kz0) ?_
 try simp only [sC]
 refine tF 1 14 (.pointer (some ⟨r, 0, none⟩)) rfl rfl hSd (fun _ => kz0) ?_
 try simp only [sC]
 refine tF 2 15 (.pointer (some ⟨r, 5, none⟩)) rfl rfl hSd (fun _ => kz0) ?_
 try simp only [sC]
 refine tD 3 16 (.pointer (some ⟨g, 0, none⟩)) rfl rfl hSd (.inl (.inl ⟨rfl, fun w' hS => by have h := hS.cell c5 (fun h => h); go_simp⟩)) kz0 ?_
 try simp only [sC]
 refine tF 4 17 (.pointer (some ⟨bx, 4, none⟩)) rfl rfl hSd (fun _ => kz0) ?_
 try simp only [sC]
 refine tD 5 18 (.int .i64 ac) rfl rfl hSd (.inl (.inl ⟨rfl, fun w' hS => by have h := hS.cell b4 (fun h => h); go_simp⟩)) kz0 ?_
 try simp only [sC]
 refine tF 6 19 (.int .i64 now) rfl rfl hSd (fun _ => kz0) ?_
 try simp only [sC]
 refine tA 7 ?_
 intro n11
 refine wpOp_of rfl rfl ?_
 go_simp
 refine Calls.mono (C.out (z0.drewN n11) (kz0.drewN n11)) ?_
 rintro e w8p ⟨rfl, hwc, kk0⟩
 have kkz : Kp (fun k => k = g) w1 w8p := ((kz0.drewN n11).mono (fun _ _ h => h.elim)).trans kk0
 clear kk0
 try dsimp only
 refine ⟨fun h => Bool.noConfusion (show false = true from h), ?_⟩
 try simp only [sC]
 refine tF 8 12 (.tuple #[.int .i64 0, .int .i64 5]) rfl rfl hSd (fun h => Bool.noConfusion (show false = true from h)) ?_
 try simp only [sC]
 refine tF 9 21 (.int .i64 0) rfl rfl hSd (fun h => Bool.noConfusion (show false = true from h)) ?_
 try simp only [sC]
 refine tF 10 22 (.int .i64 5) rfl rfl hSd (fun h => Bool.noConfusion (show false = true from h)) ?_
 try simp only [sC]
 refine tF 11 8 (.int .i64 0) rfl rfl hSd (fun h => Bool.noConfusion (show false = true from h)) ?_
 try simp only [sC]
 refine tF 12 9 (.int .i64 5) rfl rfl hSd (fun h => Bool.noConfusion (show false = true from h)) ?_
 try simp only [sC]
 refine anyL_done (by kernel_rfl) (fun nn => ?_) _
 have kw8 : Kp (fun _ => False) w8p (w8p.drewN nn) := (Kp.refl _ w8p).drewN nn
 generalize w8p.drewN nn = w8 at *
 clear hSd kz0
 have kg8 : Kp (fun k => k = e.dw) W w8 := by rw [← HG.out]; exact (HH.out.2.2.2.1.mono (fun _ _ h => h.elim)).trans (kkz.trans (kw8.mono (fun _ _ h => h.elim)))
 have hr8 : RlC w8 r t e := HH.out.1.ack HH.out.2.1 (by rw [← HG.out]; exact hwc.kp0 kw8) (fun _ hk => hk) (HH.out.1.up HH.out.2.1).wt kg8
 have H8 := Lib.hid (And.intro hr8 kg8)
 clear kw8 kkz hwc hr8 kg8 c5 b4 C
 go_wp2_with fail
 go_ret2
 exact ⟨rfl, H8.out.1, H8.out.2.mono (fun i _ ee => .inr (.inr ⟨HH.out.2.1, .inl (.inl ee)⟩))⟩
set_option maxHeartbeats 2000000 in
theorem rlnews_ack (h : RlC W r t e) (hst : t.st = 2) (hx : Wf t.i.x) (f : Fr) (a : Option Addr) (c : Nat) (now : Int) (hb : ackB t.i.x f.ac now = true) (hty : f.ty = 4) :
 Calls Tryz.prog 69 #[.pointer (some ⟨r, 0, none⟩), .agg (frA f a c), .int .i64 now] W fun e1 w' => e1 = .returned (.tuple #[.slice none 0 0, .int .i64 0]) ∧ ∃ e', Ke e e' ∧ (∀ V', RlC w' r (ackT t (ackX t.i.x f.ac now V')) e') ∧ (∀ t', t'.st = 2 → ∀ k, RlF r t' e' k → RlF r t e k ∨ W.heap.size ≤ k) ∧ Kp (RlF r t e) W w' := by
 obtain ⟨bx, w1, hbx, hw1, k1, ab⟩ := frame_box f a c W
 have hu := h.up hst
 have C := Lib.hid (fun w' (k : Kp (fun _ => False) w1 w') => rwack_yes (hu.win.kp0 (k1.trans k)) hx f.ac now hb)
 have c5 : w1.cell? ⟨r, 5, none⟩ = some (.pointer (some ⟨e.dw, 0, none⟩)) := by rw [← hu.wv]; exact k1.cell (h.hat.cell 5) (fun h => h)
 have b4 : w1.cell? ⟨bx, 4, none⟩ = some (.int .i64 f.ac) := ab.cell 4
 have hgl : e.dw < bx := by rw [hbx]; exact hu.win.hat.lt
 have hol : r < bx := by rw [hbx]; exact h.hat.lt
 have HH := Lib.hid (And.intro h (And.intro hst (And.intro hb (And.intro k1 ab))))
 have HBX := Lib.hid hbx
 obtain ⟨ty, se, bo, sq, ac, bd⟩ := f
 dsimp only [frA] at *
 generalize hnb : bd.length = nb at *
 have HNB := Lib.hid hnb
 obtain ⟨g, hg⟩ : ∃ g, g = e.dw := ⟨_, rfl⟩
 rw [← hg] at c5 C hgl
 have HG := Lib.hid hg
 have HTY := Lib.hid hty
 clear hty h hu ab k1 hb hst hnb hg hx
 go_enter Tryz.func69, Tryz.ntmps69
 go_upto_region 1 with fail
 rw [← hbx, ← hw1]
 clear hbx hw1
 refine region_L (S := fun w' => Kp (fun _ => False) w1 w') [7] rfl ?_
 have hSd : ∀ (w' : World) (n' : Nat), Kp (fun _ => False) w1 w' → Kp (fun _ => False) w1 (w'.drewN n') := fun w' n' h => h.drewN n'
 have hS0 : Kp (fun _ => False) w1 w1.drew := (Kp.refl _ w1).drew
 refine anyL_world (fun w' => Kp (fun _ => False) w1 w') hS0 ?_
 clear hS0
 intro z0 kz0
 refine tF 0 13 (.pointer (some ⟨r, 0, none⟩)) rfl rfl hSd (fun _ => kz0) ?_
 try simp only [sC]
 refine tF 1 14 (.pointer (some ⟨r, 0, none⟩)) rfl rfl hSd (fun _ => kz0) ?_
 try simp only [sC]
 refine tF 2 15 (.pointer (some ⟨r, 5, none⟩)) rfl rfl hSd (fun _ => kz0) ?_
 try simp only [sC]
 refine tD 3 16 (.pointer (some ⟨g, 0, none⟩)) rfl rfl hSd (.inl (.inl ⟨rfl, fun w' hS => by have h := hS.cell c5 (fun h => h); go_simp⟩)) kz0 ?_
 try simp only [sC]
 refine tF 4 17 (.pointer (some ⟨bx, 4, none⟩)) rfl rfl hSd (fun _ => kz0) ?_
 try simp only [sC]
 refine tD 5 18 (.int .i64 ac) rfl rfl hSd (.inl (.inl ⟨rfl, fun w' hS => by have h := hS.cell b4 (fun h => h); go_simp⟩)) kz0 ?_
 try simp only [sC]
 refine tF 6 19 (.int .i64 now) rfl rfl hSd (fun _ => kz0) ?_
 try simp only [sC]
 refine tA 7 ?_
 intro n11
 refine wpOp_of rfl rfl ?_
 go_simp
 refine Calls.mono (C.out (z0.drewN n11) (kz0.drewN n11)) ?_
 rintro e w8p ⟨kN, v', D', rfl, hwc, hfr, hD, kk0⟩
 have kkz : Kp (fun k => k = g) w1 w8p := ((kz0.drewN n11).mono (fun _ _ h => h.elim)).trans kk0
 clear kk0
 try dsimp only
 refine ⟨fun h => Bool.noConfusion (show false = true from h), ?_⟩
 try simp only [sC]
 refine tF 8 12 (.tuple #[.int .i64 ((kN : Nat) : Int), .int .i64 0]) rfl rfl hSd (fun h => Bool.noConfusion (show false = true from h)) ?_
 try simp only [sC]
 refine tF 9 21 (.int .i64 ((kN : Nat) : Int)) rfl rfl hSd (fun h => Bool.noConfusion (show false = true from h)) ?_
 try simp only [sC]
 refine tF 10 22 (.int .i64 0) rfl rfl hSd (fun h => Bool.noConfusion (show false = true from h)) ?_
 try simp only [sC]
 refine tF 11 8 (.int .i64 ((kN : Nat) : Int)) rfl rfl hSd (fun h => Bool.noConfusion (show false = true from h)) ?_
 try simp only [sC]
 refine tF 12 9 (.int .i64 0) rfl rfl hSd (fun h => Bool.noConfusion (show false = true from h)) ?_
 try simp only [sC]
 refine anyL_done (by kernel_rfl) (fun nn => ?_) _
 have kw8 : Kp (fun _ => False) w8p (w8p.drewN nn) := (Kp.refl _ w8p).drewN nn
 generalize w8p.drewN nn = w8 at *
 clear hSd kz0
 have kg8 : Kp (fun k => k = e.dw) W w8 := by rw [← HG.out]; exact (HH.out.2.2.2.1.mono (fun _ _ h => h.elim)).trans (kkz.trans (kw8.mono (fun _ _ h => h.elim)))
 have hwt8 : ∀ i, i < D'.length → (dr D' i).att ≤ 2147483647 ∧ (dr D' i).wt ≤ 60 := by
  obtain ⟨j, rfl⟩ := hD
  exact wt_drop (HH.out.1.up HH.out.2.1).wt j
 have hr8 : ∀ V', RlC w8 r (ackT t (ackX t.i.x ac now V')) { e with dv := v', D := D' } := fun V' => HH.out.1.ack HH.out.2.1 (by rw [← HG.out]; exact (hwc V').kp0 kw8) (by rw [← HG.out]; exact hfr) hwt8 kg8
 have hfr8 : ∀ k, RwF e.dw v' D' k → RwF e.dw e.dv e.D k := by rw [← HG.out]; exact hfr
 have ab8 := (kkz.trans (kw8.mono (fun _ _ h => h.elim))).at HH.out.2.2.2.2 (fun e => by have e : bx = g := e; omega)
 have b0 : w8.cell? ⟨bx, 0, none⟩ = some (.int .i64 ty) := ab8.cell 0
 have H8 := Lib.hid (And.intro hr8 (And.intro kg8 (And.intro hfr8 ab8)))
 clear kw8 kkz hwc hfr hr8 kg8 c5 b4 C hwt8 hfr8 ab8 hD
 have hty := HTY.out
 subst hty
 go_wp2_with fail
 go_ret2
 exact ⟨rfl, { e with dv := v', D := D' }, ⟨rfl, rfl, rfl, rfl, rfl, rfl⟩, H8.out.1, fun t' ht' k hk => by
  rcases hk with hk | hk | ⟨_, hk | hk⟩
  · exact .inl (.inl hk)
  · exact .inl (.inr (.inl hk))
  · exact .inl (.inr (.inr ⟨HH.out.2.1, .inl (H8.out.2.2.1 k hk)⟩))
  · exact .inl (.inr (.inr ⟨HH.out.2.1, .inr hk⟩)), H8.out.2.1.mono (fun i _ ee => .inr (.inr ⟨HH.out.2.1, .inl (.inl ee)⟩))⟩
set_option maxHeartbeats 2000000 in
theorem rlnews_take (h : RlC W r t e) (hst : t.st = 2) (hx : Wf t.i.x) (f : Fr) (a : Option Addr) (c : Nat) (now : Int) (hb : ackB t.i.x f.ac now = true) (hty : f.ty = 3) (hsq : -9223372036854775808 ≤ f.sq ∧ f.sq ≤ 9223372036854775807) (hr : RdB W a f.bd) (hbl : f.bd.length ≤ 1000000000) (hoff : ∀ y, a = some y → ¬ RlF r t e y.block) :
 Calls Tryz.prog 69 #[.pointer (some ⟨r, 0, none⟩), .agg (frA f a c), .int .i64 now] W fun e1 w' => ∃ n' vo vs e', e1 = .returned (.tuple #[vo, .int .i64 0]) ∧ Ke e e' ∧ (∀ V' hd' F', RlC w' r (takeT t (ackX t.i.x f.ac now V') (nf t.i.f t.i.n t.sz f.sq f.bd) n' hd' F') e') ∧
  nf t.i.f t.i.n t.sz f.sq f.bd n' = none ∧ t.i.n ≤ n' ∧ n' ≤ t.i.n + t.sz ∧ vs.length = n' - t.i.n ∧ Own w' vo (n' - t.i.n) 1 vs ∧ (∀ i, i < vs.length → ∃ y, nf t.i.f t.i.n t.sz f.sq f.bd (t.i.n + i) = some y ∧ OwnB w' (vs.getD i undef) y) ∧ (∀ t', t'.st = 2 → ∀ k, RlF r t' e' k → RlF r t e k ∨ W.heap.size ≤ k) ∧ Kp (RlF r t e) W w' := by
 obtain ⟨bx, w1, hbx, hw1, k1, ab⟩ := frame_box f a c W
 have hu := h.up hst
 have HRB := Lib.hid (And.intro (hr.kp k1 (fun _ _ h => h)) (And.intro hsq (And.intro hbl hoff)))
 have C := Lib.hid (fun w' (k : Kp (fun _ => False) w1 w') => rwack_yes (hu.win.kp0 (k1.trans k)) hx f.ac now hb)
 have c5 : w1.cell? ⟨r, 5, none⟩ = some (.pointer (some ⟨e.dw, 0, none⟩)) := by rw [← hu.wv]; exact k1.cell (h.hat.cell 5) (fun h => h)
 have b4 : w1.cell? ⟨bx, 4, none⟩ = some (.int .i64 f.ac) := ab.cell 4
 have hgl : e.dw < bx := by rw [hbx]; exact hu.win.hat.lt
 have hol : r < bx := by rw [hbx]; exact h.hat.lt
 have HH := Lib.hid (And.intro h (And.intro hst (And.intro hb (And.intro k1 ab))))
 have HBX := Lib.hid hbx
 obtain ⟨ty, se, bo, sq, ac, bd⟩ := f
 dsimp only [frA] at *
 generalize hnb : bd.length = nb at *
 have HNB := Lib.hid hnb
 obtain ⟨g, hg⟩ : ∃ g, g = e.dw := ⟨_, rfl⟩
 rw [← hg] at c5 C hgl
 have HG := Lib.hid hg
 have HTY := Lib.hid hty
 clear hty hr hbl hsq hoff h hu ab k1 hb hst hnb hg hx
 go_enter Tryz.func69, Tryz.ntmps69
 go_upto_region 1 with fail
 rw [← hbx, ← hw1]
 clear hbx hw1
 refine region_L (S := fun w' => Kp (fun _ => False) w1 w') [7] rfl ?_
 have hSd : ∀ (w' : World) (n' : Nat), Kp (fun _ => False) w1 w' → Kp (fun _ => False) w1 (w'.drewN n') := fun w' n' h => h.drewN n'
 have hS0 : Kp (fun _ => False) w1 w1.drew := (Kp.refl _ w1).drew
 refine anyL_world (fun w' => Kp (fun _ => False) w1 w') hS0 ?_
 clear hS0
 intro z0 kz0
 refine tF 0 13 (.pointer (some ⟨r, 0, none⟩)) rfl rfl hSd (fun _ => kz0) ?_
 try simp only [sC]
 refine tF 1 14 (.pointer (some ⟨r, 0, none⟩)) rfl rfl hSd (fun _ => kz0) ?_
 try simp only [sC]
 refine tF 2 15 (.pointer (some ⟨r, 5, none⟩)) rfl rfl hSd (fun _ => kz0) ?_
 try simp only [sC]
 refine tD 3 16 (.pointer (some ⟨g, 0, none⟩)) rfl rfl hSd (.inl (.inl ⟨rfl, fun w' hS => by have h := hS.cell c5 (fun h => h); go_simp⟩)) kz0 ?_
 try simp only [sC]
 refine tF 4 17 (.pointer (some ⟨bx, 4, none⟩)) rfl rfl hSd (fun _ => kz0) ?_
 try simp only [sC]
 refine tD 5 18 (.int .i64 ac) rfl rfl hSd (.inl (.inl ⟨rfl, fun w' hS => by have h := hS.cell b4 (fun h => h); go_simp⟩)) kz0 ?_
 try simp only [sC]
 refine tF 6 19 (.int .i64 now) rfl rfl hSd (fun _ => kz0) ?_
 try simp only [sC]
 refine tA 7 ?_
 intro n11
 refine wpOp_of rfl rfl ?_
 go_simp
 refine Calls.mono (C.out (z0.drewN n11) (kz0.drewN n11)) ?_
 rintro e w8p ⟨kN, v', D', rfl, hwc, hfr, hD, kk0⟩
 have kkz : Kp (fun k => k = g) w1 w8p := ((kz0.drewN n11).mono (fun _ _ h => h.elim)).trans kk0
 clear kk0
 try dsimp only
 refine ⟨fun h => Bool.noConfusion (show false = true from h), ?_⟩
 try simp only [sC]
 refine tF 8 12 (.tuple #[.int .i64 ((kN : Nat) : Int), .int .i64 0]) rfl rfl hSd (fun h => Bool.noConfusion (show false = true from h)) ?_
 try simp only [sC]
 refine tF 9 21 (.int .i64 ((kN : Nat) : Int)) rfl rfl hSd (fun h => Bool.noConfusion (show false = true from h)) ?_
 try simp only [sC]
 refine tF 10 22 (.int .i64 0) rfl rfl hSd (fun h => Bool.noConfusion (show false = true from h)) ?_
 try simp only [sC]
 refine tF 11 8 (.int .i64 ((kN : Nat) : Int)) rfl rfl hSd (fun h => Bool.noConfusion (show false = true from h)) ?_
 try simp only [sC]
 refine tF 12 9 (.int .i64 0) rfl rfl hSd (fun h => Bool.noConfusion (show false = true from h)) ?_
 try simp only [sC]
 refine anyL_done (by kernel_rfl) (fun nn => ?_) _
 have kw8 : Kp (fun _ => False) w8p (w8p.drewN nn) := (Kp.refl _ w8p).drewN nn
 generalize w8p.drewN nn = w8 at *
 clear hSd kz0
 have kg8 : Kp (fun k => k = e.dw) W w8 := by rw [← HG.out]; exact (HH.out.2.2.2.1.mono (fun _ _ h => h.elim)).trans (kkz.trans (kw8.mono (fun _ _ h => h.elim)))
 have hwt8 : ∀ i, i < D'.length → (dr D' i).att ≤ 2147483647 ∧ (dr D' i).wt ≤ 60 := by
  obtain ⟨j, rfl⟩ := hD
  exact wt_drop (HH.out.1.up HH.out.2.1).wt j
 have hr8 : ∀ V', RlC w8 r (ackT t (ackX t.i.x ac now V')) { e with dv := v', D := D' } := fun V' => HH.out.1.ack HH.out.2.1 (by rw [← HG.out]; exact (hwc V').kp0 kw8) (by rw [← HG.out]; exact hfr) hwt8 kg8
 have hfr8 : ∀ k, RwF e.dw v' D' k → RwF e.dw e.dv e.D k := by rw [← HG.out]; exact hfr
 have ab8 := (kkz.trans (kw8.mono (fun _ _ h => h.elim))).at HH.out.2.2.2.2 (fun e => by have e : bx = g := e; omega)
 have b0 : w8.cell? ⟨bx, 0, none⟩ = some (.int .i64 ty) := ab8.cell 0
 have k18 := kkz.trans (kw8.mono (fun _ _ h => h.elim))
 have K18 := Lib.hid k18
 clear k18
 have H8 := Lib.hid (And.intro hr8 (And.intro kg8 (And.intro hfr8 ab8)))
 clear kw8 kkz hwc hfr hr8 kg8 c5 b4 C hwt8 hfr8 ab8 hD
 have hty := HTY.out
 subst hty
 go_upto_region 6 with fail
 have hu8 := (H8.out.1 undef).up HH.out.2.1
 have c6 : w8.cell? ⟨r, 6, none⟩ = some (.pointer (some ⟨e.dx, 0, none⟩)) := ((H8.out.1 undef).hat.cell 6).trans (congrArg some hu8.xv)
 have b3 : w8.cell? ⟨bx, 3, none⟩ = some (.int .i64 sq) := H8.out.2.2.2.cell 3
 have b5 : w8.cell? ⟨bx, 5, none⟩ = some (.slice a nb c) := H8.out.2.2.2.cell 5
 have hrb : RdB w8 a bd := HRB.out.1.kp K18.out (fun y hy hj => HRB.out.2.2.2 y hy (by
  have hj : y.block = g := hj
  rw [hj, HG.out]; exact .inr (.inr ⟨HH.out.2.1, .inl (.inl rfl)⟩)))
 have CT := Lib.hid (fun w' (k : Kp (fun _ => False) w8 w') => rtake_any (hu8.inb.kp k (fun _ _ h => h)) hu8.fn sq HRB.out.2.1 a nb c bd (hrb.kp k (fun _ _ h => h)) HNB.out (by have := HRB.out.2.2.1; omega))
 obtain ⟨cdv, hcd⟩ : ∃ x, x = cd t.i.f t.i.n t.sz sq := ⟨_, rfl⟩
 have CT := CT.out
 dsimp only [ackT] at CT
 simp only [← hcd] at CT
 have CT := Lib.hid CT
 clear hcd
 have HU8 := Lib.hid hu8
 obtain ⟨bb, hbb⟩ : ∃ bb, bb = e.dx := ⟨_, rfl⟩
 rw [← hbb] at c6
 have CT := CT.out
 simp only [← hbb] at CT
 have CT := Lib.hid CT
 have HBB := Lib.hid hbb
 clear hbb hrb hu8 b0
 refine region_L (S := fun w' => Kp (fun _ => False) w8 w') [8] rfl ?_
 have hSd : ∀ (w' : World) (n' : Nat), Kp (fun _ => False) w8 w' → Kp (fun _ => False) w8 (w'.drewN n') := fun w' n' h => h.drewN n'
 have hS0 : Kp (fun _ => False) w8 w8.drew := (Kp.refl _ w8).drew
 refine anyL_world (fun w' => Kp (fun _ => False) w8 w') hS0 ?_
 clear hS0
 intro z0 kz0
 refine tF 0 29 (.pointer (some ⟨r, 0, none⟩)) rfl rfl hSd (fun _ => kz0) ?_
 try simp only [sC]
 refine tF 1 30 (.pointer (some ⟨r, 0, none⟩)) rfl rfl hSd (fun _ => kz0) ?_
 try simp only [sC]
 refine tF 2 31 (.pointer (some ⟨r, 6, none⟩)) rfl rfl hSd (fun _ => kz0) ?_
 try simp only [sC]
 refine tD 3 32 (.pointer (some ⟨bb, 0, none⟩)) rfl rfl hSd (.inl (.inl ⟨rfl, fun w' hS => by have h := hS.cell c6 (fun h => h); go_simp⟩)) kz0 ?_
 try simp only [sC]
 refine tF 4 33 (.pointer (some ⟨bx, 3, none⟩)) rfl rfl hSd (fun _ => kz0) ?_
 try simp only [sC]
 refine tD 5 34 (.int .i64 sq) rfl rfl hSd (.inl (.inl ⟨rfl, fun w' hS => by have h := hS.cell b3 (fun h => h); go_simp⟩)) kz0 ?_
 try simp only [sC]
 refine tF 6 35 (.pointer (some ⟨bx, 5, none⟩)) rfl rfl hSd (fun _ => kz0) ?_
 try simp only [sC]
 refine tD 7 36 (.slice a nb c) rfl rfl hSd (.inl (.inl ⟨rfl, fun w' hS => by have h := hS.cell b5 (fun h => h); go_simp⟩)) kz0 ?_
 try simp only [sC]
 refine tA 8 ?_
 intro n11
 refine wpOp_of rfl rfl ?_
 go_simp
 refine Calls.mono (CT.out (z0.drewN n11) (kz0.drewN n11)) ?_
 rintro e w10p ⟨n', iv', L', G', vo, vs, rfl, q1, q2, q3, q4, q5, q6, q7, q8, q9, q10⟩
 have hz8 := (kz0.drewN n11).size
 have k810p : Kp e.G w8 w10p := ((kz0.drewN n11).mono (fun _ _ h => h.elim)).trans q9
 have q10 : ∀ g, vo.ownBlock = some g → w8.heap.size ≤ g := fun g hg => Nat.le_trans hz8 (q10 g hg)
 clear q9
 try dsimp only
 refine ⟨fun h => Bool.noConfusion (show false = true from h), ?_⟩
 try simp only [sC]
 refine tF 9 28 (.tuple #[vo, .int .i64 cdv]) rfl rfl hSd (fun h => Bool.noConfusion (show false = true from h)) ?_
 try simp only [sC]
 refine tF 10 38 vo rfl rfl hSd (fun h => Bool.noConfusion (show false = true from h)) ?_
 try simp only [sC]
 refine tF 11 39 (.int .i64 cdv) rfl rfl hSd (fun h => Bool.noConfusion (show false = true from h)) ?_
 try simp only [sC]
 refine tF 12 10 vo rfl rfl hSd (fun h => Bool.noConfusion (show false = true from h)) ?_
 try simp only [sC]
 refine tF 13 11 (.int .i64 cdv) rfl rfl hSd (fun h => Bool.noConfusion (show false = true from h)) ?_
 try simp only [sC]
 refine anyL_done (by kernel_rfl) (fun nn => ?_) _
 have kw10 : Kp (fun _ => False) w10p (w10p.drewN nn) := (Kp.refl _ w10p).drewN nn
 generalize w10p.drewN nn = w10 at *
 have q1 := q1.kp kw10 (fun _ _ h => h)
 have q6 := q6.kp kw10 (fun _ _ h => h)
 have q7 : ∀ i, i < vs.length → ∃ y, nf t.i.f t.i.n t.sz sq bd (t.i.n + i) = some y ∧ OwnB w10 (vs.getD i undef) y := fun i hi => by
  obtain ⟨y, y1, y2⟩ := q7 i hi
  exact ⟨y, y1, y2.kp kw10 (fun _ _ h => h)⟩
 have k810 : Kp e.G w8 w10 := k810p.trans (kw10.mono (fun _ _ h => h.elim))
 clear hSd kz0 k810p kw10
 have hrl8 : r < w8.heap.size := (H8.out.1 undef).hat.lt
 have hn1 : 1 ≤ n' := by have := q1.n_bd; omega
 have hu10 := HU8.out.take (by rw [← HBB.out]; exact q1) q2 hn1 (fun g hg => (q8 g hg).imp_right (fun ee => Nat.le_trans hz8 ee)) k810 hrl8 (fun g hg => (H8.out.1 undef).res.lt g hg)
 have hat10 := k810.at (H8.out.1 undef).hat HU8.out.oX
 have hres10 := (H8.out.1 undef).res.kp k810 (fun g hg => (HU8.out.rW g hg).2)
 obtain ⟨va, vc, hvo, _⟩ := q6.form
 subst hvo
 have f7 := hat10.frozen 7
 have f12 := hat10.frozen 12
 have d7 : w10.cell? ⟨r, 7, none⟩ = some (.bool t.owed) := hat10.cell 7
 have d12 : w10.cell? ⟨r, 12, none⟩ = some (.int .i64 (e.got : Nat)) := hat10.cell 12
 have hnb2 := q1.n_bd
 have hgot := HU8.out.got
 have hgot : e.got + 1 = t.i.n := hgot
 obtain ⟨m, hm⟩ : ∃ m, m = n' - t.i.n := ⟨_, rfl⟩
 rw [← hm] at q5 q6 q10 ⊢
 have hsum : IntKind.i64.wrap ((e.got : Int) + m) = ((n' - 1 : Nat) : Int) := by rw [IntWalk.i64_in _ (by omega)]; omega
 have HM := Lib.hid hm
 have HQ := Lib.hid (And.intro q2 (And.intro q3 (And.intro q4 (And.intro q5 (And.intro q6 (And.intro q7 (And.intro q8 (And.intro hn1 q10))))))))
 have HK := Lib.hid (And.intro k810 (And.intro hat10 (And.intro hres10 (And.intro hu10 hz8))))
 generalize e.got = got at *
 clear q1 q2 q3 q4 q5 q6 q7 q8 q10 k810 hat10 c6 b3 b5 CT hres10 hu10 hn1 hnb2 hgot hm
 go_wp2_with fail
 go_ret2
 obtain ⟨q2, q3, q4, q5, q6, q7, q8, hn1, q10⟩ := HQ.out
 obtain ⟨k810, hat10, hres10, hu10, hz8⟩ := HK.out
 have hr8 := H8.out.1 undef
 have hsz8 := H8.out.2.1.size
 have h := HH.out.1
 have hsz8 := H8.out.2.1.size
 have kf : Kp (fun k => k = r) w10 ((w10.setCell ⟨r, 7, none⟩ (.bool true)).setCell ⟨r, 12, none⟩ (.int .i64 (n' - 1 : Nat))) := Kp.setCell (S := fun k => k = r) (Kp.setCell (S := fun k => k = r) (Kp.refl _ w10) (p := ⟨r, 7, none⟩) (fun _ => rfl) _) (p := ⟨r, 12, none⟩) (fun _ => rfl) _
 have hrW := h.hat.lt
 have hnb : ∀ i, i < vs.length → (vs.getD i undef).ownBlock ≠ some r := fun i hi eg => by
  obtain ⟨y, _, y2⟩ := q7 i hi
  obtain ⟨ds, hd, hp⟩ := y2.blk r eg
  have e1 := hat10.inj hd
  have : isB (.bool e.ag) := hp _ (by rw [← e1]; simp [rlC])
  obtain ⟨_, ez, _⟩ := this
  cases ez
 have hvo : ∀ g, (Value.slice va m vc).ownBlock = some g → ¬ g = r := fun g hg ee => by have := q10 g hg; omega
 refine ⟨n', .slice va m vc, rfl, vs, { e with dv := v', D := D', iv := iv', L := L', G := G', got := n' - 1 }, ⟨rfl, rfl, rfl, rfl, rfl, rfl⟩, fun V' hd' F' => ⟨(hat10.set 7 (.bool true)).set 12 (.int .i64 (n' - 1 : Nat)), fun _ => ?_, hres10.kp kf (fun g hg ee => h.rr (by have ee : g = r := ee; exact ee ▸ hg)), h.rr, h.rl⟩, q2, q3, q4, q5.trans HM.out, by rw [← HM.out]; exact q6.kp kf hvo, fun i hi => ?_, fun t' ht' k hk => ?_, ?_⟩
 · have hu := hu10.kp kf (fun j hj ee => hu10.oW (by have ee : j = r := ee; exact ee ▸ hj)) (fun j hj ee => hu10.oX (by have ee : j = r := ee; exact ee ▸ hj))
   exact { hu with win := hu.win.same rfl rfl rfl rfl rfl rfl }
 · obtain ⟨y, y1, y2⟩ := q7 i hi
   exact ⟨y, y1, y2.kp kf (fun g hg ee => hnb i hi (by have ee : g = r := ee; exact ee ▸ hg))⟩
 · rcases hk with hk | hk | ⟨_, hk | hk⟩
   · exact .inl (.inl hk)
   · exact .inl (.inr (.inl hk))
   · exact .inl (.inr (.inr ⟨HH.out.2.1, .inl (H8.out.2.2.1 k hk)⟩))
   · exact (q8 k hk).elim (fun ee => .inl (.inr (.inr ⟨HH.out.2.1, .inr ee⟩))) (fun ee => .inr (by omega))
 · exact ((H8.out.2.1.mono (fun i _ ee => .inr (.inr ⟨HH.out.2.1, .inl (.inl ee)⟩))).trans (k810.mono (fun i _ ee => .inr (.inr ⟨HH.out.2.1, .inr ee⟩)))).trans (kf.mono (fun i _ ee => .inl ee))
end
section
variable {W : World} {r : Nat} {t : Tk} {e : Dl}
theorem RlC.set2 (h : RlC W r t e) (s : Nat) (hs : ¬ s = 2) : RlC (W.setCell ⟨r, 2, none⟩ (.int .i64 (s : Nat))) r { t with st := s } e :=
 h.put (Kp.setCell (S := fun k => k = r) (Kp.refl _ W) (p := ⟨r, 2, none⟩) (fun _ => rfl) _) (h.hat.set 2 (.int .i64 (s : Nat))) (fun u => absurd u hs) rfl rfl ⟨e.ag, e.hello, e.asked, e.at_, rfl⟩
theorem RlC.set3 (h : RlC W r t e) (s : Nat) : RlC (W.setCell ⟨r, 3, none⟩ (.int .i64 (s : Nat))) r { t with se := s } e :=
 h.put (Kp.setCell (S := fun k => k = r) (Kp.refl _ W) (p := ⟨r, 3, none⟩) (fun _ => rfl) _) (h.hat.set 3 (.int .i64 (s : Nat))) (fun u => u) rfl rfl ⟨e.ag, e.hello, e.asked, e.at_, rfl⟩
theorem RlC.set4 (h : RlC W r t e) (s : Nat) : RlC (W.setCell ⟨r, 4, none⟩ (.int .i64 (s : Nat))) r { t with bo := s } e :=
 h.put (Kp.setCell (S := fun k => k = r) (Kp.refl _ W) (p := ⟨r, 4, none⟩) (fun _ => rfl) _) (h.hat.set 4 (.int .i64 (s : Nat))) (fun u => u) rfl rfl ⟨e.ag, e.hello, e.asked, e.at_, rfl⟩
theorem RlC.set7 (h : RlC W r t e) (s : Bool) : RlC (W.setCell ⟨r, 7, none⟩ (.bool s)) r { t with owed := s } e :=
 h.put (Kp.setCell (S := fun k => k = r) (Kp.refl _ W) (p := ⟨r, 7, none⟩) (fun _ => rfl) _) (h.hat.set 7 (.bool s)) (fun u => u) rfl rfl ⟨e.ag, e.hello, e.asked, e.at_, rfl⟩
theorem RlC.set8 (h : RlC W r t e) (s : Bool) : RlC (W.setCell ⟨r, 8, none⟩ (.bool s)) r t { e with hello := s } :=
 h.put (Kp.setCell (S := fun k => k = r) (Kp.refl _ W) (p := ⟨r, 8, none⟩) (fun _ => rfl) _) (h.hat.set 8 (.bool s)) (fun u => u) rfl rfl ⟨e.ag, s, e.asked, e.at_, rfl⟩
theorem RlC.set10 (h : RlC W r t e) (s : Bool) : RlC (W.setCell ⟨r, 10, none⟩ (.bool s)) r t { e with asked := s } :=
 h.put (Kp.setCell (S := fun k => k = r) (Kp.refl _ W) (p := ⟨r, 10, none⟩) (fun _ => rfl) _) (h.hat.set 10 (.bool s)) (fun u => u) rfl rfl ⟨e.ag, e.hello, s, e.at_, rfl⟩
theorem RlC.set11 (h : RlC W r t e) (s : Nat) : RlC (W.setCell ⟨r, 11, none⟩ (.int .i64 (s : Nat))) r t { e with at_ := s } :=
 h.put (Kp.setCell (S := fun k => k = r) (Kp.refl _ W) (p := ⟨r, 11, none⟩) (fun _ => rfl) _) (h.hat.set 11 (.int .i64 (s : Nat))) (fun u => u) rfl rfl ⟨e.ag, e.hello, e.asked, s, rfl⟩
theorem RlC.set9 (h : RlC W r t e) : RlC (W.setCell ⟨r, 9, none⟩ (.slice none 0 0)) r t { e with rv := .slice none 0 0, rs := [] } := by
 have k : Kp (· = r) W (W.setCell ⟨r, 9, none⟩ (.slice none 0 0)) := Kp.setCell (S := fun k => k = r) (Kp.refl _ W) (p := ⟨r, 9, none⟩) (fun _ => rfl) _
 refine ⟨h.hat.set 9 (.slice none 0 0), fun u => ?_, Own.nil _ 1, fun e => (by cases e), Nat.zero_le _⟩
 have hu := h.up u
 exact { hu with win := hu.win.kp k (fun g hg eg => hu.oW (by have eg : g = r := eg; exact eg ▸ hg)), inb := hu.inb.kp k (fun g hg eg => hu.oX (by have eg : g = r := eg; exact eg ▸ hg)), rW := fun g hg => (by cases hg) }
theorem kp_set (w : World) (r i : Nat) (v : Value) : Kp (· = r) w (w.setCell ⟨r, i, none⟩ v) := Kp.setCell (S := fun k => k = r) (Kp.refl _ w) (p := ⟨r, i, none⟩) (fun _ => rfl) _
theorem rlag_other (h : RlC W r t e) (f : Fr) (a : Option Addr) (c : Nat) (now : Int) (hse : ¬ f.se = (t.se : Int)) :
 Calls Tryz.prog 51 #[.pointer (some ⟨r, 0, none⟩), .agg (frA f a c), .int .i64 now] W fun e1 w' => e1 = .returned (.tuple #[.slice none 0 0, .int .i64 6]) ∧ Kp (fun _ => False) W w' := by
 have j1 : (f.se != (t.se : Int)) = true := by simpa using hse
 obtain ⟨bx, w1, hbx, hw1, k1, ab⟩ := frame_box f a c W
 have hat1 := k1.at h.hat (fun h => h)
 have c2 : w1.cell? ⟨r, 2, none⟩ = some (.int .i64 t.st) := hat1.cell 2
 have c3 : w1.cell? ⟨r, 3, none⟩ = some (.int .i64 t.se) := hat1.cell 3
 have c4 : w1.cell? ⟨r, 4, none⟩ = some (.int .i64 t.bo) := hat1.cell 4
 have f2 := hat1.frozen 2
 have f4 := hat1.frozen 4
 have b0 : w1.cell? ⟨bx, 0, none⟩ = some (.int .i64 f.ty) := ab.cell 0
 have b1 : w1.cell? ⟨bx, 1, none⟩ = some (.int .i64 f.se) := ab.cell 1
 have b2 : w1.cell? ⟨bx, 2, none⟩ = some (.int .i64 f.bo) := ab.cell 2
 have b3 : w1.cell? ⟨bx, 3, none⟩ = some (.int .i64 f.sq) := ab.cell 3
 have b4 : w1.cell? ⟨bx, 4, none⟩ = some (.int .i64 f.ac) := ab.cell 4
 have b5 : w1.cell? ⟨bx, 5, none⟩ = some (.slice a f.bd.length c) := ab.cell 5
 have hbr : bx ≠ r := fun ee => by have := h.hat.lt; omega
 have HB := Lib.hid hbr
 have HH := Lib.hid (And.intro h (And.intro k1 ab))
 obtain ⟨ty, se, bo, sq, ac, bd⟩ := f
 dsimp only [frA] at *
 generalize bd.length = nb at *
 clear h hat1 ab k1 hbr hse
 go_enter Tryz.func51, Tryz.ntmps51
 go_upto_region 1 with fail
 rw [← hbx, ← hw1]
 clear hbx hw1
 go_quiet (fail)
 go_wp2_with fail
 go_ret2
 exact ⟨rfl, HH.out.2.1.drewN _⟩
theorem rlag_syn (h : RlC W r t e) (f : Fr) (a : Option Addr) (c : Nat) (now : Int) (hse : f.se = (t.se : Int)) (hty : f.ty = 1) :
 Calls Tryz.prog 51 #[.pointer (some ⟨r, 0, none⟩), .agg (frA f a c), .int .i64 now] W fun e1 w' => e1 = .returned (.tuple #[.slice none 0 0, .int .i64 6]) ∧ Kp (fun _ => False) W w' := by
 have j1 : (f.se != (t.se : Int)) = false := by simp [hse]
 obtain ⟨bx, w1, hbx, hw1, k1, ab⟩ := frame_box f a c W
 have hat1 := k1.at h.hat (fun h => h)
 have c2 : w1.cell? ⟨r, 2, none⟩ = some (.int .i64 t.st) := hat1.cell 2
 have c3 : w1.cell? ⟨r, 3, none⟩ = some (.int .i64 t.se) := hat1.cell 3
 have c4 : w1.cell? ⟨r, 4, none⟩ = some (.int .i64 t.bo) := hat1.cell 4
 have f2 := hat1.frozen 2
 have f4 := hat1.frozen 4
 have b0 : w1.cell? ⟨bx, 0, none⟩ = some (.int .i64 f.ty) := ab.cell 0
 have b1 : w1.cell? ⟨bx, 1, none⟩ = some (.int .i64 f.se) := ab.cell 1
 have b2 : w1.cell? ⟨bx, 2, none⟩ = some (.int .i64 f.bo) := ab.cell 2
 have b3 : w1.cell? ⟨bx, 3, none⟩ = some (.int .i64 f.sq) := ab.cell 3
 have b4 : w1.cell? ⟨bx, 4, none⟩ = some (.int .i64 f.ac) := ab.cell 4
 have b5 : w1.cell? ⟨bx, 5, none⟩ = some (.slice a f.bd.length c) := ab.cell 5
 have hbr : bx ≠ r := fun ee => by have := h.hat.lt; omega
 have HB := Lib.hid hbr
 have HH := Lib.hid (And.intro h (And.intro k1 ab))
 obtain ⟨ty, se, bo, sq, ac, bd⟩ := f
 dsimp only [frA] at *
 generalize bd.length = nb at *
 obtain rfl : ty = 1 := hty
 clear h hat1 ab k1 hbr hse
 go_enter Tryz.func51, Tryz.ntmps51
 go_upto_region 1 with fail
 rw [← hbx, ← hw1]
 clear hbx hw1
 go_quiet (fail)
 go_wp2_with fail
 go_ret2
 exact ⟨rfl, HH.out.2.1.drewN _⟩
theorem rlag_reset (h : RlC W r t e) (f : Fr) (a : Option Addr) (c : Nat) (now : Int) (hse : f.se = (t.se : Int)) (hty : f.ty = 5) :
 Calls Tryz.prog 51 #[.pointer (some ⟨r, 0, none⟩), .agg (frA f a c), .int .i64 now] W fun e1 w' => e1 = .returned (.tuple #[.slice none 0 0, .int .i64 0]) ∧ RlC w' r { t with st := 3 } e ∧ Kp (· = r) W w' := by
 have j1 : (f.se != (t.se : Int)) = false := by simp [hse]
 obtain ⟨bx, w1, hbx, hw1, k1, ab⟩ := frame_box f a c W
 have hat1 := k1.at h.hat (fun h => h)
 have c2 : w1.cell? ⟨r, 2, none⟩ = some (.int .i64 t.st) := hat1.cell 2
 have c3 : w1.cell? ⟨r, 3, none⟩ = some (.int .i64 t.se) := hat1.cell 3
 have c4 : w1.cell? ⟨r, 4, none⟩ = some (.int .i64 t.bo) := hat1.cell 4
 have f2 := hat1.frozen 2
 have f4 := hat1.frozen 4
 have b0 : w1.cell? ⟨bx, 0, none⟩ = some (.int .i64 f.ty) := ab.cell 0
 have b1 : w1.cell? ⟨bx, 1, none⟩ = some (.int .i64 f.se) := ab.cell 1
 have b2 : w1.cell? ⟨bx, 2, none⟩ = some (.int .i64 f.bo) := ab.cell 2
 have b3 : w1.cell? ⟨bx, 3, none⟩ = some (.int .i64 f.sq) := ab.cell 3
 have b4 : w1.cell? ⟨bx, 4, none⟩ = some (.int .i64 f.ac) := ab.cell 4
 have b5 : w1.cell? ⟨bx, 5, none⟩ = some (.slice a f.bd.length c) := ab.cell 5
 have hbr : bx ≠ r := fun ee => by have := h.hat.lt; omega
 have HB := Lib.hid hbr
 have HH := Lib.hid (And.intro h (And.intro k1 ab))
 obtain ⟨ty, se, bo, sq, ac, bd⟩ := f
 dsimp only [frA] at *
 generalize bd.length = nb at *
 obtain rfl : ty = 5 := hty
 clear h hat1 ab k1 hbr hse
 go_enter Tryz.func51, Tryz.ntmps51
 go_upto_region 1 with fail
 rw [← hbx, ← hw1]
 clear hbx hw1
 go_quiet (fail)
 go_wp2_with fail
 go_ret2
 exact ⟨rfl, ((HH.out.1.kp0 HH.out.2.1).kp0 ((Kp.refl _ _).drewN _)).set2 3 (by decide), ((HH.out.2.1.drewN _).mono (fun _ _ h => h.elim)).trans (kp_set _ _ _ _)⟩
theorem rlag_wel (h : RlC W r t e) (f : Fr) (a : Option Addr) (c : Nat) (now : Int) (hse : f.se = (t.se : Int)) (hty : f.ty = 2) (hst : ¬ t.st = 1) (hbo : f.bo = (t.bo : Int)) :
 Calls Tryz.prog 51 #[.pointer (some ⟨r, 0, none⟩), .agg (frA f a c), .int .i64 now] W fun e1 w' => e1 = .returned (.tuple #[.slice none 0 0, .int .i64 0]) ∧ Kp (fun _ => False) W w' := by
 have j1 : (f.se != (t.se : Int)) = false := by simp [hse]
 have j2 : ((t.st : Int) == 1) = false := by simp; omega
 have j3 : (f.bo != (t.bo : Int)) = false := by simpa using hbo
 obtain ⟨bx, w1, hbx, hw1, k1, ab⟩ := frame_box f a c W
 have hat1 := k1.at h.hat (fun h => h)
 have c2 : w1.cell? ⟨r, 2, none⟩ = some (.int .i64 t.st) := hat1.cell 2
 have c3 : w1.cell? ⟨r, 3, none⟩ = some (.int .i64 t.se) := hat1.cell 3
 have c4 : w1.cell? ⟨r, 4, none⟩ = some (.int .i64 t.bo) := hat1.cell 4
 have f2 := hat1.frozen 2
 have f4 := hat1.frozen 4
 have b0 : w1.cell? ⟨bx, 0, none⟩ = some (.int .i64 f.ty) := ab.cell 0
 have b1 : w1.cell? ⟨bx, 1, none⟩ = some (.int .i64 f.se) := ab.cell 1
 have b2 : w1.cell? ⟨bx, 2, none⟩ = some (.int .i64 f.bo) := ab.cell 2
 have b3 : w1.cell? ⟨bx, 3, none⟩ = some (.int .i64 f.sq) := ab.cell 3
 have b4 : w1.cell? ⟨bx, 4, none⟩ = some (.int .i64 f.ac) := ab.cell 4
 have b5 : w1.cell? ⟨bx, 5, none⟩ = some (.slice a f.bd.length c) := ab.cell 5
 have hbr : bx ≠ r := fun ee => by have := h.hat.lt; omega
 have HB := Lib.hid hbr
 have HH := Lib.hid (And.intro h (And.intro k1 ab))
 obtain ⟨ty, se, bo, sq, ac, bd⟩ := f
 dsimp only [frA] at *
 generalize bd.length = nb at *
 obtain rfl : ty = 2 := hty
 clear h hat1 ab k1 hbr hse hbo hst
 go_enter Tryz.func51, Tryz.ntmps51
 go_upto_region 1 with fail
 rw [← hbx, ← hw1]
 clear hbx hw1
 generalize t.st = tst at *
 generalize (t.bo : Int) = tbo at *
 go_quiet (fail)
 go_wp2_with fail
 go_quiet (fail)
 go_wp2_with fail
 go_ret2
 exact ⟨rfl, (HH.out.2.1.drewN _).drewN _⟩
theorem rlag_welno (h : RlC W r t e) (f : Fr) (a : Option Addr) (c : Nat) (now : Int) (hse : f.se = (t.se : Int)) (hty : f.ty = 2) (hst : ¬ t.st = 1) (hbo : ¬ f.bo = (t.bo : Int)) :
 Calls Tryz.prog 51 #[.pointer (some ⟨r, 0, none⟩), .agg (frA f a c), .int .i64 now] W fun e1 w' => e1 = .returned (.tuple #[.slice none 0 0, .int .i64 6]) ∧ Kp (fun _ => False) W w' := by
 have j1 : (f.se != (t.se : Int)) = false := by simp [hse]
 have j2 : ((t.st : Int) == 1) = false := by simp; omega
 have j3 : (f.bo != (t.bo : Int)) = true := by simpa using hbo
 obtain ⟨bx, w1, hbx, hw1, k1, ab⟩ := frame_box f a c W
 have hat1 := k1.at h.hat (fun h => h)
 have c2 : w1.cell? ⟨r, 2, none⟩ = some (.int .i64 t.st) := hat1.cell 2
 have c3 : w1.cell? ⟨r, 3, none⟩ = some (.int .i64 t.se) := hat1.cell 3
 have c4 : w1.cell? ⟨r, 4, none⟩ = some (.int .i64 t.bo) := hat1.cell 4
 have f2 := hat1.frozen 2
 have f4 := hat1.frozen 4
 have b0 : w1.cell? ⟨bx, 0, none⟩ = some (.int .i64 f.ty) := ab.cell 0
 have b1 : w1.cell? ⟨bx, 1, none⟩ = some (.int .i64 f.se) := ab.cell 1
 have b2 : w1.cell? ⟨bx, 2, none⟩ = some (.int .i64 f.bo) := ab.cell 2
 have b3 : w1.cell? ⟨bx, 3, none⟩ = some (.int .i64 f.sq) := ab.cell 3
 have b4 : w1.cell? ⟨bx, 4, none⟩ = some (.int .i64 f.ac) := ab.cell 4
 have b5 : w1.cell? ⟨bx, 5, none⟩ = some (.slice a f.bd.length c) := ab.cell 5
 have hbr : bx ≠ r := fun ee => by have := h.hat.lt; omega
 have HB := Lib.hid hbr
 have HH := Lib.hid (And.intro h (And.intro k1 ab))
 obtain ⟨ty, se, bo, sq, ac, bd⟩ := f
 dsimp only [frA] at *
 generalize bd.length = nb at *
 obtain rfl : ty = 2 := hty
 clear h hat1 ab k1 hbr hse hbo hst
 go_enter Tryz.func51, Tryz.ntmps51
 go_upto_region 1 with fail
 rw [← hbx, ← hw1]
 clear hbx hw1
 generalize t.st = tst at *
 generalize (t.bo : Int) = tbo at *
 go_quiet (fail)
 go_wp2_with fail
 go_quiet (fail)
 go_wp2_with fail
 go_ret2
 exact ⟨rfl, (HH.out.2.1.drewN _).drewN _⟩
set_option maxHeartbeats 1000000 in
theorem rlag_open (h : RlC W r t e) (f : Fr) (a : Option Addr) (c : Nat) (now : Int) (hse : f.se = (t.se : Int)) (hty : f.ty = 2) (hst : t.st = 1) (b : Nat) (hb : f.bo = (b : Nat)) (hz : 1 ≤ t.sz ∧ t.sz ≤ 64) :
 Calls Tryz.prog 51 #[.pointer (some ⟨r, 0, none⟩), .agg (frA f a c), .int .i64 now] W fun e1 w' => e1 = .returned (.tuple #[.slice none 0 0, .int .i64 0]) ∧ ∃ e', Ke e e' ∧ (∀ g x, RlC w' r (upT { t with bo := b } g x) e') ∧ (∀ t', ∀ k, RlF r t' e' k → RlF r t e k ∨ W.heap.size ≤ k) ∧ Kp (· = r) W w' := by
 have j1 : (f.se != (t.se : Int)) = false := by simp [hse]
 have j2 : ((t.st : Int) == 1) = true := by simp; omega
 have j3 : (f.bo != f.bo) = false := by simp
 obtain ⟨bx, w1, hbx, hw1, k1, ab⟩ := frame_box f a c W
 have hat1 := k1.at h.hat (fun h => h)
 have c2 : w1.cell? ⟨r, 2, none⟩ = some (.int .i64 t.st) := hat1.cell 2
 have c3 : w1.cell? ⟨r, 3, none⟩ = some (.int .i64 t.se) := hat1.cell 3
 have c4 : w1.cell? ⟨r, 4, none⟩ = some (.int .i64 t.bo) := hat1.cell 4
 have f2 := hat1.frozen 2
 have f4 := hat1.frozen 4
 have b0 : w1.cell? ⟨bx, 0, none⟩ = some (.int .i64 f.ty) := ab.cell 0
 have b1 : w1.cell? ⟨bx, 1, none⟩ = some (.int .i64 f.se) := ab.cell 1
 have b2 : w1.cell? ⟨bx, 2, none⟩ = some (.int .i64 f.bo) := ab.cell 2
 have b3 : w1.cell? ⟨bx, 3, none⟩ = some (.int .i64 f.sq) := ab.cell 3
 have b4 : w1.cell? ⟨bx, 4, none⟩ = some (.int .i64 f.ac) := ab.cell 4
 have b5 : w1.cell? ⟨bx, 5, none⟩ = some (.slice a f.bd.length c) := ab.cell 5
 have hbr : bx ≠ r := fun ee => by have := h.hat.lt; omega
 have HB := Lib.hid hbr
 have HH := Lib.hid (And.intro h (And.intro k1 ab))
 obtain ⟨ty, se, bo, sq, ac, bd⟩ := f
 dsimp only [frA] at *
 generalize bd.length = nb at *
 obtain rfl : ty = 2 := hty
 have HZ := Lib.hid hz
 clear hz
 obtain rfl : bo = (b : Int) := hb
 clear h hat1 ab k1 hbr hse hst
 go_enter Tryz.func51, Tryz.ntmps51
 go_upto_region 1 with fail
 rw [← hbx, ← hw1]
 clear hbx hw1
 generalize htst : t.st = tst at *
 clear htst
 go_quiet (fail)
 go_upto_region 7 with fail
 refine wp_world (fun wx => RlC wx r { t with bo := b } e ∧ Kp (· = r) W wx ∧ At wx bx [.int .i64 2, .int .i64 se, .int .i64 (b : Nat), .int .i64 sq, .int .i64 ac, .slice a nb c]) ⟨((HH.out.1.kp0 HH.out.2.1).kp0 ((Kp.refl _ _).drewN _)).set4 b, ((HH.out.2.1.drewN _).mono (fun _ _ h => h.elim)).trans (kp_set _ _ _ _), (kp_set _ _ _ _).at (HH.out.2.2.drewN _) HB.out⟩ ?_
 rintro w3 ⟨h3, k3, ab3⟩
 have CU := Lib.hid (rlup_any h3 HZ.out)
 have H3 := Lib.hid (And.intro h3 (And.intro k3 ab3))
 clear h3 k3 ab3 c2 c3 c4 f2 f4 b0 b1 b2 b3 b4 b5
 go_wp2_with fail
 go_at_call 67
 refine CU.out.mono ?_
 rintro e1 w4 ⟨rfl, e', q1, q2, q3, q4⟩
 have ab4 := q4.at H3.out.2.2 HB.out
 have b2 : w4.cell? ⟨bx, 2, none⟩ = some (.int .i64 (b : Nat)) := ab4.cell 2
 have c4 : w4.cell? ⟨r, 4, none⟩ = some (.int .i64 (b : Nat)) := (q2 0 0).hat.cell 4
 have HQ := Lib.hid (And.intro q1 (And.intro q2 (And.intro q3 q4)))
 clear ab4 q1 q2 q3 q4
 go_wp2_with fail
 go_quiet (fail)
 go_wp2_with fail
 go_ret2
 obtain ⟨q1, q2, q3, q4⟩ := HQ.out
 have hs3 := H3.out.2.1.size
 exact ⟨rfl, e', q1, fun g x => (q2 g x).kp0 ((Kp.refl _ _).drewN _), fun t' k hk => (q3 t' k hk).imp (fun ee => ee) (fun ee => by omega), (H3.out.2.1.trans q4).drewN _⟩
theorem rlag_no3 (h : RlC W r t e) (f : Fr) (a : Option Addr) (c : Nat) (now : Int) (hse : f.se = (t.se : Int)) (hty : f.ty = 3) (hno : ¬ (t.st = 2 ∧ f.bo = (t.bo : Int))) :
 Calls Tryz.prog 51 #[.pointer (some ⟨r, 0, none⟩), .agg (frA f a c), .int .i64 now] W fun e1 w' => e1 = .returned (.tuple #[.slice none 0 0, .int .i64 6]) ∧ Kp (fun _ => False) W w' := by
 have j1 : (f.se != (t.se : Int)) = false := by simp [hse]
 have hd : decide (t.st = 2 ∧ f.se = (t.se : Int) ∧ f.bo = (t.bo : Int)) = false := decide_eq_false (fun hh => hno ⟨hh.1, hh.2.2⟩)
 have CO := Lib.hid (fun w' (k : Kp (fun _ => False) W w') => by have := rlown_any (h.kp0 k) f a c; rw [hd] at this; exact this)
 obtain ⟨bx, w1, hbx, hw1, k1, ab⟩ := frame_box f a c W
 have hat1 := k1.at h.hat (fun h => h)
 have c2 : w1.cell? ⟨r, 2, none⟩ = some (.int .i64 t.st) := hat1.cell 2
 have c3 : w1.cell? ⟨r, 3, none⟩ = some (.int .i64 t.se) := hat1.cell 3
 have c4 : w1.cell? ⟨r, 4, none⟩ = some (.int .i64 t.bo) := hat1.cell 4
 have f2 := hat1.frozen 2
 have f4 := hat1.frozen 4
 have b0 : w1.cell? ⟨bx, 0, none⟩ = some (.int .i64 f.ty) := ab.cell 0
 have b1 : w1.cell? ⟨bx, 1, none⟩ = some (.int .i64 f.se) := ab.cell 1
 have b2 : w1.cell? ⟨bx, 2, none⟩ = some (.int .i64 f.bo) := ab.cell 2
 have b3 : w1.cell? ⟨bx, 3, none⟩ = some (.int .i64 f.sq) := ab.cell 3
 have b4 : w1.cell? ⟨bx, 4, none⟩ = some (.int .i64 f.ac) := ab.cell 4
 have b5 : w1.cell? ⟨bx, 5, none⟩ = some (.slice a f.bd.length c) := ab.cell 5
 have hbr : bx ≠ r := fun ee => by have := h.hat.lt; omega
 have HB := Lib.hid hbr
 have HH := Lib.hid (And.intro h (And.intro k1 ab))
 obtain ⟨ty, se, bo, sq, ac, bd⟩ := f
 dsimp only [frA] at *
 generalize bd.length = nb at *
 obtain rfl : ty = 3 := hty
 clear h hat1 ab k1 hbr hse hno hd
 go_enter Tryz.func51, Tryz.ntmps51
 go_upto_region 1 with fail
 rw [← hbx, ← hw1]
 clear hbx hw1
 go_quiet (fail)
 go_wp2_with fail
 go_at_call 68
 refine (CO.out _ (HH.out.2.1.drewN _)).mono ?_
 rintro e1 w2 ⟨rfl, k2⟩
 have K2 := Lib.hid k2
 clear k2
 go_wp2_with fail
 go_ret2
 exact ⟨rfl, (HH.out.2.1.drewN _).trans K2.out⟩
set_option maxHeartbeats 1000000 in
theorem rlag_yes3 (h : RlC W r t e) (f : Fr) (a : Option Addr) (c : Nat) (now : Int) (hse : f.se = (t.se : Int)) (hty : f.ty = 3) (hst : t.st = 2) (hbo : f.bo = (t.bo : Int)) {Q : Value → Int → World → Prop}
 (C : ∀ w', Kp (fun _ => False) W w' → Tells Tryz.prog 69 #[.pointer (some ⟨r, 0, none⟩), .agg (frA f a c), .int .i64 now] w' Q) :
 Tells Tryz.prog 51 #[.pointer (some ⟨r, 0, none⟩), .agg (frA f a c), .int .i64 now] W Q := by
 have j1 : (f.se != (t.se : Int)) = false := by simp [hse]
 have hd : decide (t.st = 2 ∧ f.se = (t.se : Int) ∧ f.bo = (t.bo : Int)) = true := decide_eq_true ⟨hst, hse, hbo⟩
 have CO := Lib.hid (fun w' (k : Kp (fun _ => False) W w') => by have := rlown_any (h.kp0 k) f a c; rw [hd] at this; exact this)
 have CN := Lib.hid C
 clear C
 obtain ⟨bx, w1, hbx, hw1, k1, ab⟩ := frame_box f a c W
 have hat1 := k1.at h.hat (fun h => h)
 have c2 : w1.cell? ⟨r, 2, none⟩ = some (.int .i64 t.st) := hat1.cell 2
 have c3 : w1.cell? ⟨r, 3, none⟩ = some (.int .i64 t.se) := hat1.cell 3
 have c4 : w1.cell? ⟨r, 4, none⟩ = some (.int .i64 t.bo) := hat1.cell 4
 have f2 := hat1.frozen 2
 have f4 := hat1.frozen 4
 have b0 : w1.cell? ⟨bx, 0, none⟩ = some (.int .i64 f.ty) := ab.cell 0
 have b1 : w1.cell? ⟨bx, 1, none⟩ = some (.int .i64 f.se) := ab.cell 1
 have b2 : w1.cell? ⟨bx, 2, none⟩ = some (.int .i64 f.bo) := ab.cell 2
 have b3 : w1.cell? ⟨bx, 3, none⟩ = some (.int .i64 f.sq) := ab.cell 3
 have b4 : w1.cell? ⟨bx, 4, none⟩ = some (.int .i64 f.ac) := ab.cell 4
 have b5 : w1.cell? ⟨bx, 5, none⟩ = some (.slice a f.bd.length c) := ab.cell 5
 have hbr : bx ≠ r := fun ee => by have := h.hat.lt; omega
 have HB := Lib.hid hbr
 have HH := Lib.hid (And.intro h (And.intro k1 ab))
 obtain ⟨ty, se, bo, sq, ac, bd⟩ := f
 dsimp only [frA] at *
 generalize bd.length = nb at *
 obtain rfl : ty = 3 := hty
 clear h hat1 ab k1 hbr hse hst hbo hd
 go_enter Tryz.func51, Tryz.ntmps51
 go_upto_region 1 with fail
 rw [← hbx, ← hw1]
 clear hbx hw1
 go_quiet (fail)
 go_wp2_with fail
 go_at_call 68
 refine (CO.out _ (HH.out.2.1.drewN _)).mono ?_
 rintro e1 w2 ⟨rfl, k2⟩
 have ab2 := k2.at (HH.out.2.2.drewN _) (fun h => h)
 have b0 : w2.cell? ⟨bx, 0, none⟩ = some (.int .i64 3) := ab2.cell 0
 have b1 : w2.cell? ⟨bx, 1, none⟩ = some (.int .i64 se) := ab2.cell 1
 have b2 : w2.cell? ⟨bx, 2, none⟩ = some (.int .i64 bo) := ab2.cell 2
 have b3 : w2.cell? ⟨bx, 3, none⟩ = some (.int .i64 sq) := ab2.cell 3
 have b4 : w2.cell? ⟨bx, 4, none⟩ = some (.int .i64 ac) := ab2.cell 4
 have b5 : w2.cell? ⟨bx, 5, none⟩ = some (.slice a nb c) := ab2.cell 5
 have K2 := Lib.hid ((HH.out.2.1.drewN _).trans k2)
 clear k2 ab2
 go_wp2_with fail
 go_at_call 69
 refine (CN.out _ K2.out).mono ?_
 rintro e1 w3 ⟨v, k, rfl, hq⟩
 have HQ := Lib.hid hq
 clear hq
 go_wp2_with fail
 go_ret2
 exact ⟨v, k, rfl, HQ.out⟩
theorem rlag_no4 (h : RlC W r t e) (f : Fr) (a : Option Addr) (c : Nat) (now : Int) (hse : f.se = (t.se : Int)) (hty : f.ty = 4) (hno : ¬ (t.st = 2 ∧ f.bo = (t.bo : Int))) :
 Calls Tryz.prog 51 #[.pointer (some ⟨r, 0, none⟩), .agg (frA f a c), .int .i64 now] W fun e1 w' => e1 = .returned (.tuple #[.slice none 0 0, .int .i64 6]) ∧ Kp (fun _ => False) W w' := by
 have j1 : (f.se != (t.se : Int)) = false := by simp [hse]
 have hd : decide (t.st = 2 ∧ f.se = (t.se : Int) ∧ f.bo = (t.bo : Int)) = false := decide_eq_false (fun hh => hno ⟨hh.1, hh.2.2⟩)
 have CO := Lib.hid (fun w' (k : Kp (fun _ => False) W w') => by have := rlown_any (h.kp0 k) f a c; rw [hd] at this; exact this)
 obtain ⟨bx, w1, hbx, hw1, k1, ab⟩ := frame_box f a c W
 have hat1 := k1.at h.hat (fun h => h)
 have c2 : w1.cell? ⟨r, 2, none⟩ = some (.int .i64 t.st) := hat1.cell 2
 have c3 : w1.cell? ⟨r, 3, none⟩ = some (.int .i64 t.se) := hat1.cell 3
 have c4 : w1.cell? ⟨r, 4, none⟩ = some (.int .i64 t.bo) := hat1.cell 4
 have f2 := hat1.frozen 2
 have f4 := hat1.frozen 4
 have b0 : w1.cell? ⟨bx, 0, none⟩ = some (.int .i64 f.ty) := ab.cell 0
 have b1 : w1.cell? ⟨bx, 1, none⟩ = some (.int .i64 f.se) := ab.cell 1
 have b2 : w1.cell? ⟨bx, 2, none⟩ = some (.int .i64 f.bo) := ab.cell 2
 have b3 : w1.cell? ⟨bx, 3, none⟩ = some (.int .i64 f.sq) := ab.cell 3
 have b4 : w1.cell? ⟨bx, 4, none⟩ = some (.int .i64 f.ac) := ab.cell 4
 have b5 : w1.cell? ⟨bx, 5, none⟩ = some (.slice a f.bd.length c) := ab.cell 5
 have hbr : bx ≠ r := fun ee => by have := h.hat.lt; omega
 have HB := Lib.hid hbr
 have HH := Lib.hid (And.intro h (And.intro k1 ab))
 obtain ⟨ty, se, bo, sq, ac, bd⟩ := f
 dsimp only [frA] at *
 generalize bd.length = nb at *
 obtain rfl : ty = 4 := hty
 clear h hat1 ab k1 hbr hse hno hd
 go_enter Tryz.func51, Tryz.ntmps51
 go_upto_region 1 with fail
 rw [← hbx, ← hw1]
 clear hbx hw1
 go_quiet (fail)
 go_wp2_with fail
 go_at_call 68
 refine (CO.out _ (HH.out.2.1.drewN _)).mono ?_
 rintro e1 w2 ⟨rfl, k2⟩
 have K2 := Lib.hid k2
 clear k2
 go_wp2_with fail
 go_ret2
 exact ⟨rfl, (HH.out.2.1.drewN _).trans K2.out⟩
set_option maxHeartbeats 1000000 in
theorem rlag_yes4 (h : RlC W r t e) (f : Fr) (a : Option Addr) (c : Nat) (now : Int) (hse : f.se = (t.se : Int)) (hty : f.ty = 4) (hst : t.st = 2) (hbo : f.bo = (t.bo : Int)) {Q : Value → Int → World → Prop}
 (C : ∀ w', Kp (fun _ => False) W w' → Tells Tryz.prog 69 #[.pointer (some ⟨r, 0, none⟩), .agg (frA f a c), .int .i64 now] w' Q) :
 Tells Tryz.prog 51 #[.pointer (some ⟨r, 0, none⟩), .agg (frA f a c), .int .i64 now] W Q := by
 have j1 : (f.se != (t.se : Int)) = false := by simp [hse]
 have hd : decide (t.st = 2 ∧ f.se = (t.se : Int) ∧ f.bo = (t.bo : Int)) = true := decide_eq_true ⟨hst, hse, hbo⟩
 have CO := Lib.hid (fun w' (k : Kp (fun _ => False) W w') => by have := rlown_any (h.kp0 k) f a c; rw [hd] at this; exact this)
 have CN := Lib.hid C
 clear C
 obtain ⟨bx, w1, hbx, hw1, k1, ab⟩ := frame_box f a c W
 have hat1 := k1.at h.hat (fun h => h)
 have c2 : w1.cell? ⟨r, 2, none⟩ = some (.int .i64 t.st) := hat1.cell 2
 have c3 : w1.cell? ⟨r, 3, none⟩ = some (.int .i64 t.se) := hat1.cell 3
 have c4 : w1.cell? ⟨r, 4, none⟩ = some (.int .i64 t.bo) := hat1.cell 4
 have f2 := hat1.frozen 2
 have f4 := hat1.frozen 4
 have b0 : w1.cell? ⟨bx, 0, none⟩ = some (.int .i64 f.ty) := ab.cell 0
 have b1 : w1.cell? ⟨bx, 1, none⟩ = some (.int .i64 f.se) := ab.cell 1
 have b2 : w1.cell? ⟨bx, 2, none⟩ = some (.int .i64 f.bo) := ab.cell 2
 have b3 : w1.cell? ⟨bx, 3, none⟩ = some (.int .i64 f.sq) := ab.cell 3
 have b4 : w1.cell? ⟨bx, 4, none⟩ = some (.int .i64 f.ac) := ab.cell 4
 have b5 : w1.cell? ⟨bx, 5, none⟩ = some (.slice a f.bd.length c) := ab.cell 5
 have hbr : bx ≠ r := fun ee => by have := h.hat.lt; omega
 have HB := Lib.hid hbr
 have HH := Lib.hid (And.intro h (And.intro k1 ab))
 obtain ⟨ty, se, bo, sq, ac, bd⟩ := f
 dsimp only [frA] at *
 generalize bd.length = nb at *
 obtain rfl : ty = 4 := hty
 clear h hat1 ab k1 hbr hse hst hbo hd
 go_enter Tryz.func51, Tryz.ntmps51
 go_upto_region 1 with fail
 rw [← hbx, ← hw1]
 clear hbx hw1
 go_quiet (fail)
 go_wp2_with fail
 go_at_call 68
 refine (CO.out _ (HH.out.2.1.drewN _)).mono ?_
 rintro e1 w2 ⟨rfl, k2⟩
 have ab2 := k2.at (HH.out.2.2.drewN _) (fun h => h)
 have b0 : w2.cell? ⟨bx, 0, none⟩ = some (.int .i64 4) := ab2.cell 0
 have b1 : w2.cell? ⟨bx, 1, none⟩ = some (.int .i64 se) := ab2.cell 1
 have b2 : w2.cell? ⟨bx, 2, none⟩ = some (.int .i64 bo) := ab2.cell 2
 have b3 : w2.cell? ⟨bx, 3, none⟩ = some (.int .i64 sq) := ab2.cell 3
 have b4 : w2.cell? ⟨bx, 4, none⟩ = some (.int .i64 ac) := ab2.cell 4
 have b5 : w2.cell? ⟨bx, 5, none⟩ = some (.slice a nb c) := ab2.cell 5
 have K2 := Lib.hid ((HH.out.2.1.drewN _).trans k2)
 clear k2 ab2
 go_wp2_with fail
 go_at_call 69
 refine (CN.out _ K2.out).mono ?_
 rintro e1 w3 ⟨v, k, rfl, hq⟩
 have HQ := Lib.hid hq
 clear hq
 go_wp2_with fail
 go_ret2
 exact ⟨v, k, rfl, HQ.out⟩
end
section
variable {W : World} {r : Nat} {t : Tk} {e : Dl}
theorem rldm_other2 (h : RlC W r t e) (f : Fr) (a : Option Addr) (c : Nat) (now : Int) (hty : f.ty = 2) :
 Calls Tryz.prog 52 #[.pointer (some ⟨r, 0, none⟩), .agg (frA f a c), .int .i64 now] W fun e1 w' => e1 = .returned (.tuple #[.slice none 0 0, .int .i64 6]) ∧ Kp (fun _ => False) W w' := by
 obtain ⟨bx, w1, hbx, hw1, k1, ab⟩ := frame_box f a c W
 have hat1 := k1.at h.hat (fun h => h)
 have c2 : w1.cell? ⟨r, 2, none⟩ = some (.int .i64 t.st) := hat1.cell 2
 have c3 : w1.cell? ⟨r, 3, none⟩ = some (.int .i64 t.se) := hat1.cell 3
 have c4 : w1.cell? ⟨r, 4, none⟩ = some (.int .i64 t.bo) := hat1.cell 4
 have f2 := hat1.frozen 2
 have f4 := hat1.frozen 4
 have b0 : w1.cell? ⟨bx, 0, none⟩ = some (.int .i64 f.ty) := ab.cell 0
 have b1 : w1.cell? ⟨bx, 1, none⟩ = some (.int .i64 f.se) := ab.cell 1
 have b2 : w1.cell? ⟨bx, 2, none⟩ = some (.int .i64 f.bo) := ab.cell 2
 have b3 : w1.cell? ⟨bx, 3, none⟩ = some (.int .i64 f.sq) := ab.cell 3
 have b4 : w1.cell? ⟨bx, 4, none⟩ = some (.int .i64 f.ac) := ab.cell 4
 have b5 : w1.cell? ⟨bx, 5, none⟩ = some (.slice a f.bd.length c) := ab.cell 5
 have hbr : bx ≠ r := fun ee => by have := h.hat.lt; omega
 have HB := Lib.hid hbr
 have HH := Lib.hid (And.intro h (And.intro k1 ab))
 obtain ⟨ty, se, bo, sq, ac, bd⟩ := f
 dsimp only [frA] at *
 generalize bd.length = nb at *
 obtain rfl : ty = 2 := hty
 clear h hat1 ab k1 hbr 
 go_enter Tryz.func52, Tryz.ntmps52
 go_upto_region 1 with fail
 rw [← hbx, ← hw1]
 clear hbx hw1
 go_wp2_with fail
 go_ret2
 exact ⟨rfl, HH.out.2.1⟩
theorem rldm_other5 (h : RlC W r t e) (f : Fr) (a : Option Addr) (c : Nat) (now : Int) (hty : f.ty = 5) :
 Calls Tryz.prog 52 #[.pointer (some ⟨r, 0, none⟩), .agg (frA f a c), .int .i64 now] W fun e1 w' => e1 = .returned (.tuple #[.slice none 0 0, .int .i64 6]) ∧ Kp (fun _ => False) W w' := by
 obtain ⟨bx, w1, hbx, hw1, k1, ab⟩ := frame_box f a c W
 have hat1 := k1.at h.hat (fun h => h)
 have c2 : w1.cell? ⟨r, 2, none⟩ = some (.int .i64 t.st) := hat1.cell 2
 have c3 : w1.cell? ⟨r, 3, none⟩ = some (.int .i64 t.se) := hat1.cell 3
 have c4 : w1.cell? ⟨r, 4, none⟩ = some (.int .i64 t.bo) := hat1.cell 4
 have f2 := hat1.frozen 2
 have f4 := hat1.frozen 4
 have b0 : w1.cell? ⟨bx, 0, none⟩ = some (.int .i64 f.ty) := ab.cell 0
 have b1 : w1.cell? ⟨bx, 1, none⟩ = some (.int .i64 f.se) := ab.cell 1
 have b2 : w1.cell? ⟨bx, 2, none⟩ = some (.int .i64 f.bo) := ab.cell 2
 have b3 : w1.cell? ⟨bx, 3, none⟩ = some (.int .i64 f.sq) := ab.cell 3
 have b4 : w1.cell? ⟨bx, 4, none⟩ = some (.int .i64 f.ac) := ab.cell 4
 have b5 : w1.cell? ⟨bx, 5, none⟩ = some (.slice a f.bd.length c) := ab.cell 5
 have hbr : bx ≠ r := fun ee => by have := h.hat.lt; omega
 have HB := Lib.hid hbr
 have HH := Lib.hid (And.intro h (And.intro k1 ab))
 obtain ⟨ty, se, bo, sq, ac, bd⟩ := f
 dsimp only [frA] at *
 generalize bd.length = nb at *
 obtain rfl : ty = 5 := hty
 clear h hat1 ab k1 hbr 
 go_enter Tryz.func52, Tryz.ntmps52
 go_upto_region 1 with fail
 rw [← hbx, ← hw1]
 clear hbx hw1
 go_wp2_with fail
 go_ret2
 exact ⟨rfl, HH.out.2.1⟩
set_option maxHeartbeats 1000000 in
theorem rldm_elder (h : RlC W r t e) (f : Fr) (a : Option Addr) (c : Nat) (now : Int) (s : Nat) (hfs : f.se = (s : Nat)) (hty : f.ty = 1) (hlt : s < t.se) :
 Calls Tryz.prog 52 #[.pointer (some ⟨r, 0, none⟩), .agg (frA f a c), .int .i64 now] W fun e1 w' => e1 = .returned (.tuple #[.slice none 0 0, .int .i64 6]) ∧ ∃ rv', RlC w' r t { e with rv := rv', rs := refL e.rs s } ∧ (∀ g, rv'.ownBlock = some g → e.rv.ownBlock = some g ∨ W.heap.size ≤ g) ∧ Kp (· = r) W w' := by
 have CR := Lib.hid (fun w' (k : Kp (fun _ => False) W w') => rlreset_any (h.kp0 k) s)
 have i1 : decide (s < t.se) = true := decide_eq_true hlt
 obtain ⟨bx, w1, hbx, hw1, k1, ab⟩ := frame_box f a c W
 have hat1 := k1.at h.hat (fun h => h)
 have c2 : w1.cell? ⟨r, 2, none⟩ = some (.int .i64 t.st) := hat1.cell 2
 have c3 : w1.cell? ⟨r, 3, none⟩ = some (.int .i64 t.se) := hat1.cell 3
 have c4 : w1.cell? ⟨r, 4, none⟩ = some (.int .i64 t.bo) := hat1.cell 4
 have f2 := hat1.frozen 2
 have f4 := hat1.frozen 4
 have b0 : w1.cell? ⟨bx, 0, none⟩ = some (.int .i64 f.ty) := ab.cell 0
 have b1 : w1.cell? ⟨bx, 1, none⟩ = some (.int .i64 f.se) := ab.cell 1
 have b2 : w1.cell? ⟨bx, 2, none⟩ = some (.int .i64 f.bo) := ab.cell 2
 have b3 : w1.cell? ⟨bx, 3, none⟩ = some (.int .i64 f.sq) := ab.cell 3
 have b4 : w1.cell? ⟨bx, 4, none⟩ = some (.int .i64 f.ac) := ab.cell 4
 have b5 : w1.cell? ⟨bx, 5, none⟩ = some (.slice a f.bd.length c) := ab.cell 5
 have hbr : bx ≠ r := fun ee => by have := h.hat.lt; omega
 have HB := Lib.hid hbr
 have HH := Lib.hid (And.intro h (And.intro k1 ab))
 obtain ⟨ty, se, bo, sq, ac, bd⟩ := f
 dsimp only [frA] at *
 generalize bd.length = nb at *
 obtain rfl : ty = 1 := hty
 obtain rfl : se = (s : Int) := hfs
 clear h hat1 ab k1 hbr hlt
 go_enter Tryz.func52, Tryz.ntmps52
 go_upto_region 1 with fail
 rw [← hbx, ← hw1]
 clear hbx hw1
 go_wp2_with fail
 go_quiet (fail)
 go_wp2_with fail
 go_at_call 70
 have K2 := HH
 refine (CR.out _ (HH.out.2.1.drewN _)).mono ?_
 rintro e1 w3 ⟨rfl, rv', q1, q2, q3⟩
 have HQ := Lib.hid (And.intro q1 (And.intro q2 q3))
 clear q1 q2 q3
 go_wp2_with fail
 go_ret2
 obtain ⟨q1, q2, q3⟩ := HQ.out
 have hs2 := HH.out.2.1.size
 exact ⟨rfl, rv', q1, fun g hg => (q2 g hg).imp_right (fun ee => Nat.le_trans hs2 ee), ((HH.out.2.1.drewN _).mono (fun _ _ h => h.elim)).trans q3⟩
set_option maxHeartbeats 1000000 in
theorem rldm_same (h : RlC W r t e) (f : Fr) (a : Option Addr) (c : Nat) (now : Int) (hfs : f.se = (t.se : Int)) (hty : f.ty = 1) :
 Calls Tryz.prog 52 #[.pointer (some ⟨r, 0, none⟩), .agg (frA f a c), .int .i64 now] W fun e1 w' => e1 = .returned (.tuple #[.slice none 0 0, .int .i64 0]) ∧ RlC w' r t { e with hello := true } ∧ Kp (· = r) W w' := by
 have i1 : decide ((t.se : Int) < (t.se : Int)) = false := decide_eq_false (by omega)
 have f8 : ∀ w', Kp (fun _ => False) W w' → w'.frozen? ⟨r, 8, none⟩ = false := fun w' k => (k.at h.hat (fun h => h)).frozen 8
 have c8 : ∀ w', Kp (fun _ => False) W w' → w'.cell? ⟨r, 8, none⟩ = some (.bool e.hello) := fun w' k => (k.at h.hat (fun h => h)).cell 8
 have F8 := Lib.hid (And.intro f8 c8)
 clear f8 c8
 obtain ⟨bx, w1, hbx, hw1, k1, ab⟩ := frame_box f a c W
 have hat1 := k1.at h.hat (fun h => h)
 have c2 : w1.cell? ⟨r, 2, none⟩ = some (.int .i64 t.st) := hat1.cell 2
 have c3 : w1.cell? ⟨r, 3, none⟩ = some (.int .i64 t.se) := hat1.cell 3
 have c4 : w1.cell? ⟨r, 4, none⟩ = some (.int .i64 t.bo) := hat1.cell 4
 have f2 := hat1.frozen 2
 have f4 := hat1.frozen 4
 have b0 : w1.cell? ⟨bx, 0, none⟩ = some (.int .i64 f.ty) := ab.cell 0
 have b1 : w1.cell? ⟨bx, 1, none⟩ = some (.int .i64 f.se) := ab.cell 1
 have b2 : w1.cell? ⟨bx, 2, none⟩ = some (.int .i64 f.bo) := ab.cell 2
 have b3 : w1.cell? ⟨bx, 3, none⟩ = some (.int .i64 f.sq) := ab.cell 3
 have b4 : w1.cell? ⟨bx, 4, none⟩ = some (.int .i64 f.ac) := ab.cell 4
 have b5 : w1.cell? ⟨bx, 5, none⟩ = some (.slice a f.bd.length c) := ab.cell 5
 have hbr : bx ≠ r := fun ee => by have := h.hat.lt; omega
 have HB := Lib.hid hbr
 have HH := Lib.hid (And.intro h (And.intro k1 ab))
 obtain ⟨ty, se, bo, sq, ac, bd⟩ := f
 dsimp only [frA] at *
 generalize bd.length = nb at *
 obtain rfl : ty = 1 := hty
 obtain rfl : se = (t.se : Int) := hfs
 clear h hat1 ab k1 hbr 
 go_enter Tryz.func52, Tryz.ntmps52
 go_upto_region 1 with fail
 rw [← hbx, ← hw1]
 clear hbx hw1
 go_wp2_with fail
 go_quiet (fail)
 go_wp2_with fail
 go_quiet (fail)
 go_upto_region 9 with fail
 refine wp_world (fun wx => Kp (fun _ => False) W wx) ((HH.out.2.1.drewN _).drewN _) ?_
 intro w2 k2
 have f8 := F8.out.1 w2 k2
 have c8 := F8.out.2 w2 k2
 have K2 := Lib.hid k2
 clear k2
 go_wp2_with fail
 go_ret2
 exact ⟨rfl, (HH.out.1.kp0 K2.out).set8 true, (K2.out.mono (fun _ _ h => h.elim)).trans (kp_set _ _ _ _)⟩
set_option maxHeartbeats 1000000 in
theorem rldm_newer (h : RlC W r t e) (f : Fr) (a : Option Addr) (c : Nat) (now : Int) (s : Nat) (hfs : f.se = (s : Nat)) (hty : f.ty = 1) (hlt : t.se < s) (hz : 1 ≤ t.sz ∧ t.sz ≤ 64) :
 Calls Tryz.prog 52 #[.pointer (some ⟨r, 0, none⟩), .agg (frA f a c), .int .i64 now] W fun e1 w' => e1 = .returned (.tuple #[.slice none 0 0, .int .i64 0]) ∧ ∃ e', Ke { e with hello := true } e' ∧ (∀ g x, RlC w' r (upT { t with se := s } g x) e') ∧ (∀ t', ∀ k, RlF r t' e' k → RlF r t e k ∨ W.heap.size ≤ k) ∧ Kp (· = r) W w' := by
 have i1 : decide (s < t.se) = false := decide_eq_false (by omega)
 have i2 : decide (t.se < s) = true := decide_eq_true hlt
 have f3 : ∀ w', Kp (fun _ => False) W w' → w'.frozen? ⟨r, 3, none⟩ = false := fun w' k => (k.at h.hat (fun h => h)).frozen 3
 have F3 := Lib.hid f3
 clear f3
 obtain ⟨bx, w1, hbx, hw1, k1, ab⟩ := frame_box f a c W
 have hat1 := k1.at h.hat (fun h => h)
 have c2 : w1.cell? ⟨r, 2, none⟩ = some (.int .i64 t.st) := hat1.cell 2
 have c3 : w1.cell? ⟨r, 3, none⟩ = some (.int .i64 t.se) := hat1.cell 3
 have c4 : w1.cell? ⟨r, 4, none⟩ = some (.int .i64 t.bo) := hat1.cell 4
 have f2 := hat1.frozen 2
 have f4 := hat1.frozen 4
 have b0 : w1.cell? ⟨bx, 0, none⟩ = some (.int .i64 f.ty) := ab.cell 0
 have b1 : w1.cell? ⟨bx, 1, none⟩ = some (.int .i64 f.se) := ab.cell 1
 have b2 : w1.cell? ⟨bx, 2, none⟩ = some (.int .i64 f.bo) := ab.cell 2
 have b3 : w1.cell? ⟨bx, 3, none⟩ = some (.int .i64 f.sq) := ab.cell 3
 have b4 : w1.cell? ⟨bx, 4, none⟩ = some (.int .i64 f.ac) := ab.cell 4
 have b5 : w1.cell? ⟨bx, 5, none⟩ = some (.slice a f.bd.length c) := ab.cell 5
 have hbr : bx ≠ r := fun ee => by have := h.hat.lt; omega
 have HB := Lib.hid hbr
 have HH := Lib.hid (And.intro h (And.intro k1 ab))
 obtain ⟨ty, se, bo, sq, ac, bd⟩ := f
 dsimp only [frA] at *
 generalize bd.length = nb at *
 obtain rfl : ty = 1 := hty
 obtain rfl : se = (s : Int) := hfs
 have HZ := Lib.hid hz
 clear hz
 clear h hat1 ab k1 hbr hlt
 go_enter Tryz.func52, Tryz.ntmps52
 go_upto_region 1 with fail
 rw [← hbx, ← hw1]
 clear hbx hw1
 go_wp2_with fail
 go_quiet (fail)
 go_wp2_with fail
 go_quiet (fail)
 go_upto_region 7 with fail
 refine wp_world (fun wx => Kp (fun _ => False) W wx ∧ At wx bx [.int .i64 1, .int .i64 (s : Nat), .int .i64 bo, .int .i64 sq, .int .i64 ac, .slice a nb c]) ⟨(HH.out.2.1.drewN _).drewN _, (HH.out.2.2.drewN _).drewN _⟩ ?_
 rintro w2 ⟨k2, ab2⟩
 have f3 := F3.out w2 k2
 have c3 : w2.cell? ⟨r, 3, none⟩ = some (.int .i64 t.se) := (k2.at HH.out.1.hat (fun h => h)).cell 3
 have b1 : w2.cell? ⟨bx, 1, none⟩ = some (.int .i64 (s : Nat)) := ab2.cell 1
 have K2 := Lib.hid (And.intro k2 ab2)
 clear k2 ab2
 go_upto_region 8 with fail
 refine wp_world (fun wx => RlC wx r { t with se := s } e ∧ Kp (· = r) W wx ∧ At wx bx [.int .i64 1, .int .i64 (s : Nat), .int .i64 bo, .int .i64 sq, .int .i64 ac, .slice a nb c]) ⟨(HH.out.1.kp0 K2.out.1).set3 s, (K2.out.1.mono (fun _ _ h => h.elim)).trans (kp_set _ _ _ _), (kp_set _ _ _ _).at K2.out.2 HB.out⟩ ?_
 rintro w3 ⟨h3, k3, ab3⟩
 have CU := Lib.hid (rlup_any h3 HZ.out)
 have H3 := Lib.hid (And.intro h3 (And.intro k3 ab3))
 clear h3 k3 ab3 c2 c3 c4 f2 f4 b0 b1 b2 b3 b4 b5 f3
 go_wp2_with fail
 go_at_call 67
 refine CU.out.mono ?_
 rintro e1 w4 ⟨rfl, e', q1, q2, q3, q4⟩
 have f8 := (q2 0 0).hat.frozen 8
 have c8 : w4.cell? ⟨r, 8, none⟩ = some (.bool e'.hello) := (q2 0 0).hat.cell 8
 have HQ := Lib.hid (And.intro q1 (And.intro q2 (And.intro q3 q4)))
 clear q1 q2 q3 q4
 go_wp2_with fail
 go_ret2
 obtain ⟨q1, q2, q3, q4⟩ := HQ.out
 have hs3 := H3.out.2.1.size
 exact ⟨rfl, { e' with hello := true }, ⟨q1.ag, rfl, q1.rv, q1.rs, q1.asked, q1.at_⟩, fun g x => (q2 g x).set8 true, fun t' k hk => (q3 t' k hk).imp (fun ee => ee) (fun ee => by omega), (H3.out.2.1.trans q4).trans (kp_set _ _ _ _)⟩
set_option maxHeartbeats 1000000 in
theorem rldm_no3 (h : RlC W r t e) (f : Fr) (a : Option Addr) (c : Nat) (now : Int) (s : Nat) (hfs : f.se = (s : Nat)) (hty : f.ty = 3) (hno : ¬ (t.st = 2 ∧ f.se = (t.se : Int) ∧ f.bo = (t.bo : Int))) :
 Calls Tryz.prog 52 #[.pointer (some ⟨r, 0, none⟩), .agg (frA f a c), .int .i64 now] W fun e1 w' => e1 = .returned (.tuple #[.slice none 0 0, .int .i64 6]) ∧ ∃ rv', RlC w' r t { e with rv := rv', rs := refL e.rs s } ∧ (∀ g, rv'.ownBlock = some g → e.rv.ownBlock = some g ∨ W.heap.size ≤ g) ∧ Kp (· = r) W w' := by
 have CR := Lib.hid (fun w' (k : Kp (fun _ => False) W w') => rlreset_any (h.kp0 k) s)
 have hd : decide (t.st = 2 ∧ f.se = (t.se : Int) ∧ f.bo = (t.bo : Int)) = false := decide_eq_false hno
 have CO := Lib.hid (fun w' (k : Kp (fun _ => False) W w') => by have := rlown_any (h.kp0 k) f a c; rw [hd] at this; exact this)
 obtain ⟨bx, w1, hbx, hw1, k1, ab⟩ := frame_box f a c W
 have hat1 := k1.at h.hat (fun h => h)
 have c2 : w1.cell? ⟨r, 2, none⟩ = some (.int .i64 t.st) := hat1.cell 2
 have c3 : w1.cell? ⟨r, 3, none⟩ = some (.int .i64 t.se) := hat1.cell 3
 have c4 : w1.cell? ⟨r, 4, none⟩ = some (.int .i64 t.bo) := hat1.cell 4
 have f2 := hat1.frozen 2
 have f4 := hat1.frozen 4
 have b0 : w1.cell? ⟨bx, 0, none⟩ = some (.int .i64 f.ty) := ab.cell 0
 have b1 : w1.cell? ⟨bx, 1, none⟩ = some (.int .i64 f.se) := ab.cell 1
 have b2 : w1.cell? ⟨bx, 2, none⟩ = some (.int .i64 f.bo) := ab.cell 2
 have b3 : w1.cell? ⟨bx, 3, none⟩ = some (.int .i64 f.sq) := ab.cell 3
 have b4 : w1.cell? ⟨bx, 4, none⟩ = some (.int .i64 f.ac) := ab.cell 4
 have b5 : w1.cell? ⟨bx, 5, none⟩ = some (.slice a f.bd.length c) := ab.cell 5
 have hbr : bx ≠ r := fun ee => by have := h.hat.lt; omega
 have HB := Lib.hid hbr
 have HH := Lib.hid (And.intro h (And.intro k1 ab))
 obtain ⟨ty, se, bo, sq, ac, bd⟩ := f
 dsimp only [frA] at *
 generalize bd.length = nb at *
 obtain rfl : ty = 3 := hty
 obtain rfl : se = (s : Int) := hfs
 clear h hat1 ab k1 hbr hno hd
 go_enter Tryz.func52, Tryz.ntmps52
 go_upto_region 1 with fail
 rw [← hbx, ← hw1]
 clear hbx hw1
 go_wp2_with fail
 go_at_call 68
 refine (CO.out _ HH.out.2.1).mono ?_
 rintro e1 w2 ⟨rfl, k2⟩
 have ab2 := k2.at HH.out.2.2 (fun h => h)
 have b1 : w2.cell? ⟨bx, 1, none⟩ = some (.int .i64 (s : Nat)) := ab2.cell 1
 have K2 := Lib.hid (HH.out.2.1.trans k2)
 clear k2 ab2
 go_wp2_with fail
 go_at_call 70
 refine (CR.out _ K2.out).mono ?_
 rintro e1 w3 ⟨rfl, rv', q1, q2, q3⟩
 have HQ := Lib.hid (And.intro q1 (And.intro q2 q3))
 clear q1 q2 q3
 go_wp2_with fail
 go_ret2
 obtain ⟨q1, q2, q3⟩ := HQ.out
 have hs2 := K2.out.size
 exact ⟨rfl, rv', q1, fun g hg => (q2 g hg).imp_right (fun ee => Nat.le_trans hs2 ee), (K2.out.mono (fun _ _ h => h.elim)).trans q3⟩
set_option maxHeartbeats 1000000 in
theorem rldm_yes3 (h : RlC W r t e) (f : Fr) (a : Option Addr) (c : Nat) (now : Int) (hse : f.se = (t.se : Int)) (hty : f.ty = 3) (hst : t.st = 2) (hbo : f.bo = (t.bo : Int)) {Q : Value → Int → World → Prop}
 (C : ∀ w', Kp (fun _ => False) W w' → Tells Tryz.prog 69 #[.pointer (some ⟨r, 0, none⟩), .agg (frA f a c), .int .i64 now] w' Q) :
 Tells Tryz.prog 52 #[.pointer (some ⟨r, 0, none⟩), .agg (frA f a c), .int .i64 now] W Q := by
 have hd : decide (t.st = 2 ∧ f.se = (t.se : Int) ∧ f.bo = (t.bo : Int)) = true := decide_eq_true ⟨hst, hse, hbo⟩
 have CO := Lib.hid (fun w' (k : Kp (fun _ => False) W w') => by have := rlown_any (h.kp0 k) f a c; rw [hd] at this; exact this)
 have CN := Lib.hid C
 clear C
 obtain ⟨bx, w1, hbx, hw1, k1, ab⟩ := frame_box f a c W
 have hat1 := k1.at h.hat (fun h => h)
 have c2 : w1.cell? ⟨r, 2, none⟩ = some (.int .i64 t.st) := hat1.cell 2
 have c3 : w1.cell? ⟨r, 3, none⟩ = some (.int .i64 t.se) := hat1.cell 3
 have c4 : w1.cell? ⟨r, 4, none⟩ = some (.int .i64 t.bo) := hat1.cell 4
 have f2 := hat1.frozen 2
 have f4 := hat1.frozen 4
 have b0 : w1.cell? ⟨bx, 0, none⟩ = some (.int .i64 f.ty) := ab.cell 0
 have b1 : w1.cell? ⟨bx, 1, none⟩ = some (.int .i64 f.se) := ab.cell 1
 have b2 : w1.cell? ⟨bx, 2, none⟩ = some (.int .i64 f.bo) := ab.cell 2
 have b3 : w1.cell? ⟨bx, 3, none⟩ = some (.int .i64 f.sq) := ab.cell 3
 have b4 : w1.cell? ⟨bx, 4, none⟩ = some (.int .i64 f.ac) := ab.cell 4
 have b5 : w1.cell? ⟨bx, 5, none⟩ = some (.slice a f.bd.length c) := ab.cell 5
 have hbr : bx ≠ r := fun ee => by have := h.hat.lt; omega
 have HB := Lib.hid hbr
 have HH := Lib.hid (And.intro h (And.intro k1 ab))
 obtain ⟨ty, se, bo, sq, ac, bd⟩ := f
 dsimp only [frA] at *
 generalize bd.length = nb at *
 obtain rfl : ty = 3 := hty
 clear h hat1 ab k1 hbr hse hst hbo hd
 go_enter Tryz.func52, Tryz.ntmps52
 go_upto_region 1 with fail
 rw [← hbx, ← hw1]
 clear hbx hw1
 go_wp2_with fail
 go_at_call 68
 refine (CO.out _ HH.out.2.1).mono ?_
 rintro e1 w2 ⟨rfl, k2⟩
 have ab2 := k2.at HH.out.2.2 (fun h => h)
 have b0 : w2.cell? ⟨bx, 0, none⟩ = some (.int .i64 3) := ab2.cell 0
 have b1 : w2.cell? ⟨bx, 1, none⟩ = some (.int .i64 se) := ab2.cell 1
 have b2 : w2.cell? ⟨bx, 2, none⟩ = some (.int .i64 bo) := ab2.cell 2
 have b3 : w2.cell? ⟨bx, 3, none⟩ = some (.int .i64 sq) := ab2.cell 3
 have b4 : w2.cell? ⟨bx, 4, none⟩ = some (.int .i64 ac) := ab2.cell 4
 have b5 : w2.cell? ⟨bx, 5, none⟩ = some (.slice a nb c) := ab2.cell 5
 have K2 := Lib.hid (HH.out.2.1.trans k2)
 clear k2 ab2
 go_wp2_with fail
 go_at_call 69
 refine (CN.out _ K2.out).mono ?_
 rintro e1 w3 ⟨v, k, rfl, hq⟩
 have HQ := Lib.hid hq
 clear hq
 go_wp2_with fail
 go_ret2
 exact ⟨v, k, rfl, HQ.out⟩
set_option maxHeartbeats 1000000 in
theorem rldm_no4 (h : RlC W r t e) (f : Fr) (a : Option Addr) (c : Nat) (now : Int) (s : Nat) (hfs : f.se = (s : Nat)) (hty : f.ty = 4) (hno : ¬ (t.st = 2 ∧ f.se = (t.se : Int) ∧ f.bo = (t.bo : Int))) :
 Calls Tryz.prog 52 #[.pointer (some ⟨r, 0, none⟩), .agg (frA f a c), .int .i64 now] W fun e1 w' => e1 = .returned (.tuple #[.slice none 0 0, .int .i64 6]) ∧ ∃ rv', RlC w' r t { e with rv := rv', rs := refL e.rs s } ∧ (∀ g, rv'.ownBlock = some g → e.rv.ownBlock = some g ∨ W.heap.size ≤ g) ∧ Kp (· = r) W w' := by
 have CR := Lib.hid (fun w' (k : Kp (fun _ => False) W w') => rlreset_any (h.kp0 k) s)
 have hd : decide (t.st = 2 ∧ f.se = (t.se : Int) ∧ f.bo = (t.bo : Int)) = false := decide_eq_false hno
 have CO := Lib.hid (fun w' (k : Kp (fun _ => False) W w') => by have := rlown_any (h.kp0 k) f a c; rw [hd] at this; exact this)
 obtain ⟨bx, w1, hbx, hw1, k1, ab⟩ := frame_box f a c W
 have hat1 := k1.at h.hat (fun h => h)
 have c2 : w1.cell? ⟨r, 2, none⟩ = some (.int .i64 t.st) := hat1.cell 2
 have c3 : w1.cell? ⟨r, 3, none⟩ = some (.int .i64 t.se) := hat1.cell 3
 have c4 : w1.cell? ⟨r, 4, none⟩ = some (.int .i64 t.bo) := hat1.cell 4
 have f2 := hat1.frozen 2
 have f4 := hat1.frozen 4
 have b0 : w1.cell? ⟨bx, 0, none⟩ = some (.int .i64 f.ty) := ab.cell 0
 have b1 : w1.cell? ⟨bx, 1, none⟩ = some (.int .i64 f.se) := ab.cell 1
 have b2 : w1.cell? ⟨bx, 2, none⟩ = some (.int .i64 f.bo) := ab.cell 2
 have b3 : w1.cell? ⟨bx, 3, none⟩ = some (.int .i64 f.sq) := ab.cell 3
 have b4 : w1.cell? ⟨bx, 4, none⟩ = some (.int .i64 f.ac) := ab.cell 4
 have b5 : w1.cell? ⟨bx, 5, none⟩ = some (.slice a f.bd.length c) := ab.cell 5
 have hbr : bx ≠ r := fun ee => by have := h.hat.lt; omega
 have HB := Lib.hid hbr
 have HH := Lib.hid (And.intro h (And.intro k1 ab))
 obtain ⟨ty, se, bo, sq, ac, bd⟩ := f
 dsimp only [frA] at *
 generalize bd.length = nb at *
 obtain rfl : ty = 4 := hty
 obtain rfl : se = (s : Int) := hfs
 clear h hat1 ab k1 hbr hno hd
 go_enter Tryz.func52, Tryz.ntmps52
 go_upto_region 1 with fail
 rw [← hbx, ← hw1]
 clear hbx hw1
 go_wp2_with fail
 go_at_call 68
 refine (CO.out _ HH.out.2.1).mono ?_
 rintro e1 w2 ⟨rfl, k2⟩
 have ab2 := k2.at HH.out.2.2 (fun h => h)
 have b1 : w2.cell? ⟨bx, 1, none⟩ = some (.int .i64 (s : Nat)) := ab2.cell 1
 have K2 := Lib.hid (HH.out.2.1.trans k2)
 clear k2 ab2
 go_wp2_with fail
 go_at_call 70
 refine (CR.out _ K2.out).mono ?_
 rintro e1 w3 ⟨rfl, rv', q1, q2, q3⟩
 have HQ := Lib.hid (And.intro q1 (And.intro q2 q3))
 clear q1 q2 q3
 go_wp2_with fail
 go_ret2
 obtain ⟨q1, q2, q3⟩ := HQ.out
 have hs2 := K2.out.size
 exact ⟨rfl, rv', q1, fun g hg => (q2 g hg).imp_right (fun ee => Nat.le_trans hs2 ee), (K2.out.mono (fun _ _ h => h.elim)).trans q3⟩
set_option maxHeartbeats 1000000 in
theorem rldm_yes4 (h : RlC W r t e) (f : Fr) (a : Option Addr) (c : Nat) (now : Int) (hse : f.se = (t.se : Int)) (hty : f.ty = 4) (hst : t.st = 2) (hbo : f.bo = (t.bo : Int)) {Q : Value → Int → World → Prop}
 (C : ∀ w', Kp (fun _ => False) W w' → Tells Tryz.prog 69 #[.pointer (some ⟨r, 0, none⟩), .agg (frA f a c), .int .i64 now] w' Q) :
 Tells Tryz.prog 52 #[.pointer (some ⟨r, 0, none⟩), .agg (frA f a c), .int .i64 now] W Q := by
 have hd : decide (t.st = 2 ∧ f.se = (t.se : Int) ∧ f.bo = (t.bo : Int)) = true := decide_eq_true ⟨hst, hse, hbo⟩
 have CO := Lib.hid (fun w' (k : Kp (fun _ => False) W w') => by have := rlown_any (h.kp0 k) f a c; rw [hd] at this; exact this)
 have CN := Lib.hid C
 clear C
 obtain ⟨bx, w1, hbx, hw1, k1, ab⟩ := frame_box f a c W
 have hat1 := k1.at h.hat (fun h => h)
 have c2 : w1.cell? ⟨r, 2, none⟩ = some (.int .i64 t.st) := hat1.cell 2
 have c3 : w1.cell? ⟨r, 3, none⟩ = some (.int .i64 t.se) := hat1.cell 3
 have c4 : w1.cell? ⟨r, 4, none⟩ = some (.int .i64 t.bo) := hat1.cell 4
 have f2 := hat1.frozen 2
 have f4 := hat1.frozen 4
 have b0 : w1.cell? ⟨bx, 0, none⟩ = some (.int .i64 f.ty) := ab.cell 0
 have b1 : w1.cell? ⟨bx, 1, none⟩ = some (.int .i64 f.se) := ab.cell 1
 have b2 : w1.cell? ⟨bx, 2, none⟩ = some (.int .i64 f.bo) := ab.cell 2
 have b3 : w1.cell? ⟨bx, 3, none⟩ = some (.int .i64 f.sq) := ab.cell 3
 have b4 : w1.cell? ⟨bx, 4, none⟩ = some (.int .i64 f.ac) := ab.cell 4
 have b5 : w1.cell? ⟨bx, 5, none⟩ = some (.slice a f.bd.length c) := ab.cell 5
 have hbr : bx ≠ r := fun ee => by have := h.hat.lt; omega
 have HB := Lib.hid hbr
 have HH := Lib.hid (And.intro h (And.intro k1 ab))
 obtain ⟨ty, se, bo, sq, ac, bd⟩ := f
 dsimp only [frA] at *
 generalize bd.length = nb at *
 obtain rfl : ty = 4 := hty
 clear h hat1 ab k1 hbr hse hst hbo hd
 go_enter Tryz.func52, Tryz.ntmps52
 go_upto_region 1 with fail
 rw [← hbx, ← hw1]
 clear hbx hw1
 go_wp2_with fail
 go_at_call 68
 refine (CO.out _ HH.out.2.1).mono ?_
 rintro e1 w2 ⟨rfl, k2⟩
 have ab2 := k2.at HH.out.2.2 (fun h => h)
 have b0 : w2.cell? ⟨bx, 0, none⟩ = some (.int .i64 4) := ab2.cell 0
 have b1 : w2.cell? ⟨bx, 1, none⟩ = some (.int .i64 se) := ab2.cell 1
 have b2 : w2.cell? ⟨bx, 2, none⟩ = some (.int .i64 bo) := ab2.cell 2
 have b3 : w2.cell? ⟨bx, 3, none⟩ = some (.int .i64 sq) := ab2.cell 3
 have b4 : w2.cell? ⟨bx, 4, none⟩ = some (.int .i64 ac) := ab2.cell 4
 have b5 : w2.cell? ⟨bx, 5, none⟩ = some (.slice a nb c) := ab2.cell 5
 have K2 := Lib.hid (HH.out.2.1.trans k2)
 clear k2 ab2
 go_wp2_with fail
 go_at_call 69
 refine (CN.out _ K2.out).mono ?_
 rintro e1 w3 ⟨v, k, rfl, hq⟩
 have HQ := Lib.hid hq
 clear hq
 go_wp2_with fail
 go_ret2
 exact ⟨v, k, rfl, HQ.out⟩
end
section
variable {W : World} {r : Nat} {t : Tk} {e : Dl}
theorem rlrec_late (r : Nat) (a : Option Addr) (n c : Nat) (now : Int) (W : World) (ht : timeB now = false) :
 Calls Tryz.prog 39 #[.pointer (some ⟨r, 0, none⟩), .slice a n c, .int .i64 now] W fun e1 w' => e1 = .returned (.tuple #[.slice none 0 0, .int .i64 2]) ∧ W = w' := by
 by_cases h1 : now < 0
 · clear ht
   go_enter Tryz.func39, Tryz.ntmps39
   go_wp2
   go_ret2
   exact ⟨rfl, rfl⟩
 · have h2 : now > 2147483647 := by
    unfold timeB at ht
    simp at ht
    omega
   clear ht
   go_enter Tryz.func39, Tryz.ntmps39
   go_wp2
   go_ret2
   exact ⟨rfl, rfl⟩
theorem rlrec_shut (h : RlC W r t e) (hag : e.ag = true) (hst : t.st = 3) (a : Option Addr) (n c : Nat) (now : Int) (ht : timeB now = true) :
 Calls Tryz.prog 39 #[.pointer (some ⟨r, 0, none⟩), .slice a n c, .int .i64 now] W fun e1 w' => e1 = .returned (.tuple #[.slice none 0 0, .int .i64 9]) ∧ W = w' := by
 have h4 := timeB_yes ht
 have h1 : ¬ now < 0 := by omega
 have h2 : ¬ now > 2147483647 := by omega
 have c0 : W.cell? ⟨r, 0, none⟩ = some (.bool e.ag) := h.hat.cell 0
 have c2 : W.cell? ⟨r, 2, none⟩ = some (.int .i64 t.st) := h.hat.cell 2
 rw [hag] at c0
 rw [hst] at c2
 clear h hag hst ht h4
 go_enter Tryz.func39, Tryz.ntmps39
 go_wp2
 go_ret2
 exact ⟨rfl, rfl⟩
set_option maxHeartbeats 1000000 in
theorem rlrec_bad (h : RlC W r t e) (hst : e.ag = true → ¬ t.st = 3) (a : Option Addr) (n c : Nat) (now : Int) (ht : timeB now = true) (l : List Int) (hn : l.length = n) (hr : RdB W a l) (hl : n ≤ 100000000) (hcap : n ≤ c) (hcm : c ≤ maxLen) (he : errR l ≠ 0) :
 Calls Tryz.prog 39 #[.pointer (some ⟨r, 0, none⟩), .slice a n c, .int .i64 now] W fun e1 w' => e1 = .returned (.tuple #[.slice none 0 0, .int .i64 (errR l)]) ∧ Kp (fun _ => False) W w' := by
 subst hn
 have h4 := timeB_yes ht
 have h1 : ¬ now < 0 := by omega
 have h2 : ¬ now > 2147483647 := by omega
 have c0 : W.cell? ⟨r, 0, none⟩ = some (.bool e.ag) := h.hat.cell 0
 have c2 : W.cell? ⟨r, 2, none⟩ = some (.int .i64 t.st) := h.hat.cell 2
 have CR := Lib.hid (rread_any a c l W hr hl hcap hcm)
 have heb2 : (errR l != 0) = true := by simpa using he
 obtain ⟨er, her⟩ : ∃ er, er = errR l := ⟨_, rfl⟩
 rw [← her] at heb2 ⊢
 have HER := Lib.hid her
 obtain ⟨n, hn⟩ : ∃ n, n = l.length := ⟨_, rfl⟩
 rw [← hn] at CR ⊢
 generalize t.st = tst at *
 generalize e.ag = ag at *
 clear h ht hr hl hcap hcm her hn he h4
 cases ag
 case false =>
  clear hst
  go_enter Tryz.func39, Tryz.ntmps39
  go_wp2_with fail
  go_at_call 50
  refine CR.out.mono ?_
  rintro e w1 hro
  obtain ⟨A', c', rfl, hrA, hfA, k1⟩ := hro
  rw [← HER.out]
  have K1 := Lib.hid k1
  generalize frR l = F at *
  obtain ⟨ty, se, bo, sq, ac, bd⟩ := F
  dsimp only [frA] at *
  clear hrA hfA k1 CR c0 c2
  go_wp2_with fail
  go_ret2
  exact ⟨rfl, by first | exact K1.out.alloc _ | exact K1.out⟩
 case true =>
  have h5 : ((tst : Int) == 3) = false := by have := hst rfl; simp; omega
  clear hst
  go_enter Tryz.func39, Tryz.ntmps39
  go_wp2_with fail
  go_at_call 50
  refine CR.out.mono ?_
  rintro e w1 hro
  obtain ⟨A', c', rfl, hrA, hfA, k1⟩ := hro
  rw [← HER.out]
  have K1 := Lib.hid k1
  generalize frR l = F at *
  obtain ⟨ty, se, bo, sq, ac, bd⟩ := F
  dsimp only [frA] at *
  clear hrA hfA k1 CR c0 c2
  go_wp2_with fail
  go_ret2
  exact ⟨rfl, by first | exact K1.out.alloc _ | exact K1.out⟩
set_option maxHeartbeats 1000000 in
theorem rlrec_agent (h : RlC W r t e) (hag : e.ag = true) (hst : ¬ t.st = 3) (a : Option Addr) (n c : Nat) (now : Int) (ht : timeB now = true) (l : List Int) (hn : l.length = n) (hr : RdB W a l) (hl : n ≤ 100000000) (hcap : n ≤ c) (hcm : c ≤ maxLen) (he : errR l = 0) (f : Fr) (hf : frR l = f) {Q : Value → Int → World → Prop}
 (C : ∀ w' A c', Kp (fun _ => False) W w' → RdB w' A f.bd → (∀ g, (Value.slice A 0 c').ownBlock = some g → W.heap.size ≤ g) → Tells Tryz.prog 51 #[.pointer (some ⟨r, 0, none⟩), .agg (frA f A c'), .int .i64 now] w' Q) :
 Tells Tryz.prog 39 #[.pointer (some ⟨r, 0, none⟩), .slice a n c, .int .i64 now] W Q := by
 subst hn
 have h4 := timeB_yes ht
 have h1 : ¬ now < 0 := by omega
 have h2 : ¬ now > 2147483647 := by omega
 have c0 : W.cell? ⟨r, 0, none⟩ = some (.bool e.ag) := h.hat.cell 0
 have c2 : W.cell? ⟨r, 2, none⟩ = some (.int .i64 t.st) := h.hat.cell 2
 rw [hag] at c0
 have h5 : ((t.st : Int) == 3) = false := by simp; omega
 have CR := rread_any a c l W hr hl hcap hcm
 unfold RdOut at CR
 rw [he, hf] at CR
 have CR := Lib.hid CR
 have HC := Lib.hid C
 obtain ⟨n, hn⟩ : ∃ n, n = l.length := ⟨_, rfl⟩
 rw [← hn] at CR ⊢
 generalize t.st = tst at *
 clear h ht hr hl hcap hcm hn he hf hag C h4 hst
 unfold Tells
 go_enter Tryz.func39, Tryz.ntmps39
 go_wp2_with fail
 go_at_call 50
 refine CR.out.mono ?_
 rintro e w1 hro
 obtain ⟨A, c', rfl, hrA, hfA, k1⟩ := hro
 have K1 := Lib.hid (And.intro k1 (And.intro hrA hfA))
 have c0 := k1.cell c0 (fun h => h)
 have HC := Lib.hid (fun w2 (k2 : Kp (fun _ => False) w1 w2) => HC.out w2 A c' (k1.trans k2) (hrA.kp0 k2 (fun _ _ h => h)) hfA)
 obtain ⟨ty, se, bo, sq, ac, bd⟩ := f
 dsimp only [frA] at *
 obtain ⟨w2, hw2⟩ : ∃ w2, w2 = w1.alloc (.cells #[.int .i64 ty, .int .i64 se, .int .i64 bo, .int .i64 sq, .int .i64 ac, .slice A bd.length c'] 34) := ⟨_, rfl⟩
 obtain ⟨fb, hfb⟩ : ∃ fb, fb = w1.heap.size := ⟨_, rfl⟩
 have k2 : Kp (fun _ => False) w1 w2 := by rw [hw2]; exact (Kp.refl _ w1).alloc _
 have ab : At w2 fb [.int .i64 ty, .int .i64 se, .int .i64 bo, .int .i64 sq, .int .i64 ac, .slice A bd.length c'] := by rw [hw2, hfb]; exact At.new w1 _ _
 have q0 : w2.cell? ⟨fb, 0, none⟩ = some (.int .i64 ty) := ab.cell 0
 have q1 : w2.cell? ⟨fb, 1, none⟩ = some (.int .i64 se) := ab.cell 1
 have q2 : w2.cell? ⟨fb, 2, none⟩ = some (.int .i64 bo) := ab.cell 2
 have q3 : w2.cell? ⟨fb, 3, none⟩ = some (.int .i64 sq) := ab.cell 3
 have q4 : w2.cell? ⟨fb, 4, none⟩ = some (.int .i64 ac) := ab.cell 4
 have q5 : w2.cell? ⟨fb, 5, none⟩ = some (.slice A bd.length c') := ab.cell 5
 have c0 := k2.cell c0 (fun h => h)
 have C2 := Lib.hid (HC.out w2 k2)
 generalize bd.length = nb at *
 clear hrA hfA k1 CR k2 ab HC
 go_upto_region 6 with fail
 rw [← hw2, ← hfb]
 clear hw2 hfb
 go_wp2_with fail
 go_at_call 51
 refine C2.out.mono ?_
 rintro e1 w3 ⟨v, k, rfl, hq⟩
 have HQ := Lib.hid hq
 clear hq
 go_wp2_with fail
 go_ret2
 exact ⟨v, k, rfl, HQ.out⟩
set_option maxHeartbeats 1000000 in
theorem rlrec_daemon (h : RlC W r t e) (hag : e.ag = false) (a : Option Addr) (n c : Nat) (now : Int) (ht : timeB now = true) (l : List Int) (hn : l.length = n) (hr : RdB W a l) (hl : n ≤ 100000000) (hcap : n ≤ c) (hcm : c ≤ maxLen) (he : errR l = 0) (f : Fr) (hf : frR l = f) {Q : Value → Int → World → Prop}
 (C : ∀ w' A c', Kp (fun _ => False) W w' → RdB w' A f.bd → (∀ g, (Value.slice A 0 c').ownBlock = some g → W.heap.size ≤ g) → Tells Tryz.prog 52 #[.pointer (some ⟨r, 0, none⟩), .agg (frA f A c'), .int .i64 now] w' Q) :
 Tells Tryz.prog 39 #[.pointer (some ⟨r, 0, none⟩), .slice a n c, .int .i64 now] W Q := by
 subst hn
 have h4 := timeB_yes ht
 have h1 : ¬ now < 0 := by omega
 have h2 : ¬ now > 2147483647 := by omega
 have c0 : W.cell? ⟨r, 0, none⟩ = some (.bool e.ag) := h.hat.cell 0
 have c2 : W.cell? ⟨r, 2, none⟩ = some (.int .i64 t.st) := h.hat.cell 2
 rw [hag] at c0
 have CR := rread_any a c l W hr hl hcap hcm
 unfold RdOut at CR
 rw [he, hf] at CR
 have CR := Lib.hid CR
 have HC := Lib.hid C
 obtain ⟨n, hn⟩ : ∃ n, n = l.length := ⟨_, rfl⟩
 rw [← hn] at CR ⊢
 generalize t.st = tst at *
 clear h ht hr hl hcap hcm hn he hf hag C h4 
 unfold Tells
 go_enter Tryz.func39, Tryz.ntmps39
 go_wp2_with fail
 go_at_call 50
 refine CR.out.mono ?_
 rintro e w1 hro
 obtain ⟨A, c', rfl, hrA, hfA, k1⟩ := hro
 have K1 := Lib.hid (And.intro k1 (And.intro hrA hfA))
 have c0 := k1.cell c0 (fun h => h)
 have HC := Lib.hid (fun w2 (k2 : Kp (fun _ => False) w1 w2) => HC.out w2 A c' (k1.trans k2) (hrA.kp0 k2 (fun _ _ h => h)) hfA)
 obtain ⟨ty, se, bo, sq, ac, bd⟩ := f
 dsimp only [frA] at *
 obtain ⟨w2, hw2⟩ : ∃ w2, w2 = w1.alloc (.cells #[.int .i64 ty, .int .i64 se, .int .i64 bo, .int .i64 sq, .int .i64 ac, .slice A bd.length c'] 34) := ⟨_, rfl⟩
 obtain ⟨fb, hfb⟩ : ∃ fb, fb = w1.heap.size := ⟨_, rfl⟩
 have k2 : Kp (fun _ => False) w1 w2 := by rw [hw2]; exact (Kp.refl _ w1).alloc _
 have ab : At w2 fb [.int .i64 ty, .int .i64 se, .int .i64 bo, .int .i64 sq, .int .i64 ac, .slice A bd.length c'] := by rw [hw2, hfb]; exact At.new w1 _ _
 have q0 : w2.cell? ⟨fb, 0, none⟩ = some (.int .i64 ty) := ab.cell 0
 have q1 : w2.cell? ⟨fb, 1, none⟩ = some (.int .i64 se) := ab.cell 1
 have q2 : w2.cell? ⟨fb, 2, none⟩ = some (.int .i64 bo) := ab.cell 2
 have q3 : w2.cell? ⟨fb, 3, none⟩ = some (.int .i64 sq) := ab.cell 3
 have q4 : w2.cell? ⟨fb, 4, none⟩ = some (.int .i64 ac) := ab.cell 4
 have q5 : w2.cell? ⟨fb, 5, none⟩ = some (.slice A bd.length c') := ab.cell 5
 have c0 := k2.cell c0 (fun h => h)
 have C2 := Lib.hid (HC.out w2 k2)
 generalize bd.length = nb at *
 clear hrA hfA k1 CR k2 ab HC
 go_upto_region 6 with fail
 rw [← hw2, ← hfb]
 clear hw2 hfb
 go_wp2_with fail
 go_at_call 52
 refine C2.out.mono ?_
 rintro e1 w3 ⟨v, k, rfl, hq⟩
 have HQ := Lib.hid hq
 clear hq
 go_wp2_with fail
 go_ret2
 exact ⟨v, k, rfl, HQ.out⟩
end
theorem app_any {B : Nat} {w : World} {g : Nat} {v u : Value} {ls : List (List Int)} {vs : List Value} {l : List Int} (h : LLs B w v ls vs) (hat : At w g [u]) (hu : OwnB w u l) (hug : ∀ k, u.ownBlock = some k → v.ownBlock ≠ some k ∧ B ≤ k ∧ ∀ i, i < ls.length → (vs.getD i undef).ownBlock ≠ some k) (hB : B ≤ w.heap.size) (hn : ls.length ≤ 1000000) :
 ∃ a c w', (Builtin.append_ #[67, 67] 67 #[v, .slice (some ⟨g, 0, none⟩) 1 1]).run Tryz.prog w = .ok (.slice a (ls.length + 1) c) w' ∧ LLs B w' (.slice a (ls.length + 1) c) (ls ++ [l]) (vs ++ [u]) ∧ (∀ k, (Value.slice a (ls.length + 1) c).ownBlock = some k → v.ownBlock = some k ∨ w.heap.size ≤ k) ∧ Kp (fun k => v.ownBlock = some k) w w' := by
 obtain ⟨v', w', r1, r2, r3, r4⟩ := h.app (P := Tryz.prog) (t := 67) (tx := 67) (ty := 67) Tryz.underlying67 elem_sl Tryz.underlying67 (by omega) hu hug (by omega) hB hat
 obtain ⟨a, c, e, _⟩ := r2.form
 rw [List.length_append, List.length_singleton] at e
 subst e
 exact ⟨a, c, w', r1, r2, fun k hk => r4.elim (fun e => .inl (e ▸ hk)) (fun e => .inr (by rw [hk] at e; have := Option.some.inj e; omega)), r3⟩
section
variable {W : World} {r : Nat} {t : Tk} {e : Dl}
set_option maxHeartbeats 1000000 in
theorem rlput_any (h : RlC W r t e) (kd sq ac : Int) (a : Option Addr) (n c : Nat) (bd : List Int) (hn : n = bd.length) (hr : RdB W a bd) (hc : n ≤ c) (hl : n ≤ 1000000) :
 Calls Tryz.prog 43 #[.pointer (some ⟨r, 0, none⟩), .int .i64 kd, .int .i64 sq, .int .i64 ac, .slice a n c] W fun e1 w' => ∃ v, e1 = .returned v ∧ OwnB w' v (layF ⟨kd, t.se, t.bo, sq, ac, bd⟩) ∧ (∀ g, v.ownBlock = some g → W.heap.size ≤ g) ∧ Kp (fun _ => False) W w' := by
 have CL := fun w' (k : Kp (fun _ => False) W w') => rlay_any ⟨kd, t.se, t.bo, sq, ac, bd⟩ a c w' (hr.kp0 k (fun _ _ h => h)) (by show bd.length ≤ c; omega) (by show bd.length ≤ 1000000; omega)
 dsimp only [frA] at CL
 rw [← hn] at CL
 have CL := Lib.hid CL
 have c3 : W.cell? ⟨r, 3, none⟩ = some (.int .i64 t.se) := h.hat.cell 3
 have c4 : W.cell? ⟨r, 4, none⟩ = some (.int .i64 t.bo) := h.hat.cell 4
 generalize t.se = tse at *
 generalize t.bo = tbo at *
 clear h hr hc hl hn
 go_enter Tryz.func43, Tryz.ntmps43
 go_upto_region 1 with fail
 refine region_L (S := fun w' => Kp (fun _ => False) W w') [12] rfl ?_
 have hSd : ∀ (w' : World) (n' : Nat), Kp (fun _ => False) W w' → Kp (fun _ => False) W (w'.drewN n') := fun w' n' h => h.drewN n'
 have hS0 : Kp (fun _ => False) W W.drew := (Kp.refl _ W).drew
 refine anyL_world (fun w' => Kp (fun _ => False) W w') hS0 ?_
 clear hS0
 intro z0 kz0
 refine tF 0 11 (.int .i64 kd) rfl rfl hSd (fun _ => kz0) ?_
 try simp only [sC]
 refine tF 1 12 (.pointer (some ⟨r, 0, none⟩)) rfl rfl hSd (fun _ => kz0) ?_
 try simp only [sC]
 refine tF 2 13 (.pointer (some ⟨r, 0, none⟩)) rfl rfl hSd (fun _ => kz0) ?_
 try simp only [sC]
 refine tF 3 14 (.pointer (some ⟨r, 3, none⟩)) rfl rfl hSd (fun _ => kz0) ?_
 try simp only [sC]
 refine tD 4 15 (.int .i64 (tse : Nat)) rfl rfl hSd (.inl (.inl ⟨rfl, fun w' hS => by have h := hS.cell c3 (fun h => h); go_simp⟩)) kz0 ?_
 try simp only [sC]
 refine tF 5 16 (.pointer (some ⟨r, 0, none⟩)) rfl rfl hSd (fun _ => kz0) ?_
 try simp only [sC]
 refine tF 6 17 (.pointer (some ⟨r, 0, none⟩)) rfl rfl hSd (fun _ => kz0) ?_
 try simp only [sC]
 refine tF 7 18 (.pointer (some ⟨r, 4, none⟩)) rfl rfl hSd (fun _ => kz0) ?_
 try simp only [sC]
 refine tD 8 19 (.int .i64 (tbo : Nat)) rfl rfl hSd (.inl (.inl ⟨rfl, fun w' hS => by have h := hS.cell c4 (fun h => h); go_simp⟩)) kz0 ?_
 try simp only [sC]
 refine tF 9 20 (.int .i64 sq) rfl rfl hSd (fun _ => kz0) ?_
 try simp only [sC]
 refine tF 10 21 (.int .i64 ac) rfl rfl hSd (fun _ => kz0) ?_
 try simp only [sC]
 refine tF 11 22 (.slice a n c) rfl rfl hSd (fun _ => kz0) ?_
 try simp only [sC]
 refine tA 12 ?_
 intro n10
 refine wpOp_of rfl rfl ?_
 go_simp
 try dsimp only
 try refine ⟨fun h => Bool.noConfusion (show false = true from h), ?_⟩
 try simp only [sC]
 refine tA 13 ?_
 intro n11
 have kzz := (kz0.drewN n10).drewN n11
 generalize (z0.drewN n10).drewN n11 = zz at *
 refine wpOp_of rfl rfl ?_
 go_simp
 refine Calls.mono (CL.out zz kzz) ?_
 rintro e w5p ⟨v5, rfl, hv5, hg5, k5⟩
 have kk5 : Kp (fun _ => False) W w5p := kzz.trans k5
 have hz5 := kzz.size
 clear k5
 try dsimp only
 refine ⟨fun h => Bool.noConfusion (show false = true from h), ?_⟩
 try simp only [sC]
 refine tF 14 10 v5 rfl rfl hSd (fun h => Bool.noConfusion (show false = true from h)) ?_
 try simp only [sC]
 refine anyL_done (by kernel_rfl) (fun nn => ?_) _
 have kw5 : Kp (fun _ => False) w5p (w5p.drewN nn) := (Kp.refl _ w5p).drewN nn
 generalize w5p.drewN nn = w5 at *
 have HF := Lib.hid (And.intro (hv5.kp kw5 (fun _ _ h => h)) (And.intro (fun g hg => Nat.le_trans hz5 (hg5 g hg)) (kk5.trans kw5)))
 clear hSd kz0 kzz kk5 kw5 hv5 hg5 hz5
 go_wp2_with fail
 go_ret
 exact ⟨v5, rfl, HF.out⟩
end
def synD (t : Tk) (sy : Bool) : List (List Int) := if sy then [layF ⟨1, t.se, t.bo, 0, 0, []⟩] else []
def welD (t : Tk) (he : Bool) (ls : List (List Int)) : List (List Int) := if he then ls ++ [layF ⟨2, t.se, t.bo, 0, 0, []⟩] else ls
def rstD (bo : Nat) (ls : List (List Int)) (rs : List Nat) : List (List Int) := ls ++ rs.map fun s => layF ⟨5, (s : Nat), (bo : Nat), 0, 0, []⟩
def datD (se bo ac : Nat) (ls : List (List Int)) (l : List Tp) : List (List Int) := ls ++ l.map fun p => layF ⟨3, (se : Nat), (bo : Nat), (p.seq : Nat), (ac : Nat), p.body⟩
def tikD (t : Tk) (e : Dl) (sy : Bool) : List (List Int) := rstD t.bo (welD t e.hello (synD t sy)) e.rs
def dueD (t : Tk) (ls : List (List Int)) (l : List Tp) : List (List Int) := if l.length = 0 ∧ t.owed = true then ls ++ [layF ⟨4, t.se, t.bo, 0, (t.i.n - 1 : Nat), []⟩] else datD t.se t.bo (t.i.n - 1) ls l
def tikE (e : Dl) (sy : Bool) (now : Nat) : Dl := { e with asked := e.asked || sy, at_ := if sy then now else e.at_ }
def tikF (e : Dl) : Dl := { e with hello := false, rv := .slice none 0 0, rs := [] }
theorem rstD_len (bo : Nat) (ls : List (List Int)) (rs : List Nat) : (rstD bo ls rs).length = ls.length + rs.length := by simp [rstD]
theorem rstD_snoc (bo : Nat) (ls : List (List Int)) (rs : List Nat) (s : Nat) : rstD bo ls (rs ++ [s]) = rstD bo ls rs ++ [layF ⟨5, (s : Nat), (bo : Nat), 0, 0, []⟩] := by simp [rstD]
theorem datD_len (se bo ac : Nat) (ls : List (List Int)) (l : List Tp) : (datD se bo ac ls l).length = ls.length + l.length := by simp [datD]
theorem datD_snoc (se bo ac : Nat) (ls : List (List Int)) (l : List Tp) (p : Tp) : datD se bo ac ls (l ++ [p]) = datD se bo ac ls l ++ [layF ⟨3, (se : Nat), (bo : Nat), (p.seq : Nat), (ac : Nat), p.body⟩] := by simp [datD]
theorem synD_len (t : Tk) (sy : Bool) : (synD t sy).length ≤ 1 := by unfold synD; split <;> simp
theorem welD_len (t : Tk) (he : Bool) (ls : List (List Int)) : (welD t he ls).length ≤ ls.length + 1 := by unfold welD; split <;> simp
theorem layP_app {ls : List (List Int)} {f : Fr} (h : errF f = 0) : layP ls f = ls ++ [layF f] := by unfold layP; rw [if_pos h]
theorem rstL_D (bo : Nat) (hb : bo ≤ 2147483647) : ∀ (ls : List (List Int)) (rs : List Nat), (∀ s ∈ rs, 1 ≤ s ∧ s ≤ 2147483647) → rstL bo ls rs = rstD bo ls rs
 | ls, [], _ => by simp [rstL, rstD]
 | ls, s :: r, h => by
  have e := rstL_D bo hb (layP ls (rstF bo s)) r (fun x hx => h x (List.mem_cons_of_mem _ hx))
  have h1 := h s (List.mem_cons_self ..)
  show rstL bo (layP ls (rstF bo s)) r = _
  rw [e, layP_app (errF_rst h1.1 h1.2 hb)]
  simp [rstD, rstF]
theorem layL_D (se bo ac : Nat) : ∀ (ls : List (List Int)) (l : List Tp), (∀ p ∈ l, errF (datF se bo ac p) = 0) → layL se bo ac ls l = datD se bo ac ls l
 | ls, [], _ => by simp [layL, datD]
 | ls, p :: r, h => by
  have e := layL_D se bo ac (layP ls (datF se bo ac p)) r (fun x hx => h x (List.mem_cons_of_mem _ hx))
  show layL se bo ac (layP ls (datF se bo ac p)) r = _
  rw [e, layP_app (h p (List.mem_cons_self ..))]
  simp [datD, datF]
theorem tp_getL {l : List Tp} {j : Nat} (h : j < l.length) : tp l j = l[j] := by unfold tp; rw [List.getD_eq_getElem?_getD, List.getElem?_eq_getElem h]; rfl
theorem tel_same {x : Wn} {is : List Nat} {l l' : List Tp} (h : TelL x is l) (h' : TelL x is l') (se bo ac : Nat) (ls : List (List Int)) : datD se bo ac ls l = datD se bo ac ls l' := by
 unfold datD
 congr 1
 refine List.ext_getElem (by simp [h.1, h'.1]) fun j h1 h2 => ?_
 rw [List.length_map] at h1 h2
 rw [List.getElem_map, List.getElem_map, ← tp_getL h1, ← tp_getL h2]
 have hj : j < is.length := by rw [← h.1]; exact h1
 obtain ⟨a1, a2⟩ := h.2 j _ (List.getElem?_eq_getElem hj)
 obtain ⟨b1, b2⟩ := h'.2 j _ (List.getElem?_eq_getElem hj)
 rw [a1, a2, b1, b2]
theorem tel_ok {x : Wn} {now : Nat} {l : List Tp} (h : TelL (atW x now) (dueI (atW x now)) l) {Pr : Nat → List Int → Prop} (hs : ∀ i, i < x.l.length → Pr (pk x.l i).seq (pk x.l i).body) : ∀ p ∈ l, Pr p.seq p.body := fun p hp => by
 obtain ⟨j, hj, rfl⟩ := List.getElem_of_mem hp
 have hj' : j < (dueI (atW x now)).length := by rw [← h.1]; exact hj
 have hi := List.getElem?_eq_getElem hj'
 obtain ⟨a1, a2⟩ := h.2 j _ hi
 rw [tp_getL hj] at a1 a2
 rw [a1, a2]
 have hlt : (dueI (atW x now))[j] < (atW x now).l.length := dueI_ltL hi
 exact hs _ hlt
structure Iv (t : Tk) (I : Nat) : Prop where
 se : t.st = 2 → 1 ≤ t.se
 bo : t.st = 2 → 1 ≤ t.bo
 n : t.st = 2 → t.i.n ≤ 1 + 64 * I
 bd : t.st = 2 → ∀ i, i < t.i.x.l.length → (pk t.i.x.l i).body.length ≤ 1400
theorem Iv.not {t : Tk} (h : ¬ t.st = 2) (I : Nat) : Iv t I := ⟨fun e => absurd e h, fun e => absurd e h, fun e => absurd e h, fun e => absurd e h⟩
theorem Iv.mono {t : Tk} {I J : Nat} (h : Iv t I) (hIJ : I ≤ J) : Iv t J := ⟨h.se, h.bo, fun e => by have := h.n e; omega, h.bd⟩
theorem TkC.wf {W : World} {o I : Nat} {t : Tk} {ext : List Value} (h : TkC W o t ext I) (hst : t.st = 2) (hI : I ≤ 1000000) : Wf t.i.x := by
 have hu := h.up hst
 exact ⟨hu.ms, hu.win.seqs, fun i hi => (hu.win.bd i hi).1, hu.win.now_bd, by have := hu.win.len; have := hu.win.size_bd; omega, by have := hu.last; omega⟩
theorem TkC.seq1 {W : World} {o I : Nat} {t : Tk} {ext : List Value} (h : TkC W o t ext I) (hst : t.st = 2) : ∀ i, i < t.i.x.l.length → 1 ≤ (pk t.i.x.l i).seq ∧ (pk t.i.x.l i).seq ≤ t.i.x.last := fun i hi => by
 have hu := h.up hst
 have := hu.win.seqs i hi
 have := hu.ll
 omega
theorem dueL_D {W : World} {o I : Nat} {t : Tk} {ext : List Value} (h : TkC W o t ext I) (iv : Iv t I) (hst : t.st = 2) (hI : I ≤ 1000000) {now : Nat} {l8 : List Tp} (ht : TelL (atW t.i.x now) (dueI (atW t.i.x now)) l8) (ls : List (List Int)) : dueL t ls l8 = dueD t ls l8 := by
 have h1 := iv.se hst
 have h2 := iv.bo hst
 have h3 := iv.n hst
 unfold dueL dueD
 split
 · exact layP_app (errF_ack h1 h.se h2 h.bo (by omega))
 · refine layL_D _ _ _ _ _ (tel_ok (Pr := fun s b => errF (datF t.se t.bo (t.i.n - 1) ⟨s, .slice none 0 0, b⟩) = 0) ht fun i hi => ?_)
   have h4 := h.seq1 hst i hi
   have h5 := (h.up hst).last
   show errF ⟨3, (t.se : Nat), (t.bo : Nat), ((pk t.i.x.l i).seq : Nat), ((t.i.n - 1 : Nat) : Int), (pk t.i.x.l i).body⟩ = 0
   exact errF_dat h1 h.se h2 h.bo h4.1 (by omega) (by omega) (iv.bd hst i hi)
theorem dueD_same {t : Tk} {x : Wn} {is : List Nat} {l l' : List Tp} (h : TelL x is l) (h' : TelL x is l') (ls : List (List Int)) : dueD t ls l = dueD t ls l' := by
 unfold dueD
 rw [h.1, h'.1, tel_same h h']
theorem Iv.up {t : Tk} {g b I : Nat} (h1 : 1 ≤ t.se) (h2 : 1 ≤ t.bo) : Iv (upT t g b) I := ⟨fun _ => h1, fun _ => h2, fun _ => by show 1 ≤ _; omega, fun _ i hi => absurd hi (Nat.not_lt_zero _)⟩
theorem Iv.sent {t : Tk} {p : Pk} {V : Value} {I : Nat} (h : Iv t I) (hp : p.body.length ≤ 1400) : Iv (sendT t p V) I := by
 refine ⟨h.se, h.bo, h.n, fun e i hi => ?_⟩
 have hi : i < (t.i.x.l ++ [p]).length := hi
 show (pk (t.i.x.l ++ [p]) i).body.length ≤ 1400
 rw [List.length_append, List.length_singleton] at hi
 by_cases h1 : i < t.i.x.l.length
 · rw [pk_app_lt h1]; exact h.bd e i h1
 · rw [show i = t.i.x.l.length by omega, pk_app_at]; exact hp
theorem Iv.ack {t : Tk} {n now : Int} {V : Value} {I : Nat} (h : Iv t I) : Iv (ackT t (ackX t.i.x n now V)) I := by
 refine ⟨h.se, h.bo, h.n, fun e i hi => ?_⟩
 have hi : i < (t.i.x.l.drop (goneN t.i.x n.toNat)).length := hi
 show (pk (t.i.x.l.drop (goneN t.i.x n.toNat)) i).body.length ≤ 1400
 rw [pk_drop]
 rw [List.length_drop] at hi
 exact h.bd e _ (by omega)
theorem Iv.take {t : Tk} {n now : Int} {V : Value} {f' : Bodies} {n' hd' : Nat} {F' : Nat → Prop} {I : Nat} (h : Iv t I) (hn : n' ≤ t.i.n + t.sz) (hz : t.sz ≤ 64) : Iv (takeT t (ackX t.i.x n now V) f' n' hd' F') (I + 1) := by
 refine ⟨h.se, h.bo, fun e => ?_, h.ack (n := n) (now := now) (V := V) |>.bd⟩
 have := h.n e
 show n' ≤ _
 omega
theorem Iv.due {t : Tk} {now I : Nat} (h : Iv t I) : Iv (dueT t now) I := by
 refine ⟨h.se, h.bo, h.n, fun e i hi => ?_⟩
 have hi : i < (stL (atW t.i.x now) (dueI (atW t.i.x now))).length := hi
 show (pk (stL (atW t.i.x now) (dueI (atW t.i.x now))) i).body.length ≤ 1400
 rw [stL_len] at hi
 rw [(st_same (atW t.i.x now) _ hi).2.2.2]
 exact h.bd e i hi
end Go.Proofs.YtokembhfebnjpaaGreat
