/- Chapter 15: a daemon's end hears all, and takes a Syn. (Written by wip/lnj.py.) -/
import Derived.Test.YtokembhfebnjpaaQLnI
namespace Go.Proofs.Ytokembhfebnjpaa
set_option maxRecDepth 20000
open Go.RowKit Flt
set_option linter.unusedVariables false
set_option linter.unusedSimpArgs false
theorem dhears_any (o : Nat) (W : World) (f : Fr) (a : Option Addr) (c : Nat) :
    Calls Try.prog 111 #[.pointer (some ⟨o, 0, none⟩), .agg (frA f a c)] W fun e w' => e = .returned (.int .i64 0) ∧ Kp (fun _ => False) W w' := by
  obtain ⟨ty, se, bo, sq, ac, bd⟩ := f
  dsimp only [frA] at *
  generalize bd.length = nb at *
  go_enter Try.func111, Try.ntmps111
  go_wp2_with fail
  go_ret
  exact ⟨rfl, by first | exact (Kp.refl _ W).alloc _ | exact Kp.refl _ W⟩
theorem TkC.set1 {W : World} {o I : Nat} {t : Tk} {ext : List Value} (h : TkC W o t ext I) (b : Nat) (hb : b ≤ 2147483647) : TkC (W.setCell ⟨o, 1, none⟩ (.int .i64 (b : Nat))) o { t with se := b } ext I := by
  have k : Kp (fun k => k = o) W (W.setCell ⟨o, 1, none⟩ (.int .i64 (b : Nat))) := Kp.setCell (S := fun k => k = o) (Kp.refl _ W) (p := ⟨o, 1, none⟩) (fun _ => rfl) _
  refine { h with hat := h.hat.set 1 (.int .i64 (b : Nat)), se := hb, up := fun e => ?_ }
  have hu := h.up e
  exact { hu.kp k (fun j hj e => hu.oW (by have e : j = o := e; exact e ▸ hj)) (fun j hj e => hu.oX (by have e : j = o := e; exact e ▸ hj)) with }
set_option maxHeartbeats 1000000 in
theorem dsyn_elder {W : World} {o I : Nat} {t : Tk} {wel : Bool} {rv : Value} {rs : List Nat} (h : DmC W o t wel rv rs I) (f : Fr) (a : Option Addr) (c : Nat) (s : Nat) (hs : f.se = (s : Nat)) (hsb : s ≤ 2147483647) (hlt : s < t.se) :
    Calls Try.prog 114 #[.pointer (some ⟨o, 0, none⟩), .agg (frA f a c)] W fun e w' => e = .returned (.tuple #[.slice none 0 0, .int .i64 6]) ∧ ∃ rv', DmC w' o t wel rv' (refL rs s) I ∧ (∀ g, rv'.ownBlock = some g → rv.ownBlock = some g ∨ W.heap.size ≤ g) ∧ Kp (MeD o t rv) W w' := by
  obtain ⟨bx, w1, hbx, hw1, k1, ab⟩ := frame_box f a c W
  rw [hs] at ab
  have h1 := h.kp0 k1
  have hlw : ∀ x, rv.ownBlock = some x → x < W.heap.size := fun x hx => h.own.lt x hx
  have c1 := h1.tk.c.2.1
  have b1 : w1.cell? ⟨bx, 1, none⟩ = some (.int .i64 (s : Nat)) := ab.cell 1
  have H := Lib.hid (And.intro h1 (And.intro k1 ab))
  obtain ⟨ty, se, bo, sq, ac, bd⟩ := f
  dsimp only [frA] at *
  subst hs
  generalize bd.length = nb at *
  obtain ⟨q, hq⟩ : ∃ q, q = t.se := ⟨_, rfl⟩
  rw [← hq] at c1 hlt
  clear h h1 k1 ab hq
  have j1 : (s : Int) < (q : Int) := by omega
  have j2 : decide ((s : Int) < (q : Int)) = true := decide_eq_true j1
  go_enter Try.func114, Try.ntmps114
  go_upto_region 1 with fail
  rw [← hbx, ← hw1]
  clear hbx hw1
  go_wp2_with fail
  go_quiet (fail)
  go_upto_region 2 with fail
  refine wp_world (fun wx => Kp (fun _ => False) w1 wx) (by first | exact Kp.refl _ _ | exact (Kp.refl _ w1).drew | exact (Kp.refl _ w1).drewN _ | exact ((Kp.refl _ w1).drew).drew | exact ((Kp.refl _ w1).drewN _).drew | exact ((Kp.refl _ w1).drew).drewN _ | exact ((Kp.refl _ w1).drewN _).drewN _) ?_
  intro w2 k12
  have b1 := k12.cell b1 (fun h => h)
  have CR := Lib.hid (refuse_any (H.out.1.kp0 k12) s)
  have K2 := Lib.hid (H.out.2.1.trans k12)
  clear k12
  go_wp2_with fail
  go_at_call 115
  refine CR.out.mono ?_
  rintro e w3 ⟨rfl, rv', h3, hb3, k3⟩
  have hsz := K2.out.size
  have H3 := Lib.hid (And.intro h3 (And.intro (show ∀ g, rv'.ownBlock = some g → rv.ownBlock = some g ∨ W.heap.size ≤ g from fun g hg => (hb3 g hg).imp_right (fun e => by omega)) ((K2.out.mono (fun _ _ h => h.elim)).trans k3)))
  clear h3 hb3 k3 CR
  go_wp2_with fail
  go_ret2
  exact ⟨rfl, rv', H3.out⟩
set_option maxHeartbeats 1000000 in
theorem dsyn_same {W : World} {o I : Nat} {t : Tk} {wel : Bool} {rv : Value} {rs : List Nat} (h : DmC W o t wel rv rs I) (f : Fr) (a : Option Addr) (c : Nat) (s : Nat) (hs : f.se = (s : Nat)) (hsb : s ≤ 2147483647) (hlt : s = t.se) :
    Calls Try.prog 114 #[.pointer (some ⟨o, 0, none⟩), .agg (frA f a c)] W fun e w' => e = .returned (.tuple #[.slice none 0 0, .int .i64 0]) ∧ DmC w' o t true rv rs I ∧ Kp (fun k => k = o) W w' := by
  obtain ⟨bx, w1, hbx, hw1, k1, ab⟩ := frame_box f a c W
  rw [hs] at ab
  have h1 := h.kp0 k1
  have hlw : ∀ x, rv.ownBlock = some x → x < W.heap.size := fun x hx => h.own.lt x hx
  have c1 := h1.tk.c.2.1
  have b1 : w1.cell? ⟨bx, 1, none⟩ = some (.int .i64 (s : Nat)) := ab.cell 1
  have H := Lib.hid (And.intro h1 (And.intro k1 ab))
  obtain ⟨ty, se, bo, sq, ac, bd⟩ := f
  dsimp only [frA] at *
  subst hs
  generalize bd.length = nb at *
  obtain ⟨q, hq⟩ : ∃ q, q = t.se := ⟨_, rfl⟩
  rw [← hq] at c1 hlt
  clear h h1 k1 ab hq
  obtain rfl : q = s := hlt.symm
  have j1 : ¬ (q : Int) < (q : Int) := by omega
  have j2 : decide ((q : Int) < (q : Int)) = false := decide_eq_false j1
  clear hlt
  go_enter Try.func114, Try.ntmps114
  go_upto_region 1 with fail
  rw [← hbx, ← hw1]
  clear hbx hw1
  go_wp2_with fail
  go_quiet (fail)
  go_wp2_with fail
  go_quiet (fail)
  go_upto_region 6 with fail
  refine wp_world (fun wx => Kp (fun _ => False) w1 wx) (by first | exact Kp.refl _ _ | exact (Kp.refl _ w1).drew | exact (Kp.refl _ w1).drewN _ | exact ((Kp.refl _ w1).drew).drew | exact ((Kp.refl _ w1).drewN _).drew | exact ((Kp.refl _ w1).drew).drewN _ | exact ((Kp.refl _ w1).drewN _).drewN _) ?_
  intro w2 k12
  have h2 := H.out.1.kp0 k12
  have d7 : w2.cell? ⟨o, 7, none⟩ = some (.bool wel) := h2.tk.hat.cell 7
  have g7 := h2.tk.hat.frozen 7
  have K2 := Lib.hid (And.intro (H.out.2.1.trans k12) h2)
  clear k12 h2
  go_wp2_with fail
  go_ret2
  have k3 := Kp.setCell (S := fun k => k = o) (K2.out.1.mono (fun _ _ h => h.elim)) (p := ⟨o, 7, none⟩) (fun _ => rfl) (.bool true)
  have k4 := Kp.setCell (S := fun k => k = o) (Kp.refl _ w2) (p := ⟨o, 7, none⟩) (fun _ => rfl) (.bool true)
  exact ⟨rfl, ⟨K2.out.2.tk.extS (K2.out.2.tk.hat.set 7 (.bool true)) k4, K2.out.2.own.kp k4 (fun g hg e => K2.out.2.ap g hg (.inl e)), K2.out.2.ap, K2.out.2.len⟩, k3⟩
set_option maxHeartbeats 1000000 in
theorem dsyn_newer {W : World} {o I : Nat} {t : Tk} {wel : Bool} {rv : Value} {rs : List Nat} (h : DmC W o t wel rv rs I) (f : Fr) (a : Option Addr) (c : Nat) (s : Nat) (hs : f.se = (s : Nat)) (hsb : s ≤ 2147483647) (hlt : t.se < s) :
    Calls Try.prog 114 #[.pointer (some ⟨o, 0, none⟩), .agg (frA f a c)] W fun e w' => e = .returned (.tuple #[.slice none 0 0, .int .i64 0]) ∧ ∃ g b, DmC w' o (upT { t with se := s } g b) true rv rs I ∧ W.heap.size ≤ g ∧ W.heap.size ≤ b ∧ Kp (fun k => k = o) W w' := by
  obtain ⟨bx, w1, hbx, hw1, k1, ab⟩ := frame_box f a c W
  rw [hs] at ab
  have h1 := h.kp0 k1
  have hlw : ∀ x, rv.ownBlock = some x → x < W.heap.size := fun x hx => h.own.lt x hx
  have c1 := h1.tk.c.2.1
  have b1 : w1.cell? ⟨bx, 1, none⟩ = some (.int .i64 (s : Nat)) := ab.cell 1
  have H := Lib.hid (And.intro h1 (And.intro k1 ab))
  obtain ⟨ty, se, bo, sq, ac, bd⟩ := f
  dsimp only [frA] at *
  subst hs
  generalize bd.length = nb at *
  obtain ⟨q, hq⟩ : ∃ q, q = t.se := ⟨_, rfl⟩
  rw [← hq] at c1 hlt
  clear h h1 k1 ab hq
  have j1 : ¬ (s : Int) < (q : Int) := by omega
  have j2 : decide ((s : Int) < (q : Int)) = false := decide_eq_false j1
  have j3 : (s : Int) > (q : Int) := by omega
  have j4 : decide ((q : Int) < (s : Int)) = true := decide_eq_true (by omega)
  go_enter Try.func114, Try.ntmps114
  go_upto_region 1 with fail
  rw [← hbx, ← hw1]
  clear hbx hw1
  go_wp2_with fail
  go_quiet (fail)
  go_wp2_with fail
  go_quiet (fail)
  go_upto_region 4 with fail
  refine wp_world (fun wx => Kp (fun _ => False) w1 wx) (by first | exact Kp.refl _ _ | exact (Kp.refl _ w1).drew | exact (Kp.refl _ w1).drewN _ | exact ((Kp.refl _ w1).drew).drew | exact ((Kp.refl _ w1).drewN _).drew | exact ((Kp.refl _ w1).drew).drewN _ | exact ((Kp.refl _ w1).drewN _).drewN _) ?_
  intro w2 k12
  have b1 := k12.cell b1 (fun h => h)
  have h2 := H.out.1.kp0 k12
  have c1 := k12.cell c1 (fun h => h)
  have g1 := h2.tk.hat.frozen 1
  have K2 := Lib.hid (And.intro (H.out.2.1.trans k12) h2)
  clear k12 h2
  go_upto_region 5 with fail
  have h3 := K2.out.2.tk.set1 s hsb
  have k3 := Kp.setCell (S := fun k => k = o) (K2.out.1.mono (fun _ _ h => h.elim)) (p := ⟨o, 1, none⟩) (fun _ => rfl) (.int .i64 (s : Nat))
  have k23 := Kp.setCell (S := fun k => k = o) (Kp.refl _ w2) (p := ⟨o, 1, none⟩) (fun _ => rfl) (.int .i64 (s : Nat))
  obtain ⟨w3, hw3⟩ : ∃ w3, w3 = w2.setCell ⟨o, 1, none⟩ (.int .i64 (s : Nat)) := ⟨_, rfl⟩
  rw [← hw3] at h3 k3 k23 ⊢
  have CU := Lib.hid (up_any h3)
  have K3 := Lib.hid (And.intro k3 k23)
  clear hw3 h3 k3 k23 c1 b1 g1
  go_wp2_with fail
  go_at_call 70
  refine CU.out.mono ?_
  rintro e w4 ⟨rfl, g, b, h4, hg, hb, hm, k4⟩
  have hsz := K3.out.1.size
  have d7 : w4.cell? ⟨o, 7, none⟩ = some (.bool wel) := h4.hat.cell 7
  have g7 := h4.hat.frozen 7
  have H4 := Lib.hid (And.intro h4 (And.intro (show W.heap.size ≤ g by omega) (And.intro (show W.heap.size ≤ b by omega) (And.intro hm k4))))
  clear h4 hg hb hm k4 CU
  go_wp2_with fail
  go_ret2
  obtain ⟨h4, hg, hb, hm, k4⟩ := H4.out
  have k5 := Kp.setCell (S := fun k => k = o) (Kp.refl _ w4) (p := ⟨o, 7, none⟩) (fun _ => rfl) (.bool true)
  have kall := ((K3.out.1.trans k4).trans k5)
  have hrv : ∀ x, rv.ownBlock = some x → x ≠ o ∧ x < W.heap.size := fun x hx => ⟨fun e => K2.out.2.ap x hx (.inl e), by
    have h6 := H.out.1.own.lt x hx
    have h7 := H.out.2.1
    exact hlw x hx⟩
  exact ⟨rfl, g, b, ⟨h4.extS (h4.hat.set 7 (.bool true)) k5, ((K2.out.2.own.kp (K3.out.2.trans k4) (fun x hx e => (hrv x hx).1 e)).kp k5 (fun x hx e => (hrv x hx).1 e)), fun x hx hme => by
    rcases hm x hme with e | e | e
    · exact (hrv x hx).1 e
    · have := (hrv x hx).2; omega
    · have := (hrv x hx).2; omega, K2.out.2.len⟩, hg, hb, kall⟩
end Go.Proofs.Ytokembhfebnjpaa
