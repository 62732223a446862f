/- Chapter 15: a daemon's end takes a frame. (Written by wip/lnk.py.) -/
import Derived.Test.YtokembhfebnjpaaQLnJ
namespace Go.Proofs.Ytokembhfebnjpaa
set_option maxRecDepth 20000
open Go.RowKit Flt
set_option linter.unusedVariables false
set_option linter.unusedSimpArgs false
/-- A Welcome, a Reset, and what is no type. -/
theorem dtakes_other (o : Nat) (W : World) (f : Fr) (a : Option Addr) (c : Nat) (now : Int) (h1 : f.ty ≠ 1) (h3 : f.ty ≠ 3) (h4 : f.ty ≠ 4) :
    Calls Try.prog 112 #[.pointer (some ⟨o, 0, none⟩), .agg (frA f a c), .int .i64 now] W fun e w' => e = .returned (.tuple #[.slice none 0 0, .int .i64 6]) ∧ Kp (fun _ => False) W w' := by
  obtain ⟨bx, w1, hbx, hw1, k1, ab⟩ := frame_box f a c W
  have b0 : w1.cell? ⟨bx, 0, none⟩ = some (.int .i64 f.ty) := ab.cell 0
  have K1 := Lib.hid k1
  obtain ⟨ty, se, bo, sq, ac, bd⟩ := f
  dsimp only [frA] at *
  generalize bd.length = nb at *
  have e1 : (ty == 1) = false := by simpa using h1
  have e3 : (ty == 3) = false := by simpa using h3
  have e4 : (ty == 4) = false := by simpa using h4
  clear k1 ab
  go_enter Try.func112, Try.ntmps112
  go_upto_region 1 with fail
  rw [← hbx, ← hw1]
  clear hbx hw1
  go_wp2_with fail
  go_ret2
  exact ⟨rfl, K1.out⟩
set_option maxHeartbeats 1000000 in
theorem dtakes_syn (o : Nat) (W : World) (f : Fr) (a : Option Addr) (c : Nat) (now : Int) (h1 : f.ty = 1) {Q : Value → Int → World → Prop}
    (C : ∀ w', Kp (fun _ => False) W w' → Tells Try.prog 114 #[.pointer (some ⟨o, 0, none⟩), .agg (frA f a c)] w' Q) :
    Tells Try.prog 112 #[.pointer (some ⟨o, 0, none⟩), .agg (frA f a c), .int .i64 now] W Q := by
  obtain ⟨bx, w1, hbx, hw1, k1, ab⟩ := frame_box f a c W
  rw [h1] at ab
  have b0 : w1.cell? ⟨bx, 0, none⟩ = some (.int .i64 1) := ab.cell 0
  have b1 : w1.cell? ⟨bx, 1, none⟩ = some (.int .i64 f.se) := ab.cell 1
  have b2 : w1.cell? ⟨bx, 2, none⟩ = some (.int .i64 f.bo) := ab.cell 2
  have b3 : w1.cell? ⟨bx, 3, none⟩ = some (.int .i64 f.sq) := ab.cell 3
  have b4 : w1.cell? ⟨bx, 4, none⟩ = some (.int .i64 f.ac) := ab.cell 4
  have b5 : w1.cell? ⟨bx, 5, none⟩ = some (.slice a f.bd.length c) := ab.cell 5
  have HC := Lib.hid (C w1 k1)
  obtain ⟨ty, se, bo, sq, ac, bd⟩ := f
  dsimp only [frA] at *
  subst h1
  generalize bd.length = nb at *
  clear k1 ab C
  unfold Tells
  go_enter Try.func112, Try.ntmps112
  go_upto_region 1 with fail
  rw [← hbx, ← hw1]
  clear hbx hw1
  go_wp2_with fail
  refine Calls.mono HC.out ?_
  rintro e w9 ⟨v, k, rfl, hq⟩
  have HQ := Lib.hid hq
  clear hq
  go_wp2_with fail
  go_ret2
  exact ⟨v, k, rfl, HQ.out⟩
set_option maxHeartbeats 1000000 in
theorem dtakes_no3 {W : World} {o I : Nat} {t : Tk} {wel : Bool} {rv : Value} {rs : List Nat} (h : DmC W o t wel rv rs I) (f : Fr) (a : Option Addr) (c : Nat) (now : Int) (s : Nat) (hs : f.se = (s : Nat)) (hty : f.ty = 3) (hno : t.st ≠ 2 ∨ s ≠ t.se ∨ f.bo ≠ t.bo) :
    Calls Try.prog 112 #[.pointer (some ⟨o, 0, none⟩), .agg (frA f a c), .int .i64 now] W fun e w' => e = .returned (.tuple #[.slice none 0 0, .int .i64 6]) ∧ ∃ rv', DmC w' o t wel rv' (refL rs s) I ∧ (∀ g, rv'.ownBlock = some g → rv.ownBlock = some g ∨ W.heap.size ≤ g) ∧ Kp (MeD o t rv) W w' := by
  obtain ⟨bx, w1, hbx, hw1, k1, ab⟩ := frame_box f a c W
  rw [hty] at ab
  have h1 := h.kp0 k1
  have c1 := h1.tk.c.2.1
  have c2 := h1.tk.c.2.2.1
  have b0 : w1.cell? ⟨bx, 0, none⟩ = some (.int .i64 3) := ab.cell 0
  have b1 : w1.cell? ⟨bx, 1, none⟩ = some (.int .i64 f.se) := ab.cell 1
  have b2 : w1.cell? ⟨bx, 2, none⟩ = some (.int .i64 f.bo) := ab.cell 2
  have b3 : w1.cell? ⟨bx, 3, none⟩ = some (.int .i64 f.sq) := ab.cell 3
  have b4 : w1.cell? ⟨bx, 4, none⟩ = some (.int .i64 f.ac) := ab.cell 4
  have b5 : w1.cell? ⟨bx, 5, none⟩ = some (.slice a f.bd.length c) := ab.cell 5
  have CI := fun n => Calls.quiet_of_same (n := n) (Calls.turn (tis_any o t.st (w1.drewN n) (h1.tk.drewN0 n).c.1))
  rw [hs] at b1
  have H := Lib.hid (And.intro h1 k1)
  have HN := Lib.hid hno
  obtain ⟨ty, se, bo, sq, ac, bd⟩ := f
  dsimp only [frA] at *
  subst hty hs
  generalize bd.length = nb at *
  obtain ⟨q, hq⟩ : ∃ q, q = t.se := ⟨_, rfl⟩
  obtain ⟨b, hb⟩ : ∃ b, b = t.bo := ⟨_, rfl⟩
  obtain ⟨st, hst⟩ : ∃ st, st = t.st := ⟨_, rfl⟩
  rw [← hq] at c1 hno
  rw [← hb] at c2 hno
  rw [← hst] at CI hno
  clear h h1 k1 ab hq hb hst HN
  by_cases h2 : st = 2
  · rw [decide_eq_true h2] at CI
    by_cases h3 : s = q
    · subst h3
      have h4 : bo ≠ (b : Int) := by
        rcases hno with h | h | h
        · exact absurd h2 h
        · exact absurd rfl h
        · exact h
      have e3 : ((s : Int) != (s : Int)) = false := by simp
      have e4 : (bo != (b : Int)) = true := by simpa using h4
      clear hno h2 h4
      go_enter Try.func112, Try.ntmps112
      go_upto_region 1 with fail
      rw [← hbx, ← hw1]
      clear hbx hw1
      go_wp2_with fail
      go_quiet (exact CI _)
      go_upto_region 7 with fail
      refine wp_world (fun wx => Kp (fun _ => False) w1 wx) (by first | exact Kp.refl _ _ | exact (Kp.refl _ w1).drew | exact (Kp.refl _ w1).drewN _ | exact ((Kp.refl _ w1).drew).drew | exact ((Kp.refl _ w1).drewN _).drew | exact ((Kp.refl _ w1).drew).drewN _ | exact ((Kp.refl _ w1).drewN _).drewN _) ?_
      intro w2 k12
      have b1 := k12.cell b1 (fun h => h)
      have CR := Lib.hid (refuse_any (H.out.1.kp0 k12) s)
      have K2 := Lib.hid (H.out.2.trans k12)
      clear k12
      go_wp2_with fail
      go_at_call 115
      refine CR.out.mono ?_
      rintro e w3 ⟨rfl, rv', h3, hb3, k3⟩
      have hsz := K2.out.size
      have H3 := Lib.hid (And.intro h3 (And.intro (show ∀ g, rv'.ownBlock = some g → rv.ownBlock = some g ∨ W.heap.size ≤ g from fun g hg => (hb3 g hg).imp_right (fun e => by omega)) ((K2.out.mono (fun _ _ h => h.elim)).trans k3)))
      clear h3 hb3 k3 CR
      go_wp2_with fail
      go_ret2
      exact ⟨rfl, rv', H3.out⟩
    · have e3 : ((s : Int) != (q : Int)) = true := by simp; omega
      clear hno h2 h3
      go_enter Try.func112, Try.ntmps112
      go_upto_region 1 with fail
      rw [← hbx, ← hw1]
      clear hbx hw1
      go_wp2_with fail
      go_quiet (exact CI _)
      go_upto_region 7 with fail
      refine wp_world (fun wx => Kp (fun _ => False) w1 wx) (by first | exact Kp.refl _ _ | exact (Kp.refl _ w1).drew | exact (Kp.refl _ w1).drewN _ | exact ((Kp.refl _ w1).drew).drew | exact ((Kp.refl _ w1).drewN _).drew | exact ((Kp.refl _ w1).drew).drewN _ | exact ((Kp.refl _ w1).drewN _).drewN _) ?_
      intro w2 k12
      have b1 := k12.cell b1 (fun h => h)
      have CR := Lib.hid (refuse_any (H.out.1.kp0 k12) s)
      have K2 := Lib.hid (H.out.2.trans k12)
      clear k12
      go_wp2_with fail
      go_at_call 115
      refine CR.out.mono ?_
      rintro e w3 ⟨rfl, rv', h3, hb3, k3⟩
      have hsz := K2.out.size
      have H3 := Lib.hid (And.intro h3 (And.intro (show ∀ g, rv'.ownBlock = some g → rv.ownBlock = some g ∨ W.heap.size ≤ g from fun g hg => (hb3 g hg).imp_right (fun e => by omega)) ((K2.out.mono (fun _ _ h => h.elim)).trans k3)))
      clear h3 hb3 k3 CR
      go_wp2_with fail
      go_ret2
      exact ⟨rfl, rv', H3.out⟩
  · rw [decide_eq_false h2] at CI
    clear hno h2
    go_enter Try.func112, Try.ntmps112
    go_upto_region 1 with fail
    rw [← hbx, ← hw1]
    clear hbx hw1
    go_wp2_with fail
    go_quiet (exact CI _)
    go_upto_region 7 with fail
    refine wp_world (fun wx => Kp (fun _ => False) w1 wx) (by first | exact Kp.refl _ _ | exact (Kp.refl _ w1).drew | exact (Kp.refl _ w1).drewN _ | exact ((Kp.refl _ w1).drew).drew | exact ((Kp.refl _ w1).drewN _).drew | exact ((Kp.refl _ w1).drew).drewN _ | exact ((Kp.refl _ w1).drewN _).drewN _) ?_
    intro w2 k12
    have b1 := k12.cell b1 (fun h => h)
    have CR := Lib.hid (refuse_any (H.out.1.kp0 k12) s)
    have K2 := Lib.hid (H.out.2.trans k12)
    clear k12
    go_wp2_with fail
    go_at_call 115
    refine CR.out.mono ?_
    rintro e w3 ⟨rfl, rv', h3, hb3, k3⟩
    have hsz := K2.out.size
    have H3 := Lib.hid (And.intro h3 (And.intro (show ∀ g, rv'.ownBlock = some g → rv.ownBlock = some g ∨ W.heap.size ≤ g from fun g hg => (hb3 g hg).imp_right (fun e => by omega)) ((K2.out.mono (fun _ _ h => h.elim)).trans k3)))
    clear h3 hb3 k3 CR
    go_wp2_with fail
    go_ret2
    exact ⟨rfl, rv', H3.out⟩
set_option maxHeartbeats 1000000 in
theorem dtakes_no4 {W : World} {o I : Nat} {t : Tk} {wel : Bool} {rv : Value} {rs : List Nat} (h : DmC W o t wel rv rs I) (f : Fr) (a : Option Addr) (c : Nat) (now : Int) (s : Nat) (hs : f.se = (s : Nat)) (hty : f.ty = 4) (hno : t.st ≠ 2 ∨ s ≠ t.se ∨ f.bo ≠ t.bo) :
    Calls Try.prog 112 #[.pointer (some ⟨o, 0, none⟩), .agg (frA f a c), .int .i64 now] W fun e w' => e = .returned (.tuple #[.slice none 0 0, .int .i64 6]) ∧ ∃ rv', DmC w' o t wel rv' (refL rs s) I ∧ (∀ g, rv'.ownBlock = some g → rv.ownBlock = some g ∨ W.heap.size ≤ g) ∧ Kp (MeD o t rv) W w' := by
  obtain ⟨bx, w1, hbx, hw1, k1, ab⟩ := frame_box f a c W
  rw [hty] at ab
  have h1 := h.kp0 k1
  have c1 := h1.tk.c.2.1
  have c2 := h1.tk.c.2.2.1
  have b0 : w1.cell? ⟨bx, 0, none⟩ = some (.int .i64 4) := ab.cell 0
  have b1 : w1.cell? ⟨bx, 1, none⟩ = some (.int .i64 f.se) := ab.cell 1
  have b2 : w1.cell? ⟨bx, 2, none⟩ = some (.int .i64 f.bo) := ab.cell 2
  have b3 : w1.cell? ⟨bx, 3, none⟩ = some (.int .i64 f.sq) := ab.cell 3
  have b4 : w1.cell? ⟨bx, 4, none⟩ = some (.int .i64 f.ac) := ab.cell 4
  have b5 : w1.cell? ⟨bx, 5, none⟩ = some (.slice a f.bd.length c) := ab.cell 5
  have CI := fun n => Calls.quiet_of_same (n := n) (Calls.turn (tis_any o t.st (w1.drewN n) (h1.tk.drewN0 n).c.1))
  rw [hs] at b1
  have H := Lib.hid (And.intro h1 k1)
  have HN := Lib.hid hno
  obtain ⟨ty, se, bo, sq, ac, bd⟩ := f
  dsimp only [frA] at *
  subst hty hs
  generalize bd.length = nb at *
  obtain ⟨q, hq⟩ : ∃ q, q = t.se := ⟨_, rfl⟩
  obtain ⟨b, hb⟩ : ∃ b, b = t.bo := ⟨_, rfl⟩
  obtain ⟨st, hst⟩ : ∃ st, st = t.st := ⟨_, rfl⟩
  rw [← hq] at c1 hno
  rw [← hb] at c2 hno
  rw [← hst] at CI hno
  clear h h1 k1 ab hq hb hst HN
  by_cases h2 : st = 2
  · rw [decide_eq_true h2] at CI
    by_cases h3 : s = q
    · subst h3
      have h4 : bo ≠ (b : Int) := by
        rcases hno with h | h | h
        · exact absurd h2 h
        · exact absurd rfl h
        · exact h
      have e3 : ((s : Int) != (s : Int)) = false := by simp
      have e4 : (bo != (b : Int)) = true := by simpa using h4
      clear hno h2 h4
      go_enter Try.func112, Try.ntmps112
      go_upto_region 1 with fail
      rw [← hbx, ← hw1]
      clear hbx hw1
      go_wp2_with fail
      go_quiet (exact CI _)
      go_upto_region 7 with fail
      refine wp_world (fun wx => Kp (fun _ => False) w1 wx) (by first | exact Kp.refl _ _ | exact (Kp.refl _ w1).drew | exact (Kp.refl _ w1).drewN _ | exact ((Kp.refl _ w1).drew).drew | exact ((Kp.refl _ w1).drewN _).drew | exact ((Kp.refl _ w1).drew).drewN _ | exact ((Kp.refl _ w1).drewN _).drewN _) ?_
      intro w2 k12
      have b1 := k12.cell b1 (fun h => h)
      have CR := Lib.hid (refuse_any (H.out.1.kp0 k12) s)
      have K2 := Lib.hid (H.out.2.trans k12)
      clear k12
      go_wp2_with fail
      go_at_call 115
      refine CR.out.mono ?_
      rintro e w3 ⟨rfl, rv', h3, hb3, k3⟩
      have hsz := K2.out.size
      have H3 := Lib.hid (And.intro h3 (And.intro (show ∀ g, rv'.ownBlock = some g → rv.ownBlock = some g ∨ W.heap.size ≤ g from fun g hg => (hb3 g hg).imp_right (fun e => by omega)) ((K2.out.mono (fun _ _ h => h.elim)).trans k3)))
      clear h3 hb3 k3 CR
      go_wp2_with fail
      go_ret2
      exact ⟨rfl, rv', H3.out⟩
    · have e3 : ((s : Int) != (q : Int)) = true := by simp; omega
      clear hno h2 h3
      go_enter Try.func112, Try.ntmps112
      go_upto_region 1 with fail
      rw [← hbx, ← hw1]
      clear hbx hw1
      go_wp2_with fail
      go_quiet (exact CI _)
      go_upto_region 7 with fail
      refine wp_world (fun wx => Kp (fun _ => False) w1 wx) (by first | exact Kp.refl _ _ | exact (Kp.refl _ w1).drew | exact (Kp.refl _ w1).drewN _ | exact ((Kp.refl _ w1).drew).drew | exact ((Kp.refl _ w1).drewN _).drew | exact ((Kp.refl _ w1).drew).drewN _ | exact ((Kp.refl _ w1).drewN _).drewN _) ?_
      intro w2 k12
      have b1 := k12.cell b1 (fun h => h)
      have CR := Lib.hid (refuse_any (H.out.1.kp0 k12) s)
      have K2 := Lib.hid (H.out.2.trans k12)
      clear k12
      go_wp2_with fail
      go_at_call 115
      refine CR.out.mono ?_
      rintro e w3 ⟨rfl, rv', h3, hb3, k3⟩
      have hsz := K2.out.size
      have H3 := Lib.hid (And.intro h3 (And.intro (show ∀ g, rv'.ownBlock = some g → rv.ownBlock = some g ∨ W.heap.size ≤ g from fun g hg => (hb3 g hg).imp_right (fun e => by omega)) ((K2.out.mono (fun _ _ h => h.elim)).trans k3)))
      clear h3 hb3 k3 CR
      go_wp2_with fail
      go_ret2
      exact ⟨rfl, rv', H3.out⟩
  · rw [decide_eq_false h2] at CI
    clear hno h2
    go_enter Try.func112, Try.ntmps112
    go_upto_region 1 with fail
    rw [← hbx, ← hw1]
    clear hbx hw1
    go_wp2_with fail
    go_quiet (exact CI _)
    go_upto_region 7 with fail
    refine wp_world (fun wx => Kp (fun _ => False) w1 wx) (by first | exact Kp.refl _ _ | exact (Kp.refl _ w1).drew | exact (Kp.refl _ w1).drewN _ | exact ((Kp.refl _ w1).drew).drew | exact ((Kp.refl _ w1).drewN _).drew | exact ((Kp.refl _ w1).drew).drewN _ | exact ((Kp.refl _ w1).drewN _).drewN _) ?_
    intro w2 k12
    have b1 := k12.cell b1 (fun h => h)
    have CR := Lib.hid (refuse_any (H.out.1.kp0 k12) s)
    have K2 := Lib.hid (H.out.2.trans k12)
    clear k12
    go_wp2_with fail
    go_at_call 115
    refine CR.out.mono ?_
    rintro e w3 ⟨rfl, rv', h3, hb3, k3⟩
    have hsz := K2.out.size
    have H3 := Lib.hid (And.intro h3 (And.intro (show ∀ g, rv'.ownBlock = some g → rv.ownBlock = some g ∨ W.heap.size ≤ g from fun g hg => (hb3 g hg).imp_right (fun e => by omega)) ((K2.out.mono (fun _ _ h => h.elim)).trans k3)))
    clear h3 hb3 k3 CR
    go_wp2_with fail
    go_ret2
    exact ⟨rfl, rv', H3.out⟩
set_option maxHeartbeats 1000000 in
theorem dtakes_yes3 {W : World} {o I : Nat} {t : Tk} {wel : Bool} {rv : Value} {rs : List Nat} (h : DmC W o t wel rv rs I) (f : Fr) (a : Option Addr) (c : Nat) (now : Int) (hty : f.ty = 3) (hst : t.st = 2) (hse : f.se = t.se) (hbo : f.bo = t.bo) {Q : Value → Int → World → Prop} (hQ : Stays Q)
    (C : ∀ w', Kp (fun _ => False) W w' → Tells Try.prog 79 #[.pointer (some ⟨o, 0, none⟩), .agg (frA f a c), .int .i64 now] w' Q) :
    Tells Try.prog 112 #[.pointer (some ⟨o, 0, none⟩), .agg (frA f a c), .int .i64 now] W Q := by
  obtain ⟨bx, w1, hbx, hw1, k1, ab⟩ := frame_box f a c W
  rw [hty] at ab
  have h1 := h.kp0 k1
  have c1 := h1.tk.c.2.1
  have c2 := h1.tk.c.2.2.1
  have b0 : w1.cell? ⟨bx, 0, none⟩ = some (.int .i64 3) := ab.cell 0
  have b1 : w1.cell? ⟨bx, 1, none⟩ = some (.int .i64 f.se) := ab.cell 1
  have b2 : w1.cell? ⟨bx, 2, none⟩ = some (.int .i64 f.bo) := ab.cell 2
  have b3 : w1.cell? ⟨bx, 3, none⟩ = some (.int .i64 f.sq) := ab.cell 3
  have b4 : w1.cell? ⟨bx, 4, none⟩ = some (.int .i64 f.ac) := ab.cell 4
  have b5 : w1.cell? ⟨bx, 5, none⟩ = some (.slice a f.bd.length c) := ab.cell 5
  have CI := fun n => Calls.quiet_of_same (n := n) (Calls.turn (tis_any o t.st (w1.drewN n) (h1.tk.drewN0 n).c.1))
  rw [hse] at b1
  rw [hbo] at b2
  rw [decide_eq_true hst] at CI
  have HC := Lib.hid (And.intro hQ C)
  have K1 := Lib.hid k1
  obtain ⟨ty, se, bo, sq, ac, bd⟩ := f
  dsimp only [frA] at *
  subst hty hse hbo
  generalize bd.length = nb at *
  generalize t.se = q at *
  generalize t.bo = b at *
  have e3 : ((q : Int) != (q : Int)) = false := by simp
  have e4 : ((b : Int) != (b : Int)) = false := by simp
  clear h h1 k1 ab hst hQ C
  unfold Tells
  go_enter Try.func112, Try.ntmps112
  go_upto_region 1 with fail
  rw [← hbx, ← hw1]
  clear hbx hw1
  go_wp2_with fail
  go_quiet (exact CI _)
  go_upto_region 8 with fail
  refine wp_world (fun wx => Kp (fun _ => False) w1 wx) (by first | exact Kp.refl _ _ | exact (Kp.refl _ w1).drew | exact (Kp.refl _ w1).drewN _ | exact ((Kp.refl _ w1).drew).drew | exact ((Kp.refl _ w1).drewN _).drew | exact ((Kp.refl _ w1).drew).drewN _ | exact ((Kp.refl _ w1).drewN _).drewN _) ?_
  intro w2 k12
  have b0 := k12.cell b0 (fun h => h)
  have b1 := k12.cell b1 (fun h => h)
  have b2 := k12.cell b2 (fun h => h)
  have b3 := k12.cell b3 (fun h => h)
  have b4 := k12.cell b4 (fun h => h)
  have b5 := k12.cell b5 (fun h => h)
  refine region_L (S := fun w' => Kp (fun _ => False) w2 w') [5] rfl ?_
  have hSd : ∀ (w' : World) (n' : Nat), Kp (fun _ => False) w2 w' → Kp (fun _ => False) w2 (w'.drewN n') := fun w' n' h => h.drewN n'
  have hS0 : Kp (fun _ => False) w2 w2.drew := (Kp.refl _ w2).drew
  refine anyL_world (fun w' => Kp (fun _ => False) w2 w') hS0 ?_
  clear hS0
  intro z0 kz0
  refine anyL_takeF (i := 0) (d := 51) (v := (.pointer (some ⟨o, 0, none⟩))) rfl rfl (by kernel_rfl) (by kernel_rfl) (by kernel_rfl) (fun _ _ _ h => h) hSd (by kernel_rfl) (.inl (.inl ⟨rfl, fun w' hS => by first | rfl | go_simp⟩)) (fun _ => kz0) ?_
  try simp only [List.setIfInBounds_toArray, List.set_cons_succ, List.set_cons_zero]
  refine anyL_takeF (i := 1) (d := 52) (v := (.pointer (some ⟨o, 0, none⟩))) rfl rfl (by kernel_rfl) (by kernel_rfl) (by kernel_rfl) (fun _ _ _ h => h) hSd (by kernel_rfl) (.inl (.inl ⟨rfl, fun w' hS => by first | rfl | go_simp⟩)) (fun _ => kz0) ?_
  try simp only [List.setIfInBounds_toArray, List.set_cons_succ, List.set_cons_zero]
  refine anyL_takeF (i := 2) (d := 53) (v := (.pointer (some ⟨o, 0, none⟩))) rfl rfl (by kernel_rfl) (by kernel_rfl) (by kernel_rfl) (fun _ _ _ h => h) hSd (by kernel_rfl) (.inl (.inl ⟨rfl, fun w' hS => by first | rfl | go_simp⟩)) (fun _ => kz0) ?_
  try simp only [List.setIfInBounds_toArray, List.set_cons_succ, List.set_cons_zero]
  refine anyL_takeD (i := 3) (d := 54) (v := (.agg #[.int .i64 3, .int .i64 (q : Nat), .int .i64 (b : Nat), .int .i64 sq, .int .i64 ac, .slice a nb c])) rfl rfl (by kernel_rfl) (by kernel_rfl) (by kernel_rfl) (fun _ _ _ h => h) hSd (by kernel_rfl) (.inl (.inl ⟨rfl, fun w' hS => by have h0 := hS.cell b0 (fun h => h); have h1 := hS.cell b1 (fun h => h); have h2 := hS.cell b2 (fun h => h); have h3 := hS.cell b3 (fun h => h); have h4 := hS.cell b4 (fun h => h); have h5 := hS.cell b5 (fun h => h); go_simp⟩)) kz0 ?_
  try simp only [List.setIfInBounds_toArray, List.set_cons_succ, List.set_cons_zero]
  refine anyL_takeF (i := 4) (d := 55) (v := (.int .i64 now)) rfl rfl (by kernel_rfl) (by kernel_rfl) (by kernel_rfl) (fun _ _ _ h => h) hSd (by kernel_rfl) (.inl (.inl ⟨rfl, fun w' hS => by first | rfl | go_simp⟩)) (fun _ => kz0) ?_
  try simp only [List.setIfInBounds_toArray, List.set_cons_succ, List.set_cons_zero]
  refine anyL_all (rs := [5]) (by kernel_rfl) (by simp) ?_
  intro n11 i' hi'
  simp only [List.mem_cons, List.not_mem_nil, or_false] at hi'
  obtain rfl := hi'
  refine wpOp_of rfl rfl ?_
  go_simp
  refine Calls.mono (HC.out.2 (z0.drewN n11) ((K1.out.trans k12).trans (kz0.drewN n11))) ?_
  rintro e w9p ⟨v, k, rfl, hq⟩
  try dsimp only
  refine ⟨fun h => Bool.noConfusion (show false = true from h), ?_⟩
  try simp only [List.setIfInBounds_toArray, List.set_cons_succ, List.set_cons_zero]
  refine anyL_takeF (i := 6) (d := 57) (v := v) rfl rfl (by kernel_rfl) (by kernel_rfl) (by kernel_rfl) (fun _ _ _ h => h) hSd (by kernel_rfl) (.inl (.inl ⟨rfl, fun w' hS => by first | rfl | go_simp⟩)) (fun h => Bool.noConfusion (show false = true from h)) ?_
  try simp only [List.setIfInBounds_toArray, List.set_cons_succ, List.set_cons_zero]
  refine anyL_takeF (i := 7) (d := 58) (v := (.int .i64 k)) rfl rfl (by kernel_rfl) (by kernel_rfl) (by kernel_rfl) (fun _ _ _ h => h) hSd (by kernel_rfl) (.inl (.inl ⟨rfl, fun w' hS => by first | rfl | go_simp⟩)) (fun h => Bool.noConfusion (show false = true from h)) ?_
  try simp only [List.setIfInBounds_toArray, List.set_cons_succ, List.set_cons_zero]
  refine anyL_takeF (i := 8) (d := 6) (v := v) rfl rfl (by kernel_rfl) (by kernel_rfl) (by kernel_rfl) (fun _ _ _ h => h) hSd (by kernel_rfl) (.inl (.inl ⟨rfl, fun w' hS => by first | rfl | go_simp⟩)) (fun h => Bool.noConfusion (show false = true from h)) ?_
  try simp only [List.setIfInBounds_toArray, List.set_cons_succ, List.set_cons_zero]
  refine anyL_takeF (i := 9) (d := 7) (v := (.int .i64 k)) rfl rfl (by kernel_rfl) (by kernel_rfl) (by kernel_rfl) (fun _ _ _ h => h) hSd (by kernel_rfl) (.inl (.inl ⟨rfl, fun w' hS => by first | rfl | go_simp⟩)) (fun h => Bool.noConfusion (show false = true from h)) ?_
  try simp only [List.setIfInBounds_toArray, List.set_cons_succ, List.set_cons_zero]
  refine anyL_done (by kernel_rfl) (fun nn => ?_) _
  clear hSd kz0
  go_wp2_with fail
  go_ret2
  exact ⟨v, k, rfl, HC.out.1 _ _ _ _ hq⟩
set_option maxHeartbeats 1000000 in
theorem dtakes_yes4 {W : World} {o I : Nat} {t : Tk} {wel : Bool} {rv : Value} {rs : List Nat} (h : DmC W o t wel rv rs I) (f : Fr) (a : Option Addr) (c : Nat) (now : Int) (hty : f.ty = 4) (hst : t.st = 2) (hse : f.se = t.se) (hbo : f.bo = t.bo) {Q : Value → Int → World → Prop} (hQ : Stays Q)
    (C : ∀ w', Kp (fun _ => False) W w' → Tells Try.prog 79 #[.pointer (some ⟨o, 0, none⟩), .agg (frA f a c), .int .i64 now] w' Q) :
    Tells Try.prog 112 #[.pointer (some ⟨o, 0, none⟩), .agg (frA f a c), .int .i64 now] W Q := by
  obtain ⟨bx, w1, hbx, hw1, k1, ab⟩ := frame_box f a c W
  rw [hty] at ab
  have h1 := h.kp0 k1
  have c1 := h1.tk.c.2.1
  have c2 := h1.tk.c.2.2.1
  have b0 : w1.cell? ⟨bx, 0, none⟩ = some (.int .i64 4) := ab.cell 0
  have b1 : w1.cell? ⟨bx, 1, none⟩ = some (.int .i64 f.se) := ab.cell 1
  have b2 : w1.cell? ⟨bx, 2, none⟩ = some (.int .i64 f.bo) := ab.cell 2
  have b3 : w1.cell? ⟨bx, 3, none⟩ = some (.int .i64 f.sq) := ab.cell 3
  have b4 : w1.cell? ⟨bx, 4, none⟩ = some (.int .i64 f.ac) := ab.cell 4
  have b5 : w1.cell? ⟨bx, 5, none⟩ = some (.slice a f.bd.length c) := ab.cell 5
  have CI := fun n => Calls.quiet_of_same (n := n) (Calls.turn (tis_any o t.st (w1.drewN n) (h1.tk.drewN0 n).c.1))
  rw [hse] at b1
  rw [hbo] at b2
  rw [decide_eq_true hst] at CI
  have HC := Lib.hid (And.intro hQ C)
  have K1 := Lib.hid k1
  obtain ⟨ty, se, bo, sq, ac, bd⟩ := f
  dsimp only [frA] at *
  subst hty hse hbo
  generalize bd.length = nb at *
  generalize t.se = q at *
  generalize t.bo = b at *
  have e3 : ((q : Int) != (q : Int)) = false := by simp
  have e4 : ((b : Int) != (b : Int)) = false := by simp
  clear h h1 k1 ab hst hQ C
  unfold Tells
  go_enter Try.func112, Try.ntmps112
  go_upto_region 1 with fail
  rw [← hbx, ← hw1]
  clear hbx hw1
  go_wp2_with fail
  go_quiet (exact CI _)
  go_upto_region 8 with fail
  refine wp_world (fun wx => Kp (fun _ => False) w1 wx) (by first | exact Kp.refl _ _ | exact (Kp.refl _ w1).drew | exact (Kp.refl _ w1).drewN _ | exact ((Kp.refl _ w1).drew).drew | exact ((Kp.refl _ w1).drewN _).drew | exact ((Kp.refl _ w1).drew).drewN _ | exact ((Kp.refl _ w1).drewN _).drewN _) ?_
  intro w2 k12
  have b0 := k12.cell b0 (fun h => h)
  have b1 := k12.cell b1 (fun h => h)
  have b2 := k12.cell b2 (fun h => h)
  have b3 := k12.cell b3 (fun h => h)
  have b4 := k12.cell b4 (fun h => h)
  have b5 := k12.cell b5 (fun h => h)
  refine region_L (S := fun w' => Kp (fun _ => False) w2 w') [5] rfl ?_
  have hSd : ∀ (w' : World) (n' : Nat), Kp (fun _ => False) w2 w' → Kp (fun _ => False) w2 (w'.drewN n') := fun w' n' h => h.drewN n'
  have hS0 : Kp (fun _ => False) w2 w2.drew := (Kp.refl _ w2).drew
  refine anyL_world (fun w' => Kp (fun _ => False) w2 w') hS0 ?_
  clear hS0
  intro z0 kz0
  refine anyL_takeF (i := 0) (d := 51) (v := (.pointer (some ⟨o, 0, none⟩))) rfl rfl (by kernel_rfl) (by kernel_rfl) (by kernel_rfl) (fun _ _ _ h => h) hSd (by kernel_rfl) (.inl (.inl ⟨rfl, fun w' hS => by first | rfl | go_simp⟩)) (fun _ => kz0) ?_
  try simp only [List.setIfInBounds_toArray, List.set_cons_succ, List.set_cons_zero]
  refine anyL_takeF (i := 1) (d := 52) (v := (.pointer (some ⟨o, 0, none⟩))) rfl rfl (by kernel_rfl) (by kernel_rfl) (by kernel_rfl) (fun _ _ _ h => h) hSd (by kernel_rfl) (.inl (.inl ⟨rfl, fun w' hS => by first | rfl | go_simp⟩)) (fun _ => kz0) ?_
  try simp only [List.setIfInBounds_toArray, List.set_cons_succ, List.set_cons_zero]
  refine anyL_takeF (i := 2) (d := 53) (v := (.pointer (some ⟨o, 0, none⟩))) rfl rfl (by kernel_rfl) (by kernel_rfl) (by kernel_rfl) (fun _ _ _ h => h) hSd (by kernel_rfl) (.inl (.inl ⟨rfl, fun w' hS => by first | rfl | go_simp⟩)) (fun _ => kz0) ?_
  try simp only [List.setIfInBounds_toArray, List.set_cons_succ, List.set_cons_zero]
  refine anyL_takeD (i := 3) (d := 54) (v := (.agg #[.int .i64 4, .int .i64 (q : Nat), .int .i64 (b : Nat), .int .i64 sq, .int .i64 ac, .slice a nb c])) rfl rfl (by kernel_rfl) (by kernel_rfl) (by kernel_rfl) (fun _ _ _ h => h) hSd (by kernel_rfl) (.inl (.inl ⟨rfl, fun w' hS => by have h0 := hS.cell b0 (fun h => h); have h1 := hS.cell b1 (fun h => h); have h2 := hS.cell b2 (fun h => h); have h3 := hS.cell b3 (fun h => h); have h4 := hS.cell b4 (fun h => h); have h5 := hS.cell b5 (fun h => h); go_simp⟩)) kz0 ?_
  try simp only [List.setIfInBounds_toArray, List.set_cons_succ, List.set_cons_zero]
  refine anyL_takeF (i := 4) (d := 55) (v := (.int .i64 now)) rfl rfl (by kernel_rfl) (by kernel_rfl) (by kernel_rfl) (fun _ _ _ h => h) hSd (by kernel_rfl) (.inl (.inl ⟨rfl, fun w' hS => by first | rfl | go_simp⟩)) (fun _ => kz0) ?_
  try simp only [List.setIfInBounds_toArray, List.set_cons_succ, List.set_cons_zero]
  refine anyL_all (rs := [5]) (by kernel_rfl) (by simp) ?_
  intro n11 i' hi'
  simp only [List.mem_cons, List.not_mem_nil, or_false] at hi'
  obtain rfl := hi'
  refine wpOp_of rfl rfl ?_
  go_simp
  refine Calls.mono (HC.out.2 (z0.drewN n11) ((K1.out.trans k12).trans (kz0.drewN n11))) ?_
  rintro e w9p ⟨v, k, rfl, hq⟩
  try dsimp only
  refine ⟨fun h => Bool.noConfusion (show false = true from h), ?_⟩
  try simp only [List.setIfInBounds_toArray, List.set_cons_succ, List.set_cons_zero]
  refine anyL_takeF (i := 6) (d := 57) (v := v) rfl rfl (by kernel_rfl) (by kernel_rfl) (by kernel_rfl) (fun _ _ _ h => h) hSd (by kernel_rfl) (.inl (.inl ⟨rfl, fun w' hS => by first | rfl | go_simp⟩)) (fun h => Bool.noConfusion (show false = true from h)) ?_
  try simp only [List.setIfInBounds_toArray, List.set_cons_succ, List.set_cons_zero]
  refine anyL_takeF (i := 7) (d := 58) (v := (.int .i64 k)) rfl rfl (by kernel_rfl) (by kernel_rfl) (by kernel_rfl) (fun _ _ _ h => h) hSd (by kernel_rfl) (.inl (.inl ⟨rfl, fun w' hS => by first | rfl | go_simp⟩)) (fun h => Bool.noConfusion (show false = true from h)) ?_
  try simp only [List.setIfInBounds_toArray, List.set_cons_succ, List.set_cons_zero]
  refine anyL_takeF (i := 8) (d := 6) (v := v) rfl rfl (by kernel_rfl) (by kernel_rfl) (by kernel_rfl) (fun _ _ _ h => h) hSd (by kernel_rfl) (.inl (.inl ⟨rfl, fun w' hS => by first | rfl | go_simp⟩)) (fun h => Bool.noConfusion (show false = true from h)) ?_
  try simp only [List.setIfInBounds_toArray, List.set_cons_succ, List.set_cons_zero]
  refine anyL_takeF (i := 9) (d := 7) (v := (.int .i64 k)) rfl rfl (by kernel_rfl) (by kernel_rfl) (by kernel_rfl) (fun _ _ _ h => h) hSd (by kernel_rfl) (.inl (.inl ⟨rfl, fun w' hS => by first | rfl | go_simp⟩)) (fun h => Bool.noConfusion (show false = true from h)) ?_
  try simp only [List.setIfInBounds_toArray, List.set_cons_succ, List.set_cons_zero]
  refine anyL_done (by kernel_rfl) (fun nn => ?_) _
  clear hSd kz0
  go_wp2_with fail
  go_ret2
  exact ⟨v, k, rfl, HC.out.1 _ _ _ _ hq⟩

end Go.Proofs.Ytokembhfebnjpaa
