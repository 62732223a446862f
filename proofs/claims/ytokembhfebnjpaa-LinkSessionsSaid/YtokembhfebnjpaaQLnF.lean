/- Chapter 15: an agent's end. (Written by wip/lnf.py.) -/
import Derived.Test.YtokembhfebnjpaaQLnE
namespace Go.Proofs.Ytokembhfebnjpaa
set_option maxRecDepth 20000
open Go.RowKit Flt
set_option linter.unusedVariables false
set_option linter.unusedSimpArgs false
def agX (sent : Bool) (a : Nat) : List Value := [.bool sent, .int .i64 (a : Nat)]
/-- A frame that comes in: its struct in a block of its own. -/
theorem frame_box (f : Fr) (a : Option Addr) (c : Nat) (W : World) : ∃ bx w1, bx = W.heap.size ∧ w1 = W.alloc (.cells (frA f a c) 36) ∧ Kp (fun _ => False) W w1 ∧ At w1 bx [.int .i64 f.ty, .int .i64 f.se, .int .i64 f.bo, .int .i64 f.sq, .int .i64 f.ac, .slice a f.bd.length c] :=
  ⟨_, _, rfl, rfl, (Kp.refl _ W).alloc _, At.new W _ _⟩
theorem TkC.drewN0 {W : World} {o I : Nat} {t : Tk} {ext : List Value} (h : TkC W o t ext I) (n : Nat) : TkC (W.drewN n) o t ext I := h.kp0 ((Kp.refl _ W).drewN n)
theorem ahears_any {W : World} {o I : Nat} {t : Tk} {ext : List Value} (h : TkC W o t ext I) (f : Fr) (a : Option Addr) (c : Nat) :
    Calls Try.prog 66 #[.pointer (some ⟨o, 0, none⟩), .agg (frA f a c)] W fun e w' => e = .returned (.int .i64 (if f.se = t.se then 0 else 6)) ∧ Kp (fun _ => False) W w' := by
  obtain ⟨bx, w1, hbx, hw1, k1, ab⟩ := frame_box f a c W
  have c1 : w1.cell? ⟨o, 1, none⟩ = some (.int .i64 t.se) := k1.cell h.c.2.1 (fun h => h)
  have b1 : w1.cell? ⟨bx, 1, none⟩ = some (.int .i64 f.se) := ab.cell 1
  have K1 := Lib.hid k1
  obtain ⟨ty, se, bo, sq, ac, bd⟩ := f
  dsimp only [frA] at *
  generalize bd.length = nb at *
  obtain ⟨s, hs⟩ : ∃ s, s = t.se := ⟨_, rfl⟩
  rw [← hs] at c1 ⊢
  clear h k1 ab hs
  by_cases he : se = (s : Int)
  · rw [if_pos he]
    subst he
    have heb : ((s : Int) != (s : Int)) = false := by simp
    go_enter Try.func66, Try.ntmps66
    go_upto_region 1 with fail
    rw [← hbx, ← hw1]
    clear hbx hw1
    go_wp2_with fail
    go_quiet (fail)
    go_wp2_with fail
    go_ret
    exact ⟨rfl, by first | exact K1.out | exact K1.out.drew | exact K1.out.drewN _⟩
  · rw [if_neg he]
    have heb : (se != (s : Int)) = true := by simp [he]
    go_enter Try.func66, Try.ntmps66
    go_upto_region 1 with fail
    rw [← hbx, ← hw1]
    clear hbx hw1
    go_wp2_with fail
    go_quiet (fail)
    go_wp2_with fail
    go_ret
    exact ⟨rfl, by first | exact K1.out | exact K1.out.drew | exact K1.out.drewN _⟩
theorem areset_any {W : World} {o I : Nat} {t : Tk} {ext : List Value} (h : TkC W o t ext I) (f : Fr) (a : Option Addr) (c : Nat) (now : Int) :
    Calls Try.prog 74 #[.pointer (some ⟨o, 0, none⟩), .agg (frA f a c), .int .i64 now] W fun e w' => e = .returned (.tuple #[.slice none 0 0, .int .i64 0]) ∧ TkC w' o { t with st := 3 } ext I ∧ Kp (fun k => k = o) W w' := by
  obtain ⟨bx, w1, hbx, hw1, k1, ab⟩ := frame_box f a c W
  have h1 := h.kp0 k1
  have c0 := h1.c.1
  have f0 := h1.hat.frozen 0
  have H := Lib.hid (And.intro h1 k1)
  obtain ⟨ty, se, bo, sq, ac, bd⟩ := f
  dsimp only [frA] at *
  generalize bd.length = nb at *
  clear h h1 k1 ab
  go_enter Try.func74, Try.ntmps74
  go_upto_region 1 with fail
  rw [← hw1]
  clear hbx hw1
  go_wp2_with fail
  go_ret2
  have k := Kp.setCell (S := fun k => k = o) (H.out.2.mono (fun _ _ h => h.elim)) (p := ⟨o, 0, none⟩) (fun _ => rfl) (.int .i64 3)
  exact ⟨rfl, ⟨H.out.1.hat.set 0 (.int .i64 3), fun e => absurd (show (3 : Nat) = 2 from e) (by decide), H.out.1.se, H.out.1.bo, H.out.1.sz⟩, k⟩
theorem asyn_any (o : Nat) (W : World) (f : Fr) (a : Option Addr) (c : Nat) (now : Int) :
    Calls Try.prog 71 #[.pointer (some ⟨o, 0, none⟩), .agg (frA f a c), .int .i64 now] W fun e w' => e = .returned (.tuple #[.slice none 0 0, .int .i64 6]) ∧ Kp (fun _ => False) W w' := by
  obtain ⟨ty, se, bo, sq, ac, bd⟩ := f
  dsimp only [frA] at *
  generalize bd.length = nb at *
  go_enter Try.func71, Try.ntmps71
  go_wp2_with fail
  go_ret2
  exact ⟨rfl, (Kp.refl _ W).alloc _⟩
theorem TkC.set2 {W : World} {o I : Nat} {t : Tk} {ext : List Value} (h : TkC W o t ext I) (b : Nat) (hb : b ≤ 2147483647) : TkC (W.setCell ⟨o, 2, none⟩ (.int .i64 (b : Nat))) o { t with bo := b } ext I := by
  have k : Kp (fun k => k = o) W (W.setCell ⟨o, 2, none⟩ (.int .i64 (b : Nat))) := Kp.setCell (S := fun k => k = o) (Kp.refl _ W) (p := ⟨o, 2, none⟩) (fun _ => rfl) _
  refine { h with hat := h.hat.set 2 (.int .i64 (b : Nat)), bo := hb, up := fun e => ?_ }
  have hu := h.up e
  exact { hu.kp k (fun j hj e => hu.oW (by have e : j = o := e; exact e ▸ hj)) (fun j hj e => hu.oX (by have e : j = o := e; exact e ▸ hj)) with }
set_option maxHeartbeats 1000000 in
theorem awelcome_open {W : World} {o I : Nat} {t : Tk} {ext : List Value} (h : TkC W o t ext I) (hst : t.st = 1) (f : Fr) (b : Nat) (hfb : f.bo = (b : Nat)) (hb : b ≤ 2147483647) (a : Option Addr) (c : Nat) (now : Int) :
    Calls Try.prog 72 #[.pointer (some ⟨o, 0, none⟩), .agg (frA f a c), .int .i64 now] W fun e w' => e = .returned (.tuple #[.slice none 0 0, .int .i64 0]) ∧ ∃ g x, TkC w' o (upT { t with bo := b } g x) ext I ∧ W.heap.size ≤ g ∧ W.heap.size ≤ x ∧ (∀ k, Me o (upT { t with bo := b } g x) k → k = o ∨ k = g ∨ k = x) ∧ Kp (fun k => k = o) W w' := by
  obtain ⟨bx, w1, hbx, hw1, k1, ab⟩ := frame_box f a c W
  rw [hfb] at ab
  have h1 := h.kp0 k1
  have c0 : w1.cell? ⟨o, 0, none⟩ = some (.int .i64 1) := by rw [h1.c.1, hst]; rfl
  have c2 := h1.c.2.2.1
  have f2 := h1.hat.frozen 2
  have b2 : w1.cell? ⟨bx, 2, none⟩ = some (.int .i64 (b : Nat)) := ab.cell 2
  have H := Lib.hid (And.intro h1 k1)
  obtain ⟨ty, se, bo, sq, ac, bd⟩ := f
  dsimp only [frA] at *
  subst hfb
  generalize bd.length = nb at *
  clear h h1 k1 ab hst
  go_enter Try.func72, Try.ntmps72
  go_upto_region 1 with fail
  rw [← hbx, ← hw1]
  clear hbx hw1
  go_upto_region 3 with fail
  have h2 := H.out.1.set2 b hb
  have k2 := Kp.setCell (S := fun k => k = o) (H.out.2.mono (fun _ _ h => h.elim)) (p := ⟨o, 2, none⟩) (fun _ => rfl) (.int .i64 (b : Nat))
  obtain ⟨w2, hw2⟩ : ∃ w2, w2 = w1.setCell ⟨o, 2, none⟩ (.int .i64 (b : Nat)) := ⟨_, rfl⟩
  rw [← hw2] at h2 k2 ⊢
  have CU := Lib.hid (up_any h2)
  have K2 := Lib.hid k2
  clear hw2 h2 k2 c0 c2 f2 b2
  go_wp2_with fail
  go_at_call 70
  refine CU.out.mono ?_
  rintro e w3 ⟨rfl, g, x, h3, hg, hx, hm, k3⟩
  have hs := K2.out.size
  have H3 := Lib.hid (And.intro h3 (And.intro (show W.heap.size ≤ g by omega) (And.intro (show W.heap.size ≤ x by omega) (And.intro hm (K2.out.trans k3)))))
  clear h3 hg hx hm k3 CU
  go_wp2_with fail
  go_ret2
  exact ⟨rfl, g, x, H3.out⟩
theorem awelcome_up {W : World} {o I : Nat} {t : Tk} {ext : List Value} (h : TkC W o t ext I) (hst : t.st ≠ 1) (f : Fr) (a : Option Addr) (c : Nat) (now : Int) :
    Calls Try.prog 72 #[.pointer (some ⟨o, 0, none⟩), .agg (frA f a c), .int .i64 now] W fun e w' => e = .returned (.tuple #[.slice none 0 0, .int .i64 (if f.bo = t.bo then 0 else 6)]) ∧ Kp (fun _ => False) W w' := by
  obtain ⟨bx, w1, hbx, hw1, k1, ab⟩ := frame_box f a c W
  have h1 := h.kp0 k1
  have c0 := h1.c.1
  have c2 := h1.c.2.2.1
  have b2 : w1.cell? ⟨bx, 2, none⟩ = some (.int .i64 f.bo) := ab.cell 2
  have hs1 : ¬ (t.st : Int) = 1 := by omega
  have hs2 : ((t.st : Int) == 1) = false := by simpa using hs1
  have K1 := Lib.hid k1
  obtain ⟨ty, se, bo, sq, ac, bd⟩ := f
  dsimp only [frA] at *
  generalize bd.length = nb at *
  obtain ⟨s, hs⟩ : ∃ s, s = t.st := ⟨_, rfl⟩
  obtain ⟨b, hb⟩ : ∃ b, b = t.bo := ⟨_, rfl⟩
  rw [← hs] at c0 hs1 hs2
  rw [← hb] at c2 ⊢
  clear h h1 k1 ab hst hs hb
  by_cases he : bo = (b : Int)
  · rw [if_pos he]
    subst he
    have heb : ((b : Int) != (b : Int)) = false := by simp
    go_enter Try.func72, Try.ntmps72
    go_upto_region 1 with fail
    rw [← hbx, ← hw1]
    clear hbx hw1
    go_wp2_with fail
    go_quiet (fail)
    go_wp2_with fail
    go_ret2
    exact ⟨rfl, by first | exact K1.out | exact K1.out.drew | exact K1.out.drewN _⟩
  · rw [if_neg he]
    have heb : (bo != (b : Int)) = true := by simp [he]
    go_enter Try.func72, Try.ntmps72
    go_upto_region 1 with fail
    rw [← hbx, ← hw1]
    clear hbx hw1
    go_wp2_with fail
    go_quiet (fail)
    go_wp2_with fail
    go_ret2
    exact ⟨rfl, by first | exact K1.out | exact K1.out.drew | exact K1.out.drewN _⟩
theorem anews_no {W : World} {o I : Nat} {t : Tk} {ext : List Value} (h : TkC W o t ext I) (f : Fr) (a : Option Addr) (c : Nat) (now : Int) (hno : t.st ≠ 2 ∨ f.bo ≠ t.bo) :
    Calls Try.prog 73 #[.pointer (some ⟨o, 0, none⟩), .agg (frA f a c), .int .i64 now] W fun e w' => e = .returned (.tuple #[.slice none 0 0, .int .i64 6]) ∧ Kp (fun _ => False) W w' := by
  obtain ⟨bx, w1, hbx, hw1, k1, ab⟩ := frame_box f a c W
  have h1 := h.kp0 k1
  have c2 := h1.c.2.2.1
  have b2 : w1.cell? ⟨bx, 2, none⟩ = some (.int .i64 f.bo) := ab.cell 2
  have K1 := Lib.hid k1
  by_cases hst : t.st = 2
  · have hb := hno.resolve_left (fun e => e hst)
    have C := fun n => Calls.quiet_of_same (n := n) (Calls.turn (tis_any o t.st (w1.drewN n) (h1.drewN0 n).c.1))
    rw [decide_eq_true hst] at C
    have heb : (f.bo != (t.bo : Int)) = true := by simp [hb]
    obtain ⟨ty, se, bo, sq, ac, bd⟩ := f
    dsimp only [frA] at *
    generalize bd.length = nb at *
    clear h h1 k1 ab hst
    go_enter Try.func73, Try.ntmps73
    go_upto_region 1 with fail
    rw [← hbx, ← hw1]
    clear hbx hw1
    go_wp2_with fail
    go_quiet (exact C _)
    go_wp2_with fail
    go_ret2
    exact ⟨rfl, by first | exact K1.out | exact K1.out.drew | exact K1.out.drewN _⟩
  · have C := fun n => Calls.quiet_of_same (n := n) (Calls.turn (tis_any o t.st (w1.drewN n) (h1.drewN0 n).c.1))
    rw [decide_eq_false hst] at C
    obtain ⟨ty, se, bo, sq, ac, bd⟩ := f
    dsimp only [frA] at *
    generalize bd.length = nb at *
    clear h h1 k1 ab hst
    go_enter Try.func73, Try.ntmps73
    go_upto_region 1 with fail
    rw [← hbx, ← hw1]
    clear hbx hw1
    go_wp2_with fail
    go_quiet (exact C _)
    go_wp2_with fail
    go_ret2
    exact ⟨rfl, by first | exact K1.out | exact K1.out.drew | exact K1.out.drewN _⟩
end Go.Proofs.Ytokembhfebnjpaa
