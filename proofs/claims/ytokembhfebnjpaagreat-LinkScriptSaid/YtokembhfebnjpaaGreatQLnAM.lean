/- Chapter 15: an end's memory, its makers, what it tells of itself. (Written by wip/lna.py.) -/
import Derived.Test.YtokembhfebnjpaaGreatQRegL
import Derived.Test.YtokembhfebnjpaaGreatQGrdMM
import Derived.Test.YtokembhfebnjpaaGreatQInbOM
import Derived.Test.YtokembhfebnjpaaGreatQWnDM
namespace Go.Proofs.YtokembhfebnjpaaGreat
set_option maxRecDepth 20000
open Go.RowKit Flt
set_option linter.unusedVariables false
def fitB (n z : Int) : Bool := decide (1 ≤ n) && decide (n ≤ 2147483647) && decide (1 ≤ z) && decide (z ≤ 64)
theorem lfits_any (n z : Int) (w : World) : Calls Tryz.prog 12 #[.int .i64 n, .int .i64 z] w fun e w' => e = .returned (.bool (fitB n z)) ∧ w = w' := by
 unfold fitB
 by_cases h1 : 1 ≤ n <;> by_cases h2 : n ≤ 2147483647 <;> by_cases h3 : 1 ≤ z <;> by_cases h4 : z ≤ 64
 all_goals
  go_enter Tryz.func12, Tryz.ntmps12
  go_wp2
  go_ret
  exact ⟨by simp [h1, h2, h3, h4], rfl⟩
theorem ltime_any (n : Int) (w : World) : Calls Tryz.prog 42 #[.int .i64 n] w fun e w' => e = .returned (.bool (timeB n)) ∧ w = w' := by
 unfold timeB
 by_cases h1 : 0 ≤ n <;> by_cases h2 : n ≤ 2147483647
 all_goals
  go_enter Tryz.func42, Tryz.ntmps42
  go_wp2
  go_ret
  exact ⟨by simp [h1, h2], rfl⟩
structure Ix where
 g : Nat
 x : Wn
 b : Nat
 f : Bodies
 n : Nat
 hd : Nat
 F : Nat → Prop
structure Tk where
 st : Nat
 se : Nat
 bo : Nat
 sz : Nat
 wv : Value
 xv : Value
 owed : Bool
 i : Ix
def talkC (t : Tk) : List Value := [.int .i64 t.st, .int .i64 t.se, .int .i64 t.bo, .int .i64 t.sz, t.wv, t.xv, .bool t.owed]
structure UpC (W : World) (o : Nat) (t : Tk) (I : Nat) : Prop where
 wv : t.wv = .pointer (some ⟨t.i.g, 0, none⟩)
 xv : t.xv = .pointer (some ⟨t.i.b, 0, none⟩)
 win : WinC W t.i.g t.i.x
 ms : Ms t.i.x.m t.i.x.s
 wsz : t.i.x.size = t.sz
 last : t.i.x.last ≤ I
 ll : t.i.x.l.length ≤ t.i.x.last
 times : ∀ j, j < t.i.x.l.length → (pk t.i.x.l j).times ≤ I
 inb : InbAt W t.i.b t.sz t.i.f t.i.n t.i.hd t.i.F
 oW : ¬ Mine t.i.g t.i.x o
 oX : ¬ t.i.F o
 ap : ∀ k, Mine t.i.g t.i.x k → ¬ t.i.F k
structure TkC (W : World) (o : Nat) (t : Tk) (ext : List Value) (I : Nat) : Prop where
 hat : At W o (talkC t ++ ext)
 up : t.st = 2 → UpC W o t I
 se : t.se ≤ 2147483647
 bo : t.bo ≤ 2147483647
 sz : 1 ≤ t.sz ∧ t.sz ≤ 64
def Me (o : Nat) (t : Tk) (k : Nat) : Prop := k = o ∨ (t.st = 2 ∧ (Mine t.i.g t.i.x k ∨ t.i.F k))
theorem UpC.kp {S : Nat → Prop} {W W' : World} {o I : Nat} {t : Tk} (h : UpC W o t I) (k : Kp S W W') (h1 : ∀ j, Mine t.i.g t.i.x j → ¬ S j) (h3 : ∀ j, t.i.F j → ¬ S j) : UpC W' o t I :=
 { h with win := h.win.kp k h1, inb := h.inb.kp k h3 }
theorem TkC.kp {S : Nat → Prop} {W W' : World} {o I : Nat} {t : Tk} {ext : List Value} (h : TkC W o t ext I) (k : Kp S W W') (hs : ∀ j, Me o t j → ¬ S j) : TkC W' o t ext I :=
 { h with hat := k.at h.hat (hs o (.inl rfl)), up := fun e => (h.up e).kp k (fun j hj => hs j (.inr ⟨e, .inl hj⟩)) (fun j hj => hs j (.inr ⟨e, .inr hj⟩)) }
theorem TkC.kp0 {W W' : World} {o I : Nat} {t : Tk} {ext : List Value} (h : TkC W o t ext I) (k : Kp (fun _ => False) W W') : TkC W' o t ext I := h.kp k (fun _ _ h => h)
theorem TkC.lt {W : World} {o I : Nat} {t : Tk} {ext : List Value} (h : TkC W o t ext I) {k : Nat} (hk : Me o t k) : k < W.heap.size := by
 rcases hk with rfl | ⟨e, hk | hk⟩
 · exact h.hat.lt
 · exact (h.up e).win.lt hk
 · obtain ⟨⟨c, hc⟩, _⟩ := (h.up e).inb
   exact hc.lt k hk
theorem TkC.c {W : World} {o I : Nat} {t : Tk} {ext : List Value} (h : TkC W o t ext I) : W.cell? ⟨o, 0, none⟩ = some (.int .i64 t.st) ∧ W.cell? ⟨o, 1, none⟩ = some (.int .i64 t.se) ∧ W.cell? ⟨o, 2, none⟩ = some (.int .i64 t.bo) ∧ W.cell? ⟨o, 3, none⟩ = some (.int .i64 t.sz) ∧ W.cell? ⟨o, 4, none⟩ = some t.wv ∧ W.cell? ⟨o, 5, none⟩ = some t.xv ∧ W.cell? ⟨o, 6, none⟩ = some (.bool t.owed) :=
 ⟨h.hat.cell 0, h.hat.cell 1, h.hat.cell 2, h.hat.cell 3, h.hat.cell 4, h.hat.cell 5, h.hat.cell 6⟩
def LkC (W : World) (lb : Nat) (T : TypeId) (o : Nat) : Prop := At W lb [.iface T (.pointer (some ⟨o, 0, none⟩))]
theorem lnone_at (lb : Nat) (T : TypeId) (o : Nat) (w : World) (h : w.cell? ⟨lb, 0, none⟩ = some (.iface T (.pointer (some ⟨o, 0, none⟩)))) : Calls Tryz.prog 33 #[.pointer (some ⟨lb, 0, none⟩)] w fun e w' => e = .returned (.bool false) ∧ w = w' := by
 go_enter Tryz.func33, Tryz.ntmps33
 go_wp2
 go_ret
 exact ⟨rfl, rfl⟩
theorem tis_any (o st : Nat) (w : World) (h : w.cell? ⟨o, 0, none⟩ = some (.int .i64 (st : Nat))) : Calls Tryz.prog 34 #[.pointer (some ⟨o, 0, none⟩)] w fun e w' => e = .returned (.bool (decide (st = 2))) ∧ w = w' := by
 go_enter Tryz.func34, Tryz.ntmps34
 go_wp2
 go_ret
 exact ⟨ret_bool (by rw [Bool.eq_iff_iff]; simp; omega), rfl⟩
theorem talks_any (o : Nat) (w : World) : Calls Tryz.prog 107 #[.pointer (some ⟨o, 0, none⟩)] w fun e w' => e = .returned (.pointer (some ⟨o, 0, none⟩)) ∧ w = w' := by
 go_enter Tryz.func107, Tryz.ntmps107
 go_wp2
 go_ret
 exact ⟨rfl, rfl⟩
theorem lstate_a {lb o I : Nat} {t : Tk} {ext : List Value} {w : World} (h : LkC w lb 58 o) (hk : TkC w o t ext I) : Calls Tryz.prog 24 #[.pointer (some ⟨lb, 0, none⟩)] w fun e w' => e = .returned (.int .i64 t.st) ∧ w = w' := by
 have c0 : w.cell? ⟨lb, 0, none⟩ = some (.iface 58 (.pointer (some ⟨o, 0, none⟩))) := h.cell 0
 have C := Lib.hid (lnone_at lb _ o w c0)
 have c1 := hk.c.1
 have hm : ∀ (F : Nat) (w : World), (method (F + 1) 58 (.pointer (some ⟨o, 0, none⟩)) "satchel/link.talks").run Tryz.prog w = .ok (107, .pointer (some ⟨o, 0, none⟩)) w := fun F w => by kernel_rfl
 clear h hk
 go_enter Tryz.func24, Tryz.ntmps24
 go_wp2_with (first | (go_at_call 33; refine C.out.mono ?_; rintro e w' ⟨rfl, rfl⟩) | (go_at_call 107; refine (talks_any o _).mono ?_; rintro e w' ⟨rfl, rfl⟩))
 go_ret
 exact ⟨rfl, rfl⟩
theorem lsession_a {lb o I : Nat} {t : Tk} {ext : List Value} {w : World} (h : LkC w lb 58 o) (hk : TkC w o t ext I) : Calls Tryz.prog 25 #[.pointer (some ⟨lb, 0, none⟩)] w fun e w' => e = .returned (.int .i64 t.se) ∧ w = w' := by
 have c0 : w.cell? ⟨lb, 0, none⟩ = some (.iface 58 (.pointer (some ⟨o, 0, none⟩))) := h.cell 0
 have C := Lib.hid (lnone_at lb _ o w c0)
 have c1 := hk.c.2.1
 have hm : ∀ (F : Nat) (w : World), (method (F + 1) 58 (.pointer (some ⟨o, 0, none⟩)) "satchel/link.talks").run Tryz.prog w = .ok (107, .pointer (some ⟨o, 0, none⟩)) w := fun F w => by kernel_rfl
 clear h hk
 go_enter Tryz.func25, Tryz.ntmps25
 go_wp2_with (first | (go_at_call 33; refine C.out.mono ?_; rintro e w' ⟨rfl, rfl⟩) | (go_at_call 107; refine (talks_any o _).mono ?_; rintro e w' ⟨rfl, rfl⟩))
 go_ret
 exact ⟨rfl, rfl⟩
theorem lboot_a {lb o I : Nat} {t : Tk} {ext : List Value} {w : World} (h : LkC w lb 58 o) (hk : TkC w o t ext I) : Calls Tryz.prog 26 #[.pointer (some ⟨lb, 0, none⟩)] w fun e w' => e = .returned (.int .i64 t.bo) ∧ w = w' := by
 have c0 : w.cell? ⟨lb, 0, none⟩ = some (.iface 58 (.pointer (some ⟨o, 0, none⟩))) := h.cell 0
 have C := Lib.hid (lnone_at lb _ o w c0)
 have c1 := hk.c.2.2.1
 have hm : ∀ (F : Nat) (w : World), (method (F + 1) 58 (.pointer (some ⟨o, 0, none⟩)) "satchel/link.talks").run Tryz.prog w = .ok (107, .pointer (some ⟨o, 0, none⟩)) w := fun F w => by kernel_rfl
 clear h hk
 go_enter Tryz.func26, Tryz.ntmps26
 go_wp2_with (first | (go_at_call 33; refine C.out.mono ?_; rintro e w' ⟨rfl, rfl⟩) | (go_at_call 107; refine (talks_any o _).mono ?_; rintro e w' ⟨rfl, rfl⟩))
 go_ret
 exact ⟨rfl, rfl⟩
theorem lstate_d {lb o I : Nat} {t : Tk} {ext : List Value} {w : World} (h : LkC w lb 41 o) (hk : TkC w o t ext I) : Calls Tryz.prog 24 #[.pointer (some ⟨lb, 0, none⟩)] w fun e w' => e = .returned (.int .i64 t.st) ∧ w = w' := by
 have c0 : w.cell? ⟨lb, 0, none⟩ = some (.iface 41 (.pointer (some ⟨o, 0, none⟩))) := h.cell 0
 have C := Lib.hid (lnone_at lb _ o w c0)
 have c1 := hk.c.1
 have hm : ∀ (F : Nat) (w : World), (method (F + 1) 41 (.pointer (some ⟨o, 0, none⟩)) "satchel/link.talks").run Tryz.prog w = .ok (107, .pointer (some ⟨o, 0, none⟩)) w := fun F w => by kernel_rfl
 clear h hk
 go_enter Tryz.func24, Tryz.ntmps24
 go_wp2_with (first | (go_at_call 33; refine C.out.mono ?_; rintro e w' ⟨rfl, rfl⟩) | (go_at_call 107; refine (talks_any o _).mono ?_; rintro e w' ⟨rfl, rfl⟩))
 go_ret
 exact ⟨rfl, rfl⟩
theorem lsession_d {lb o I : Nat} {t : Tk} {ext : List Value} {w : World} (h : LkC w lb 41 o) (hk : TkC w o t ext I) : Calls Tryz.prog 25 #[.pointer (some ⟨lb, 0, none⟩)] w fun e w' => e = .returned (.int .i64 t.se) ∧ w = w' := by
 have c0 : w.cell? ⟨lb, 0, none⟩ = some (.iface 41 (.pointer (some ⟨o, 0, none⟩))) := h.cell 0
 have C := Lib.hid (lnone_at lb _ o w c0)
 have c1 := hk.c.2.1
 have hm : ∀ (F : Nat) (w : World), (method (F + 1) 41 (.pointer (some ⟨o, 0, none⟩)) "satchel/link.talks").run Tryz.prog w = .ok (107, .pointer (some ⟨o, 0, none⟩)) w := fun F w => by kernel_rfl
 clear h hk
 go_enter Tryz.func25, Tryz.ntmps25
 go_wp2_with (first | (go_at_call 33; refine C.out.mono ?_; rintro e w' ⟨rfl, rfl⟩) | (go_at_call 107; refine (talks_any o _).mono ?_; rintro e w' ⟨rfl, rfl⟩))
 go_ret
 exact ⟨rfl, rfl⟩
theorem lboot_d {lb o I : Nat} {t : Tk} {ext : List Value} {w : World} (h : LkC w lb 41 o) (hk : TkC w o t ext I) : Calls Tryz.prog 26 #[.pointer (some ⟨lb, 0, none⟩)] w fun e w' => e = .returned (.int .i64 t.bo) ∧ w = w' := by
 have c0 : w.cell? ⟨lb, 0, none⟩ = some (.iface 41 (.pointer (some ⟨o, 0, none⟩))) := h.cell 0
 have C := Lib.hid (lnone_at lb _ o w c0)
 have c1 := hk.c.2.2.1
 have hm : ∀ (F : Nat) (w : World), (method (F + 1) 41 (.pointer (some ⟨o, 0, none⟩)) "satchel/link.talks").run Tryz.prog w = .ok (107, .pointer (some ⟨o, 0, none⟩)) w := fun F w => by kernel_rfl
 clear h hk
 go_enter Tryz.func26, Tryz.ntmps26
 go_wp2_with (first | (go_at_call 33; refine C.out.mono ?_; rintro e w' ⟨rfl, rfl⟩) | (go_at_call 107; refine (talks_any o _).mono ?_; rintro e w' ⟨rfl, rfl⟩))
 go_ret
 exact ⟨rfl, rfl⟩
def upT (t : Tk) (g b : Nat) : Tk := { t with st := 2, owed := false, wv := .pointer (some ⟨g, 0, none⟩), xv := .pointer (some ⟨b, 0, none⟩), i := ⟨g, wnew t.sz, b, fun _ => none, 1, 0, (· = b)⟩ }
theorem mine_newL {g s k : Nat} (h : Mine g (wnew s) k) : k = g := by
 rcases h with h | h | ⟨i, hi, _⟩
 · exact h
 · cases h
 · cases hi
set_option maxHeartbeats 1000000 in
theorem up_any {W : World} {o I : Nat} {t : Tk} {ext : List Value} (h : TkC W o t ext I) :
 Calls Tryz.prog 109 #[.pointer (some ⟨o, 0, none⟩)] W fun e w' => e = .returned (.tuple #[]) ∧ ∃ g b, TkC w' o (upT t g b) ext I ∧ W.heap.size ≤ g ∧ W.heap.size ≤ b ∧ (∀ k, Me o (upT t g b) k → k = o ∨ k = g ∨ k = b) ∧ Kp (· = o) W w' := by
 obtain ⟨c0, c1, c2, c3, c4, c5, c6⟩ := h.c
 have hoz := h.hat.lt
 have CW := Lib.hid (wnew_ok t.sz W h.sz)
 have H := Lib.hid h
 clear h
 go_enter Tryz.func109, Tryz.ntmps109
 go_wp2_with fail
 refine CW.out.mono ?_
 rintro e w1 ⟨rfl, hw, k1⟩
 obtain ⟨g, hg⟩ : ∃ g, g = W.heap.size := ⟨_, rfl⟩
 rw [← hg] at hw hoz ⊢
 have f4 := (k1.at H.out.hat (fun h => h)).frozen 4
 have d3 := (k1.at H.out.hat (fun h => h)).cell 3
 have d3 : w1.cell? ⟨o, 3, none⟩ = some (.int .i64 t.sz) := d3
 have d4 : w1.cell? ⟨o, 4, none⟩ = some t.wv := (k1.at H.out.hat (fun h => h)).cell 4
 have H1 := Lib.hid (And.intro hw (And.intro k1 hg))
 clear hw k1 hg CW c0 c1 c2 c3 c4 c5 c6
 go_upto_region 1 with fail
 have hat2 : At (w1.setCell ⟨o, 4, none⟩ (.pointer (some ⟨g, 0, none⟩))) o ((talkC t ++ ext).set 4 (.pointer (some ⟨g, 0, none⟩))) := (H1.out.2.1.at H.out.hat (fun h => h)).set 4 _
 obtain ⟨w2, hw2⟩ : ∃ w2, w2 = w1.setCell ⟨o, 4, none⟩ (.pointer (some ⟨g, 0, none⟩)) := ⟨_, rfl⟩
 have k2 : Kp (fun k => k = o) W w2 := by
  rw [hw2]
  exact Kp.setCell (S := fun k => k = o) (H1.out.2.1.mono (fun _ _ h => h.elim)) (p := ⟨o, 4, none⟩) (fun _ => rfl) _
 have hww : WinC w2 g (wnew t.sz) := by
  rw [hw2]
  refine H1.out.1.kp (Kp.setCell (S := fun k => k = o) (Kp.refl _ w1) (p := ⟨o, 4, none⟩) (fun _ => rfl) _) (fun j hj e => ?_)
  have := mine_newL hj
  have e : j = o := e
  omega
 rw [← hw2] at hat2 ⊢
 have d3 : w2.cell? ⟨o, 3, none⟩ = some (.int .i64 t.sz) := hat2.cell 3
 have CX := Lib.hid (inew_ok t.sz w2 H.out.sz)
 have H2 := Lib.hid (And.intro hat2 (And.intro k2 hww))
 have hs2 := k2.size
 clear hw2 hat2 k2 hww f4 d4
 go_wp2_with fail
 refine CX.out.mono ?_
 rintro e w3 ⟨rfl, hx, k3⟩
 obtain ⟨b, hb⟩ : ∃ b, b = w2.heap.size := ⟨_, rfl⟩
 rw [← hb] at hx ⊢
 have hat3 := k3.at H2.out.1 (fun h => h)
 have f5 := hat3.frozen 5
 have d5 : w3.cell? ⟨o, 5, none⟩ = some t.xv := hat3.cell 5
 have H3 := Lib.hid (And.intro hx (And.intro k3 (And.intro hat3 hb)))
 clear hx k3 hat3 hb CX d3
 go_upto_region 2 with fail
 have hat4 : At (w3.setCell ⟨o, 5, none⟩ (.pointer (some ⟨b, 0, none⟩))) o (((talkC t ++ ext).set 4 (.pointer (some ⟨g, 0, none⟩))).set 5 (.pointer (some ⟨b, 0, none⟩))) := H3.out.2.2.1.set 5 _
 obtain ⟨w4, hw4⟩ : ∃ w4, w4 = w3.setCell ⟨o, 5, none⟩ (.pointer (some ⟨b, 0, none⟩)) := ⟨_, rfl⟩
 have k34 : Kp (fun k => k = o) w3 w4 := by
  rw [hw4]
  exact Kp.setCell (S := fun k => k = o) (Kp.refl _ w3) (p := ⟨o, 5, none⟩) (fun _ => rfl) _
 rw [← hw4] at hat4 ⊢
 have f0 := hat4.frozen 0
 have f6 := hat4.frozen 6
 have d0 : w4.cell? ⟨o, 0, none⟩ = some (.int .i64 t.st) := hat4.cell 0
 have d6 : w4.cell? ⟨o, 6, none⟩ = some (.bool t.owed) := hat4.cell 6
 have H4 := Lib.hid (And.intro hat4 k34)
 clear hw4 hat4 k34 d5 f5
 go_wp2_with fail
 go_end0
 refine ⟨rfl, g, b, ?_, Nat.le_of_eq H1.out.2.2.symm, by have := H3.out.2.2.2; have := H1.out.2.2; omega, fun k hk => ?_, ?_⟩
 · have hat5 := (H4.out.1.set 0 (.int .i64 2)).set 6 (.bool false)
   have k45 : Kp (fun k => k = o) w4 ((w4.setCell ⟨o, 0, none⟩ (.int .i64 2)).setCell ⟨o, 6, none⟩ (.bool false)) := Kp.setCell (S := fun k => k = o) (Kp.setCell (S := fun k => k = o) (Kp.refl _ w4) (p := ⟨o, 0, none⟩) (fun _ => rfl) _) (p := ⟨o, 6, none⟩) (fun _ => rfl) _
   have k35 := H4.out.2.trans k45
   have hgo : ∀ j, j = g ∨ j = b → ¬ j = o := fun j hj e => by
    have := H3.out.2.2.2
    have := H1.out.2.2
    rcases hj with hj | hj <;> omega
   refine ⟨hat5, fun _ => ⟨rfl, rfl, (H2.out.2.2.kp0 H3.out.2.1).kp k35 (fun j hj e => hgo j (.inl (mine_newL hj)) e), Ms.start, rfl, Nat.zero_le _, Nat.le_refl _, fun j hj => absurd hj (Nat.not_lt_zero _), H3.out.1.kp k35 (fun j hj e => hgo j (.inr hj) e), fun hm => ?_, fun e => hgo b (.inr rfl) e.symm, fun k hk e => ?_⟩, H.out.se, H.out.bo, H.out.sz⟩
   · have := mine_newL hm
     exact hgo g (.inl rfl) this.symm
   · have h1 : k = g := mine_newL hk
     have h2 := H2.out.2.2.hat.lt
     have h3 := H3.out.2.2.2
     have e : k = b := e
     omega
 · rcases hk with rfl | ⟨_, hk | hk⟩
   · exact .inl rfl
   · exact .inr (.inl (mine_newL hk))
   · exact .inr (.inr hk)
 · exact (((H2.out.2.1.trans (H3.out.2.1.mono (fun _ _ h => h.elim))).trans H4.out.2)).setCell (p := ⟨o, 0, none⟩) (fun _ => rfl) _ |>.setCell (p := ⟨o, 6, none⟩) (fun _ => rfl) _
set_option linter.unusedSimpArgs false
def ackB (x : Wn) (n now : Int) : Bool := decide (0 ≤ n) && decide (n ≤ x.last) && timeB now
theorem wack_bad {W : World} {g : Nat} {x : Wn} (h : WinC W g x) (n now : Int) (hb : ackB x n now = false) :
 Calls Tryz.prog 118 #[.pointer (some ⟨g, 0, none⟩), .int .i64 n, .int .i64 now] W fun e w' => e = .returned (.tuple #[.int .i64 0, .int .i64 5]) ∧ W = w' := by
 by_cases h1 : n < 0
 · exact ack_neg h n now h1
 · by_cases h2 : (x.last : Int) < n
   · exact ack_far h n now h1 h2
   · refine ack_late h n now h1 h2 ?_
     unfold ackB at hb
     rw [decide_eq_true (by omega), decide_eq_true (by omega)] at hb
     simpa using hb
def ackX (x : Wn) (n now : Int) (V : Value) : Wn := ackL x (goneN x n.toNat) (max x.now now.toNat) V
theorem wack_yes {W : World} {g : Nat} {x : Wn} (h : WinC W g x) (hms : Ms x.m x.s) (hl : x.last ≤ 1000000) (n now : Int) (hb : ackB x n now = true) :
 Calls Tryz.prog 118 #[.pointer (some ⟨g, 0, none⟩), .int .i64 n, .int .i64 now] W fun e w' => ∃ k V', e = .returned (.tuple #[.int .i64 (k : Nat), .int .i64 0]) ∧ WinC w' g (ackX x n now V') ∧ V'.ownBlock = x.V.ownBlock ∧ Kp (· = g) W w' := by
 unfold ackB at hb
 simp only [Bool.and_eq_true, decide_eq_true_eq] at hb
 obtain ⟨⟨h1, h2⟩, h3⟩ := hb
 have h4 := timeB_yes h3
 obtain ⟨n', rfl⟩ := Int.eq_ofNat_of_zero_le h1
 obtain ⟨t, rfl⟩ := Int.eq_ofNat_of_zero_le h4.1
 refine (ack_ok h hms n' t (by omega) (by omega) (by omega)).mono ?_
 rintro e w' ⟨h5, V', h6, h7, h8⟩
 exact ⟨_, V', h5, h6, h7, h8⟩
def ackT (t : Tk) (x' : Wn) : Tk := { t with i := { t.i with x := x' } }
def takeT (t : Tk) (x' : Wn) (f' : Bodies) (n' hd' : Nat) (F' : Nat → Prop) : Tk := { t with owed := true, i := { t.i with x := x', f := f', n := n', hd := hd', F := F' } }
theorem UpC.ack {W W' : World} {o I : Nat} {t : Tk} (h : UpC W o t I) {n now : Int} {V' : Value} (hb : ackB t.i.x n now = true) (hw : WinC W' t.i.g (ackX t.i.x n now V')) (hV : V'.ownBlock = t.i.x.V.ownBlock) (k : Kp (· = t.i.g) W W') : UpC W' o (ackT t (ackX t.i.x n now V')) I := by
 unfold ackB at hb
 simp only [Bool.and_eq_true, decide_eq_true_eq] at hb
 obtain ⟨⟨h1, h2⟩, h3⟩ := hb
 have h4 := timeB_yes h3
 have hM : ∀ j, Mine t.i.g (ackX t.i.x n now V') j → Mine t.i.g t.i.x j := fun j hj => Mine.pop (x := t.i.x) hV hj
 have hll := h.ll
 have hnow := h.win.now_bd
 refine { h with win := hw, ms := Flt.Ms.ack h.ms (by omega) _, last := h.last, ll := ?_, times := fun j hj => ?_, inb := h.inb.kp k (fun g hg e => ?_), oW := fun hm => h.oW (hM _ hm), ap := fun j hj => h.ap j (hM j hj) }
 · show (t.i.x.l.drop _).length ≤ t.i.x.last
   rw [List.length_drop]; omega
 · have hj' : j < (t.i.x.l.drop (goneN t.i.x n.toNat)).length := hj
   show (pk (t.i.x.l.drop (goneN t.i.x n.toNat)) j).times ≤ I
   rw [pk_drop]
   rw [List.length_drop] at hj'
   exact h.times _ (by omega)
 · have e : g = t.i.g := e
   subst e
   exact h.ap _ (.inl rfl) hg
theorem UpC.gX {W : World} {o I : Nat} {t : Tk} (h : UpC W o t I) : t.i.g ≠ o ∧ t.i.b ≠ o ∧ t.i.b ≠ t.i.g ∧ t.i.F t.i.b := by
 have hb : t.i.F t.i.b := by obtain ⟨⟨c, hc⟩, _⟩ := h.inb; exact hc.base
 refine ⟨fun e => h.oW (.inl e.symm), fun e => h.oX (e ▸ hb), fun e => h.ap t.i.g (.inl rfl) (e ▸ hb), hb⟩
theorem TkC.ack {W W' : World} {o I : Nat} {t : Tk} {ext : List Value} (h : TkC W o t ext I) (hst : t.st = 2) {n now : Int} {V' : Value} (hb : ackB t.i.x n now = true) (hw : WinC W' t.i.g (ackX t.i.x n now V')) (hV : V'.ownBlock = t.i.x.V.ownBlock) (k : Kp (· = t.i.g) W W') : TkC W' o (ackT t (ackX t.i.x n now V')) ext I :=
 { h with hat := k.at h.hat (fun e => (h.up hst).gX.1 e.symm), up := fun _ => (h.up hst).ack hb hw hV k }
theorem me_ack {o : Nat} {t : Tk} {n now : Int} {V' : Value} (hV : V'.ownBlock = t.i.x.V.ownBlock) {k : Nat} (hk : Me o (ackT t (ackX t.i.x n now V')) k) : Me o t k := by
 rcases hk with hk | ⟨e, hk | hk⟩
 · exact .inl hk
 · exact .inr ⟨e, .inl (Mine.pop (x := t.i.x) hV hk)⟩
 · exact .inr ⟨e, .inr hk⟩
theorem TkC.owe {W : World} {o I : Nat} {t : Tk} {ext : List Value} (h : TkC W o t ext I) (b : Bool) : TkC (W.setCell ⟨o, 6, none⟩ (.bool b)) o { t with owed := b } ext I := by
 have k : Kp (fun k => k = o) W (W.setCell ⟨o, 6, none⟩ (.bool b)) := Kp.setCell (S := fun k => k = o) (Kp.refl _ W) (p := ⟨o, 6, none⟩) (fun _ => rfl) _
 refine { h with hat := h.hat.set 6 (.bool b), up := fun e => ?_ }
 have hu := h.up e
 exact { hu.kp k (fun j hj e => hu.oW (by have e : j = o := e; exact e ▸ hj)) (fun j hj e => hu.oX (by have e : j = o := e; exact e ▸ hj)) with }
set_option maxHeartbeats 1000000 in
theorem news_bad {W : World} {o I : Nat} {t : Tk} {ext : List Value} (h : TkC W o t ext I) (hst : t.st = 2) (f : Fr) (a : Option Addr) (c : Nat) (now : Int) (hb : ackB t.i.x f.ac now = false) :
 Calls Tryz.prog 112 #[.pointer (some ⟨o, 0, none⟩), .agg (frA f a c), .int .i64 now] W fun e w' => e = .returned (.tuple #[.slice none 0 0, .int .i64 5]) ∧ Kp (fun _ => False) W w' := by
 obtain ⟨w1, hw1⟩ : ∃ w1, w1 = W.alloc (.cells (frA f a c) 34) := ⟨_, rfl⟩
 obtain ⟨bx, hbx⟩ : ∃ bx, bx = W.heap.size := ⟨_, rfl⟩
 have k1 : Kp (fun _ => False) W w1 := by rw [hw1]; exact (Kp.refl _ W).alloc _
 have ab : At w1 bx [.int .i64 f.ty, .int .i64 f.se, .int .i64 f.bo, .int .i64 f.sq, .int .i64 f.ac, .slice a f.bd.length c] := by rw [hw1, hbx]; exact At.new W _ _
 have hu := h.up hst
 have C := Lib.hid (fun w' (k : Kp (fun _ => False) w1 w') => wack_bad (hu.win.kp0 (k1.trans k)) f.ac now hb)
 have c4 : w1.cell? ⟨o, 4, none⟩ = some (.pointer (some ⟨t.i.g, 0, none⟩)) := by rw [k1.cell h.c.2.2.2.2.1 (fun h => h), hu.wv]
 have b4 : w1.cell? ⟨bx, 4, none⟩ = some (.int .i64 f.ac) := ab.cell 4
 have K1 := Lib.hid k1
 obtain ⟨ty, se, bo, sq, ac, bd⟩ := f
 dsimp only [frA] at *
 generalize bd.length = nb at *
 generalize t.i.g = g at *
 clear h hu ab k1 hb hst
 go_enter Tryz.func112, Tryz.ntmps112
 go_upto_region 1 with fail
 rw [← hbx, ← hw1]
 clear hbx hw1
 refine region_L (S := fun w' => Kp (fun _ => False) w1 w') [7] rfl ?_
 have hSd : ∀ (w' : World) (n' : Nat), Kp (fun _ => False) w1 w' → Kp (fun _ => False) w1 (w'.drewN n') := fun w' n' h => h.drewN n'
 have hS0 : Kp (fun _ => False) w1 w1.drew := (Kp.refl _ w1).drew
 refine anyL_world (fun w' => Kp (fun _ => False) w1 w') hS0 ?_
 clear hS0
 intro z0 kz0
 refine tF 0 13 (.pointer (some ⟨o, 0, none⟩)) rfl rfl hSd (fun _ => kz0) ?_
 try simp only [sC]
 refine tF 1 14 (.pointer (some ⟨o, 0, none⟩)) rfl rfl hSd (fun _ => kz0) ?_
 try simp only [sC]
 refine tF 2 15 (.pointer (some ⟨o, 4, none⟩)) rfl rfl hSd (fun _ => kz0) ?_
 try simp only [sC]
 refine tD 3 16 (.pointer (some ⟨g, 0, none⟩)) rfl rfl hSd (.inl (.inl ⟨rfl, fun w' hS => by have h := hS.cell c4 (fun h => h); go_simp⟩)) kz0 ?_
 try simp only [sC]
 refine tF 4 17 (.pointer (some ⟨bx, 4, none⟩)) rfl rfl hSd (fun _ => kz0) ?_
 try simp only [sC]
 refine tD 5 18 (.int .i64 ac) rfl rfl hSd (.inl (.inl ⟨rfl, fun w' hS => by have h := hS.cell b4 (fun h => h); go_simp⟩)) kz0 ?_
 try simp only [sC]
 refine tF 6 19 (.int .i64 now) rfl rfl hSd (fun _ => kz0) ?_
 try simp only [sC]
 refine tA 7 ?_
 intro n11
 refine wpOp_of rfl rfl ?_
 go_simp
 refine Calls.mono (C.out (z0.drewN n11) (kz0.drewN n11)) ?_
 rintro e w8p ⟨rfl, hw8⟩
 have kk8 : Kp (fun _ => False) W w8p := by rw [← hw8]; exact K1.out.trans (kz0.drewN n11)
 clear hw8
 try dsimp only
 refine ⟨fun h => Bool.noConfusion (show false = true from h), ?_⟩
 try simp only [sC]
 refine tF 8 12 (.tuple #[.int .i64 0, .int .i64 5]) rfl rfl hSd (fun h => Bool.noConfusion (show false = true from h)) ?_
 try simp only [sC]
 refine tF 9 21 (.int .i64 0) rfl rfl hSd (fun h => Bool.noConfusion (show false = true from h)) ?_
 try simp only [sC]
 refine tF 10 22 (.int .i64 5) rfl rfl hSd (fun h => Bool.noConfusion (show false = true from h)) ?_
 try simp only [sC]
 refine tF 11 8 (.int .i64 0) rfl rfl hSd (fun h => Bool.noConfusion (show false = true from h)) ?_
 try simp only [sC]
 refine tF 12 9 (.int .i64 5) rfl rfl hSd (fun h => Bool.noConfusion (show false = true from h)) ?_
 try simp only [sC]
 refine anyL_done (by kernel_rfl) (fun nn => ?_) _
 have kw8 : Kp (fun _ => False) w8p (w8p.drewN nn) := (Kp.refl _ w8p).drewN nn
 generalize w8p.drewN nn = w8 at *
 clear hSd kz0
 have K8 := Lib.hid (kk8.trans kw8)
 clear kk8 kw8
 go_wp2_with fail
 go_ret2
 exact ⟨rfl, K8.out⟩
set_option maxHeartbeats 2000000 in
theorem news_ack {W : World} {o I : Nat} {t : Tk} {ext : List Value} (h : TkC W o t ext I) (hst : t.st = 2) (hI : I ≤ 1000000) (f : Fr) (a : Option Addr) (c : Nat) (now : Int) (hb : ackB t.i.x f.ac now = true) (hty : f.ty ≠ 3) :
 Calls Tryz.prog 112 #[.pointer (some ⟨o, 0, none⟩), .agg (frA f a c), .int .i64 now] W fun e w' => e = .returned (.tuple #[.slice none 0 0, .int .i64 0]) ∧ ∃ V', TkC w' o (ackT t (ackX t.i.x f.ac now V')) ext I ∧ V'.ownBlock = t.i.x.V.ownBlock ∧ Kp (Me o t) W w' := by
 obtain ⟨w1, hw1⟩ : ∃ w1, w1 = W.alloc (.cells (frA f a c) 34) := ⟨_, rfl⟩
 obtain ⟨bx, hbx⟩ : ∃ bx, bx = W.heap.size := ⟨_, rfl⟩
 have k1 : Kp (fun _ => False) W w1 := by rw [hw1]; exact (Kp.refl _ W).alloc _
 have ab : At w1 bx [.int .i64 f.ty, .int .i64 f.se, .int .i64 f.bo, .int .i64 f.sq, .int .i64 f.ac, .slice a f.bd.length c] := by rw [hw1, hbx]; exact At.new W _ _
 have hu := h.up hst
 have hlast := hu.last
 have C := Lib.hid (fun w' (k : Kp (fun _ => False) w1 w') => wack_yes (hu.win.kp0 (k1.trans k)) hu.ms (by omega) f.ac now hb)
 have c4 : w1.cell? ⟨o, 4, none⟩ = some (.pointer (some ⟨t.i.g, 0, none⟩)) := by rw [k1.cell h.c.2.2.2.2.1 (fun h => h), hu.wv]
 have b4 : w1.cell? ⟨bx, 4, none⟩ = some (.int .i64 f.ac) := ab.cell 4
 have hgl : t.i.g < bx := by rw [hbx]; exact hu.win.hat.lt
 have hol : o < bx := by rw [hbx]; exact h.hat.lt
 have HH := Lib.hid (And.intro h (And.intro hst (And.intro hb (And.intro k1 ab))))
 have HBX := Lib.hid hbx
 obtain ⟨ty, se, bo, sq, ac, bd⟩ := f
 dsimp only [frA] at *
 generalize hnb : bd.length = nb at *
 have HNB := Lib.hid hnb
 obtain ⟨g, hg⟩ : ∃ g, g = t.i.g := ⟨_, rfl⟩
 rw [← hg] at c4 C hgl
 have HG := Lib.hid hg
 clear h hu ab k1 hb hst hnb hg hlast
 go_enter Tryz.func112, Tryz.ntmps112
 go_upto_region 1 with fail
 rw [← hbx, ← hw1]
 clear hbx hw1
 refine region_L (S := fun w' => Kp (fun _ => False) w1 w') [7] rfl ?_
 have hSd : ∀ (w' : World) (n' : Nat), Kp (fun _ => False) w1 w' → Kp (fun _ => False) w1 (w'.drewN n') := fun w' n' h => h.drewN n'
 have hS0 : Kp (fun _ => False) w1 w1.drew := (Kp.refl _ w1).drew
 refine anyL_world (fun w' => Kp (fun _ => False) w1 w') hS0 ?_
 clear hS0
 intro z0 kz0
 refine tF 0 13 (.pointer (some ⟨o, 0, none⟩)) rfl rfl hSd (fun _ => kz0) ?_
 try simp only [sC]
 refine tF 1 14 (.pointer (some ⟨o, 0, none⟩)) rfl rfl hSd (fun _ => kz0) ?_
 try simp only [sC]
 refine tF 2 15 (.pointer (some ⟨o, 4, none⟩)) rfl rfl hSd (fun _ => kz0) ?_
 try simp only [sC]
 refine tD 3 16 (.pointer (some ⟨g, 0, none⟩)) rfl rfl hSd (.inl (.inl ⟨rfl, fun w' hS => by have h := hS.cell c4 (fun h => h); go_simp⟩)) kz0 ?_
 try simp only [sC]
 refine tF 4 17 (.pointer (some ⟨bx, 4, none⟩)) rfl rfl hSd (fun _ => kz0) ?_
 try simp only [sC]
 refine tD 5 18 (.int .i64 ac) rfl rfl hSd (.inl (.inl ⟨rfl, fun w' hS => by have h := hS.cell b4 (fun h => h); go_simp⟩)) kz0 ?_
 try simp only [sC]
 refine tF 6 19 (.int .i64 now) rfl rfl hSd (fun _ => kz0) ?_
 try simp only [sC]
 refine tA 7 ?_
 intro n11
 refine wpOp_of rfl rfl ?_
 go_simp
 refine Calls.mono (C.out (z0.drewN n11) (kz0.drewN n11)) ?_
 rintro e w8p ⟨kN, V', rfl, hwc, hV, kk0⟩
 have kkz : Kp (fun k => k = g) w1 w8p := ((kz0.drewN n11).mono (fun _ _ h => h.elim)).trans kk0
 clear kk0
 try dsimp only
 refine ⟨fun h => Bool.noConfusion (show false = true from h), ?_⟩
 try simp only [sC]
 refine tF 8 12 (.tuple #[.int .i64 ((kN : Nat) : Int), .int .i64 0]) rfl rfl hSd (fun h => Bool.noConfusion (show false = true from h)) ?_
 try simp only [sC]
 refine tF 9 21 (.int .i64 ((kN : Nat) : Int)) rfl rfl hSd (fun h => Bool.noConfusion (show false = true from h)) ?_
 try simp only [sC]
 refine tF 10 22 (.int .i64 0) rfl rfl hSd (fun h => Bool.noConfusion (show false = true from h)) ?_
 try simp only [sC]
 refine tF 11 8 (.int .i64 ((kN : Nat) : Int)) rfl rfl hSd (fun h => Bool.noConfusion (show false = true from h)) ?_
 try simp only [sC]
 refine tF 12 9 (.int .i64 0) rfl rfl hSd (fun h => Bool.noConfusion (show false = true from h)) ?_
 try simp only [sC]
 refine anyL_done (by kernel_rfl) (fun nn => ?_) _
 have kw8 : Kp (fun _ => False) w8p (w8p.drewN nn) := (Kp.refl _ w8p).drewN nn
 generalize w8p.drewN nn = w8 at *
 clear hSd kz0
 have kk8 : Kp (fun k => k = g) w1 w8 := kkz.trans (kw8.mono (fun _ _ h => h.elim))
 have hwc8 := hwc.kp0 kw8
 have ab8 := kk8.at HH.out.2.2.2.2 (fun e => by have e : bx = g := e; omega)
 have b0 : w8.cell? ⟨bx, 0, none⟩ = some (.int .i64 ty) := ab8.cell 0
 have kg8 : Kp (fun k => k = t.i.g) W w8 := by rw [← HG.out]; exact (HH.out.2.2.2.1.mono (fun _ _ h => h.elim)).trans kk8
 have ht8 : TkC w8 o (ackT t (ackX t.i.x ac now V')) ext I := HH.out.1.ack HH.out.2.1 HH.out.2.2.1 (by rw [← HG.out]; exact hwc8) hV kg8
 have H8 := Lib.hid (And.intro ht8 (And.intro hV (And.intro kg8 (And.intro ab8 (And.intro kk8 HH.out)))))
 clear kw8 kkz hwc hwc8 ab8 kg8 ht8 kk8 hV c4 b4 C
 go_wp2_with fail
 go_ret2
 exact ⟨rfl, V', H8.out.1, H8.out.2.1, H8.out.2.2.1.mono (fun i _ e => .inr ⟨H8.out.2.2.2.2.2.2.1, .inl (.inl e)⟩)⟩
set_option maxHeartbeats 2000000 in
theorem news_take {W : World} {o I : Nat} {t : Tk} {ext : List Value} (h : TkC W o t ext I) (hst : t.st = 2) (hI : I ≤ 1000000) (f : Fr) (a : Option Addr) (c : Nat) (now : Int) (hb : ackB t.i.x f.ac now = true) (hty : f.ty = 3) (hsq : -9223372036854775808 ≤ f.sq ∧ f.sq ≤ 9223372036854775807) (hr : RdB W a f.bd) (hbl : f.bd.length ≤ 1000000000) (hoff : ∀ y, a = some y → ¬ Me o t y.block) :
 Calls Tryz.prog 112 #[.pointer (some ⟨o, 0, none⟩), .agg (frA f a c), .int .i64 now] W fun e w' => ∃ V' n' hd' F' v vs, e = .returned (.tuple #[v, .int .i64 0]) ∧ TkC w' o (takeT t (ackX t.i.x f.ac now V') (nf t.i.f t.i.n t.sz f.sq f.bd) n' hd' F') ext I ∧ V'.ownBlock = t.i.x.V.ownBlock ∧
  t.i.n ≤ n' ∧ n' ≤ t.i.n + t.sz ∧ vs.length = n' - t.i.n ∧ Own w' v (n' - t.i.n) 1 vs ∧ Told w' (nf t.i.f t.i.n t.sz f.sq f.bd) t.i.n vs (fun k => (t.i.F k ∧ k ≠ t.i.b) ∨ W.heap.size ≤ k) F' ∧ (∀ k, v.ownBlock = some k → W.heap.size ≤ k ∧ ¬ F' k) ∧ (∀ k, F' k → t.i.F k ∨ W.heap.size ≤ k) ∧ Kp (Me o t) W w' := by
 obtain ⟨w1, hw1⟩ : ∃ w1, w1 = W.alloc (.cells (frA f a c) 34) := ⟨_, rfl⟩
 obtain ⟨bx, hbx⟩ : ∃ bx, bx = W.heap.size := ⟨_, rfl⟩
 have k1 : Kp (fun _ => False) W w1 := by rw [hw1]; exact (Kp.refl _ W).alloc _
 have ab : At w1 bx [.int .i64 f.ty, .int .i64 f.se, .int .i64 f.bo, .int .i64 f.sq, .int .i64 f.ac, .slice a f.bd.length c] := by rw [hw1, hbx]; exact At.new W _ _
 have hu := h.up hst
 have HRB := Lib.hid (And.intro (hr.kp k1 (fun _ _ h => h)) (And.intro hsq (And.intro hbl hoff)))
 have hlast := hu.last
 have C := Lib.hid (fun w' (k : Kp (fun _ => False) w1 w') => wack_yes (hu.win.kp0 (k1.trans k)) hu.ms (by omega) f.ac now hb)
 have c4 : w1.cell? ⟨o, 4, none⟩ = some (.pointer (some ⟨t.i.g, 0, none⟩)) := by rw [k1.cell h.c.2.2.2.2.1 (fun h => h), hu.wv]
 have b4 : w1.cell? ⟨bx, 4, none⟩ = some (.int .i64 f.ac) := ab.cell 4
 have hgl : t.i.g < bx := by rw [hbx]; exact hu.win.hat.lt
 have hol : o < bx := by rw [hbx]; exact h.hat.lt
 have HH := Lib.hid (And.intro h (And.intro hst (And.intro hb (And.intro k1 ab))))
 have HBX := Lib.hid hbx
 obtain ⟨ty, se, bo, sq, ac, bd⟩ := f
 dsimp only [frA] at *
 generalize hnb : bd.length = nb at *
 have HNB := Lib.hid hnb
 obtain ⟨g, hg⟩ : ∃ g, g = t.i.g := ⟨_, rfl⟩
 rw [← hg] at c4 C hgl
 have HG := Lib.hid hg
 have HTY := Lib.hid hty
 clear hty hr hbl hsq hoff h hu ab k1 hb hst hnb hg hlast
 go_enter Tryz.func112, Tryz.ntmps112
 go_upto_region 1 with fail
 rw [← hbx, ← hw1]
 clear hbx hw1
 refine region_L (S := fun w' => Kp (fun _ => False) w1 w') [7] rfl ?_
 have hSd : ∀ (w' : World) (n' : Nat), Kp (fun _ => False) w1 w' → Kp (fun _ => False) w1 (w'.drewN n') := fun w' n' h => h.drewN n'
 have hS0 : Kp (fun _ => False) w1 w1.drew := (Kp.refl _ w1).drew
 refine anyL_world (fun w' => Kp (fun _ => False) w1 w') hS0 ?_
 clear hS0
 intro z0 kz0
 refine tF 0 13 (.pointer (some ⟨o, 0, none⟩)) rfl rfl hSd (fun _ => kz0) ?_
 try simp only [sC]
 refine tF 1 14 (.pointer (some ⟨o, 0, none⟩)) rfl rfl hSd (fun _ => kz0) ?_
 try simp only [sC]
 refine tF 2 15 (.pointer (some ⟨o, 4, none⟩)) rfl rfl hSd (fun _ => kz0) ?_
 try simp only [sC]
 refine tD 3 16 (.pointer (some ⟨g, 0, none⟩)) rfl rfl hSd (.inl (.inl ⟨rfl, fun w' hS => by have h := hS.cell c4 (fun h => h); go_simp⟩)) kz0 ?_
 try simp only [sC]
 refine tF 4 17 (.pointer (some ⟨bx, 4, none⟩)) rfl rfl hSd (fun _ => kz0) ?_
 try simp only [sC]
 refine tD 5 18 (.int .i64 ac) rfl rfl hSd (.inl (.inl ⟨rfl, fun w' hS => by have h := hS.cell b4 (fun h => h); go_simp⟩)) kz0 ?_
 try simp only [sC]
 refine tF 6 19 (.int .i64 now) rfl rfl hSd (fun _ => kz0) ?_
 try simp only [sC]
 refine tA 7 ?_
 intro n11
 refine wpOp_of rfl rfl ?_
 go_simp
 refine Calls.mono (C.out (z0.drewN n11) (kz0.drewN n11)) ?_
 rintro e w8p ⟨kN, V', rfl, hwc, hV, kk0⟩
 have kkz : Kp (fun k => k = g) w1 w8p := ((kz0.drewN n11).mono (fun _ _ h => h.elim)).trans kk0
 clear kk0
 try dsimp only
 refine ⟨fun h => Bool.noConfusion (show false = true from h), ?_⟩
 try simp only [sC]
 refine tF 8 12 (.tuple #[.int .i64 ((kN : Nat) : Int), .int .i64 0]) rfl rfl hSd (fun h => Bool.noConfusion (show false = true from h)) ?_
 try simp only [sC]
 refine tF 9 21 (.int .i64 ((kN : Nat) : Int)) rfl rfl hSd (fun h => Bool.noConfusion (show false = true from h)) ?_
 try simp only [sC]
 refine tF 10 22 (.int .i64 0) rfl rfl hSd (fun h => Bool.noConfusion (show false = true from h)) ?_
 try simp only [sC]
 refine tF 11 8 (.int .i64 ((kN : Nat) : Int)) rfl rfl hSd (fun h => Bool.noConfusion (show false = true from h)) ?_
 try simp only [sC]
 refine tF 12 9 (.int .i64 0) rfl rfl hSd (fun h => Bool.noConfusion (show false = true from h)) ?_
 try simp only [sC]
 refine anyL_done (by kernel_rfl) (fun nn => ?_) _
 have kw8 : Kp (fun _ => False) w8p (w8p.drewN nn) := (Kp.refl _ w8p).drewN nn
 generalize w8p.drewN nn = w8 at *
 clear hSd kz0
 have kk8 : Kp (fun k => k = g) w1 w8 := kkz.trans (kw8.mono (fun _ _ h => h.elim))
 have hwc8 := hwc.kp0 kw8
 have ab8 := kk8.at HH.out.2.2.2.2 (fun e => by have e : bx = g := e; omega)
 have b0 : w8.cell? ⟨bx, 0, none⟩ = some (.int .i64 ty) := ab8.cell 0
 have kg8 : Kp (fun k => k = t.i.g) W w8 := by rw [← HG.out]; exact (HH.out.2.2.2.1.mono (fun _ _ h => h.elim)).trans kk8
 have ht8 : TkC w8 o (ackT t (ackX t.i.x ac now V')) ext I := HH.out.1.ack HH.out.2.1 HH.out.2.2.1 (by rw [← HG.out]; exact hwc8) hV kg8
 have H8 := Lib.hid (And.intro ht8 (And.intro hV (And.intro kg8 (And.intro ab8 (And.intro kk8 HH.out)))))
 clear kw8 kkz hwc hwc8 ab8 kg8 ht8 kk8 hV c4 b4 C
 have hty := HTY.out
 subst hty
 have hat8 := H8.out.1.hat
 have f6 := hat8.frozen 6
 have d6 : w8.cell? ⟨o, 6, none⟩ = some (.bool t.owed) := hat8.cell 6
 go_upto_region 7 with fail
 have ht9 := H8.out.1.owe true
 have k89 : Kp (fun k => k = o) w8 (w8.setCell ⟨o, 6, none⟩ (.bool true)) := Kp.setCell (S := fun k => k = o) (Kp.refl _ w8) (p := ⟨o, 6, none⟩) (fun _ => rfl) _
 obtain ⟨w9, hw9⟩ : ∃ w9, w9 = w8.setCell ⟨o, 6, none⟩ (.bool true) := ⟨_, rfl⟩
 rw [← hw9] at ht9 k89 ⊢
 have hu9 := ht9.up H8.out.2.2.2.2.2.2.1
 have c5 : w9.cell? ⟨o, 5, none⟩ = some (.pointer (some ⟨t.i.b, 0, none⟩)) := by rw [ht9.c.2.2.2.2.2.1, hu9.xv]; rfl
 have ab9 := k89.at H8.out.2.2.2.1 (fun e => by have e : bx = o := e; omega)
 have b3 : w9.cell? ⟨bx, 3, none⟩ = some (.int .i64 sq) := ab9.cell 3
 have b5 : w9.cell? ⟨bx, 5, none⟩ = some (.slice a nb c) := ab9.cell 5
 have k19 : Kp (fun k => k = g ∨ k = o) w1 w9 := (H8.out.2.2.2.2.1.mono (fun _ _ e => .inl e)).trans (k89.mono (fun _ _ e => .inr e))
 have hrb : RdB w9 a bd := HRB.out.1.kp k19 (fun y hy hj => HRB.out.2.2.2 y hy (by
  rcases hj with hj | hj
  · rw [hj, HG.out]; exact .inr ⟨HH.out.2.1, .inl (.inl rfl)⟩
  · exact .inl hj))
 have kW9 : Kp (Me o t) W w9 := (H8.out.2.2.1.mono (fun i _ e => .inr ⟨HH.out.2.1, .inl (.inl e)⟩)).trans (k89.mono (fun i _ e => .inl e))
 have CT := Lib.hid (fun w' (k : Kp (fun _ => False) w9 w') => take_any (hu9.inb.kp k (fun _ _ h => h)) sq HRB.out.2.1 a nb c bd (hrb.kp k (fun _ _ h => h)) HNB.out (by have := HRB.out.2.2.1; omega))
 obtain ⟨cdv, hcd⟩ : ∃ x, x = cd t.i.f t.i.n t.sz sq := ⟨_, rfl⟩
 have CT := CT.out
 dsimp only [ackT] at CT
 simp only [← hcd] at CT
 have CT := Lib.hid CT
 clear hcd
 have HU9 := Lib.hid hu9
 have HT9 := Lib.hid ht9
 obtain ⟨bb, hbb⟩ : ∃ bb, bb = t.i.b := ⟨_, rfl⟩
 rw [← hbb] at c5
 have CT := CT.out
 simp only [← hbb] at CT
 have CT := Lib.hid CT
 have HBB := Lib.hid hbb
 clear hbb hrb hw9 hat8 d6 f6 ht9 hu9 ab9 k19
 refine region_L (S := fun w' => Kp (fun _ => False) w9 w') [8] rfl ?_
 have hSd : ∀ (w' : World) (n' : Nat), Kp (fun _ => False) w9 w' → Kp (fun _ => False) w9 (w'.drewN n') := fun w' n' h => h.drewN n'
 have hS0 : Kp (fun _ => False) w9 w9.drew := (Kp.refl _ w9).drew
 refine anyL_world (fun w' => Kp (fun _ => False) w9 w') hS0 ?_
 clear hS0
 intro z0 kz0
 refine tF 0 32 (.pointer (some ⟨o, 0, none⟩)) rfl rfl hSd (fun _ => kz0) ?_
 try simp only [sC]
 refine tF 1 33 (.pointer (some ⟨o, 0, none⟩)) rfl rfl hSd (fun _ => kz0) ?_
 try simp only [sC]
 refine tF 2 34 (.pointer (some ⟨o, 5, none⟩)) rfl rfl hSd (fun _ => kz0) ?_
 try simp only [sC]
 refine tD 3 35 (.pointer (some ⟨bb, 0, none⟩)) rfl rfl hSd (.inl (.inl ⟨rfl, fun w' hS => by have h := hS.cell c5 (fun h => h); go_simp⟩)) kz0 ?_
 try simp only [sC]
 refine tF 4 36 (.pointer (some ⟨bx, 3, none⟩)) rfl rfl hSd (fun _ => kz0) ?_
 try simp only [sC]
 refine tD 5 37 (.int .i64 sq) rfl rfl hSd (.inl (.inl ⟨rfl, fun w' hS => by have h := hS.cell b3 (fun h => h); go_simp⟩)) kz0 ?_
 try simp only [sC]
 refine tF 6 38 (.pointer (some ⟨bx, 5, none⟩)) rfl rfl hSd (fun _ => kz0) ?_
 try simp only [sC]
 refine tD 7 39 (.slice a nb c) rfl rfl hSd (.inl (.inl ⟨rfl, fun w' hS => by have h := hS.cell b5 (fun h => h); go_simp⟩)) kz0 ?_
 try simp only [sC]
 refine tA 8 ?_
 intro n11
 refine wpOp_of rfl rfl ?_
 go_simp
 refine Calls.mono (CT.out (z0.drewN n11) (kz0.drewN n11)) ?_
 rintro e w10p ⟨n', hd', F', v, vs, rfl, q1, q2, q3, q4, q5, q6, q7, q8, q9, _⟩
 have hz9 := (kz0.drewN n11).size
 have k910p : Kp (fun k => k = bb) w9 w10p := ((kz0.drewN n11).mono (fun _ _ h => h.elim)).trans q9
 clear q9
 try dsimp only
 refine ⟨fun h => Bool.noConfusion (show false = true from h), ?_⟩
 try simp only [sC]
 refine tF 9 31 (.tuple #[v, .int .i64 cdv]) rfl rfl hSd (fun h => Bool.noConfusion (show false = true from h)) ?_
 try simp only [sC]
 refine tF 10 41 v rfl rfl hSd (fun h => Bool.noConfusion (show false = true from h)) ?_
 try simp only [sC]
 refine tF 11 42 (.int .i64 cdv) rfl rfl hSd (fun h => Bool.noConfusion (show false = true from h)) ?_
 try simp only [sC]
 refine tF 12 10 v rfl rfl hSd (fun h => Bool.noConfusion (show false = true from h)) ?_
 try simp only [sC]
 refine tF 13 11 (.int .i64 cdv) rfl rfl hSd (fun h => Bool.noConfusion (show false = true from h)) ?_
 try simp only [sC]
 refine anyL_done (by kernel_rfl) (fun nn => ?_) _
 have kw10 : Kp (fun _ => False) w10p (w10p.drewN nn) := (Kp.refl _ w10p).drewN nn
 generalize w10p.drewN nn = w10 at *
 have q1 := q1.kp kw10 (fun _ _ h => h)
 have q5 := q5.kp kw10 (fun _ _ h => h)
 have q6 := q6.kp kw10 (fun _ _ _ _ h => h)
 have k910 : Kp (fun k => k = bb) w9 w10 := k910p.trans (kw10.mono (fun _ _ h => h.elim))
 clear hSd kz0 k910p kw10
 have hsW : W.heap.size ≤ w9.heap.size := kW9.size
 have kf := HU9.out.gX
 have hat10 := k910.at HT9.out.hat (fun e => kf.2.1 (by have e : o = bb := e; rw [e, HBB.out]; rfl))
 have HQ := Lib.hid (And.intro q1 (And.intro q2 (And.intro q3 (And.intro q4 (And.intro q5 (And.intro q6 (And.intro q7 q8)))))))
 have HK := Lib.hid (And.intro k910 (And.intro hat10 (And.intro hz9 hsW)))
 have KW9 := Lib.hid kW9
 clear q1 q2 q3 q4 q5 q6 q7 q8 k910 hat10 kW9 c5 b3 b5 kf CT
 go_wp2_with fail
 go_ret2
 obtain ⟨q1, q2, q3, q4, q5, q6, q7, q8⟩ := HQ.out
 obtain ⟨k910, hat10, _, _⟩ := HK.out
 have hu9 := HU9.out
 have hFb : t.i.F bb := by rw [HBB.out]; exact hu9.gX.2.2.2
 have hsF : ∀ k, F' k → t.i.F k ∨ W.heap.size ≤ k := fun k hk => (q8 k hk).imp_right (fun e => by omega)
 have hgl2 : ∀ j, Mine t.i.g (ackX t.i.x ac now V') j → j < W.heap.size := fun j hj => (HH.out.1.up HH.out.2.1).win.lt (Mine.pop (x := t.i.x) H8.out.2.1 hj)
 have hou : ∀ j, Mine t.i.g (ackX t.i.x ac now V') j → ¬ j = bb := fun j hj e => hu9.ap j hj (e ▸ hFb)
 have hol2 : o < W.heap.size := HH.out.1.hat.lt
 refine ⟨V', n', hd', F', v, rfl, ⟨hat10, fun _ => { hu9 with win := hu9.win.kp k910 hou, inb := by rw [HBB.out] at q1; exact q1, oX := fun e => ?_, ap := fun j hj e => ?_ }, HT9.out.se, HT9.out.bo, HT9.out.sz⟩, H8.out.2.1, q2, q3, vs, q4, q5, ⟨q6.own, fun i k hi hk => ⟨?_, (q6.blk i k hi hk).2⟩, q6.dist⟩, fun k hk => ⟨by have := (q7 k hk).1; omega, (q7 k hk).2⟩, hsF, KW9.out.trans (k910.mono (fun i _ e => .inr ⟨HH.out.2.1, .inr (e ▸ hFb)⟩))⟩
 · rcases hsF o e with e | e
   · exact hu9.oX e
   · omega
 · rcases hsF j e with e | e
   · exact hu9.ap j hj e
   · have := hgl2 j hj; omega
 · rcases (q6.blk i k hi hk).1 with e | e
   · exact .inl ⟨e.1, fun e' => e.2 (by rw [HBB.out]; exact e')⟩
   · exact .inr (by omega)
end Go.Proofs.YtokembhfebnjpaaGreat
