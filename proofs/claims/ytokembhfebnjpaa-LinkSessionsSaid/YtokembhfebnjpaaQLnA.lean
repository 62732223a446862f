/- Chapter 15: an end's memory, its makers, what it tells of itself. (Written by wip/lna.py.) -/
import Derived.Test.YtokembhfebnjpaaQInM
import Derived.Test.YtokembhfebnjpaaQWnE
namespace Go.Proofs.Ytokembhfebnjpaa
set_option maxRecDepth 20000
open Go.RowKit Flt
set_option linter.unusedVariables false
def fitB (n z : Int) : Bool := decide (1 ≤ n) && decide (n ≤ 2147483647) && decide (1 ≤ z) && decide (z ≤ 64)
theorem lfits_any (n z : Int) (w : World) : Calls Try.prog 24 #[.int .i64 n, .int .i64 z] w fun e w' => e = .returned (.bool (fitB n z)) ∧ w = w' := by
  unfold fitB
  by_cases h1 : 1 ≤ n <;> by_cases h2 : n ≤ 2147483647 <;> by_cases h3 : 1 ≤ z <;> by_cases h4 : z ≤ 64
  all_goals
    go_enter Try.func24, Try.ntmps24
    go_wp2
    go_ret
    exact ⟨by simp [h1, h2, h3, h4], rfl⟩
theorem ltime_any (n : Int) (w : World) : Calls Try.prog 31 #[.int .i64 n] w fun e w' => e = .returned (.bool (timeB n)) ∧ w = w' := by
  unfold timeB
  by_cases h1 : 0 ≤ n <;> by_cases h2 : n ≤ 2147483647
  all_goals
    go_enter Try.func31, Try.ntmps31
    go_wp2
    go_ret
    exact ⟨by simp [h1, h2], rfl⟩
/-- An end's window and inbox, where it is up. -/
structure Ix where
  g : Nat
  x : Wn
  b : Nat
  f : Bodies
  n : Nat
  hd : Nat
  F : Nat → Prop
/-- What both kinds of ends have. -/
structure Tk where
  st : Nat
  se : Nat
  bo : Nat
  sz : Nat
  wv : Value
  xv : Value
  owed : Bool
  i : Ix
def talkC (t : Tk) : List Value := [.int .i64 t.st, .int .i64 t.se, .int .i64 t.bo, .int .i64 t.sz, t.wv, t.xv, .bool t.owed]
/-- It is up: window and inbox lie there, apart. I bounds how many calls there were. -/
structure UpC (W : World) (o : Nat) (t : Tk) (I : Nat) : Prop where
  wv : t.wv = .pointer (some ⟨t.i.g, 0, none⟩)
  xv : t.xv = .pointer (some ⟨t.i.b, 0, none⟩)
  win : WinC W t.i.g t.i.x
  ms : Ms t.i.x.m t.i.x.s
  wsz : t.i.x.size = t.sz
  last : t.i.x.last ≤ I
  ll : t.i.x.l.length ≤ t.i.x.last
  times : ∀ j, j < t.i.x.l.length → (pk t.i.x.l j).times ≤ I
  inb : InbAt W t.i.b t.sz t.i.f t.i.n t.i.hd t.i.F
  oW : ¬ Mine t.i.g t.i.x o
  oX : ¬ t.i.F o
  ap : ∀ k, Mine t.i.g t.i.x k → ¬ t.i.F k
structure TkC (W : World) (o : Nat) (t : Tk) (ext : List Value) (I : Nat) : Prop where
  hat : At W o (talkC t ++ ext)
  up : t.st = 2 → UpC W o t I
  se : t.se ≤ 2147483647
  bo : t.bo ≤ 2147483647
  sz : 1 ≤ t.sz ∧ t.sz ≤ 64
/-- The blocks of an end. -/
def Me (o : Nat) (t : Tk) (k : Nat) : Prop := k = o ∨ (t.st = 2 ∧ (Mine t.i.g t.i.x k ∨ t.i.F k))
theorem UpC.kp {S : Nat → Prop} {W W' : World} {o I : Nat} {t : Tk} (h : UpC W o t I) (k : Kp S W W') (h1 : ∀ j, Mine t.i.g t.i.x j → ¬ S j) (h3 : ∀ j, t.i.F j → ¬ S j) : UpC W' o t I :=
  { h with win := h.win.kp k h1, inb := h.inb.kp k h3 }
theorem TkC.kp {S : Nat → Prop} {W W' : World} {o I : Nat} {t : Tk} {ext : List Value} (h : TkC W o t ext I) (k : Kp S W W') (hs : ∀ j, Me o t j → ¬ S j) : TkC W' o t ext I :=
  { h with hat := k.at h.hat (hs o (.inl rfl)), up := fun e => (h.up e).kp k (fun j hj => hs j (.inr ⟨e, .inl hj⟩)) (fun j hj => hs j (.inr ⟨e, .inr hj⟩)) }
theorem TkC.kp0 {W W' : World} {o I : Nat} {t : Tk} {ext : List Value} (h : TkC W o t ext I) (k : Kp (fun _ => False) W W') : TkC W' o t ext I := h.kp k (fun _ _ h => h)
theorem TkC.lt {W : World} {o I : Nat} {t : Tk} {ext : List Value} (h : TkC W o t ext I) {k : Nat} (hk : Me o t k) : k < W.heap.size := by
  rcases hk with rfl | ⟨e, hk | hk⟩
  · exact h.hat.lt
  · exact (h.up e).win.lt hk
  · obtain ⟨⟨c, hc⟩, _⟩ := (h.up e).inb
    exact hc.lt k hk
theorem TkC.c {W : World} {o I : Nat} {t : Tk} {ext : List Value} (h : TkC W o t ext I) : W.cell? ⟨o, 0, none⟩ = some (.int .i64 t.st) ∧ W.cell? ⟨o, 1, none⟩ = some (.int .i64 t.se) ∧ W.cell? ⟨o, 2, none⟩ = some (.int .i64 t.bo) ∧ W.cell? ⟨o, 3, none⟩ = some (.int .i64 t.sz) ∧ W.cell? ⟨o, 4, none⟩ = some t.wv ∧ W.cell? ⟨o, 5, none⟩ = some t.xv ∧ W.cell? ⟨o, 6, none⟩ = some (.bool t.owed) :=
  ⟨h.hat.cell 0, h.hat.cell 1, h.hat.cell 2, h.hat.cell 3, h.hat.cell 4, h.hat.cell 5, h.hat.cell 6⟩
/-- A link: the pointer to an end in an interface. -/
def LkC (W : World) (lb : Nat) (T : TypeId) (o : Nat) : Prop := At W lb [.iface T (.pointer (some ⟨o, 0, none⟩))]
theorem lnone_nil (w : World) : Calls Try.prog 25 #[.pointer none] w fun e w' => e = .returned (.bool true) ∧ w = w' := by
  go_enter Try.func25, Try.ntmps25
  go_wp2
  go_ret
  exact ⟨rfl, rfl⟩
theorem lnone_un (lb : Nat) (w : World) (h : w.cell? ⟨lb, 0, none⟩ = some .nilIface) : Calls Try.prog 25 #[.pointer (some ⟨lb, 0, none⟩)] w fun e w' => e = .returned (.bool true) ∧ w = w' := by
  go_enter Try.func25, Try.ntmps25
  go_wp2
  go_ret
  exact ⟨rfl, rfl⟩
theorem lnone_at (lb : Nat) (T : TypeId) (o : Nat) (w : World) (h : w.cell? ⟨lb, 0, none⟩ = some (.iface T (.pointer (some ⟨o, 0, none⟩)))) : Calls Try.prog 25 #[.pointer (some ⟨lb, 0, none⟩)] w fun e w' => e = .returned (.bool false) ∧ w = w' := by
  go_enter Try.func25, Try.ntmps25
  go_wp2
  go_ret
  exact ⟨rfl, rfl⟩
theorem tis_any (o st : Nat) (w : World) (h : w.cell? ⟨o, 0, none⟩ = some (.int .i64 (st : Nat))) : Calls Try.prog 26 #[.pointer (some ⟨o, 0, none⟩)] w fun e w' => e = .returned (.bool (decide (st = 2))) ∧ w = w' := by
  go_enter Try.func26, Try.ntmps26
  go_wp2
  go_ret
  exact ⟨ret_bool (by rw [Bool.eq_iff_iff]; simp; omega), rfl⟩
theorem talks_any (o : Nat) (w : World) : Calls Try.prog 68 #[.pointer (some ⟨o, 0, none⟩)] w fun e w' => e = .returned (.pointer (some ⟨o, 0, none⟩)) ∧ w = w' := by
  go_enter Try.func68, Try.ntmps68
  go_wp2
  go_ret
  exact ⟨rfl, rfl⟩
theorem lstate_nil (w : World) : Calls Try.prog 16 #[.pointer none] w fun e w' => e = .returned (.int .i64 0) ∧ w = w' := by
  go_enter Try.func16, Try.ntmps16
  go_wp2_with (go_at_call 25; refine (lnone_nil _).mono ?_; rintro e w' ⟨rfl, rfl⟩)
  go_ret
  exact ⟨rfl, rfl⟩
theorem lstate_un (lb : Nat) (w : World) (h : w.cell? ⟨lb, 0, none⟩ = some .nilIface) : Calls Try.prog 16 #[.pointer (some ⟨lb, 0, none⟩)] w fun e w' => e = .returned (.int .i64 0) ∧ w = w' := by
  have C := Lib.hid (lnone_un lb w h)
  go_enter Try.func16, Try.ntmps16
  go_wp2_with (go_at_call 25; refine C.out.mono ?_; rintro e w' ⟨rfl, rfl⟩)
  go_ret
  exact ⟨rfl, rfl⟩
theorem lsession_nil (w : World) : Calls Try.prog 21 #[.pointer none] w fun e w' => e = .returned (.int .i64 0) ∧ w = w' := by
  go_enter Try.func21, Try.ntmps21
  go_wp2_with (go_at_call 25; refine (lnone_nil _).mono ?_; rintro e w' ⟨rfl, rfl⟩)
  go_ret
  exact ⟨rfl, rfl⟩
theorem lsession_un (lb : Nat) (w : World) (h : w.cell? ⟨lb, 0, none⟩ = some .nilIface) : Calls Try.prog 21 #[.pointer (some ⟨lb, 0, none⟩)] w fun e w' => e = .returned (.int .i64 0) ∧ w = w' := by
  have C := Lib.hid (lnone_un lb w h)
  go_enter Try.func21, Try.ntmps21
  go_wp2_with (go_at_call 25; refine C.out.mono ?_; rintro e w' ⟨rfl, rfl⟩)
  go_ret
  exact ⟨rfl, rfl⟩
theorem lboot_nil (w : World) : Calls Try.prog 11 #[.pointer none] w fun e w' => e = .returned (.int .i64 0) ∧ w = w' := by
  go_enter Try.func11, Try.ntmps11
  go_wp2_with (go_at_call 25; refine (lnone_nil _).mono ?_; rintro e w' ⟨rfl, rfl⟩)
  go_ret
  exact ⟨rfl, rfl⟩
theorem lboot_un (lb : Nat) (w : World) (h : w.cell? ⟨lb, 0, none⟩ = some .nilIface) : Calls Try.prog 11 #[.pointer (some ⟨lb, 0, none⟩)] w fun e w' => e = .returned (.int .i64 0) ∧ w = w' := by
  have C := Lib.hid (lnone_un lb w h)
  go_enter Try.func11, Try.ntmps11
  go_wp2_with (go_at_call 25; refine C.out.mono ?_; rintro e w' ⟨rfl, rfl⟩)
  go_ret
  exact ⟨rfl, rfl⟩
theorem lopen_nil (w : World) : Calls Try.prog 22 #[.pointer none] w fun e w' => e = .returned (.int .i64 0) ∧ w = w' := by
  go_enter Try.func22, Try.ntmps22
  go_wp2_with (go_at_call 25; refine (lnone_nil _).mono ?_; rintro e w' ⟨rfl, rfl⟩)
  go_ret
  exact ⟨rfl, rfl⟩
theorem lopen_un (lb : Nat) (w : World) (h : w.cell? ⟨lb, 0, none⟩ = some .nilIface) : Calls Try.prog 22 #[.pointer (some ⟨lb, 0, none⟩)] w fun e w' => e = .returned (.int .i64 0) ∧ w = w' := by
  have C := Lib.hid (lnone_un lb w h)
  go_enter Try.func22, Try.ntmps22
  go_wp2_with (go_at_call 25; refine C.out.mono ?_; rintro e w' ⟨rfl, rfl⟩)
  go_ret
  exact ⟨rfl, rfl⟩
theorem lgot_nil (w : World) : Calls Try.prog 17 #[.pointer none] w fun e w' => e = .returned (.int .i64 0) ∧ w = w' := by
  go_enter Try.func17, Try.ntmps17
  go_wp2_with (go_at_call 25; refine (lnone_nil _).mono ?_; rintro e w' ⟨rfl, rfl⟩)
  go_ret
  exact ⟨rfl, rfl⟩
theorem lgot_un (lb : Nat) (w : World) (h : w.cell? ⟨lb, 0, none⟩ = some .nilIface) : Calls Try.prog 17 #[.pointer (some ⟨lb, 0, none⟩)] w fun e w' => e = .returned (.int .i64 0) ∧ w = w' := by
  have C := Lib.hid (lnone_un lb w h)
  go_enter Try.func17, Try.ntmps17
  go_wp2_with (go_at_call 25; refine C.out.mono ?_; rintro e w' ⟨rfl, rfl⟩)
  go_ret
  exact ⟨rfl, rfl⟩
theorem lstate_a {lb o I : Nat} {t : Tk} {ext : List Value} {w : World} (h : LkC w lb 54 o) (hk : TkC w o t ext I) : Calls Try.prog 16 #[.pointer (some ⟨lb, 0, none⟩)] w fun e w' => e = .returned (.int .i64 t.st) ∧ w = w' := by
  have c0 : w.cell? ⟨lb, 0, none⟩ = some (.iface 54 (.pointer (some ⟨o, 0, none⟩))) := h.cell 0
  have C := Lib.hid (lnone_at lb _ o w c0)
  have c1 := hk.c.1
  have hm : ∀ (F : Nat) (w : World), (method (F + 1) 54 (.pointer (some ⟨o, 0, none⟩)) "satchel/link.talks").run Try.prog w = .ok (68, .pointer (some ⟨o, 0, none⟩)) w := fun F w => by kernel_rfl
  clear h hk
  go_enter Try.func16, Try.ntmps16
  go_wp2_with (first | (go_at_call 25; refine C.out.mono ?_; rintro e w' ⟨rfl, rfl⟩) | (go_at_call 68; refine (talks_any o _).mono ?_; rintro e w' ⟨rfl, rfl⟩))
  go_ret
  exact ⟨rfl, rfl⟩
theorem lsession_a {lb o I : Nat} {t : Tk} {ext : List Value} {w : World} (h : LkC w lb 54 o) (hk : TkC w o t ext I) : Calls Try.prog 21 #[.pointer (some ⟨lb, 0, none⟩)] w fun e w' => e = .returned (.int .i64 t.se) ∧ w = w' := by
  have c0 : w.cell? ⟨lb, 0, none⟩ = some (.iface 54 (.pointer (some ⟨o, 0, none⟩))) := h.cell 0
  have C := Lib.hid (lnone_at lb _ o w c0)
  have c1 := hk.c.2.1
  have hm : ∀ (F : Nat) (w : World), (method (F + 1) 54 (.pointer (some ⟨o, 0, none⟩)) "satchel/link.talks").run Try.prog w = .ok (68, .pointer (some ⟨o, 0, none⟩)) w := fun F w => by kernel_rfl
  clear h hk
  go_enter Try.func21, Try.ntmps21
  go_wp2_with (first | (go_at_call 25; refine C.out.mono ?_; rintro e w' ⟨rfl, rfl⟩) | (go_at_call 68; refine (talks_any o _).mono ?_; rintro e w' ⟨rfl, rfl⟩))
  go_ret
  exact ⟨rfl, rfl⟩
theorem lboot_a {lb o I : Nat} {t : Tk} {ext : List Value} {w : World} (h : LkC w lb 54 o) (hk : TkC w o t ext I) : Calls Try.prog 11 #[.pointer (some ⟨lb, 0, none⟩)] w fun e w' => e = .returned (.int .i64 t.bo) ∧ w = w' := by
  have c0 : w.cell? ⟨lb, 0, none⟩ = some (.iface 54 (.pointer (some ⟨o, 0, none⟩))) := h.cell 0
  have C := Lib.hid (lnone_at lb _ o w c0)
  have c1 := hk.c.2.2.1
  have hm : ∀ (F : Nat) (w : World), (method (F + 1) 54 (.pointer (some ⟨o, 0, none⟩)) "satchel/link.talks").run Try.prog w = .ok (68, .pointer (some ⟨o, 0, none⟩)) w := fun F w => by kernel_rfl
  clear h hk
  go_enter Try.func11, Try.ntmps11
  go_wp2_with (first | (go_at_call 25; refine C.out.mono ?_; rintro e w' ⟨rfl, rfl⟩) | (go_at_call 68; refine (talks_any o _).mono ?_; rintro e w' ⟨rfl, rfl⟩))
  go_ret
  exact ⟨rfl, rfl⟩
theorem lstate_d {lb o I : Nat} {t : Tk} {ext : List Value} {w : World} (h : LkC w lb 61 o) (hk : TkC w o t ext I) : Calls Try.prog 16 #[.pointer (some ⟨lb, 0, none⟩)] w fun e w' => e = .returned (.int .i64 t.st) ∧ w = w' := by
  have c0 : w.cell? ⟨lb, 0, none⟩ = some (.iface 61 (.pointer (some ⟨o, 0, none⟩))) := h.cell 0
  have C := Lib.hid (lnone_at lb _ o w c0)
  have c1 := hk.c.1
  have hm : ∀ (F : Nat) (w : World), (method (F + 1) 61 (.pointer (some ⟨o, 0, none⟩)) "satchel/link.talks").run Try.prog w = .ok (68, .pointer (some ⟨o, 0, none⟩)) w := fun F w => by kernel_rfl
  clear h hk
  go_enter Try.func16, Try.ntmps16
  go_wp2_with (first | (go_at_call 25; refine C.out.mono ?_; rintro e w' ⟨rfl, rfl⟩) | (go_at_call 68; refine (talks_any o _).mono ?_; rintro e w' ⟨rfl, rfl⟩))
  go_ret
  exact ⟨rfl, rfl⟩
theorem lsession_d {lb o I : Nat} {t : Tk} {ext : List Value} {w : World} (h : LkC w lb 61 o) (hk : TkC w o t ext I) : Calls Try.prog 21 #[.pointer (some ⟨lb, 0, none⟩)] w fun e w' => e = .returned (.int .i64 t.se) ∧ w = w' := by
  have c0 : w.cell? ⟨lb, 0, none⟩ = some (.iface 61 (.pointer (some ⟨o, 0, none⟩))) := h.cell 0
  have C := Lib.hid (lnone_at lb _ o w c0)
  have c1 := hk.c.2.1
  have hm : ∀ (F : Nat) (w : World), (method (F + 1) 61 (.pointer (some ⟨o, 0, none⟩)) "satchel/link.talks").run Try.prog w = .ok (68, .pointer (some ⟨o, 0, none⟩)) w := fun F w => by kernel_rfl
  clear h hk
  go_enter Try.func21, Try.ntmps21
  go_wp2_with (first | (go_at_call 25; refine C.out.mono ?_; rintro e w' ⟨rfl, rfl⟩) | (go_at_call 68; refine (talks_any o _).mono ?_; rintro e w' ⟨rfl, rfl⟩))
  go_ret
  exact ⟨rfl, rfl⟩
theorem lboot_d {lb o I : Nat} {t : Tk} {ext : List Value} {w : World} (h : LkC w lb 61 o) (hk : TkC w o t ext I) : Calls Try.prog 11 #[.pointer (some ⟨lb, 0, none⟩)] w fun e w' => e = .returned (.int .i64 t.bo) ∧ w = w' := by
  have c0 : w.cell? ⟨lb, 0, none⟩ = some (.iface 61 (.pointer (some ⟨o, 0, none⟩))) := h.cell 0
  have C := Lib.hid (lnone_at lb _ o w c0)
  have c1 := hk.c.2.2.1
  have hm : ∀ (F : Nat) (w : World), (method (F + 1) 61 (.pointer (some ⟨o, 0, none⟩)) "satchel/link.talks").run Try.prog w = .ok (68, .pointer (some ⟨o, 0, none⟩)) w := fun F w => by kernel_rfl
  clear h hk
  go_enter Try.func11, Try.ntmps11
  go_wp2_with (first | (go_at_call 25; refine C.out.mono ?_; rintro e w' ⟨rfl, rfl⟩) | (go_at_call 68; refine (talks_any o _).mono ?_; rintro e w' ⟨rfl, rfl⟩))
  go_ret
  exact ⟨rfl, rfl⟩
end Go.Proofs.Ytokembhfebnjpaa
