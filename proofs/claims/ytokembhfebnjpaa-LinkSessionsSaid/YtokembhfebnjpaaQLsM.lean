/- Chapter 15: two ends that a statement holds. -/
import Derived.Test.YtokembhfebnjpaaQBsM
import Derived.Test.YtokembhfebnjpaaQCkM
import Derived.Test.YtokembhfebnjpaaQFrmT
import Derived.Test.YtokembhfebnjpaaQLnP
import Derived.Test.YtokembhfebnjpaaQLnQ
namespace Go.Proofs.Ytokembhfebnjpaa
set_option maxRecDepth 20000
open Go.RowKit Flt
set_option linter.unusedVariables false
set_option linter.unusedSimpArgs false
/-- Blocks that are moved: what is new among them is new memory. -/
structure Mv (F F' : Nat → Prop) (W W' : World) : Prop where
  nw : ∀ k, F' k → F k ∨ W.heap.size ≤ k
  kp : Kp F W W'
theorem Mv.refl (F : Nat → Prop) {W W' : World} (k : Kp (fun _ => False) W W') : Mv F F W W' := ⟨fun _ h => .inl h, k.mono (fun _ _ h => h.elim)⟩
theorem Mv.pre {F F' : Nat → Prop} {W W1 W2 : World} (k : Kp (fun _ => False) W W1) (m : Mv F F' W1 W2) : Mv F F' W W2 :=
  ⟨fun j hj => (m.nw j hj).imp_right (fun e => Nat.le_trans k.size e), (k.mono (fun _ _ h => h.elim)).trans m.kp⟩
theorem Mv.drewN {F F' : Nat → Prop} {W W1 : World} (m : Mv F F' W W1) (n : Nat) : Mv F F' W (W1.drewN n) := ⟨m.nw, m.kp.drewN n⟩
theorem Mv.post {F F' : Nat → Prop} {W W1 W2 : World} (m : Mv F F' W W1) (k : Kp (fun _ => False) W1 W2) : Mv F F' W W2 := ⟨m.nw, m.kp.trans (k.mono (fun _ _ h => h.elim))⟩
/-- An agent's end: its link, its end. -/
structure Ae where
  lb : Nat
  o : Nat
  t : Tk
  sent : Bool
  at_ : Nat
  I : Nat
structure De where
  lb : Nat
  o : Nat
  t : Tk
  wel : Bool
  rv : Value
  rs : List Nat
  I : Nat
def Ae.F (x : Ae) (k : Nat) : Prop := k = x.lb ∨ Me x.o x.t k
def De.F (x : De) (k : Nat) : Prop := k = x.lb ∨ MeD x.o x.t x.rv k
structure AgS (W : World) (B : Nat) (x : Ae) : Prop where
  lk : LkC W x.lb 54 x.o
  tk : TkC W x.o x.t (agX x.sent x.at_) x.I
  ne : ¬ Me x.o x.t x.lb
  ge : ∀ k, x.F k → B ≤ k
structure DmS (W : World) (B : Nat) (x : De) : Prop where
  lk : LkC W x.lb 61 x.o
  dm : DmC W x.o x.t x.wel x.rv x.rs x.I
  ne : ¬ MeD x.o x.t x.rv x.lb
  ge : ∀ k, x.F k → B ≤ k
theorem DmC.lt {W : World} {o I : Nat} {t : Tk} {wel : Bool} {rv : Value} {rs : List Nat} (h : DmC W o t wel rv rs I) {k : Nat} (hk : MeD o t rv k) : k < W.heap.size := by
  rcases hk with hk | hk
  · exact h.tk.lt hk
  · exact h.own.lt k hk
theorem AgS.lt {W : World} {B : Nat} {x : Ae} (h : AgS W B x) (k : Nat) (hk : x.F k) : k < W.heap.size := by
  rcases hk with rfl | hk
  · exact At.lt h.lk
  · exact h.tk.lt hk
theorem DmS.lt {W : World} {B : Nat} {x : De} (h : DmS W B x) (k : Nat) (hk : x.F k) : k < W.heap.size := by
  rcases hk with rfl | hk
  · exact At.lt h.lk
  · exact h.dm.lt hk
theorem AgS.kp {S : Nat → Prop} {W W' : World} {B : Nat} {x : Ae} (h : AgS W B x) (k : Kp S W W') (hs : ∀ j, x.F j → ¬ S j) : AgS W' B x :=
  ⟨k.at h.lk (hs _ (.inl rfl)), h.tk.kp k (fun j hj => hs j (.inr hj)), h.ne, h.ge⟩
theorem AgS.kp0 {W W' : World} {B : Nat} {x : Ae} (h : AgS W B x) (k : Kp (fun _ => False) W W') : AgS W' B x := h.kp k (fun _ _ h => h)
theorem AgS.drewN {W : World} {B : Nat} {x : Ae} (h : AgS W B x) (n : Nat) : AgS (W.drewN n) B x := h.kp0 ((Kp.refl _ W).drewN n)
theorem DmS.kp {S : Nat → Prop} {W W' : World} {B : Nat} {x : De} (h : DmS W B x) (k : Kp S W W') (hs : ∀ j, x.F j → ¬ S j) : DmS W' B x :=
  ⟨k.at h.lk (hs _ (.inl rfl)), h.dm.kp k (fun j hj => hs j (.inr hj)), h.ne, h.ge⟩
theorem DmS.kp0 {W W' : World} {B : Nat} {x : De} (h : DmS W B x) (k : Kp (fun _ => False) W W') : DmS W' B x := h.kp k (fun _ _ h => h)
theorem DmS.drewN {W : World} {B : Nat} {x : De} (h : DmS W B x) (n : Nat) : DmS (W.drewN n) B x := h.kp0 ((Kp.refl _ W).drewN n)
theorem AgS.step {W W' : World} {B : Nat} {x : Ae} (h : AgS W B x) (hB : B ≤ W.heap.size) {t' : Tk} {s' : Bool} {a' I' : Nat} (hk : TkC W' x.o t' (agX s' a') I') (hm : ∀ k, Me x.o t' k → Me x.o x.t k ∨ W.heap.size ≤ k) (k : Kp (Me x.o x.t) W W') :
    AgS W' B { x with t := t', sent := s', at_ := a', I := I' } ∧ Mv x.F (Ae.F { x with t := t', sent := s', at_ := a', I := I' }) W W' :=
  ⟨⟨k.at h.lk h.ne, hk, fun e => (hm _ e).elim h.ne (fun e => by have := h.lt _ (.inl rfl); have e : W.heap.size ≤ x.lb := e; omega), fun j hj => hj.elim (fun e => h.ge j (.inl e)) (fun e => (hm j e).elim (fun e => h.ge j (.inr e)) (fun e => Nat.le_trans hB e))⟩,
    fun j hj => hj.elim (fun e => .inl (.inl e)) (fun e => (hm j e).imp_left .inr), k.mono (fun j _ e => .inr e)⟩
theorem DmS.step {W W' : World} {B : Nat} {x : De} (h : DmS W B x) (hB : B ≤ W.heap.size) {t' : Tk} {w' : Bool} {rv' : Value} {rs' : List Nat} {I' : Nat} (hk : DmC W' x.o t' w' rv' rs' I') (hm : ∀ k, MeD x.o t' rv' k → MeD x.o x.t x.rv k ∨ W.heap.size ≤ k) (k : Kp (MeD x.o x.t x.rv) W W') :
    DmS W' B { x with t := t', wel := w', rv := rv', rs := rs', I := I' } ∧ Mv x.F (De.F { x with t := t', wel := w', rv := rv', rs := rs', I := I' }) W W' :=
  ⟨⟨k.at h.lk h.ne, hk, fun e => (hm _ e).elim h.ne (fun e => by have := h.lt _ (.inl rfl); have e : W.heap.size ≤ x.lb := e; omega), fun j hj => hj.elim (fun e => h.ge j (.inl e)) (fun e => (hm j e).elim (fun e => h.ge j (.inr e)) (fun e => Nat.le_trans hB e))⟩,
    fun j hj => hj.elim (fun e => .inl (.inl e)) (fun e => (hm j e).imp_left .inr), k.mono (fun j _ e => .inr e)⟩
def Dj (F G : Nat → Prop) : Prop := ∀ k, F k → ¬ G k
theorem Mv.djL {F F' G : Nat → Prop} {W W' : World} (m : Mv F F' W W') (d : Dj F G) (hG : ∀ k, G k → k < W.heap.size) : Dj F' G := fun k hk hg => (m.nw k hk).elim (fun e => d k e hg) (fun e => by have := hG k hg; omega)
theorem Mv.djR {F F' G : Nat → Prop} {W W' : World} (m : Mv F F' W W') (d : Dj G F) (hG : ∀ k, G k → k < W.heap.size) : Dj G F' := fun k hg hk => (m.nw k hk).elim (fun e => d k hg e) (fun e => by have := hG k hg; omega)
/-- Two ends, in memory of their own. -/
structure Two (w W : World) (x : Ae) (y : De) : Prop where
  a : AgS W w.heap.size x
  d : DmS W w.heap.size y
  dj : Dj x.F y.F
  kp : Kp (fun _ => False) w W
theorem Two.stepA {w W W' : World} {x x' : Ae} {y : De} (h : Two w W x y) (h' : AgS W' w.heap.size x') (m : Mv x.F x'.F W W') : Two w W' x' y :=
  ⟨h', h.d.kp m.kp (fun j hj e => h.dj j e hj), m.djL h.dj h.d.lt, h.kp.then m.kp (fun i hi e => by have := h.a.ge i e; omega)⟩
theorem Two.stepD {w W W' : World} {x : Ae} {y y' : De} (h : Two w W x y) (h' : DmS W' w.heap.size y') (m : Mv y.F y'.F W W') : Two w W' x y' :=
  ⟨h.a.kp m.kp (fun j hj e => h.dj j hj e), h', m.djR h.dj h.a.lt, h.kp.then m.kp (fun i hi e => by have := h.d.ge i e; omega)⟩
theorem Two.kp0 {w W W' : World} {x : Ae} {y : De} (h : Two w W x y) (k : Kp (fun _ => False) W W') : Two w W' x y := ⟨h.a.kp0 k, h.d.kp0 k, h.dj, h.kp.trans k⟩
theorem Two.sz {w W : World} {x : Ae} {y : De} (h : Two w W x y) : w.heap.size ≤ W.heap.size := h.kp.size
theorem me_up {o k g b : Nat} {t : Tk} (h : Me o (upT t g b) k) : k = o ∨ k = g ∨ k = b := by
  rcases h with h | ⟨_, h | h⟩
  · exact .inl h
  · exact .inr (.inl (mine_newL h))
  · exact .inr (.inr h)
theorem me_due {o k now : Nat} {t : Tk} (h : Me o (dueT t now) k) : Me o t k := by
  rcases h with h | ⟨e, h | h⟩
  · exact .inl h
  · exact .inr ⟨e, .inl ((st_mine t.i.g (atW t.i.x now) (dueI (atW t.i.x now)) k).1 h)⟩
  · exact .inr ⟨e, .inr h⟩
theorem errF_syn {s : Nat} (h1 : 1 ≤ s) (h2 : s ≤ 2147483647) : errF (synF s) = 0 := by
  have e : says (synF s) = true := by unfold says; rw [decide_eq_true_eq]; refine ⟨by show (1 : Int) ≤ (s : Nat); omega, fun _ => ⟨rfl, rfl, rfl, rfl⟩, ?_, ?_, ?_, ?_⟩ <;> intro e <;> exact absurd (show (1 : Int) = _ from e) (by decide)
  unfold errF
  rw [if_neg (by simp [synF, typedP]), if_neg (by simp [synF, rangeP]; omega), if_neg (by simp [synF]), e]
  rfl
theorem errF_wel {s b : Nat} (h1 : 1 ≤ s) (h2 : s ≤ 2147483647) (h3 : 1 ≤ b) (h4 : b ≤ 2147483647) : errF (welF s b) = 0 := by
  have e : says (welF s b) = true := by unfold says; rw [decide_eq_true_eq]; refine ⟨by show (1 : Int) ≤ (s : Nat); omega, ?_, fun _ => ⟨by show (1 : Int) ≤ (b : Nat); omega, rfl, rfl, rfl⟩, ?_, ?_, ?_⟩ <;> intro e <;> exact absurd (show (2 : Int) = _ from e) (by decide)
  unfold errF
  rw [if_neg (by simp [welF, typedP]), if_neg (by simp [welF, rangeP]; omega), if_neg (by simp [welF]), e]
  rfl
theorem errF_rst {s b : Nat} (h1 : 1 ≤ s) (h2 : s ≤ 2147483647) (h4 : b ≤ 2147483647) : errF (rstF b s) = 0 := by
  have e : says (rstF b s) = true := by unfold says; rw [decide_eq_true_eq]; refine ⟨by show (1 : Int) ≤ (s : Nat); omega, ?_, ?_, ?_, ?_, fun _ => ⟨rfl, rfl, rfl⟩⟩ <;> intro e <;> exact absurd (show (5 : Int) = _ from e) (by decide)
  unfold errF
  rw [if_neg (by simp [rstF, typedP]), if_neg (by simp [rstF, rangeP]; omega), if_neg (by simp [rstF]), e]
  rfl
theorem errF_dat {s b q a : Nat} {l : List Int} (h1 : 1 ≤ s) (h2 : s ≤ 2147483647) (h3 : 1 ≤ b) (h4 : b ≤ 2147483647) (h5 : 1 ≤ q) (h6 : q ≤ 2147483647) (h7 : a ≤ 2147483647) (h8 : l.length ≤ 1400) : errF ⟨3, s, b, q, a, l⟩ = 0 := by
  have e : says ⟨3, s, b, q, a, l⟩ = true := by unfold says; rw [decide_eq_true_eq]; refine ⟨by show (1 : Int) ≤ (s : Nat); omega, ?_, ?_, fun _ => ⟨by show (1 : Int) ≤ (b : Nat); omega, by show (1 : Int) ≤ (q : Nat); omega⟩, ?_, ?_⟩ <;> intro e <;> exact absurd (show (3 : Int) = _ from e) (by decide)
  unfold errF
  rw [if_neg (by simp [typedP]), if_neg (by simp [rangeP]; omega), if_neg (by show ¬ (1400 : Int) < l.length; omega), e]
  rfl
theorem errF_ack {s b a : Nat} (h1 : 1 ≤ s) (h2 : s ≤ 2147483647) (h3 : 1 ≤ b) (h4 : b ≤ 2147483647) (h7 : a ≤ 2147483647) : errF ⟨4, s, b, 0, a, []⟩ = 0 := by
  have e : says ⟨4, s, b, 0, a, []⟩ = true := by unfold says; rw [decide_eq_true_eq]; refine ⟨by show (1 : Int) ≤ (s : Nat); omega, ?_, ?_, ?_, fun _ => ⟨by show (1 : Int) ≤ (b : Nat); omega, rfl, rfl⟩, ?_⟩ <;> intro e <;> exact absurd (show (4 : Int) = _ from e) (by decide)
  unfold errF
  rw [if_neg (by simp [typedP]), if_neg (by simp [rangeP]; omega), if_neg (by simp), e]
  rfl
end Go.Proofs.Ytokembhfebnjpaa
/- Chapter 15: what an end answers, as steps of it. (Written by wip/lnt.py.) -/
namespace Go.Proofs.Ytokembhfebnjpaa
set_option maxRecDepth 20000
open Go.RowKit Flt
set_option linter.unusedVariables false
set_option linter.unusedSimpArgs false
theorem OwnB.form3 {w : World} {v : Value} {l : List Int} (h : OwnB w v l) : ∃ a c, v = .slice a l.length c ∧ RdB w a l ∧ l.length ≤ c ∧ c ≤ maxLen := by
  obtain ⟨a, c, e, h1, h2⟩ := h.form
  obtain ⟨a', c', e', _, h3⟩ := h.own.form
  rw [e] at e'
  simp only [Value.slice.injEq] at e'
  obtain ⟨rfl, _, rfl⟩ := e'
  exact ⟨a, c, e, h1, h2, h3⟩
theorem timeN {n : Nat} (h : n ≤ 2147483647) : timeB (n : Int) = true := by unfold timeB; simp; omega
def apt (x : Ae) : Value := .pointer (some ⟨x.lb, 0, none⟩)
def dpt (x : De) : Value := .pointer (some ⟨x.lb, 0, none⟩)
section
variable {W : World} {B : Nat}
/-! Tick at an agent's end -/
theorem ag_tick_first {x : Ae} (h : AgS W B x) (hB : B ≤ W.heap.size) (hst : x.t.st = 1) (hs : x.sent = false) (now : Nat) (ht : now ≤ 2147483647) :
    Calls Try.prog 15 #[apt x, .int .i64 (now : Nat)] W fun e w' => ∃ v, e = .returned v ∧ ∃ vs, LLs W.heap.size w' v (layP [] (synF x.t.se)) vs ∧ AgS w' B { x with sent := true, at_ := now } ∧ Mv x.F (Ae.F { x with sent := true, at_ := now }) W w' := by
  refine ltick_a h.lk now (timeN ht) ?_
  have h2 := h.tk
  rw [hs] at h2
  refine (atells_first h2 hst now ht).mono ?_
  rintro e w' ⟨v, rfl, vs, h3, h4, h5⟩
  obtain ⟨h6, h7⟩ := h.step hB h4 (fun k hk => .inl hk) (h5.mono (fun i _ e => .inl e))
  exact ⟨v, rfl, vs, h3, h6, h7⟩
theorem ag_tick_again {x : Ae} (h : AgS W B x) (hB : B ≤ W.heap.size) (hst : x.t.st = 1) (hs : x.sent = true) (now : Nat) (ht : now ≤ 2147483647) (hw : x.at_ + 8 ≤ now) :
    Calls Try.prog 15 #[apt x, .int .i64 (now : Nat)] W fun e w' => ∃ v, e = .returned v ∧ ∃ vs, LLs W.heap.size w' v (layP [] (synF x.t.se)) vs ∧ AgS w' B { x with sent := true, at_ := now } ∧ Mv x.F (Ae.F { x with sent := true, at_ := now }) W w' := by
  refine ltick_a h.lk now (timeN ht) ?_
  have h2 := h.tk
  rw [hs] at h2
  refine (atells_again h2 hst now ht hw).mono ?_
  rintro e w' ⟨v, rfl, vs, h3, h4, h5⟩
  obtain ⟨h6, h7⟩ := h.step hB h4 (fun k hk => .inl hk) (h5.mono (fun i _ e => .inl e))
  exact ⟨v, rfl, vs, h3, h6, h7⟩
theorem ag_tick_wait {x : Ae} (h : AgS W B x) (hst : x.t.st = 1) (hs : x.sent = true) (now : Nat) (ht : now ≤ 2147483647) (hw : now < x.at_ + 8) :
    Calls Try.prog 15 #[apt x, .int .i64 (now : Nat)] W fun e w' => ∃ v, e = .returned v ∧ v = .slice none 0 0 ∧ Kp (fun _ => False) W w' := by
  refine ltick_a h.lk now (timeN ht) ?_
  have h2 := h.tk
  rw [hs] at h2
  refine (atells_wait h2 hst now ht hw).mono ?_
  rintro e w' ⟨rfl, h3⟩
  exact ⟨_, rfl, rfl, h3⟩
theorem ag_tick_shut {x : Ae} (h : AgS W B x) (hst : x.t.st = 3) (now : Nat) (ht : now ≤ 2147483647) :
    Calls Try.prog 15 #[apt x, .int .i64 (now : Nat)] W fun e w' => ∃ v, e = .returned v ∧ v = .slice none 0 0 ∧ Kp (fun _ => False) W w' := by
  refine ltick_a h.lk now (timeN ht) ?_
  refine atells_due h.tk (by omega) now ?_
  refine (due_no h.tk (by omega) now _ ⟨_, _, _, rfl⟩).mono ?_
  rintro e w' h3
  obtain ⟨rfl, h4⟩ := h3
  exact ⟨_, rfl, rfl, by first | exact h4 | (subst h4; exact Kp.refl _ _)⟩
theorem ag_tick_up {x : Ae} (h : AgS W B x) (hB : B ≤ W.heap.size) (hst : x.t.st = 2) (hI : x.I ≤ 1000000) (now : Nat) (ht : now ≤ 2147483647) :
    Calls Try.prog 15 #[apt x, .int .i64 (now : Nat)] W fun e w' => ∃ v, e = .returned v ∧ ∃ vs l8, TelL (atW x.t.i.x now) (dueI (atW x.t.i.x now)) l8 ∧ LLs W.heap.size w' v (dueL x.t [] l8) vs ∧ AgS w' B { x with t := dueT x.t now, I := x.I + 1 } ∧ Mv x.F (Ae.F { x with t := dueT x.t now, I := x.I + 1 }) W w' := by
  refine ltick_a h.lk now (timeN ht) ?_
  refine atells_due h.tk (by omega) now ?_
  refine (due_yes h.tk hst hI now ht (LLs.nil _ W) (fun k hk => h.tk.lt hk) (Nat.le_refl _) (Nat.zero_le _)).mono ?_
  rintro e w' ⟨v, vs, l8, rfl, h3, h4, h5, h6⟩
  obtain ⟨h7, h8⟩ := h.step hB h5 (fun k hk => .inl (me_due hk)) (h6.mono (fun i hi e => e.elim id (fun e => by omega)))
  exact ⟨v, rfl, vs, l8, h3, h4, h7, h8⟩
/-! Receive at an agent's end -/
theorem ag_welcome {x : Ae} (h : AgS W B x) (hB : B ≤ W.heap.size) (hst : x.t.st = 1) (bo : Nat) (hse : 1 ≤ x.t.se) (hbo : 1 ≤ bo ∧ bo ≤ 2147483647) (now : Int) (ht : timeB now = true) (A : Option Addr) (c : Nat) (hr : RdB W A (layF (welF x.t.se bo))) (hc : (layF (welF x.t.se bo)).length ≤ c) (hcm : c ≤ maxLen) :
    Tells Try.prog 14 #[apt x, .slice A (layF (welF x.t.se bo)).length c, .int .i64 now] W fun v k w' => v = .slice none 0 0 ∧ k = 0 ∧ ∃ g b, AgS w' B { x with t := upT { x.t with bo := bo } g b } ∧ Mv x.F (Ae.F { x with t := upT { x.t with bo := bo } g b }) W w' := by
  have he := errF_wel hse h.tk.se hbo.1 hbo.2
  have hQ : Stays fun v k w' => v = .slice none 0 0 ∧ k = 0 ∧ ∃ g b, AgS w' B { x with t := upT { x.t with bo := bo } g b } ∧ Mv x.F (Ae.F { x with t := upT { x.t with bo := bo } g b }) W w' := by
    rintro v k w n ⟨h1, h2, g, b, h3, h4⟩
    exact ⟨h1, h2, g, b, h3.drewN n, h4.drewN n⟩
  refine lreceive_agood h.lk h.tk (by omega) now ht A _ c _ rfl hr (by rw [layF_len]; simp [welF]) hc hcm (errR_lay he).1 _ (errR_lay he).2 rfl hQ ?_
  intro w1 A' c' k1 hrA hfA
  refine atakes_2 _ _ _ _ _ rfl hQ ?_
  intro w2 k2
  have k12 := k1.trans k2
  have h2 := h.kp0 k12
  refine (awelcome_open h2.tk hst _ bo rfl hbo.2 A' c' now).mono ?_
  rintro e w' ⟨rfl, g, b, h3, hg, hb, hm, k3⟩
  obtain ⟨h4, m⟩ := h2.step (Nat.le_trans hB k12.size) h3 (fun k hk => (hm k hk).elim (fun e => .inl (.inl e)) (fun e => .inr (by omega))) (k3.mono (fun i _ e => .inl e))
  exact ⟨_, _, rfl, rfl, rfl, g, b, h4, Mv.pre k12 m⟩
theorem ag_reset {x : Ae} (h : AgS W B x) (hB : B ≤ W.heap.size) (hst : ¬ x.t.st = 3) (bo : Nat) (hse : 1 ≤ x.t.se) (hbo : bo ≤ 2147483647) (now : Int) (ht : timeB now = true) (A : Option Addr) (c : Nat) (hr : RdB W A (layF (rstF bo x.t.se))) (hc : (layF (rstF bo x.t.se)).length ≤ c) (hcm : c ≤ maxLen) :
    Tells Try.prog 14 #[apt x, .slice A (layF (rstF bo x.t.se)).length c, .int .i64 now] W fun v k w' => v = .slice none 0 0 ∧ k = 0 ∧ AgS w' B { x with t := { x.t with st := 3 } } ∧ Mv x.F (Ae.F { x with t := { x.t with st := 3 } }) W w' := by
  have he := errF_rst hse h.tk.se hbo
  have hQ : Stays fun v k w' => v = .slice none 0 0 ∧ k = 0 ∧ AgS w' B { x with t := { x.t with st := 3 } } ∧ Mv x.F (Ae.F { x with t := { x.t with st := 3 } }) W w' := by
    rintro v k w n ⟨h1, h2, h3, h4⟩
    exact ⟨h1, h2, h3.drewN n, h4.drewN n⟩
  refine lreceive_agood h.lk h.tk hst now ht A _ c _ rfl hr (by rw [layF_len]; simp [rstF]) hc hcm (errR_lay he).1 _ (errR_lay he).2 rfl hQ ?_
  intro w1 A' c' k1 hrA hfA
  refine atakes_5 _ _ _ _ _ rfl hQ ?_
  intro w2 k2
  have k12 := k1.trans k2
  have h2 := h.kp0 k12
  refine (areset_any h2.tk _ A' c' now).mono ?_
  rintro e w' ⟨rfl, h3, k3⟩
  obtain ⟨h4, m⟩ := h2.step (Nat.le_trans hB k12.size) h3 (fun k hk => hk.elim (fun e => .inl (.inl e)) (fun e => absurd (show (3 : Nat) = 2 from e.1) (by decide))) (k3.mono (fun i _ e => .inl e))
  exact ⟨_, _, rfl, rfl, rfl, h4, Mv.pre k12 m⟩
theorem ag_ack {x : Ae} (h : AgS W B x) (hB : B ≤ W.heap.size) (hst : x.t.st = 2) (hI : x.I ≤ 1000000) (ac : Nat) (hac : ac ≤ 2147483647) (hse : 1 ≤ x.t.se) (hbo : 1 ≤ x.t.bo) (now : Int) (ht : timeB now = true) (hb : ackB x.t.i.x ac now = true) (A : Option Addr) (c : Nat) (hr : RdB W A (layF ⟨4, x.t.se, x.t.bo, 0, ac, []⟩)) (hc : (layF ⟨4, x.t.se, x.t.bo, 0, ac, []⟩).length ≤ c) (hcm : c ≤ maxLen) :
    Tells Try.prog 14 #[apt x, .slice A (layF ⟨4, x.t.se, x.t.bo, 0, ac, []⟩).length c, .int .i64 now] W fun v k w' => v = .slice none 0 0 ∧ k = 0 ∧ ∃ V', AgS w' B { x with t := ackT x.t (ackX x.t.i.x ac now V') } ∧ Mv x.F (Ae.F { x with t := ackT x.t (ackX x.t.i.x ac now V') }) W w' := by
  have he := errF_ack hse h.tk.se hbo h.tk.bo hac
  have hQ : Stays fun v k w' => v = .slice none 0 0 ∧ k = 0 ∧ ∃ V', AgS w' B { x with t := ackT x.t (ackX x.t.i.x ac now V') } ∧ Mv x.F (Ae.F { x with t := ackT x.t (ackX x.t.i.x ac now V') }) W w' := by
    rintro v k w n ⟨h1, h2, V', h3, h4⟩
    exact ⟨h1, h2, V', h3.drewN n, h4.drewN n⟩
  refine lreceive_agood h.lk h.tk (by omega) now ht A _ c _ rfl hr (by rw [layF_len]; simp) hc hcm (errR_lay he).1 _ (errR_lay he).2 rfl hQ ?_
  intro w1 A' c' k1 hrA hfA
  refine atakes_4 _ _ _ _ _ rfl hQ ?_
  intro w2 k2
  have k12 := k1.trans k2
  refine anews_yes (h.kp0 k12).tk hst _ A' c' now rfl hQ ?_
  intro w3 k3
  have k13 := k12.trans k3
  have h2 := h.kp0 k13
  refine (news_ack h2.tk hst hI _ A' c' now hb (by show (4 : Int) ≠ 3; decide)).mono ?_
  rintro e w' ⟨rfl, V', h3, hV, k4⟩
  obtain ⟨h4, m⟩ := h2.step (Nat.le_trans hB k13.size) h3 (fun k hk => .inl (me_ack hV hk)) k4
  exact ⟨_, _, rfl, rfl, rfl, V', h4, Mv.pre k13 m⟩
/-! Receive at a daemon's end -/
theorem medX {o k : Nat} {t t' : Tk} {rv : Value} {W : World} (h : ∀ k, Me o t' k → Me o t k ∨ W.heap.size ≤ k) (hk : MeD o t' rv k) : MeD o t rv k ∨ W.heap.size ≤ k :=
  hk.elim (fun e => (h k e).imp_left .inl) (fun e => .inl (.inr e))
theorem dm_newer {y : De} (h : DmS W B y) (hB : B ≤ W.heap.size) (s : Nat) (hs : y.t.se < s) (hsb : s ≤ 2147483647) (now : Int) (ht : timeB now = true) (A : Option Addr) (c : Nat) (hr : RdB W A (layF (synF s))) (hc : (layF (synF s)).length ≤ c) (hcm : c ≤ maxLen) :
    Tells Try.prog 14 #[dpt y, .slice A (layF (synF s)).length c, .int .i64 now] W fun v k w' => v = .slice none 0 0 ∧ k = 0 ∧ ∃ g b, DmS w' B { y with t := upT { y.t with se := s } g b, wel := true } ∧ Mv y.F (De.F { y with t := upT { y.t with se := s } g b, wel := true }) W w' := by
  have he := errF_syn (s := s) (by omega) hsb
  have hQ : Stays fun v k w' => v = .slice none 0 0 ∧ k = 0 ∧ ∃ g b, DmS w' B { y with t := upT { y.t with se := s } g b, wel := true } ∧ Mv y.F (De.F { y with t := upT { y.t with se := s } g b, wel := true }) W w' := by
    rintro v k w n ⟨h1, h2, g, b, h3, h4⟩
    exact ⟨h1, h2, g, b, h3.drewN n, h4.drewN n⟩
  refine lreceive_dgood h.lk h.dm.tk now ht A _ c _ rfl hr (by rw [layF_len]; simp [synF]) hc hcm (errR_lay he).1 _ (errR_lay he).2 hQ ?_
  intro w1 A' c' k1 hrA hfA
  refine dtakes_syn _ _ _ _ _ _ rfl ?_
  intro w2 k2
  have k12 := k1.trans k2
  have h2 := h.kp0 k12
  refine (dsyn_newer h2.dm _ A' c' s rfl hsb hs).mono ?_
  rintro e w' ⟨rfl, g, b, h3, hg, hb, k3⟩
  obtain ⟨h4, m⟩ := h2.step (Nat.le_trans hB k12.size) h3 (fun k hk => medX (fun k hk => (me_up hk).elim (fun e => .inl (.inl e)) (fun e => .inr (by omega))) hk) (k3.mono (fun i _ e => .inl (.inl e)))
  exact ⟨_, _, rfl, rfl, rfl, g, b, h4, Mv.pre k12 m⟩
theorem dm_same {y : De} (h : DmS W B y) (hB : B ≤ W.heap.size) (s : Nat) (hs : s = y.t.se) (hs1 : 1 ≤ s) (hsb : s ≤ 2147483647) (now : Int) (ht : timeB now = true) (A : Option Addr) (c : Nat) (hr : RdB W A (layF (synF s))) (hc : (layF (synF s)).length ≤ c) (hcm : c ≤ maxLen) :
    Tells Try.prog 14 #[dpt y, .slice A (layF (synF s)).length c, .int .i64 now] W fun v k w' => v = .slice none 0 0 ∧ k = 0 ∧ DmS w' B { y with wel := true } ∧ Mv y.F (De.F { y with wel := true }) W w' := by
  have he := errF_syn hs1 hsb
  have hQ : Stays fun v k w' => v = .slice none 0 0 ∧ k = 0 ∧ DmS w' B { y with wel := true } ∧ Mv y.F (De.F { y with wel := true }) W w' := by
    rintro v k w n ⟨h1, h2, h3, h4⟩
    exact ⟨h1, h2, h3.drewN n, h4.drewN n⟩
  refine lreceive_dgood h.lk h.dm.tk now ht A _ c _ rfl hr (by rw [layF_len]; simp [synF]) hc hcm (errR_lay he).1 _ (errR_lay he).2 hQ ?_
  intro w1 A' c' k1 hrA hfA
  refine dtakes_syn _ _ _ _ _ _ rfl ?_
  intro w2 k2
  have k12 := k1.trans k2
  have h2 := h.kp0 k12
  refine (dsyn_same h2.dm _ A' c' s rfl hsb hs).mono ?_
  rintro e w' ⟨rfl, h3, k3⟩
  obtain ⟨h4, m⟩ := h2.step (Nat.le_trans hB k12.size) h3 (fun k hk => .inl hk) (k3.mono (fun i _ e => .inl (.inl e)))
  exact ⟨_, _, rfl, rfl, rfl, h4, Mv.pre k12 m⟩
theorem medR {o k : Nat} {t : Tk} {rv rv' : Value} {W : World} (h : ∀ g, rv'.ownBlock = some g → rv.ownBlock = some g ∨ W.heap.size ≤ g) (hk : MeD o t rv' k) : MeD o t rv k ∨ W.heap.size ≤ k :=
  hk.elim (fun e => .inl (.inl e)) (fun e => (h k e).imp_left .inr)
theorem dm_elder {y : De} (h : DmS W B y) (hB : B ≤ W.heap.size) (s : Nat) (hs : s < y.t.se) (hs1 : 1 ≤ s) (hsb : s ≤ 2147483647) (now : Int) (ht : timeB now = true) (A : Option Addr) (c : Nat) (hr : RdB W A (layF (synF s))) (hc : (layF (synF s)).length ≤ c) (hcm : c ≤ maxLen) :
    Tells Try.prog 14 #[dpt y, .slice A (layF (synF s)).length c, .int .i64 now] W fun v k w' => v = .slice none 0 0 ∧ k = 6 ∧ ∃ rv', DmS w' B { y with rv := rv', rs := refL y.rs s } ∧ Mv y.F (De.F { y with rv := rv', rs := refL y.rs s }) W w' := by
  have he := errF_syn hs1 hsb
  have hQ : Stays fun v k w' => v = .slice none 0 0 ∧ k = 6 ∧ ∃ rv', DmS w' B { y with rv := rv', rs := refL y.rs s } ∧ Mv y.F (De.F { y with rv := rv', rs := refL y.rs s }) W w' := by
    rintro v k w n ⟨h1, h2, rv', h3, h4⟩
    exact ⟨h1, h2, rv', h3.drewN n, h4.drewN n⟩
  refine lreceive_dgood h.lk h.dm.tk now ht A _ c _ rfl hr (by rw [layF_len]; simp [synF]) hc hcm (errR_lay he).1 _ (errR_lay he).2 hQ ?_
  intro w1 A' c' k1 hrA hfA
  refine dtakes_syn _ _ _ _ _ _ rfl ?_
  intro w2 k2
  have k12 := k1.trans k2
  have h2 := h.kp0 k12
  refine (dsyn_elder h2.dm _ A' c' s rfl hsb hs).mono ?_
  rintro e w' ⟨rfl, rv', h3, hg, k3⟩
  obtain ⟨h4, m⟩ := h2.step (Nat.le_trans hB k12.size) h3 (fun k hk => medR hg hk) k3
  exact ⟨_, _, rfl, rfl, rfl, rv', h4, Mv.pre k12 m⟩
/-- A Data of another session or boot. -/
theorem dm_strange {y : De} (h : DmS W B y) (hB : B ≤ W.heap.size) (f : Fr) (s : Nat) (he : errF f = 0) (hty : f.ty = 3) (hs : f.se = (s : Nat)) (hno : y.t.st ≠ 2 ∨ s ≠ y.t.se ∨ f.bo ≠ y.t.bo) (now : Int) (ht : timeB now = true) (A : Option Addr) (c : Nat) (hr : RdB W A (layF f)) (hc : (layF f).length ≤ c) (hcm : c ≤ maxLen) :
    Tells Try.prog 14 #[dpt y, .slice A (layF f).length c, .int .i64 now] W fun v k w' => v = .slice none 0 0 ∧ k = 6 ∧ ∃ rv', DmS w' B { y with rv := rv', rs := refL y.rs s } ∧ Mv y.F (De.F { y with rv := rv', rs := refL y.rs s }) W w' := by
  have hbd := (errF_ok he).2.2.1
  have hQ : Stays fun v k w' => v = .slice none 0 0 ∧ k = 6 ∧ ∃ rv', DmS w' B { y with rv := rv', rs := refL y.rs s } ∧ Mv y.F (De.F { y with rv := rv', rs := refL y.rs s }) W w' := by
    rintro v k w n ⟨h1, h2, rv', h3, h4⟩
    exact ⟨h1, h2, rv', h3.drewN n, h4.drewN n⟩
  refine lreceive_dgood h.lk h.dm.tk now ht A _ c _ rfl hr (by rw [layF_len]; omega) hc hcm (errR_lay he).1 _ (errR_lay he).2 hQ ?_
  intro w1 A' c' k1 hrA hfA
  have h2 := h.kp0 k1
  refine (dtakes_no3 h2.dm _ A' c' now s hs hty hno).mono ?_
  rintro e w' ⟨rfl, rv', h3, hg, k3⟩
  obtain ⟨h4, m⟩ := h2.step (Nat.le_trans hB k1.size) h3 (fun k hk => medR hg hk) k3
  exact ⟨_, _, rfl, rfl, rfl, rv', h4, Mv.pre k1 m⟩
theorem me_take {o k : Nat} {t : Tk} {n now : Int} {V' : Value} {f' : Bodies} {n' hd' : Nat} {F' : Nat → Prop} {W : World} (hV : V'.ownBlock = t.i.x.V.ownBlock) (hF : ∀ k, F' k → t.i.F k ∨ W.heap.size ≤ k) (hk : Me o (takeT t (ackX t.i.x n now V') f' n' hd' F') k) : Me o t k ∨ W.heap.size ≤ k := by
  rcases hk with hk | ⟨e, hk | hk⟩
  · exact .inl (.inl hk)
  · exact .inl (.inr ⟨e, .inl (Mine.pop (x := t.i.x) hV hk)⟩)
  · exact (hF k hk).imp_left (fun h => .inr ⟨e, .inr h⟩)
/-- A Data of the session. -/
theorem dm_data {y : De} (h : DmS W B y) (hB : B ≤ W.heap.size) (hst : y.t.st = 2) (hI : y.I ≤ 1000000) (f : Fr) (he : errF f = 0) (hty : f.ty = 3) (hse : f.se = y.t.se) (hbo : f.bo = y.t.bo) (now : Int) (ht : timeB now = true) (hb : ackB y.t.i.x f.ac now = true) (A : Option Addr) (c : Nat) (hr : RdB W A (layF f)) (hc : (layF f).length ≤ c) (hcm : c ≤ maxLen) :
    Tells Try.prog 14 #[dpt y, .slice A (layF f).length c, .int .i64 now] W fun v k w' => k = 0 ∧ ∃ V' n' hd' F' vs, V'.ownBlock = y.t.i.x.V.ownBlock ∧ y.t.i.n ≤ n' ∧ n' ≤ y.t.i.n + y.t.sz ∧ vs.length = n' - y.t.i.n ∧ Own w' v (n' - y.t.i.n) 1 vs ∧ Told w' (nf y.t.i.f y.t.i.n y.t.sz f.sq f.bd) y.t.i.n vs (fun k => (y.t.i.F k ∧ k ≠ y.t.i.b) ∨ W.heap.size ≤ k) F' ∧ (∀ k, v.ownBlock = some k → W.heap.size ≤ k ∧ ¬ F' k) ∧
      DmS w' B { y with t := takeT y.t (ackX y.t.i.x f.ac now V') (nf y.t.i.f y.t.i.n y.t.sz f.sq f.bd) n' hd' F' } ∧ Mv y.F (De.F { y with t := takeT y.t (ackX y.t.i.x f.ac now V') (nf y.t.i.f y.t.i.n y.t.sz f.sq f.bd) n' hd' F' }) W w' := by
  obtain ⟨_, hrg, hbd, _⟩ := errF_ok he
  have hsq := hrg.2.2.1
  have hQ : Stays fun v k w' => k = 0 ∧ ∃ V' n' hd' F' vs, V'.ownBlock = y.t.i.x.V.ownBlock ∧ y.t.i.n ≤ n' ∧ n' ≤ y.t.i.n + y.t.sz ∧ vs.length = n' - y.t.i.n ∧ Own w' v (n' - y.t.i.n) 1 vs ∧ Told w' (nf y.t.i.f y.t.i.n y.t.sz f.sq f.bd) y.t.i.n vs (fun k => (y.t.i.F k ∧ k ≠ y.t.i.b) ∨ W.heap.size ≤ k) F' ∧ (∀ k, v.ownBlock = some k → W.heap.size ≤ k ∧ ¬ F' k) ∧
      DmS w' B { y with t := takeT y.t (ackX y.t.i.x f.ac now V') (nf y.t.i.f y.t.i.n y.t.sz f.sq f.bd) n' hd' F' } ∧ Mv y.F (De.F { y with t := takeT y.t (ackX y.t.i.x f.ac now V') (nf y.t.i.f y.t.i.n y.t.sz f.sq f.bd) n' hd' F' }) W w' := by
    rintro v k w n ⟨h1, V', n', hd', F', vs, hV, h2, h3, h4, h5, h6, h7, h8, h9⟩
    exact ⟨h1, V', n', hd', F', vs, hV, h2, h3, h4, h5.kp ((Kp.refl _ w).drewN n) (fun _ _ h => h), h6.kp ((Kp.refl _ w).drewN n) (fun _ _ _ _ h => h), h7, h8.drewN n, h9.drewN n⟩
  refine lreceive_dgood h.lk h.dm.tk now ht A _ c _ rfl hr (by rw [layF_len]; omega) hc hcm (errR_lay he).1 _ (errR_lay he).2 hQ ?_
  intro w1 A' c' k1 hrA hfA
  have h2 := h.kp0 k1
  refine dtakes_yes3 h2.dm _ A' c' now hty hst hse hbo hQ ?_
  intro w2 k2
  have k12 := k1.trans k2
  have h3 := h.kp0 k12
  refine (news_take h3.dm.tk hst hI f A' c' now hb hty (by omega) (hrA.kp k2 (fun _ _ h => h)) (by omega) (fun a ha hm => ?_)).mono ?_
  · have q1 := hfA a.block (by rw [ha]; rfl)
    have q2 := h.dm.tk.lt hm
    omega
  · rintro e w' ⟨V', n', hd', F', v, vs, rfl, h4, hV, h5, h6, h7, h8, h9, h10, h11, k4⟩
    have hdm : DmC w' y.o (takeT y.t (ackX y.t.i.x f.ac now V') (nf y.t.i.f y.t.i.n y.t.sz f.sq f.bd) n' hd' F') y.wel y.rv y.rs y.I := ⟨h4, h3.dm.own.kp k4 (fun g hg e => h3.dm.ap g hg e), fun g hg e => (me_take (W := w2) hV h11 e).elim (h3.dm.ap g hg) (fun e => by have := h3.dm.own.lt g hg; omega), h3.dm.len⟩
    obtain ⟨h12, m⟩ := h3.step (Nat.le_trans hB k12.size) hdm (fun k hk => medX (fun k hk => me_take hV h11 hk) hk) (k4.mono (fun i _ e => .inl e))
    have hsz := k12.size
    exact ⟨v, 0, rfl, rfl, V', n', hd', F', vs, hV, h5, h6, h7, h8, ⟨h9.own, fun i g hi hg => ⟨(h9.blk i g hi hg).1.imp_right (fun e => by omega), (h9.blk i g hi hg).2⟩, h9.dist⟩, fun k hk => ⟨by have := (h10 k hk).1; omega, (h10 k hk).2⟩, h12, Mv.pre k12 m⟩
end
end Go.Proofs.Ytokembhfebnjpaa
/- Chapter 15: one frame goes over. (Written by wip/lnv.py.) -/
namespace Go.Proofs.Ytokembhfebnjpaa
set_option maxRecDepth 20000
open Go.RowKit Flt
set_option linter.unusedVariables false
set_option linter.unusedSimpArgs false
/-- A list of one, as memory has it. -/
theorem LLs.one {Bd : Nat} {w : World} {v : Value} {b : List Int} {vs : List Value} (h : LLs Bd w v [b] vs) : ∃ g cap A c, v = .slice (some ⟨g, 0, none⟩) 1 cap ∧ w.cell? ⟨g, 0, none⟩ = some (.slice A b.length c) ∧ RdB w A b ∧ b.length ≤ c ∧ c ≤ maxLen := by
  obtain ⟨A, c, e, h1, h2, h3⟩ := (h.each 0 (by simp)).form3
  have e1 : vs.getD 0 undef = .slice A b.length c := e
  rcases h.own.2 with ⟨_, h0⟩ | ⟨g, cap, sp, hv, hat, _⟩
  · simp at h0
  · have hl := h.own.1
    refine ⟨g, cap, A, c, hv, ?_, h1, h2, h3⟩
    have hc := hat.cell 0
    rw [hc]
    rw [List.getD_eq_getElem?_getD] at e1
    cases vs with
    | nil => simp at hl
    | cons u us => simpa using e1
set_option maxHeartbeats 2000000 in
theorem over_one {w : World} {fl tl : Nat} (now : Int) (b : List Int) (ms : List (List Int)) (hm : ms.length ≤ 1000) {Q1 : World → Prop} {Q2 : List Value → World → Prop} 
    (CT : Calls Try.prog 15 #[.pointer (some ⟨fl, 0, none⟩), .int .i64 now] w fun e w' => ∃ v, e = .returned v ∧ ∃ Bd vs, LLs Bd w' v [b] vs ∧ Q1 w')
    (CR : ∀ w1 A c, Q1 w1 → RdB w1 A b → b.length ≤ c → c ≤ maxLen → Tells Try.prog 14 #[.pointer (some ⟨tl, 0, none⟩), .slice A b.length c, .int .i64 now] w1 (fun v k w3 => k = 0 ∧ ∃ us, LLu w3 v ms us ∧ Q2 us w3)) :
    Calls Try.prog 10 #[.pointer (some ⟨fl, 0, none⟩), .pointer (some ⟨tl, 0, none⟩), .int .i64 now] w fun e w' => ∃ a c us w3, e = .returned (.tuple #[.slice a ms.length c, .bool true]) ∧ LLs 0 w' (.slice a ms.length c) ms us ∧ Q2 us w3 ∧ Kp (fun _ => False) w3 w' ∧ (∀ g, (Value.slice a ms.length c).ownBlock = some g → w3.heap.size ≤ g) := by
  have CT := Lib.hid CT
  have CR := Lib.hid CR
  obtain ⟨nm, hnm⟩ : ∃ nm, nm = ms.length := ⟨_, rfl⟩
  rw [← hnm]
  have HNM := Lib.hid hnm
  clear hnm
  go_enter Try.func10, Try.ntmps10
  go_wp2_with fail
  go_at_call 15
  refine CT.out.mono ?_
  rintro e w1 ⟨v, rfl, Bd, vs, hl, hq1⟩
  obtain ⟨g, cap, A, c, rfl, hcell, hrA, hc1, hc2⟩ := hl.one
  have C1 := Lib.hid (CR.out w1 A c hq1 hrA hc1 hc2)
  obtain ⟨n, hn⟩ : ∃ n, n = b.length := ⟨_, rfl⟩
  rw [← hn] at C1 hcell
  clear hl hq1 hrA hc1 hc2 hn CT
  go_wp2_with fail
  go_loopw [9, 10] (fun ov iv wr => (iv = .int .i64 0 ∧ ov = .slice none 0 0 ∧ w1 = wr) ∨ (iv = .int .i64 1 ∧ ∃ oa oc us w3, ov = .slice oa nm oc ∧ LLs 0 wr (.slice oa nm oc) ms us ∧ Q2 us w3 ∧ Kp (fun _ => False) w3 wr ∧ (∀ g, (Value.slice oa nm oc).ownBlock = some g → w3.heap.size ≤ g))) (fun _ iv _ => 1 - (intOf iv).toNat)
  case atStart => exact .inl ⟨rfl, rfl, rfl⟩
  case round =>
    rcases hrel with ⟨rfl, rfl, rfl⟩ | ⟨rfl, oa, oc, us, w3, rfl, hl, hq, hk, hg⟩
    · go_wp2_with fail
      go_at_call 14
      refine C1.out.mono ?_
      rintro e w3 ⟨v, k, rfl, rfl, us, hl, hq⟩
      obtain ⟨va, vc, hv⟩ := hl.form
      have hnm := HNM.out
      rw [← hnm] at hv
      subst hv
      obtain ⟨v', w4, hr, hL, k4, hb⟩ := (LLs.nil 0 w3).cat (P := Try.prog) (t := 28) (tx := 28) (ty := 28) hl Try.underlying28 elem_sl Try.underlying28 (by omega) hnm (fun i g hi hg => ⟨fun e => by simp [Value.ownBlock] at e, fun j hj => by simp at hj⟩) (by simp; omega)
      have hL : LLs 0 w4 v' ms us := by simpa using hL
      have k4 : Kp (fun _ => False) w3 w4 := k4.mono (fun i _ e => by simp [Value.ownBlock] at e)
      have hb : ∀ g, v'.ownBlock = some g → w3.heap.size ≤ g := fun g hg => by
        rcases hb with e | e
        · rw [e] at hg; simp [Value.ownBlock] at hg
        · rw [e] at hg; cases hg; exact Nat.le_refl _
      obtain ⟨va', vc', hv', _⟩ := hL.form
      rw [← hnm] at hv'
      subst hv'
      have HR := Lib.hid hr
      have H4 := Lib.hid (And.intro hL (And.intro hq (And.intro k4 hb)))
      clear hl hq hr hL k4 hb hnm
      go_wp2_with (at_builtin; refine wpList_append_run _ HR.out rfl rfl rfl rfl ?_)
      go_roundw
      case rel => exact .inr ⟨by go_num, _, _, us, w3, rfl, H4.out.1, H4.out.2.1, H4.out.2.2.1, H4.out.2.2.2⟩
      case measure => simp [intOf]
    · have HL := Lib.hid (And.intro hl (And.intro hq (And.intro hk hg)))
      clear hl hq hk hg
      go_wp2_with fail
      go_ret2
      exact ⟨_, _, us, w3, rfl, HL.out.1, HL.out.2.1, HL.out.2.2.1, HL.out.2.2.2⟩
end Go.Proofs.Ytokembhfebnjpaa
/- Chapter 15: Tick at a daemon's end, Send; windows with nothing, or one body, under way. (Written by wip/lnu.py.) -/
namespace Go.Proofs.Ytokembhfebnjpaa
set_option maxRecDepth 20000
open Go.RowKit Flt
set_option linter.unusedVariables false
set_option linter.unusedSimpArgs false
theorem layP_one {f : Fr} (h : errF f = 0) : layP [] f = [layF f] := by unfold layP; rw [if_pos h]; rfl
def welL (y : De) : List (List Int) := if y.wel then layP [] (welF y.t.se y.t.bo) else []
theorem dm_tick {W : World} {B : Nat} {y : De} (h : DmS W B y) (hB : B ≤ W.heap.size) (hst : y.t.st = 2) (hI : y.I ≤ 1000000) (hrb : ∀ s ∈ y.rs, s ≤ 2147483647) (now : Nat) (ht : now ≤ 2147483647) :
    Calls Try.prog 15 #[dpt y, .int .i64 (now : Nat)] W fun e w' => ∃ v, e = .returned v ∧ ∃ vs l8, TelL (atW y.t.i.x now) (dueI (atW y.t.i.x now)) l8 ∧ LLs W.heap.size w' v (dueL y.t (rstL y.t.bo (welL y) y.rs) l8) vs ∧ DmS w' B { y with t := dueT y.t now, wel := false, rv := .slice none 0 0, rs := [], I := y.I + 1 } ∧ Mv y.F (De.F { y with t := dueT y.t now, wel := false, rv := .slice none 0 0, rs := [], I := y.I + 1 }) W w' := by
  refine ltick_d h.lk now (timeN ht) ?_
  refine dtells_any y.wel h.dm hrb now (welL y) rfl ?_
  intro w1 v vs hl hd k1
  have hMe : ∀ k, Me y.o y.t k → k < W.heap.size := fun k hk => h.dm.tk.lt hk
  have hlen : (rstL y.t.bo (welL y) y.rs).length ≤ 1000 := by
    have h1 := rstL_len y.t.bo (welL y) y.rs
    have h2 := h.dm.len
    have h3 : (welL y).length ≤ 1 := by unfold welL; split; exact layP_len _ _; simp
    omega
  refine (due_yes hd.tk hst hI now ht hl hMe k1.size hlen).mono ?_
  rintro e w2 ⟨v2, vs2, l8, rfl, h3, h4, h5, k2⟩
  have kk : Kp (Me y.o y.t) W w2 := (k1.mono (fun i _ e => .inl e)).then k2 (fun i hi e => e.elim id (fun e => by omega))
  have hdm : DmC w2 y.o (dueT y.t now) false (.slice none 0 0) [] (y.I + 1) := ⟨h5, Own.nil _ 1, fun g hg => (by cases hg), Nat.zero_le _⟩
  obtain ⟨h6, m⟩ := h.step hB hdm (fun k hk => hk.elim (fun e => .inl (.inl (me_due e))) (fun e => (by cases e))) (kk.mono (fun i _ e => .inl e))
  exact ⟨v2, rfl, vs2, l8, h3, h4, h6, m⟩
theorem ag_send {W : World} {B : Nat} {x : Ae} (h : AgS W B x) (hB : B ≤ W.heap.size) (hst : x.t.st = 2) (hI : x.I ≤ 1000000) (a : Option Addr) (n c : Nat) (body : List Int) (hn : n = body.length) (hr : RdB W a body) (hnb : n ≤ 1400) (hf : x.t.i.x.l.length < x.t.sz) :
    Calls Try.prog 12 #[.pointer (some ⟨x.lb, 0, none⟩), .slice a n c] W fun e w' => e = .returned (.int .i64 0) ∧ ∃ p V', p.seq = x.t.i.x.last + 1 ∧ p.body = body ∧ p.times = 0 ∧ AgS w' B { x with t := sendT x.t p V', I := x.I + 1 } ∧ Mv x.F (Ae.F { x with t := sendT x.t p V', I := x.I + 1 }) W w' := by
  refine (lsend_aok h.lk h.tk hst hI a n c body hn hr hnb (by rw [(h.tk.up hst).wsz]; exact hf)).mono ?_
  rintro e w' ⟨rfl, p, V', h1, h2, h3, h4, h5, h6⟩
  obtain ⟨h7, m⟩ := h.step hB h4 h5 h6
  exact ⟨rfl, p, V', h1, h2, h3, h7, m⟩
/-- A window with nothing under way; with one body that was not sent yet. -/
def WE (x : Wn) (n : Nat) : Prop := x.l = [] ∧ x.last = n
def W1 (x : Wn) (q : Nat) (l : List Int) (n : Nat) : Prop := ∃ p, x.l = [p] ∧ p.seq = q ∧ p.body = l ∧ p.times = 0 ∧ x.last = n
theorem WE.new (s : Nat) : WE (wnew s) 0 := ⟨rfl, rfl⟩
theorem WE.due {x : Wn} {n : Nat} (h : WE x n) (now : Nat) : dueI (atW x now) = [] ∧ WE (dueW (atW x now)) n := by
  have e : dueI (atW x now) = [] := by
    unfold dueI
    rw [show (atW x now).l = [] from h.1]
    rfl
  refine ⟨e, ?_⟩
  unfold dueW
  rw [e, stW_nil]
  exact ⟨h.1, h.2⟩
theorem WE.push {x : Wn} {n : Nat} (h : WE x n) {p : Pk} {V : Value} {q : Nat} {l : List Int} (h1 : p.seq = x.last + 1) (h2 : p.body = l) (h3 : p.times = 0) : W1 { x with last := x.last + 1, V := V, l := x.l ++ [p] } (n + 1) l (n + 1) :=
  ⟨p, by show x.l ++ [p] = [p]; rw [h.1]; rfl, by rw [h1, h.2], h2, h3, by show x.last + 1 = n + 1; rw [h.2]⟩
theorem tel_nil {x : Wn} {l8 : List Tp} (h : TelL x [] l8) : l8 = [] := List.eq_nil_of_length_eq_zero h.1
theorem W1.due {x : Wn} {q n : Nat} {l : List Int} (h : W1 x q l n) (now : Nat) : dueI (atW x now) = [0] ∧ (∀ l8, TelL (atW x now) (dueI (atW x now)) l8 → ∃ u, l8 = [u] ∧ u.seq = q ∧ u.body = l) ∧ (dueW (atW x now)).l.length = 1 ∧ (dueW (atW x now)).last = n := by
  obtain ⟨p, h1, h2, h3, h4, h5⟩ := h
  have hp : pk x.l 0 = p := by rw [h1]; rfl
  have e : dueI (atW x now) = [0] := by
    unfold dueI
    rw [show (atW x now).l = x.l from rfl, h1]
    show (List.range 1).filter _ = _
    have : dueB (pk [p] 0) (atW x now).now = true := by
      rw [show pk [p] 0 = p from rfl]
      unfold dueB dueA
      rw [if_pos h4]; simp
    simp [List.range_succ, this]
  refine ⟨e, fun l8 ht => ?_, ?_, h5⟩
  · rw [e] at ht
    have hl := ht.1
    obtain ⟨e1, e2⟩ := ht.2 0 0 rfl
    cases l8 with
    | nil => simp at hl
    | cons u us =>
      cases us with
      | nil => exact ⟨u, rfl, by rw [show u.seq = _ from e1, show (atW x now).l = x.l from rfl, hp, h2], by rw [show u.body = _ from e2, show (atW x now).l = x.l from rfl, hp, h3]⟩
      | cons u' us => simp at hl
  · unfold dueW
    rw [show (stW (atW x now) (dueI (atW x now))).l = stL (atW x now) (dueI (atW x now)) from rfl, stL_len, show (atW x now).l = x.l from rfl, h1]; rfl
end Go.Proofs.Ytokembhfebnjpaa
/- Chapter 15: a frame of each kind goes over. (Written by wip/lnw.py.) -/
namespace Go.Proofs.Ytokembhfebnjpaa
set_option maxRecDepth 20000
open Go.RowKit Flt
set_option linter.unusedVariables false
set_option linter.unusedSimpArgs false
/-- A Syn goes over. -/
theorem over_syn {w W : World} {x : Ae} {y : De} (h : Two w W x y) (la ld : Nat) (hla : x.lb = la) (hld : y.lb = ld) (hst : x.t.st = 1) (hs : x.sent = false) (hse : 1 ≤ x.t.se) (hlt : y.t.se < x.t.se) (now : Nat) (q : Int) (hq : (now : Int) = q) (ht : now ≤ 2147483647) :
    Calls Try.prog 10 #[.pointer (some ⟨la, 0, none⟩), .pointer (some ⟨ld, 0, none⟩), .int .i64 q] W fun e w' => ∃ a c, e = .returned (.tuple #[.slice a 0 c, .bool true]) ∧ ∃ g b, Two w w' { x with sent := true, at_ := now } { y with t := upT { y.t with se := x.t.se } g b, wel := true } := by
  subst hla; subst hld; subst hq
  have hsb := h.a.tk.se
  refine (over_one (now : Int) (layF (synF x.t.se)) [] (Nat.zero_le _) (Q1 := fun w' => Two w w' { x with sent := true, at_ := now } y) (Q2 := fun us w' => ∃ g b, Two w w' { x with sent := true, at_ := now } { y with t := upT { y.t with se := x.t.se } g b, wel := true }) ?_ ?_).mono ?_
  · refine (ag_tick_first h.a h.sz hst hs now ht).mono ?_
    rintro e w' ⟨v, rfl, vs, h1, h2, h3⟩
    rw [layP_one (errF_syn hse hsb)] at h1
    exact ⟨v, rfl, _, vs, h1, h.stepA h2 h3⟩
  · intro w1 A c h1 hr hc hcm
    refine (dm_newer h1.d h1.sz x.t.se hlt hsb now (timeN ht) A c hr hc hcm).mono ?_
    rintro e w' ⟨v, k, rfl, rfl, rfl, g, b, h2, h3⟩
    exact ⟨_, _, rfl, rfl, [], LLu.nil w', g, b, h1.stepD h2 h3⟩
  · rintro e w' ⟨a, c, us, w3, rfl, h1, ⟨g, b, h2⟩, h3, h4⟩
    exact ⟨a, c, rfl, g, b, h2.kp0 h3⟩
theorem wel_due {y : De} (hw : y.wel = true) (hr : y.rs = []) (ho : y.t.owed = false) (he : errF (welF y.t.se y.t.bo) = 0) : dueL y.t (rstL y.t.bo (welL y) y.rs) [] = [layF (welF y.t.se y.t.bo)] := by
  unfold dueL welL
  rw [hw, hr, ho]
  simp only [rstL, List.foldl_nil, if_pos rfl, layP_one he]
  rfl
/-- A Welcome goes over. -/
theorem over_wel {w W : World} {x : Ae} {y : De} (h : Two w W x y) (la ld : Nat) (hla : x.lb = la) (hld : y.lb = ld) (hst : x.t.st = 1) (hyt : y.t.st = 2) (hse : 1 ≤ x.t.se) (hss : y.t.se = x.t.se) (hbo : 1 ≤ y.t.bo) (hw : y.wel = true) (hrs : y.rs = []) (ho : y.t.owed = false) (hI : y.I ≤ 1000000) {m : Nat} (hE : WE y.t.i.x m) (now : Nat) (q : Int) (hq : (now : Int) = q) (ht : now ≤ 2147483647) :
    Calls Try.prog 10 #[.pointer (some ⟨ld, 0, none⟩), .pointer (some ⟨la, 0, none⟩), .int .i64 q] W fun e w' => ∃ a c, e = .returned (.tuple #[.slice a 0 c, .bool true]) ∧ ∃ g b, Two w w' { x with t := upT { x.t with bo := y.t.bo } g b } { y with t := dueT y.t now, wel := false, rv := .slice none 0 0, rs := [], I := y.I + 1 } := by
  subst hla; subst hld; subst hq
  have hsb := h.a.tk.se
  have hbb := h.d.dm.tk.bo
  have he := errF_wel hse hsb hbo hbb
  refine (over_one (now : Int) (layF (welF x.t.se y.t.bo)) [] (Nat.zero_le _) (Q1 := fun w' => Two w w' x { y with t := dueT y.t now, wel := false, rv := .slice none 0 0, rs := [], I := y.I + 1 }) (Q2 := fun us w' => ∃ g b, Two w w' { x with t := upT { x.t with bo := y.t.bo } g b } { y with t := dueT y.t now, wel := false, rv := .slice none 0 0, rs := [], I := y.I + 1 }) ?_ ?_).mono ?_
  · refine (dm_tick h.d h.sz hyt hI (fun s hs => by rw [hrs] at hs; cases hs) now ht).mono ?_
    rintro e w' ⟨v, rfl, vs, l8, h0, h1, h2, h3⟩
    rw [(hE.due now).1] at h0
    rw [tel_nil h0, wel_due hw hrs ho (by rw [hss]; exact he), hss] at h1
    exact ⟨v, rfl, _, vs, h1, h.stepD h2 h3⟩
  · intro w1 A c h1 hr hc hcm
    refine (ag_welcome h1.a h1.sz hst y.t.bo hse ⟨hbo, hbb⟩ now (timeN ht) A c hr hc hcm).mono ?_
    rintro e w' ⟨v, k, rfl, rfl, rfl, g, b, h2, h3⟩
    exact ⟨_, _, rfl, rfl, [], LLu.nil w', g, b, h1.stepA h2 h3⟩
  · rintro e w' ⟨a, c, us, w3, rfl, h1, ⟨g, b, h2⟩, h3, h4⟩
    exact ⟨a, c, rfl, g, b, h2.kp0 h3⟩
theorem rst_due {y : De} {s : Nat} (hw : y.wel = false) (hr : y.rs = [s]) (ho : y.t.owed = false) (he : errF (rstF y.t.bo s) = 0) : dueL y.t (rstL y.t.bo (welL y) y.rs) [] = [layF (rstF y.t.bo s)] := by
  unfold dueL welL
  rw [hw, hr, ho]
  simp only [rstL, List.foldl_cons, List.foldl_nil, Bool.false_eq_true, if_false, layP_one he]
  simp [layL]
/-- A Reset goes over. -/
theorem over_rst {w W : World} {x : Ae} {y : De} (h : Two w W x y) (la ld : Nat) (hla : x.lb = la) (hld : y.lb = ld) (hst : ¬ x.t.st = 3) (hyt : y.t.st = 2) (hse : 1 ≤ x.t.se) (hw : y.wel = false) (hrs : y.rs = [x.t.se]) (ho : y.t.owed = false) (hI : y.I ≤ 1000000) {m : Nat} (hE : WE y.t.i.x m) (now : Nat) (q : Int) (hq : (now : Int) = q) (ht : now ≤ 2147483647) :
    Calls Try.prog 10 #[.pointer (some ⟨ld, 0, none⟩), .pointer (some ⟨la, 0, none⟩), .int .i64 q] W fun e w' => ∃ a c, e = .returned (.tuple #[.slice a 0 c, .bool true]) ∧ Two w w' { x with t := { x.t with st := 3 } } { y with t := dueT y.t now, wel := false, rv := .slice none 0 0, rs := [], I := y.I + 1 } := by
  subst hla; subst hld; subst hq
  have hsb := h.a.tk.se
  have hbb := h.d.dm.tk.bo
  have he := errF_rst hse hsb hbb
  refine (over_one (now : Int) (layF (rstF y.t.bo x.t.se)) [] (Nat.zero_le _) (Q1 := fun w' => Two w w' x { y with t := dueT y.t now, wel := false, rv := .slice none 0 0, rs := [], I := y.I + 1 }) (Q2 := fun us w' => Two w w' { x with t := { x.t with st := 3 } } { y with t := dueT y.t now, wel := false, rv := .slice none 0 0, rs := [], I := y.I + 1 }) ?_ ?_).mono ?_
  · refine (dm_tick h.d h.sz hyt hI (fun s hs => by rw [hrs] at hs; simp at hs; omega) now ht).mono ?_
    rintro e w' ⟨v, rfl, vs, l8, h0, h1, h2, h3⟩
    rw [(hE.due now).1] at h0
    rw [tel_nil h0, rst_due hw hrs ho he] at h1
    exact ⟨v, rfl, _, vs, h1, h.stepD h2 h3⟩
  · intro w1 A c h1 hr hc hcm
    refine (ag_reset h1.a h1.sz hst y.t.bo hse hbb now (timeN ht) A c hr hc hcm).mono ?_
    rintro e w' ⟨v, k, rfl, rfl, rfl, h2, h3⟩
    exact ⟨_, _, rfl, rfl, [], LLu.nil w', h1.stepA h2 h3⟩
  · rintro e w' ⟨a, c, us, w3, rfl, h1, h2, h3, h4⟩
    exact ⟨a, c, rfl, h2.kp0 h3⟩
/-- The first body's frame, at a daemon's end to which none came. -/
theorem dm_first {w W : World} {x : Ae} {y : De} (h : Two w W x y) (hst : y.t.st = 2) (hI : y.I ≤ 1000000) (f : Fr) (l : List Int) (he : errF f = 0) (hty : f.ty = 3) (hse : f.se = y.t.se) (hbo : f.bo = y.t.bo) (hsq : f.sq = 1) (hbd : f.bd = l) (hac : f.ac = 0) (hf : y.t.i.f = fun _ => none) (hn : y.t.i.n = 1) (now : Int) (ht : timeB now = true) (A : Option Addr) (c : Nat) (hr : RdB W A (layF f)) (hc : (layF f).length ≤ c) (hcm : c ≤ maxLen) :
    Tells Try.prog 14 #[dpt y, .slice A (layF f).length c, .int .i64 now] W fun v k w' => k = 0 ∧ ∃ us, LLu w' v [l] us ∧ ∃ V' hd' F', Two w w' x { y with t := takeT y.t (ackX y.t.i.x 0 now V') (put y.t.i.f 1 l) 2 hd' F' } ∧
      (∀ g, (v.ownBlock = some g ∨ ∃ i, i < 1 ∧ (us.getD i undef).ownBlock = some g) → ¬ x.F g ∧ ¬ De.F { y with t := takeT y.t (ackX y.t.i.x 0 now V') (put y.t.i.f 1 l) 2 hd' F' } g) ∧ Mv y.F (De.F { y with t := takeT y.t (ackX y.t.i.x 0 now V') (put y.t.i.f 1 l) 2 hd' F' }) W w' := by
  have hu := h.d.dm.tk.up hst
  have hb : ackB y.t.i.x f.ac now = true := by unfold ackB; rw [hac, ht]; simp
  refine (dm_data h.d h.sz hst hI f he hty hse hbo now ht hb A c hr hc hcm).mono ?_
  rintro e w' ⟨v, k, rfl, rfl, V', n', hd', F', vs, hV, h1, h2, h3, h4, h5, h6, h7, h8⟩
  have hsz := h.d.dm.tk.sz
  have hcd : cd y.t.i.f y.t.i.n y.t.sz f.sq = 0 := by
    rw [hsq, hn, hf]
    unfold cd
    rw [if_neg (by omega), if_neg (by simp [hasI]), if_neg (by omega)]
  have hnf : nf y.t.i.f y.t.i.n y.t.sz f.sq f.bd = put y.t.i.f 1 l := by rw [nf_put _ _ _ _ _ hcd, hsq, hbd]; rfl
  rw [hnf] at h5 h7 h8
  rw [hac] at h7 h8
  rw [hn] at h1 h2 h3 h4 h5
  have hin : InbAt w' y.t.i.b y.t.sz (put y.t.i.f 1 l) n' hd' F' := (h7.dm.tk.up hst).inb
  have hp1 : put y.t.i.f 1 l 1 = some l := by unfold put; simp
  have hp2 : put y.t.i.f 1 l 2 = none := by unfold put; simp [hf]
  have e1 : n' = 2 := by
    have q1 := hin.next_le (k := 2) (by omega) hp2
    have q2 := hin.2
    rcases (show n' = 1 ∨ n' = 2 by omega) with e | e
    · rw [e, hp1] at q2; cases q2
    · exact e
  subst e1
  refine ⟨v, 0, rfl, rfl, vs, ⟨h4, fun i hi => ?_, fun i j k hij hj _ _ => ?_⟩, V', hd', F', h.stepD h7 h8, fun g hg => ?_, h8⟩
  · obtain rfl : i = 0 := by simp at hi; omega
    obtain ⟨l', e1, e2⟩ := h5.own 0 (by omega)
    rw [show 1 + 0 = 1 from rfl, hp1] at e1
    cases e1
    exact e2
  · simp at hj; omega
  · have hG : ((y.t.i.F g ∧ g ≠ y.t.i.b) ∨ W.heap.size ≤ g) ∧ ¬ F' g := by
      rcases hg with hg | ⟨i, hi, hg⟩
      · exact ⟨.inr (h6 g hg).1, (h6 g hg).2⟩
      · exact h5.blk i g (by omega) hg
    have hFl : ∀ k, y.t.i.F k → y.F k := fun k hk => .inr (.inl (.inr ⟨hst, .inr hk⟩))
    refine ⟨fun hx => ?_, fun hy => ?_⟩
    · rcases hG.1 with e | e
      · exact h.dj g hx (hFl g e.1)
      · have := h.a.lt g hx; omega
    · rcases hy with hy | hy | hy
      · have hy : g = y.lb := hy
        rcases hG.1 with e | e
        · exact h.d.ne (hy ▸ (.inl (.inr ⟨hst, .inr e.1⟩) : MeD y.o y.t y.rv g))
        · have := h.d.lt g (.inl hy); omega
      · rcases hy with hy | ⟨_, hy | hy⟩
        · have hy : g = y.o := hy
          rcases hG.1 with e | e
          · exact hu.oX (hy ▸ e.1)
          · have := h.d.dm.tk.hat.lt; omega
        · have hy : Mine y.t.i.g y.t.i.x g := by
            exact Mine.pop (x := y.t.i.x) hV hy
          rcases hG.1 with e | e
          · exact hu.ap g hy e.1
          · have := hu.win.lt hy; omega
        · exact hG.2 hy
      · have hy : y.rv.ownBlock = some g := hy
        rcases hG.1 with e | e
        · exact h.d.dm.ap g hy (.inr ⟨hst, .inr e.1⟩)
        · have := h.d.dm.own.lt g hy; omega
end Go.Proofs.Ytokembhfebnjpaa
/- Chapter 15: a body and an Ack go over; ends, joined, awake. (Written by wip/lnx.py.) -/
namespace Go.Proofs.Ytokembhfebnjpaa
set_option maxRecDepth 20000
open Go.RowKit Flt
set_option linter.unusedVariables false
set_option linter.unusedSimpArgs false
theorem me_due2 {o k now : Nat} {t : Tk} : Me o (dueT t now) k ↔ Me o t k := by
  refine ⟨me_due, fun h => ?_⟩
  rcases h with h | ⟨e, h | h⟩
  · exact .inl h
  · exact .inr ⟨e, .inl ((st_mine t.i.g (atW t.i.x now) (dueI (atW t.i.x now)) k).2 h)⟩
  · exact .inr ⟨e, .inr h⟩
theorem af_due {x : Ae} {now I' g : Nat} : Ae.F { x with t := dueT x.t now, I := I' } g ↔ x.F g := or_congr Iff.rfl me_due2
theorem dat_due {x : Ae} {u : Tp} {l : List Int} (h1 : u.seq = 1) (h2 : u.body = l) (hn : x.t.i.n = 1) (he : errF ⟨3, x.t.se, x.t.bo, 1, 0, l⟩ = 0) : dueL x.t [] [u] = [layF ⟨3, x.t.se, x.t.bo, 1, 0, l⟩] := by
  have e : datF x.t.se x.t.bo 0 u = ⟨3, x.t.se, x.t.bo, 1, 0, l⟩ := by unfold datF; rw [h1, h2]; rfl
  unfold dueL
  rw [hn, if_neg (by simp)]
  show layP [] (datF x.t.se x.t.bo 0 u) = _
  rw [e, layP_one he]
/-- The first body goes over, from an agent's end. -/
theorem over_dat {w W : World} {x : Ae} {y : De} (h : Two w W x y) (la ld : Nat) (hla : x.lb = la) (hld : y.lb = ld) (hxt : x.t.st = 2) (hyt : y.t.st = 2) (hse : 1 ≤ x.t.se) (hss : y.t.se = x.t.se) (hbo : 1 ≤ x.t.bo) (hbb : y.t.bo = x.t.bo) (hxI : x.I ≤ 1000000) (hyI : y.I ≤ 1000000) {l : List Int} {m : Nat} (hW : W1 x.t.i.x 1 l m) (hll : l.length ≤ 1400) (hxn : x.t.i.n = 1)
    (hf : y.t.i.f = fun _ => none) (hn : y.t.i.n = 1) (now : Nat) (q : Int) (hq : (now : Int) = q) (ht : now ≤ 2147483647) :
    Calls Try.prog 10 #[.pointer (some ⟨la, 0, none⟩), .pointer (some ⟨ld, 0, none⟩), .int .i64 q] W fun e w' => ∃ a c us, e = .returned (.tuple #[.slice a 1 c, .bool true]) ∧ LLu w' (.slice a 1 c) [l] us ∧ ∃ V' hd' F', Two w w' { x with t := dueT x.t now, I := x.I + 1 } { y with t := takeT y.t (ackX y.t.i.x 0 now V') (put y.t.i.f 1 l) 2 hd' F' } ∧
      (∀ g, ((Value.slice a 1 c).ownBlock = some g ∨ ∃ i, i < 1 ∧ (us.getD i undef).ownBlock = some g) → ¬ x.F g ∧ ¬ De.F { y with t := takeT y.t (ackX y.t.i.x 0 now V') (put y.t.i.f 1 l) 2 hd' F' } g) := by
  subst hla; subst hld; subst hq
  have he : errF ⟨3, x.t.se, x.t.bo, 1, 0, l⟩ = 0 := errF_dat (q := 1) (a := 0) hse h.a.tk.se hbo h.a.tk.bo (by omega) (by omega) (by omega) hll
  refine (over_one (now : Int) (layF ⟨3, x.t.se, x.t.bo, 1, 0, l⟩) [l] (by simp) (Q1 := fun w' => Two w w' { x with t := dueT x.t now, I := x.I + 1 } y) (Q2 := fun us w' => ∃ V' hd' F', Two w w' { x with t := dueT x.t now, I := x.I + 1 } { y with t := takeT y.t (ackX y.t.i.x 0 now V') (put y.t.i.f 1 l) 2 hd' F' } ∧
      (∀ g, (∃ i, i < 1 ∧ (us.getD i undef).ownBlock = some g) → ¬ x.F g ∧ ¬ De.F { y with t := takeT y.t (ackX y.t.i.x 0 now V') (put y.t.i.f 1 l) 2 hd' F' } g)) ?_ ?_).mono ?_
  · refine (ag_tick_up h.a h.sz hxt hxI now ht).mono ?_
    rintro e w' ⟨v, rfl, vs, l8, h0, h1, h2, h3⟩
    obtain ⟨u, rfl, hu1, hu2⟩ := (hW.due now).2.1 l8 h0
    rw [dat_due hu1 hu2 hxn he] at h1
    exact ⟨v, rfl, _, vs, h1, h.stepA h2 h3⟩
  · intro w1 A c h1 hr hc hcm
    refine (dm_first h1 hyt hyI ⟨3, x.t.se, x.t.bo, 1, 0, l⟩ l he rfl (by show (x.t.se : Int) = y.t.se; rw [hss]) (by show (x.t.bo : Int) = y.t.bo; rw [hbb]) rfl rfl rfl hf hn now (timeN ht) A c hr hc hcm).mono ?_
    rintro e w' ⟨v, k, rfl, rfl, us, h2, V', hd', F', h3, h4, _⟩
    refine ⟨_, _, rfl, rfl, us, h2, V', hd', F', h3, fun g hg => ?_⟩
    obtain ⟨h5, h6⟩ := h4 g (.inr hg)
    exact ⟨fun hx => h5 (af_due.2 hx), h6⟩
  · rintro e w' ⟨a, c, us, w3, rfl, h1, ⟨V', hd', F', h2, h3⟩, h4, h5⟩
    refine ⟨a, c, us, rfl, h1.u, V', hd', F', h2.kp0 h4, fun g hg => ?_⟩
    rcases hg with hg | hg
    · have := h5 g hg
      exact ⟨fun e => by have := h2.a.lt g (af_due.2 e); omega, fun e => by have := h2.d.lt g e; omega⟩
    · exact h3 g hg
theorem ack_due {y : De} {n : Nat} (hw : y.wel = false) (hr : y.rs = []) (ho : y.t.owed = true) (hn : y.t.i.n = n + 1) (he : errF ⟨4, y.t.se, y.t.bo, 0, n, []⟩ = 0) : dueL y.t (rstL y.t.bo (welL y) y.rs) [] = [layF ⟨4, y.t.se, y.t.bo, 0, n, []⟩] := by
  unfold dueL welL
  rw [hw, hr, ho, if_pos ⟨rfl, rfl⟩, hn]
  exact layP_one he
/-- An Ack goes over. -/
theorem over_ack {w W : World} {x : Ae} {y : De} (h : Two w W x y) (la ld : Nat) (hla : x.lb = la) (hld : y.lb = ld) (hxt : x.t.st = 2) (hyt : y.t.st = 2) (hse : 1 ≤ x.t.se) (hss : y.t.se = x.t.se) (hbo : 1 ≤ x.t.bo) (hbb : y.t.bo = x.t.bo) (hxI : x.I ≤ 1000000) (hyI : y.I ≤ 1000000) (hw : y.wel = false) (hrs : y.rs = []) (ho : y.t.owed = true) (n : Nat) (hn : y.t.i.n = n + 1) (hnb : n ≤ 2147483647) (hnl : n ≤ x.t.i.x.last) {m : Nat} (hE : WE y.t.i.x m) (now : Nat) (q : Int) (hq : (now : Int) = q) (ht : now ≤ 2147483647) :
    Calls Try.prog 10 #[.pointer (some ⟨ld, 0, none⟩), .pointer (some ⟨la, 0, none⟩), .int .i64 q] W fun e w' => ∃ a c, e = .returned (.tuple #[.slice a 0 c, .bool true]) ∧ Kp (fun k => x.F k ∨ y.F k) W w' ∧ ∃ V', Two w w' { x with t := ackT x.t (ackX x.t.i.x n now V') } { y with t := dueT y.t now, wel := false, rv := .slice none 0 0, rs := [], I := y.I + 1 } := by
  subst hla; subst hld; subst hq
  have he : errF ⟨4, x.t.se, x.t.bo, 0, n, []⟩ = 0 := errF_ack hse h.a.tk.se hbo h.a.tk.bo hnb
  have hb : ackB x.t.i.x n now = true := by unfold ackB; rw [timeN ht]; simp; omega
  refine (over_one (now : Int) (layF ⟨4, x.t.se, x.t.bo, 0, n, []⟩) [] (Nat.zero_le _) (Q1 := fun w' => Two w w' x { y with t := dueT y.t now, wel := false, rv := .slice none 0 0, rs := [], I := y.I + 1 } ∧ Kp (fun k => x.F k ∨ y.F k) W w') (Q2 := fun us w' => Kp (fun k => x.F k ∨ y.F k) W w' ∧ ∃ V', Two w w' { x with t := ackT x.t (ackX x.t.i.x n now V') } { y with t := dueT y.t now, wel := false, rv := .slice none 0 0, rs := [], I := y.I + 1 }) ?_ ?_).mono ?_
  · refine (dm_tick h.d h.sz hyt hyI (fun s hs => by rw [hrs] at hs; cases hs) now ht).mono ?_
    rintro e w' ⟨v, rfl, vs, l8, h0, h1, h2, h3⟩
    rw [(hE.due now).1] at h0
    rw [tel_nil h0, ack_due hw hrs ho hn (by rw [hss, hbb]; exact he), hss, hbb] at h1
    exact ⟨v, rfl, _, vs, h1, h.stepD h2 h3, h3.kp.mono (fun i _ e => .inr e)⟩
  · rintro w1 A c ⟨h1, hk⟩ hr hc hcm
    refine (ag_ack h1.a h1.sz hxt hxI n hnb hse hbo now (timeN ht) hb A c hr hc hcm).mono ?_
    rintro e w' ⟨v, k, rfl, rfl, rfl, V', h2, h3⟩
    exact ⟨_, _, rfl, rfl, [], LLu.nil w', hk.trans (h3.kp.mono (fun i _ e => .inl e)), V', h1.stepA h2 h3⟩
  · rintro e w' ⟨a, c, us, w3, rfl, h1, ⟨hk, V', h2⟩, h3, h4⟩
    exact ⟨a, c, rfl, hk.trans (h3.mono (fun _ _ h => h.elim)), V', h2.kp0 h3⟩
/-- Ends that are made. -/
def ae0 (lb o s z : Nat) : Ae := ⟨lb, o, agT s z, false, 0, 0⟩
def de0 (lb o b z : Nat) : De := ⟨lb, o, dmT b z, false, .slice none 0 0, [], 0⟩
theorem ae0_F {lb o s z k : Nat} (h : (ae0 lb o s z).F k) : k = lb ∨ k = o := by
  rcases h with h | h | ⟨e, _⟩
  · exact .inl h
  · exact .inr h
  · exact absurd (show (1 : Nat) = 2 from e) (by decide)
theorem de0_F {lb o s z k : Nat} (h : (de0 lb o s z).F k) : k = lb ∨ k = o := by
  rcases h with h | (h | ⟨e, _⟩) | h
  · exact .inl h
  · exact .inr h
  · exact absurd (show (3 : Nat) = 2 from e) (by decide)
  · cases h
theorem ag_new (s z : Nat) (qs qz : Int) (hs : (s : Int) = qs) (hz : (z : Int) = qz) (w : World) (h : fitB s z = true) (B : Nat) (hB : B ≤ w.heap.size) :
    Calls Try.prog 8 #[.int .i64 qs, .int .i64 qz] w fun e w' => ∃ lb o, e = .returned (.tuple #[.pointer (some ⟨lb, 0, none⟩), .int .i64 0]) ∧ AgS w' B (ae0 lb o s z) ∧ (∀ k, (ae0 lb o s z).F k → w.heap.size ≤ k) ∧ Kp (fun _ => False) w w' := by
  subst hs; subst hz
  refine (agent_ok s z w h).mono ?_
  rintro e w' ⟨lb, o, rfl, h1, h2, h3, h4, h5, k⟩
  refine ⟨lb, o, rfl, ⟨h1, h2, fun e => ?_, fun k hk => ?_⟩, fun k hk => ?_, k⟩
  · rcases ae0_F (.inr e : (ae0 lb o s z).F lb) with _ | e'
    · rcases e with e | ⟨e, _⟩
      · exact h5 e
      · exact absurd (show (1 : Nat) = 2 from e) (by decide)
    · exact h5 e'
  · rcases ae0_F hk with rfl | rfl <;> omega
  · rcases ae0_F hk with rfl | rfl <;> omega
theorem dm_new (s z : Nat) (qs qz : Int) (hs : (s : Int) = qs) (hz : (z : Int) = qz) (w : World) (h : fitB s z = true) (B : Nat) (hB : B ≤ w.heap.size) :
    Calls Try.prog 9 #[.int .i64 qs, .int .i64 qz] w fun e w' => ∃ lb o, e = .returned (.tuple #[.pointer (some ⟨lb, 0, none⟩), .int .i64 0]) ∧ DmS w' B (de0 lb o s z) ∧ (∀ k, (de0 lb o s z).F k → w.heap.size ≤ k) ∧ Kp (fun _ => False) w w' := by
  subst hs; subst hz
  refine (daemon_ok s z w h).mono ?_
  rintro e w' ⟨lb, o, rfl, h1, h2, h3, h4, h5, k⟩
  refine ⟨lb, o, rfl, ⟨h1, h2, fun e => ?_, fun k hk => ?_⟩, fun k hk => ?_, k⟩
  · rcases e with (e | ⟨e, _⟩) | e
    · exact h5 e
    · exact absurd (show (3 : Nat) = 2 from e) (by decide)
    · cases e
  · rcases de0_F hk with rfl | rfl <;> omega
  · rcases de0_F hk with rfl | rfl <;> omega
set_option maxHeartbeats 1000000 in
theorem ends_any (z : Nat) (q : Int) (hq : (z : Int) = q) (hz : 1 ≤ z ∧ z ≤ 64) (w : World) :
    Calls Try.prog 18 #[.int .i64 q] w fun e w' => ∃ la oa ld od, e = .returned (.tuple #[.pointer (some ⟨la, 0, none⟩), .pointer (some ⟨ld, 0, none⟩), .bool true]) ∧ Two w w' (ae0 la oa 5 z) (de0 ld od 9 z) := by
  have hf5 : fitB (5 : Nat) z = true := by unfold fitB; simp; omega
  have hf9 : fitB (9 : Nat) z = true := by unfold fitB; simp; omega
  have CA := Lib.hid (ag_new 5 z 5 q rfl hq w hf5 w.heap.size (Nat.le_refl _))
  have CD := Lib.hid (fun (w1 : World) (k : Kp (fun _ => False) w w1) => dm_new 9 z 9 q rfl hq w1 hf9 w.heap.size k.size)
  clear hf5 hf9 hq hz
  go_enter Try.func18, Try.ntmps18
  go_wp2_with fail
  go_at_call 8
  refine CA.out.mono ?_
  rintro e w1 ⟨la, oa, rfl, h1, h2, k1⟩
  have CD1 := Lib.hid (CD.out w1 k1)
  have H1 := Lib.hid (And.intro h1 (And.intro h2 k1))
  clear h1 h2 k1 CD
  go_wp2_with fail
  go_at_call 9
  refine CD1.out.mono ?_
  rintro e w2 ⟨ld, od, rfl, h3, h4, k2⟩
  have H2 := Lib.hid (And.intro h3 (And.intro h4 k2))
  clear h3 h4 k2 CD1
  go_wp2_with fail
  go_ret3
  have hT : Two w w2 (ae0 la oa 5 z) (de0 ld od 9 z) := ⟨H1.out.1.kp0 H2.out.2.2, H2.out.1, fun k h1 h2 => by
    have := H1.out.1.lt k h1
    have := H2.out.2.1 k h2
    omega, H1.out.2.2.trans H2.out.2.2⟩
  exact ⟨la, oa, ld, od, rfl, hT⟩
end Go.Proofs.Ytokembhfebnjpaa
/- Chapter 15: joined, awake. (Written by wip/lny.py.) -/
namespace Go.Proofs.Ytokembhfebnjpaa
set_option maxRecDepth 20000
open Go.RowKit Flt
set_option linter.unusedVariables false
set_option linter.unusedSimpArgs false
/-- Two ends that are up, and nothing is under way. -/
structure Jn (la ld : Nat) (x : Ae) (y : De) (z b : Nat) : Prop where
  xl : x.lb = la
  yl : y.lb = ld
  xst : x.t.st = 2
  xse : x.t.se = 5
  xbo : x.t.bo = b
  xsz : x.t.sz = z
  xE : WE x.t.i.x 0
  xn : x.t.i.n = 1
  xI : x.I = 0
  yst : y.t.st = 2
  yse : y.t.se = 5
  ybo : y.t.bo = b
  ysz : y.t.sz = z
  yE : WE y.t.i.x 0
  yo : y.t.owed = false
  yf : y.t.i.f = fun _ => none
  yn : y.t.i.n = 1
  yI : y.I = 1
  yw : y.wel = false
  yr : y.rs = []
theorem jn_of (la oa ld od z b g1 b1 g2 b2 : Nat) : Jn la ld { ae0 la oa 5 z with sent := true, at_ := 0, t := upT { (ae0 la oa 5 z).t with bo := b } g2 b2 } { de0 ld od b z with t := dueT (upT { (de0 ld od b z).t with se := 5 } g1 b1) 0, wel := false, rv := .slice none 0 0, rs := [], I := 1 } z b :=
  ⟨rfl, rfl, rfl, rfl, rfl, rfl, WE.new z, rfl, rfl, rfl, rfl, rfl, rfl, ((WE.new z).due 0).2, rfl, rfl, rfl, rfl, rfl, rfl⟩
set_option maxHeartbeats 2000000 in
theorem joined_any (z : Nat) (q : Int) (hq : (z : Int) = q) (hz : 1 ≤ z ∧ z ≤ 64) (w : World) :
    Calls Try.prog 19 #[.int .i64 q] w fun e w' => ∃ la ld x y, e = .returned (.tuple #[.pointer (some ⟨la, 0, none⟩), .pointer (some ⟨ld, 0, none⟩), .bool true]) ∧ Jn la ld x y z 9 ∧ Two w w' x y := by
  have CE := Lib.hid (ends_any z q hq hz w)
  clear hq hz
  go_enter Try.func19, Try.ntmps19
  go_wp2_with fail
  go_at_call 18
  refine CE.out.mono ?_
  rintro e w1 ⟨la, oa, ld, od, rfl, h1⟩
  have C2 := Lib.hid (over_syn h1 la ld rfl rfl rfl rfl (by show 1 ≤ 5; omega) (by show 0 < 5; omega) 0 0 rfl (by omega))
  clear h1 CE
  go_wp2_with fail
  go_at_call 10
  refine C2.out.mono ?_
  rintro e w2 ⟨a1, c1, rfl, g1, b1, h2⟩
  have C3 := Lib.hid (over_wel h2 la ld rfl rfl rfl rfl (by show 1 ≤ 5; omega) rfl (by show 1 ≤ 9; omega) rfl rfl rfl (by show 0 ≤ _; omega) (WE.new z) 0 0 rfl (by omega))
  clear h2 C2
  go_wp2_with fail
  go_at_call 10
  refine C3.out.mono ?_
  rintro e w3 ⟨a2, c2, rfl, g2, b2, h3⟩
  have H3 := Lib.hid h3
  have CA : Calls Try.prog 16 #[.pointer (some ⟨la, 0, none⟩)] w3 fun e w' => e = .returned (.int .i64 2) ∧ w3 = w' := lstate_a h3.a.lk h3.a.tk
  have CD : Calls Try.prog 16 #[.pointer (some ⟨ld, 0, none⟩)] w3 fun e w' => e = .returned (.int .i64 2) ∧ w3 = w' := lstate_d h3.d.lk h3.d.dm.tk
  have CB : Calls Try.prog 11 #[.pointer (some ⟨la, 0, none⟩)] w3 fun e w' => e = .returned (.int .i64 9) ∧ w3 = w' := lboot_a h3.a.lk h3.a.tk
  have CS : Calls Try.prog 21 #[.pointer (some ⟨ld, 0, none⟩)] w3 fun e w' => e = .returned (.int .i64 5) ∧ w3 = w' := lsession_d h3.d.lk h3.d.dm.tk
  have CA := Lib.hid CA
  have CD := Lib.hid CD
  have CB := Lib.hid CB
  have CS := Lib.hid CS
  clear h3 C3
  go_wp2_with (first | (go_at_call 16; (with_reducible refine CA.out.mono ?_); rintro e w' ⟨rfl, rfl⟩) | (go_at_call 16; (with_reducible refine CD.out.mono ?_); rintro e w' ⟨rfl, rfl⟩) | (go_at_call 11; (with_reducible refine CB.out.mono ?_); rintro e w' ⟨rfl, rfl⟩) | (go_at_call 21; (with_reducible refine CS.out.mono ?_); rintro e w' ⟨rfl, rfl⟩))
  go_ret3
  exact ⟨la, ld, _, _, rfl, jn_of la oa ld od z 9 g1 b1 g2 b2, H3.out⟩
/-- After a body of an agent's end came, and the Ack of it: what the two ends have. -/
theorem goneN_one {x : Wn} (h : x.l.length = 1) (hl : x.last = 1) : goneN x 1 = 1 := by unfold goneN; omega
theorem lopen_zero {lb o I : Nat} {t : Tk} {ext : List Value} {w : World} (h : LkC w lb 54 o) (hk : TkC w o t ext I) (hst : t.st = 2) (hl : t.i.x.l = []) : Calls Try.prog 22 #[.pointer (some ⟨lb, 0, none⟩)] w fun e w' => e = .returned (.int .i64 0) ∧ w = w' := by
  have := lopen_aup h hk hst
  rw [hl] at this
  exact this
set_option maxHeartbeats 4000000 in
theorem awake_any (w : World) : Calls Try.prog 7 #[] w fun e w' => e = .returned (.bool true) ∧ Kp (fun _ => False) w w' := by
  have CJ := Lib.hid (joined_any 4 4 rfl (by omega) w)
  have kc := fun (w : World) (C : Array Value) (n c : Nat) => kc_any w C n c
  go_enter Try.func7, Try.ntmps7
  go_wp2_with fail
  go_at_call 19
  refine CJ.out.mono ?_
  rintro e w1 ⟨la, ld, x, y, rfl, j, h1⟩
  obtain rfl := j.xl
  obtain rfl := j.yl
  obtain ⟨m1, hm1⟩ : ∃ m, m = w1.alloc (.cells #[.int .u8 120] 5 (1, 2)) := ⟨_, rfl⟩
  have km1 : Kp (fun _ => False) w1 m1 := by rw [hm1]; exact (Kp.refl _ w1).alloc _
  have rm1 : RdB m1 (some ⟨w1.heap.size, 0, none⟩) [120] := by rw [hm1]; exact rdb_mark w1 [120] (by intro z hz; simp at hz; omega) (by simp) _ _
  have hm := h1.kp0 km1
  have CS := ag_send hm.a hm.sz j.xst (by rw [j.xI]; omega) (some ⟨w1.heap.size, 0, none⟩) 1 1 [120] rfl rm1 (by omega) (by rw [j.xE.1, j.xsz]; decide)
  rw [hm1] at CS
  have CS := Lib.hid CS
  have HJ := Lib.hid (And.intro j (h1.kp0 km1))
  have HM := Lib.hid hm1
  clear j h1 km1 rm1 hm hm1 CJ
  go_wp2_with fail
  go_at_call 12
  refine CS.out.mono ?_
  rintro e w2 ⟨rfl, p, V, h1, h2, h3, h4, h5⟩
  rw [← HM.out] at h5
  have hT := HJ.out.2.stepA h4 h5
  have j := HJ.out.1
  have hW : W1 (sendT x.t p V).i.x 1 [120] 1 := j.xE.push (q := 0) h1 h2 h3
  have C2 := Lib.hid (over_dat hT x.lb y.lb rfl rfl j.xst j.yst (by show 1 ≤ x.t.se; rw [j.xse]; omega) (by show y.t.se = x.t.se; rw [j.yse, j.xse]) (by show 1 ≤ x.t.bo; rw [j.xbo]; omega) (by show y.t.bo = x.t.bo; rw [j.ybo, j.xbo]) (by show x.I + 1 ≤ _; rw [j.xI]; omega) (by rw [j.yI]; omega) hW (by simp) j.xn j.yf j.yn 3 3 rfl (by omega))
  have HW := Lib.hid hW
  have HJ := Lib.hid j
  clear h1 h2 h3 h4 h5 hT j hW CS
  go_wp2_with fail
  go_at_call 10
  refine C2.out.mono ?_
  rintro e w3 ⟨a1, c1, us, rfl, hu, V', hd', F', h2, hb⟩
  have j := HJ.out
  have hd := (HW.out.due 3).2.2
  have C3 := over_ack h2 x.lb y.lb rfl rfl j.xst j.yst (by show 1 ≤ x.t.se; rw [j.xse]; omega) (by show y.t.se = x.t.se; rw [j.yse, j.xse]) (by show 1 ≤ x.t.bo; rw [j.xbo]; omega) (by show y.t.bo = x.t.bo; rw [j.ybo, j.xbo]) (by show x.I + 1 + 1 ≤ _; rw [j.xI]; omega) (by show y.I ≤ _; rw [j.yI]; omega) j.yw j.yr rfl 1 rfl (by omega) (by show 1 ≤ (dueW (atW (sendT x.t p V).i.x 3)).last; rw [hd.2]; omega) (m := 0) (by show WE (ackX y.t.i.x 0 3 V') 0; exact ⟨by show List.drop _ y.t.i.x.l = []; rw [j.yE.1]; simp, j.yE.2⟩) 5 5 rfl (by omega)
  have C3 := Lib.hid C3
  have HU := Lib.hid (And.intro hu hb)
  clear h2 hu hb j hd C2
  go_wp2_with fail
  go_at_call 10
  refine C3.out.mono ?_
  rintro e w4 ⟨a2, c2, rfl, hk, V2, h4⟩
  have j := HJ.out
  obtain ⟨hd1, hd2⟩ := (HW.out.due 3).2.2
  have hl1 : RdL w4 a1 [[120]] := (HU.out.1.kp hk (fun g hg e => e.elim (fun e => (HU.out.2 g (.inl hg)).1 (af_due.1 e)) (HU.out.2 g (.inl hg)).2) (fun i g hi hg e => e.elim (fun e => (HU.out.2 g (.inr ⟨i, hi, hg⟩)).1 (af_due.1 e)) (HU.out.2 g (.inr ⟨i, hi, hg⟩)).2)).rdl
  have H4 := Lib.hid (And.intro h4 hl1)
  obtain ⟨m2, hm2⟩ : ∃ m, m = w4.alloc (.cells #[.int .u8 120] 5 (1, 2)) := ⟨_, rfl⟩
  obtain ⟨m3, hm3⟩ : ∃ m, m = m2.alloc (.cells #[.slice (some ⟨w4.heap.size, 0, none⟩) 1 1] 22) := ⟨_, rfl⟩
  have km2 : Kp (fun _ => False) w4 m2 := by rw [hm2]; exact (Kp.refl _ w4).alloc _
  have km3 : Kp (fun _ => False) m2 m3 := by rw [hm3]; exact (Kp.refl _ m2).alloc _
  have rm2 : RdB m2 (some ⟨w4.heap.size, 0, none⟩) [120] := by rw [hm2]; exact rdb_mark w4 [120] (by intro z hz; simp at hz; omega) (by simp) _ _
  have rl3 : RdL m3 (some ⟨m2.heap.size, 0, none⟩) [[120]] := fun i hi => by
    obtain rfl : i = 0 := by simp at hi; omega
    exact ⟨m2.heap.size, 0, some ⟨w4.heap.size, 0, none⟩, 1, rfl, by rw [hm3]; exact (At.new m2 [.slice (some ⟨w4.heap.size, 0, none⟩) 1 1] _).cell 0, rm2.kp km3 (fun _ _ h => h), Nat.le_refl _⟩
  have CL := samelists_any a1 (some ⟨m2.heap.size, 0, none⟩) 1 1 c1 1 [[120]] [[120]] m3 (hl1.kp0 (km2.trans km3) (fun _ _ h => h)) rl3 rfl rfl (by omega)
  rw [decide_eq_true rfl] at CL
  have h44 := h4.kp0 (km2.trans km3)
  have CO : ∀ w', Kp (fun _ => False) m3 w' → Calls Try.prog 22 #[.pointer (some ⟨x.lb, 0, none⟩)] w' fun e w'' => e = .returned (.int .i64 0) ∧ w' = w'' := fun w' k => by
    have h := h44.kp0 k
    exact lopen_zero h.a.lk h.a.tk j.xst (by
      show List.drop (goneN (dueW (atW (sendT x.t p V).i.x 3)) 1) (dueW (atW (sendT x.t p V).i.x 3)).l = []
      rw [goneN_one hd1 hd2]
      exact List.eq_nil_of_length_eq_zero (by rw [List.length_drop, hd1]))
  have CG : ∀ w', Kp (fun _ => False) m3 w' → Calls Try.prog 17 #[.pointer (some ⟨y.lb, 0, none⟩)] w' fun e w'' => e = .returned (.int .i64 1) ∧ w' = w'' := fun w' k => by
    have h := h44.kp0 k
    exact j.yl ▸ (lgot_dup h.d.lk h.d.dm.tk j.yst (by show 1 ≤ 2 ∧ 2 ≤ _; omega))
  have CO := Lib.hid CO
  have CG := Lib.hid CG
  have hs2 : m2.heap.size = w4.heap.size + 1 := by rw [hm2]; simp
  rw [hs2] at CL
  rw [hm3, hm2] at CL
  have CL := Lib.hid CL
  have K4 := Lib.hid (h4.kp.trans (km2.trans km3))
  have HM := Lib.hid (And.intro hm2 hm3)
  clear hk h4 j hd1 hd2 hl1 km2 km3 rm2 rl3 h44 hs2 hm2 hm3 C3
  go_wp2_with fail
  go_at_call 20
  refine CL.out.mono ?_
  rintro e w5 ⟨rfl, k5⟩
  rw [← HM.out.1, ← HM.out.2] at k5
  have CO5 := Lib.hid (CO.out w5 k5)
  have CG5 := Lib.hid (CG.out w5 k5)
  have K5 := Lib.hid (K4.out.trans k5)
  clear k5 CO CG CL
  go_wp2_with (first | (go_at_call 22; refine CO5.out.mono ?_; rintro e w' ⟨rfl, rfl⟩) | (go_at_call 17; refine CG5.out.mono ?_; rintro e w' ⟨rfl, rfl⟩))
  go_ret
  exact ⟨rfl, K5.out⟩
end Go.Proofs.Ytokembhfebnjpaa
