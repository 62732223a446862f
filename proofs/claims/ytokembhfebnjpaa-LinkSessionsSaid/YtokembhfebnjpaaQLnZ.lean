/- Chapter 15: values held beside two ends; a body that comes again. (Written by wip/lnz.py.) -/
import Derived.Test.YtokembhfebnjpaaQLsM
namespace Go.Proofs.Ytokembhfebnjpaa
set_option maxRecDepth 20000
open Go.RowKit Flt
set_option linter.unusedVariables false
set_option linter.unusedSimpArgs false
/-- Blocks that a statement holds, of neither end. -/
def Ap (W : World) (x : Ae) (y : De) (T : Nat → Prop) : Prop := ∀ g, T g → g < W.heap.size ∧ ¬ x.F g ∧ ¬ y.F g
theorem Ap.stepD {W W' : World} {x : Ae} {y y' : De} {T : Nat → Prop} (h : Ap W x y T) (m : Mv y.F y'.F W W') : Ap W' x y' T := fun g hg => by
  obtain ⟨h1, h2, h3⟩ := h g hg
  exact ⟨Nat.lt_of_lt_of_le h1 m.kp.size, h2, fun e => (m.nw g e).elim h3 (fun e => by omega)⟩
theorem Ap.stepA {W W' : World} {x x' : Ae} {y : De} {T : Nat → Prop} (h : Ap W x y T) (m : Mv x.F x'.F W W') : Ap W' x' y T := fun g hg => by
  obtain ⟨h1, h2, h3⟩ := h g hg
  exact ⟨Nat.lt_of_lt_of_le h1 m.kp.size, fun e => (m.nw g e).elim h2 (fun e => by omega), h3⟩
theorem Ap.kp0 {W W' : World} {x : Ae} {y : De} {T : Nat → Prop} (h : Ap W x y T) (k : Kp (fun _ => False) W W') : Ap W' x y T := fun g hg => ⟨Nat.lt_of_lt_of_le (h g hg).1 k.size, (h g hg).2⟩
theorem Ap.new {w W W' : World} {x : Ae} {y : De} {T : Nat → Prop} (h : Two w W x y) (hT : ∀ g, T g → W.heap.size ≤ g ∧ g < W'.heap.size) : Ap W' x y T := fun g hg =>
  ⟨(hT g hg).2, fun e => by have := h.a.lt g e; have := (hT g hg).1; omega, fun e => by have := h.d.lt g e; have := (hT g hg).1; omega⟩
/-- Bytes that a statement holds. -/
def Hb (W : World) (x : Ae) (y : De) (a : Option Addr) (l : List Int) : Prop := RdB W a l ∧ Ap W x y (fun g => ∃ z, a = some z ∧ z.block = g)
theorem Hb.stepD {W W' : World} {x : Ae} {y y' : De} {a : Option Addr} {l : List Int} (h : Hb W x y a l) (m : Mv y.F y'.F W W') : Hb W' x y' a l := ⟨h.1.kp m.kp (fun z hz e => (h.2 _ ⟨z, hz, rfl⟩).2.2 e), h.2.stepD m⟩
theorem Hb.stepA {W W' : World} {x x' : Ae} {y : De} {a : Option Addr} {l : List Int} (h : Hb W x y a l) (m : Mv x.F x'.F W W') : Hb W' x' y a l := ⟨h.1.kp m.kp (fun z hz e => (h.2 _ ⟨z, hz, rfl⟩).2.1 e), h.2.stepA m⟩
theorem Hb.kp0 {W W' : World} {x : Ae} {y : De} {a : Option Addr} {l : List Int} (h : Hb W x y a l) (k : Kp (fun _ => False) W W') : Hb W' x y a l := ⟨h.1.kp k (fun _ _ h => h), h.2.kp0 k⟩
theorem Hb.own {w W W' : World} {x : Ae} {y : De} (h : Two w W x y) {v : Value} {a : Option Addr} {c : Nat} {l : List Int} (ho : OwnB W' v l) (hv : v = .slice a l.length c) (hg : ∀ g, v.ownBlock = some g → W.heap.size ≤ g) (hr : RdB W' a l) : Hb W' x y a l := by
  refine ⟨hr, Ap.new h ?_⟩
  rintro g ⟨z, rfl, rfl⟩
  have e : v.ownBlock = some z.block := by rw [hv]; rfl
  exact ⟨hg _ e, ho.own.lt _ e⟩
/-- Lists of bytes that a statement holds. -/
def Hl (W : World) (x : Ae) (y : De) (v : Value) (ls : List (List Int)) (us : List Value) : Prop := LLu W v ls us ∧ Ap W x y (fun g => v.ownBlock = some g ∨ ∃ i, i < ls.length ∧ (us.getD i undef).ownBlock = some g)
theorem Hl.stepD {W W' : World} {x : Ae} {y y' : De} {v : Value} {ls : List (List Int)} {us : List Value} (h : Hl W x y v ls us) (m : Mv y.F y'.F W W') : Hl W' x y' v ls us := ⟨h.1.kp m.kp (fun g hg e => (h.2 _ (.inl hg)).2.2 e) (fun i g hi hg e => (h.2 _ (.inr ⟨i, hi, hg⟩)).2.2 e), h.2.stepD m⟩
theorem Hl.stepA {W W' : World} {x x' : Ae} {y : De} {v : Value} {ls : List (List Int)} {us : List Value} (h : Hl W x y v ls us) (m : Mv x.F x'.F W W') : Hl W' x' y v ls us := ⟨h.1.kp m.kp (fun g hg e => (h.2 _ (.inl hg)).2.1 e) (fun i g hi hg e => (h.2 _ (.inr ⟨i, hi, hg⟩)).2.1 e), h.2.stepA m⟩
theorem Hl.kp0 {W W' : World} {x : Ae} {y : De} {v : Value} {ls : List (List Int)} {us : List Value} (h : Hl W x y v ls us) (k : Kp (fun _ => False) W W') : Hl W' x y v ls us := ⟨h.1.kp0 k, h.2.kp0 k⟩
theorem LLu.lt {W : World} {v : Value} {ls : List (List Int)} {us : List Value} (h : LLu W v ls us) (g : Nat) (hg : v.ownBlock = some g ∨ ∃ i, i < ls.length ∧ (us.getD i undef).ownBlock = some g) : g < W.heap.size := by
  rcases hg with hg | ⟨i, hi, hg⟩
  · exact h.own.lt g hg
  · exact (h.each i hi).own.lt g hg
theorem Hl.of {W : World} {x : Ae} {y : De} {v : Value} {ls : List (List Int)} {us : List Value} (h : LLu W v ls us) (hn : ∀ g, (v.ownBlock = some g ∨ ∃ i, i < ls.length ∧ (us.getD i undef).ownBlock = some g) → ¬ x.F g ∧ ¬ y.F g) : Hl W x y v ls us := ⟨h, fun g hg => ⟨h.lt g hg, hn g hg⟩⟩
theorem Hl.lls {w W W' : World} {x : Ae} {y : De} {v : Value} {ls : List (List Int)} {us : List Value} (h : Two w W x y) (hl : LLs W.heap.size W' v ls us) : Hl W' x y v ls us :=
  ⟨hl.u, Ap.new h (fun g hg => ⟨hg.elim (hl.ge g) (fun ⟨i, hi, e⟩ => hl.geE i g hi e), hl.u.lt g hg⟩)⟩
/-- The first of a list of one. -/
theorem Hl.one {W : World} {x : Ae} {y : De} {a : Option Addr} {n c : Nat} {b : List Int} {us : List Value} (h : Hl W x y (.slice a n c) [b] us) : ∃ g A cA, a = some ⟨g, 0, none⟩ ∧ W.cell? ⟨g, 0, none⟩ = some (.slice A b.length cA) ∧ RdB W A b ∧ b.length ≤ cA ∧ cA ≤ maxLen := by
  obtain ⟨A, cA, e, h1, h2, h3⟩ := (h.1.each 0 (by simp)).form3
  have e1 : us.getD 0 undef = .slice A b.length cA := e
  rcases h.1.own.2 with ⟨_, h0⟩ | ⟨g, cap, sp, hv, hat, _⟩
  · simp at h0
  · have hl := h.1.own.1
    simp only [Value.slice.injEq] at hv
    refine ⟨g, A, cA, hv.1, ?_, h1, h2, h3⟩
    have hc := hat.cell 0
    rw [hc]
    rw [List.getD_eq_getElem?_getD] at e1
    cases us with
    | nil => simp at hl
    | cons u us => simpa using e1
/-- The first body's frame, at a daemon's end to which it came. -/
theorem dm_dup {w W : World} {x : Ae} {y : De} (h : Two w W x y) (hst : y.t.st = 2) (hI : y.I ≤ 1000000) (f : Fr) (he : errF f = 0) (hty : f.ty = 3) (hse : f.se = y.t.se) (hbo : f.bo = y.t.bo) (hsq : f.sq = 1) (hac : f.ac = 0) (hf1 : (y.t.i.f 1).isSome = true) (hf : y.t.i.f 2 = none) (hn : y.t.i.n = 2) (now : Int) (ht : timeB now = true) (A : Option Addr) (c : Nat) (hr : RdB W A (layF f)) (hc : (layF f).length ≤ c) (hcm : c ≤ maxLen) :
    Tells Try.prog 14 #[dpt y, .slice A (layF f).length c, .int .i64 now] W fun v k w' => k = 0 ∧ (∃ a c, v = .slice a 0 c) ∧ ∃ V' hd' F', Two w w' x { y with t := takeT y.t (ackX y.t.i.x 0 now V') y.t.i.f 2 hd' F' } ∧ Mv y.F (De.F { y with t := takeT y.t (ackX y.t.i.x 0 now V') y.t.i.f 2 hd' F' }) W w' := by
  have hb : ackB y.t.i.x f.ac now = true := by unfold ackB; rw [hac, ht]; simp
  refine (dm_data h.d h.sz hst hI f he hty hse hbo now ht hb A c hr hc hcm).mono ?_
  rintro e w' ⟨v, k, rfl, rfl, V', n', hd', F', vs, hV, h1, h2, h3, h4, h5, h6, h7, h8⟩
  have hcd : cd y.t.i.f y.t.i.n y.t.sz f.sq ≠ 0 := by
    rw [hsq, hn]
    unfold cd
    rw [if_neg (by omega), if_pos (by unfold hasI; simpa using hf1)]
    decide
  have hnf := nf_same y.t.i.f y.t.i.n y.t.sz f.sq f.bd hcd
  rw [hnf] at h5 h7 h8
  rw [hac] at h7 h8
  rw [hn] at h1 h2 h3 h4 h5
  have hin : InbAt w' y.t.i.b y.t.sz y.t.i.f n' hd' F' := (h7.dm.tk.up hst).inb
  have e1 : n' = 2 := by
    have q1 := hin.next_le (k := 2) (by omega) hf
    omega
  subst e1
  obtain ⟨a, c', e, _⟩ := h4.form
  exact ⟨v, 0, rfl, rfl, ⟨a, c', by rw [e]⟩, V', hd', F', h.stepD h7 h8, h8⟩
end Go.Proofs.Ytokembhfebnjpaa
