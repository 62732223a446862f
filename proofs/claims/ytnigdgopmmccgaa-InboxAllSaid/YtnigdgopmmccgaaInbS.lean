/- InboxAll's state: the inbox, what is left, what came. No program in sight. -/
import Derived.Test.YtnigdgopmmccgaaInbP
namespace Go.Proofs.Ytnigdgopmmccgaa
open Go.RowKit
set_option linter.unusedVariables false
def nums (left : List Nat) : List Value := left.map fun (k : Nat) => Value.int .i64 (k : Int)
structure AllS (w wr : World) (b s : Nat) (l : List (List Int)) (f : Bodies) (n hd : Nat) (F : Nat → Prop) (left : List Nat) (vl vg : Value) (vs : List Value) : Prop where
  inb : InbAt wr b s f n hd F
  fr : ∀ g, F g → w.heap.size ≤ g
  kp : Kp (fun _ => False) w wr
  law : LeftI f l left
  lo : Own wr vl left.length 1 (nums left)
  lf : ∀ g, vl.ownBlock = some g → w.heap.size ≤ g ∧ ¬ F g
  go : Own wr vg (n - 1) 1 vs
  gf : ∀ g, vg.ownBlock = some g → w.heap.size ≤ g ∧ ¬ F g ∧ vl.ownBlock ≠ some g
  td : ∀ i, i < n - 1 → ∃ y, f (1 + i) = some y ∧ OwnB wr (vs.getD i undef) y ∧ ∀ g, (vs.getD i undef).ownBlock = some g → w.heap.size ≤ g ∧ ¬ F g ∧ vg.ownBlock ≠ some g
theorem AllS.b_in {w wr : World} {b s : Nat} {l : List (List Int)} {f : Bodies} {n hd : Nat} {F : Nat → Prop} {left : List Nat} {vl vg : Value} {vs : List Value} (h : AllS w wr b s l f n hd F left vl vg vs) : F b ∧ w.heap.size ≤ b := by
  obtain ⟨⟨c, hc⟩, _⟩ := h.inb
  exact ⟨hc.base, h.fr b hc.base⟩
theorem AllS.n1 {w wr : World} {b s : Nat} {l : List (List Int)} {f : Bodies} {n hd : Nat} {F : Nat → Prop} {left : List Nat} {vl vg : Value} {vs : List Value} (h : AllS w wr b s l f n hd F left vl vg vs) : 1 ≤ n ∧ (∀ k, 1 ≤ k → k < n → f k ≠ none) ∧ f n = none := by
  obtain ⟨⟨c, hc⟩, hn⟩ := h.inb
  exact ⟨hc.n_bd.1, hc.low, hn⟩
theorem AllS.drewN {w wr : World} {b s : Nat} {l : List (List Int)} {f : Bodies} {n hd : Nat} {F : Nat → Prop} {left : List Nat} {vl vg : Value} {vs : List Value} (h : AllS w wr b s l f n hd F left vl vg vs) (m : Nat) : AllS w (wr.drewN m) b s l f n hd F left vl vg vs := by
  have hk := (Kp.refl (fun _ => False) wr).drewN m
  exact ⟨h.inb.kp hk (fun _ _ h => h), h.fr, h.kp.drewN m, h.law, h.lo.kp hk (fun _ _ h => h), h.lf, h.go.kp hk (fun _ _ h => h), h.gf, fun i hi => by
    obtain ⟨y, h1, h2, h3⟩ := h.td i hi; exact ⟨y, h1, h2.kp hk (fun _ _ h => h), h3⟩⟩
theorem AllS.next {w wr w6 w7 w8 : World} {b s : Nat} {l : List (List Int)} {f f' : Bodies} {n n' hd hd' : Nat} {F F' : Nat → Prop} {left left' : List Nat} {vl vg vl' vg' v2 : Value} {vs vs2 : List Value} (h : AllS w wr b s l f n hd F left vl vg vs)
    (kk2 : InbAt w6 b s f' n' hd' F') (kk3 : n ≤ n') (kk5 : vs2.length = n' - n) (kk7 : Told w6 f' n vs2 (fun g => (F g ∧ g ≠ b) ∨ wr.heap.size ≤ g) F') (kk9 : ∀ g, F' g → F g ∨ wr.heap.size ≤ g) (kk1 : Kp (· = b) wr w6)
    (hf : ∀ k y, f k = some y → f' k = some y) (k67 : Kp (fun _ => False) w6 w7) (hlaw : LeftI f' l left') (hlo : Own w7 vl' left'.length 1 (nums left')) (hlf : ∀ g, vl'.ownBlock = some g → w6.heap.size ≤ g ∨ vl.ownBlock = some g)
    (hgo : Own w8 vg' (n' - 1) 1 (vs ++ vs2)) (k78 : Kp (fun k => vg.ownBlock = some k) w7 w8) (hgf : vg'.ownBlock = vg.ownBlock ∨ vg'.ownBlock = some w7.heap.size) : AllS w w8 b s l f' n' hd' F' left' vl' vg' (vs ++ vs2) := by
  obtain ⟨hFb, hwb⟩ := h.b_in
  have hn1 := h.n1.1
  have hs6 := kk1.size
  have hs7 := k67.size
  have hwr := h.kp.size
  have hF6 : ∀ g, F' g → g < w6.heap.size := fun g hg => by obtain ⟨⟨c, hc⟩, _⟩ := kk2; exact hc.lt g hg
  have hgl : ∀ g, vg.ownBlock = some g → g < wr.heap.size := h.go.lt
  have hll : ∀ g, vl.ownBlock = some g → g < wr.heap.size := h.lo.lt
  have old : ∀ g, ¬ F g → g < wr.heap.size → ¬ F' g := fun g h1 h2 h3 => by
    rcases kk9 g h3 with e | e
    · exact h1 e
    · omega
  have k68 : Kp (fun k => vg.ownBlock = some k) w6 w8 := (k67.mono (S' := fun k => vg.ownBlock = some k) (fun _ _ e => e.elim)).then k78 (fun i hi e => e)
  have k18 : Kp (fun k => k = b ∨ vg.ownBlock = some k) wr w8 := (kk1.mono (S' := fun k => k = b ∨ vg.ownBlock = some k) (fun _ _ e => .inl e)).then k68 (fun i hi e => .inr e)
  have hF' : ∀ g, F' g → vg.ownBlock ≠ some g := fun g hg e => old g (h.gf g e).2.1 (hgl g e) hg
  have hvl' : ∀ g, vl'.ownBlock = some g → w.heap.size ≤ g ∧ ¬ F' g ∧ vg.ownBlock ≠ some g := fun g hg => by
    rcases hlf g hg with e | e
    · exact ⟨by omega, fun hF => by have := hF6 g hF; omega, fun e2 => by have := hgl g e2; omega⟩
    · exact ⟨(h.lf g e).1, old g (h.lf g e).2 (hll g e), fun e2 => (h.gf g e2).2.2 e⟩
  refine ⟨kk2.kp k68 hF', fun g hg => ?_, h.kp.then k18 (fun i hi e => ?_), hlaw, hlo.kp k78 (fun g hg => (hvl' g hg).2.2), fun g hg => ⟨(hvl' g hg).1, (hvl' g hg).2.1⟩, hgo, fun g hg => ?_, fun i hi => ?_⟩
  · rcases kk9 g hg with e | e
    · exact h.fr g e
    · omega
  · rcases e with e | e
    · omega
    · have := (h.gf i e).1; omega
  · rcases hgf with e | e
    · rw [e] at hg
      exact ⟨(h.gf g hg).1, old g (h.gf g hg).2.1 (hgl g hg), fun e2 => (hvl' g e2).2.2 hg⟩
    · rw [e] at hg
      obtain rfl := Option.some.inj hg
      exact ⟨by omega, fun hF => by have := hF6 _ hF; omega, fun e2 => by have := hlo.lt _ e2; omega⟩
  · have hlen : vs.length = n - 1 := by have := h.go.1; omega
    rcases Nat.lt_or_ge i (n - 1) with hi' | hi'
    · obtain ⟨y, h1, h2, h3⟩ := h.td i hi'
      have e : (vs ++ vs2).getD i undef = vs.getD i undef := by
        rw [List.getD_eq_getElem?_getD, List.getElem?_append_left (by omega), List.getD_eq_getElem?_getD]
      rw [e]
      have hlt := h2.lt
      refine ⟨y, hf _ _ h1, h2.kp k18 (fun g hg e => ?_), fun g hg => ⟨(h3 g hg).1, old g (h3 g hg).2.1 (hlt g hg), fun e2 => ?_⟩⟩
      · rcases e with e | e
        · subst e; exact (h3 g hg).2.1 hFb
        · exact (h3 g hg).2.2 e
      · rcases hgf with e | e
        · rw [e] at e2; exact (h3 g hg).2.2 e2
        · rw [e] at e2
          obtain rfl := Option.some.inj e2
          have := hlt _ hg; omega
    · obtain ⟨j, rfl⟩ : ∃ j, i = n - 1 + j := ⟨i - (n - 1), by omega⟩
      obtain ⟨y, h1, h2⟩ := kk7.own j (by omega)
      have e : (vs ++ vs2).getD (n - 1 + j) undef = vs2.getD j undef := by
        rw [List.getD_eq_getElem?_getD, List.getElem?_append_right (by omega), hlen, Nat.add_sub_cancel_left, List.getD_eq_getElem?_getD]
      rw [e]
      have hb' := fun g hg => kk7.blk j g (by omega) hg
      have hne : ∀ g, (vs2.getD j undef).ownBlock = some g → vg.ownBlock ≠ some g := fun g hg e2 => by
        rcases (hb' g hg).1 with e3 | e3
        · exact (h.gf g e2).2.1 e3.1
        · have := hgl g e2; omega
      refine ⟨y, by rw [show 1 + (n - 1 + j) = n + j by omega]; exact h1, h2.kp k68 hne, fun g hg => ⟨?_, (hb' g hg).2, fun e2 => ?_⟩⟩
      · rcases (hb' g hg).1 with e3 | e3
        · exact h.fr g e3.1
        · omega
      · rcases hgf with e3 | e3
        · rw [e3] at e2; exact hne g hg e2
        · rw [e3] at e2
          obtain rfl := Option.some.inj e2
          have := h2.lt _ hg; omega
/-- At the end all are told. -/
theorem AllS.all {w wr : World} {b s : Nat} {l : List (List Int)} {f : Bodies} {n hd : Nat} {F : Nat → Prop} {vl : Value} {va : Option Addr} {vc : Nat} {vs : List Value} (h : AllS w wr b s l f n hd F [] vl (.slice va (n - 1) vc) vs) : n = l.length + 1 ∧ hd = 0 ∧ RdL wr va l := by
  obtain ⟨h1, hlow, hn⟩ := h.n1
  have hnl : n = l.length + 1 := h.law.done h1 hlow hn
  refine ⟨hnl, ?_, fun i hi => ?_⟩
  · rw [h.inb.cnt]
    refine cn_zero f n s (fun k k1 k2 => ?_)
    exact h.law.top k (by omega)
  · obtain ⟨y, e1, e2, _⟩ := h.td i (by omega)
    have e3 := h.law.out (1 + i) (by omega) (by omega) (by simp)
    rw [e3] at e1
    obtain rfl := Option.some.inj e1
    rw [show 1 + i - 1 = i by omega] at e2
    obtain ⟨ai, ci, e4, hr, hle⟩ := e2.form
    have hlen : vs.length = n - 1 := by have := h.go.1; omega
    obtain ⟨g, off, ha, hc⟩ := h.go.rd i (by omega)
    exact ⟨g, off, ai, ci, ha, by rw [hc, e4], hr, hle⟩
end Go.Proofs.Ytnigdgopmmccgaa
