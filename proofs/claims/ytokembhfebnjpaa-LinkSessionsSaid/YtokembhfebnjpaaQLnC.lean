/- Chapter 15: a session begins. -/
import Derived.Test.YtokembhfebnjpaaQLnA
namespace Go.Proofs.Ytokembhfebnjpaa
set_option maxRecDepth 20000
open Go.RowKit Flt
set_option linter.unusedVariables false
/-- An end whose session begins, its window and inbox in blocks g and b. -/
def upT (t : Tk) (g b : Nat) : Tk := { t with st := 2, owed := false, wv := .pointer (some ⟨g, 0, none⟩), xv := .pointer (some ⟨b, 0, none⟩), i := ⟨g, wnew t.sz, b, fun _ => none, 1, 0, (· = b)⟩ }
theorem mine_newL {g s k : Nat} (h : Mine g (wnew s) k) : k = g := by
  rcases h with h | h | ⟨i, hi, _⟩
  · exact h
  · cases h
  · cases hi
set_option maxHeartbeats 1000000 in
theorem up_any {W : World} {o I : Nat} {t : Tk} {ext : List Value} (h : TkC W o t ext I) :
    Calls Try.prog 70 #[.pointer (some ⟨o, 0, none⟩)] W fun e w' => e = .returned (.tuple #[]) ∧ ∃ g b, TkC w' o (upT t g b) ext I ∧ W.heap.size ≤ g ∧ W.heap.size ≤ b ∧ (∀ k, Me o (upT t g b) k → k = o ∨ k = g ∨ k = b) ∧ Kp (· = o) W w' := by
  obtain ⟨c0, c1, c2, c3, c4, c5, c6⟩ := h.c
  have hoz := h.hat.lt
  have CW := Lib.hid (wnew_ok t.sz W h.sz)
  have H := Lib.hid h
  clear h
  go_enter Try.func70, Try.ntmps70
  go_wp2_with fail
  refine CW.out.mono ?_
  rintro e w1 ⟨rfl, hw, k1⟩
  obtain ⟨g, hg⟩ : ∃ g, g = W.heap.size := ⟨_, rfl⟩
  rw [← hg] at hw hoz ⊢
  have f4 := (k1.at H.out.hat (fun h => h)).frozen 4
  have d3 := (k1.at H.out.hat (fun h => h)).cell 3
  have d3 : w1.cell? ⟨o, 3, none⟩ = some (.int .i64 t.sz) := d3
  have d4 : w1.cell? ⟨o, 4, none⟩ = some t.wv := (k1.at H.out.hat (fun h => h)).cell 4
  have H1 := Lib.hid (And.intro hw (And.intro k1 hg))
  clear hw k1 hg CW c0 c1 c2 c3 c4 c5 c6
  go_upto_region 1 with fail
  have hat2 : At (w1.setCell ⟨o, 4, none⟩ (.pointer (some ⟨g, 0, none⟩))) o ((talkC t ++ ext).set 4 (.pointer (some ⟨g, 0, none⟩))) := (H1.out.2.1.at H.out.hat (fun h => h)).set 4 _
  obtain ⟨w2, hw2⟩ : ∃ w2, w2 = w1.setCell ⟨o, 4, none⟩ (.pointer (some ⟨g, 0, none⟩)) := ⟨_, rfl⟩
  have k2 : Kp (fun k => k = o) W w2 := by
    rw [hw2]
    exact Kp.setCell (S := fun k => k = o) (H1.out.2.1.mono (fun _ _ h => h.elim)) (p := ⟨o, 4, none⟩) (fun _ => rfl) _
  have hww : WinC w2 g (wnew t.sz) := by
    rw [hw2]
    refine H1.out.1.kp (Kp.setCell (S := fun k => k = o) (Kp.refl _ w1) (p := ⟨o, 4, none⟩) (fun _ => rfl) _) (fun j hj e => ?_)
    have := mine_newL hj
    have e : j = o := e
    omega
  rw [← hw2] at hat2 ⊢
  have d3 : w2.cell? ⟨o, 3, none⟩ = some (.int .i64 t.sz) := hat2.cell 3
  have CX := Lib.hid (inew_ok t.sz w2 H.out.sz)
  have H2 := Lib.hid (And.intro hat2 (And.intro k2 hww))
  have hs2 := k2.size
  clear hw2 hat2 k2 hww f4 d4
  go_wp2_with fail
  refine CX.out.mono ?_
  rintro e w3 ⟨rfl, hx, k3⟩
  obtain ⟨b, hb⟩ : ∃ b, b = w2.heap.size := ⟨_, rfl⟩
  rw [← hb] at hx ⊢
  have hat3 := k3.at H2.out.1 (fun h => h)
  have f5 := hat3.frozen 5
  have d5 : w3.cell? ⟨o, 5, none⟩ = some t.xv := hat3.cell 5
  have H3 := Lib.hid (And.intro hx (And.intro k3 (And.intro hat3 hb)))
  clear hx k3 hat3 hb CX d3
  go_upto_region 2 with fail
  have hat4 : At (w3.setCell ⟨o, 5, none⟩ (.pointer (some ⟨b, 0, none⟩))) o (((talkC t ++ ext).set 4 (.pointer (some ⟨g, 0, none⟩))).set 5 (.pointer (some ⟨b, 0, none⟩))) := H3.out.2.2.1.set 5 _
  obtain ⟨w4, hw4⟩ : ∃ w4, w4 = w3.setCell ⟨o, 5, none⟩ (.pointer (some ⟨b, 0, none⟩)) := ⟨_, rfl⟩
  have k34 : Kp (fun k => k = o) w3 w4 := by
    rw [hw4]
    exact Kp.setCell (S := fun k => k = o) (Kp.refl _ w3) (p := ⟨o, 5, none⟩) (fun _ => rfl) _
  rw [← hw4] at hat4 ⊢
  have f0 := hat4.frozen 0
  have f6 := hat4.frozen 6
  have d0 : w4.cell? ⟨o, 0, none⟩ = some (.int .i64 t.st) := hat4.cell 0
  have d6 : w4.cell? ⟨o, 6, none⟩ = some (.bool t.owed) := hat4.cell 6
  have H4 := Lib.hid (And.intro hat4 k34)
  clear hw4 hat4 k34 d5 f5
  go_wp2_with fail
  go_end0
  refine ⟨rfl, g, b, ?_, Nat.le_of_eq H1.out.2.2.symm, by have := H3.out.2.2.2; have := H1.out.2.2; omega, fun k hk => ?_, ?_⟩
  · have hat5 := (H4.out.1.set 0 (.int .i64 2)).set 6 (.bool false)
    have k45 : Kp (fun k => k = o) w4 ((w4.setCell ⟨o, 0, none⟩ (.int .i64 2)).setCell ⟨o, 6, none⟩ (.bool false)) := Kp.setCell (S := fun k => k = o) (Kp.setCell (S := fun k => k = o) (Kp.refl _ w4) (p := ⟨o, 0, none⟩) (fun _ => rfl) _) (p := ⟨o, 6, none⟩) (fun _ => rfl) _
    have k35 := H4.out.2.trans k45
    have hgo : ∀ j, j = g ∨ j = b → ¬ j = o := fun j hj e => by
      have := H3.out.2.2.2
      have := H1.out.2.2
      rcases hj with hj | hj <;> omega
    refine ⟨hat5, fun _ => ⟨rfl, rfl, (H2.out.2.2.kp0 H3.out.2.1).kp k35 (fun j hj e => hgo j (.inl (mine_newL hj)) e), Ms.start, rfl, Nat.zero_le _, Nat.le_refl _, fun j hj => absurd hj (Nat.not_lt_zero _), H3.out.1.kp k35 (fun j hj e => hgo j (.inr hj) e), fun hm => ?_, fun e => hgo b (.inr rfl) e.symm, fun k hk e => ?_⟩, H.out.se, H.out.bo, H.out.sz⟩
    · have := mine_newL hm
      exact hgo g (.inl rfl) this.symm
    · have h1 : k = g := mine_newL hk
      have h2 := H2.out.2.2.hat.lt
      have h3 := H3.out.2.2.2
      have e : k = b := e
      omega
  · rcases hk with rfl | ⟨_, hk | hk⟩
    · exact .inl rfl
    · exact .inr (.inl (mine_newL hk))
    · exact .inr (.inr hk)
  · exact (((H2.out.2.1.trans (H3.out.2.1.mono (fun _ _ h => h.elim))).trans H4.out.2)).setCell (p := ⟨o, 0, none⟩) (fun _ => rfl) _ |>.setCell (p := ⟨o, 6, none⟩) (fun _ => rfl) _
end Go.Proofs.Ytokembhfebnjpaa
