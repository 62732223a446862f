/- Chapter 15: the frames of an agent's end. (Written by wip/lnh.py.) -/
import Derived.Test.YtokembhfebnjpaaQLnG
namespace Go.Proofs.Ytokembhfebnjpaa
set_option maxRecDepth 20000
open Go.RowKit Flt
set_option linter.unusedVariables false
set_option linter.unusedSimpArgs false
def synF (se : Nat) : Fr := ⟨1, se, 0, 0, 0, []⟩
theorem TkC.mono {W : World} {o I J : Nat} {t : Tk} {ext : List Value} (h : TkC W o t ext I) (hIJ : I ≤ J) : TkC W o t ext J :=
  { h with up := fun e => { h.up e with last := Nat.le_trans (h.up e).last hIJ, times := fun j hj => Nat.le_trans ((h.up e).times j hj) hIJ } }
theorem TkC.extS {W W' : World} {o I : Nat} {t : Tk} {ext ext' : List Value} (h : TkC W o t ext I) (ha : At W' o (talkC t ++ ext')) (k : Kp (fun k => k = o) W W') : TkC W' o t ext' I :=
  { h with hat := ha, up := fun e => (h.up e).kp k (fun j hj e' => (h.up e).oW (by have e' : j = o := e'; exact e' ▸ hj)) (fun j hj e' => (h.up e).oX (by have e' : j = o := e'; exact e' ▸ hj)) }
/-- It is open no more: what is due goes. -/
theorem atells_due {W : World} {o I : Nat} {t : Tk} {ext : List Value} (h : TkC W o t ext I) (hst : t.st ≠ 1) (now : Int) {Q : Value → World → Prop}
    (C : Calls Try.prog 75 #[.pointer (some ⟨o, 0, none⟩), .slice none 0 0, .int .i64 now] W fun e w' => ∃ v, e = .returned v ∧ Q v w') :
    Calls Try.prog 69 #[.pointer (some ⟨o, 0, none⟩), .int .i64 now] W fun e w' => ∃ v, e = .returned v ∧ Q v w' := by
  have c0 := h.c.1
  have hs1 : ¬ (t.st : Int) = 1 := by omega
  have hs2 : ((t.st : Int) != 1) = true := by simpa using hs1
  have HC := Lib.hid C
  generalize t.st = st at *
  clear h hst C
  go_enter Try.func69, Try.ntmps69
  go_wp2_with fail
  go_at_call 75
  refine HC.out.mono ?_
  rintro e w1 ⟨v, rfl, hq⟩
  have HQ := Lib.hid hq
  clear hq HC
  go_wp2_with fail
  go_ret
  exact ⟨v, rfl, HQ.out⟩
set_option maxHeartbeats 1000000 in
theorem atells_first {W : World} {o I at_ : Nat} {t : Tk} (h : TkC W o t (agX false at_) I) (hst : t.st = 1) (now : Nat) (ht : now ≤ 2147483647) :
    Calls Try.prog 69 #[.pointer (some ⟨o, 0, none⟩), .int .i64 (now : Nat)] W fun e w' => ∃ v, e = .returned v ∧ ∃ vs, LLs W.heap.size w' v (layP [] (synF t.se)) vs ∧ TkC w' o t (agX true now) I ∧ Kp (fun k => k = o) W w' := by
  obtain ⟨se, hse⟩ : ∃ se, se = t.se := ⟨_, rfl⟩
  have hseb := h.se
  rw [← hse] at hseb
  have h7 : W.cell? ⟨o, 7, none⟩ = some (.bool false) := h.hat.cell 7
  have h8 : W.cell? ⟨o, 8, none⟩ = some (.int .i64 (at_ : Nat)) := h.hat.cell 8
  have c0 : W.cell? ⟨o, 0, none⟩ = some (.int .i64 1) := by rw [h.c.1, hst]; rfl
  have g7 := h.hat.frozen 7
  have g8 := h.hat.frozen 8
  have H := Lib.hid (And.intro h hse)
  clear h hst hse
  go_enter Try.func69, Try.ntmps69
  go_upto_region 8 with fail
  have hat1 : At ((W.setCell ⟨o, 7, none⟩ (.bool true)).setCell ⟨o, 8, none⟩ (.int .i64 (now : Nat))) o (talkC t ++ agX true now) := (H.out.1.hat.set 7 (.bool true)).set 8 (.int .i64 (now : Nat))
  have k1 : Kp (fun k => k = o) W ((W.setCell ⟨o, 7, none⟩ (.bool true)).setCell ⟨o, 8, none⟩ (.int .i64 (now : Nat))) := Kp.setCell (S := fun k => k = o) (Kp.setCell (S := fun k => k = o) (Kp.refl _ W) (p := ⟨o, 7, none⟩) (fun _ => rfl) _) (p := ⟨o, 8, none⟩) (fun _ => rfl) _
  obtain ⟨W1, hW1⟩ : ∃ w1, w1 = (W.setCell ⟨o, 7, none⟩ (.bool true)).setCell ⟨o, 8, none⟩ (.int .i64 (now : Nat)) := ⟨_, rfl⟩
  rw [← hW1] at hat1 k1 ⊢
  have h1 := H.out.1.extS hat1 k1
  have e1 : W1.cell? ⟨o, 1, none⟩ = some (.int .i64 (se : Nat)) := by rw [H.out.2]; exact h1.c.2.1
  have CL := lay_any (LLs.nil W1.heap.size W1) (synF se) none 0 ⟨by show (-9223372036854775808 ≤ (se : Int)) ∧ ((se : Int) ≤ 9223372036854775807); omega, by show (-9223372036854775808 ≤ (0 : Int)) ∧ ((0 : Int) ≤ 9223372036854775807); omega, by show (-9223372036854775808 ≤ (0 : Int)) ∧ ((0 : Int) ≤ 9223372036854775807); omega, by show (-9223372036854775808 ≤ (0 : Int)) ∧ ((0 : Int) ≤ 9223372036854775807); omega⟩ (RdB.nil W1 none) (Nat.le_refl 0) (Nat.le_refl _) (by simp) (by show 0 ≤ _; omega)
  dsimp only [frA, synF, List.length_nil] at CL
  have CL := Lib.hid CL
  have hsz := k1.size
  have H1 := Lib.hid (And.intro h1 (And.intro k1 hsz))
  clear hat1 k1 hW1 h1 hsz g7 g8 h7 h8 c0
  go_wp2_with fail
  go_at_call 76
  refine CL.out.mono ?_
  rintro e w2 ⟨v2, vs2, rfl, hl2, _, k2⟩
  obtain ⟨a2, c2, e2, _⟩ := hl2.form
  obtain ⟨n2, hn2⟩ : ∃ n, n = (layP [] (synF se)).length := ⟨_, rfl⟩
  have hl2 : LLs W1.heap.size w2 v2 (layP [] (synF se)) vs2 := hl2
  have e2 : v2 = .slice a2 n2 c2 := by rw [hn2]; exact e2
  subst e2
  have k2 : Kp (fun _ => False) W1 w2 := k2.mono (fun k _ e => by cases e)
  have H2 := Lib.hid (And.intro (hl2.weaken H1.out.2.2) (And.intro (H1.out.1.kp0 k2) (H1.out.2.1.trans (k2.mono (fun _ _ h => h.elim)))))
  clear hl2 k2 hn2 CL
  go_wp2_with fail
  go_ret
  exact ⟨_, rfl, vs2, by rw [← H.out.2]; exact H2.out.1, H2.out.2.1, H2.out.2.2⟩
set_option maxHeartbeats 1000000 in
theorem atells_again {W : World} {o I at_ : Nat} {t : Tk} (h : TkC W o t (agX true at_) I) (hst : t.st = 1) (now : Nat) (ht : now ≤ 2147483647) (hw : at_ + 8 ≤ now) :
    Calls Try.prog 69 #[.pointer (some ⟨o, 0, none⟩), .int .i64 (now : Nat)] W fun e w' => ∃ v, e = .returned v ∧ ∃ vs, LLs W.heap.size w' v (layP [] (synF t.se)) vs ∧ TkC w' o t (agX true now) I ∧ Kp (fun k => k = o) W w' := by
  obtain ⟨se, hse⟩ : ∃ se, se = t.se := ⟨_, rfl⟩
  have hseb := h.se
  rw [← hse] at hseb
  have h7 : W.cell? ⟨o, 7, none⟩ = some (.bool true) := h.hat.cell 7
  have h8 : W.cell? ⟨o, 8, none⟩ = some (.int .i64 (at_ : Nat)) := h.hat.cell 8
  have c0 : W.cell? ⟨o, 0, none⟩ = some (.int .i64 1) := by rw [h.c.1, hst]; rfl
  have g7 := h.hat.frozen 7
  have g8 := h.hat.frozen 8
  have H := Lib.hid (And.intro h hse)
  clear h hst hse
  have j1 : ¬ (now : Int) < (at_ : Int) := by omega
  have j2 : (at_ : Int) ≤ (now : Int) := by omega
  have j2b : ¬ (now : Int) ≤ (at_ : Int) := by omega
  have j3 : ¬ (now : Int) - (at_ : Int) < 8 := by omega
  go_enter Try.func69, Try.ntmps69
  go_upto_region 8 with fail
  have hat1 : At ((W.setCell ⟨o, 7, none⟩ (.bool true)).setCell ⟨o, 8, none⟩ (.int .i64 (now : Nat))) o (talkC t ++ agX true now) := (H.out.1.hat.set 7 (.bool true)).set 8 (.int .i64 (now : Nat))
  have k1 : Kp (fun k => k = o) W ((W.setCell ⟨o, 7, none⟩ (.bool true)).setCell ⟨o, 8, none⟩ (.int .i64 (now : Nat))) := Kp.setCell (S := fun k => k = o) (Kp.setCell (S := fun k => k = o) (Kp.refl _ W) (p := ⟨o, 7, none⟩) (fun _ => rfl) _) (p := ⟨o, 8, none⟩) (fun _ => rfl) _
  obtain ⟨W1, hW1⟩ : ∃ w1, w1 = (W.setCell ⟨o, 7, none⟩ (.bool true)).setCell ⟨o, 8, none⟩ (.int .i64 (now : Nat)) := ⟨_, rfl⟩
  rw [← hW1] at hat1 k1 ⊢
  have h1 := H.out.1.extS hat1 k1
  have e1 : W1.cell? ⟨o, 1, none⟩ = some (.int .i64 (se : Nat)) := by rw [H.out.2]; exact h1.c.2.1
  have CL := lay_any (LLs.nil W1.heap.size W1) (synF se) none 0 ⟨by show (-9223372036854775808 ≤ (se : Int)) ∧ ((se : Int) ≤ 9223372036854775807); omega, by show (-9223372036854775808 ≤ (0 : Int)) ∧ ((0 : Int) ≤ 9223372036854775807); omega, by show (-9223372036854775808 ≤ (0 : Int)) ∧ ((0 : Int) ≤ 9223372036854775807); omega, by show (-9223372036854775808 ≤ (0 : Int)) ∧ ((0 : Int) ≤ 9223372036854775807); omega⟩ (RdB.nil W1 none) (Nat.le_refl 0) (Nat.le_refl _) (by simp) (by show 0 ≤ _; omega)
  dsimp only [frA, synF, List.length_nil] at CL
  have CL := Lib.hid CL
  have hsz := k1.size
  have H1 := Lib.hid (And.intro h1 (And.intro k1 hsz))
  clear hat1 k1 hW1 h1 hsz g7 g8 h7 h8 c0
  go_wp2_with fail
  go_at_call 76
  refine CL.out.mono ?_
  rintro e w2 ⟨v2, vs2, rfl, hl2, _, k2⟩
  obtain ⟨a2, c2, e2, _⟩ := hl2.form
  obtain ⟨n2, hn2⟩ : ∃ n, n = (layP [] (synF se)).length := ⟨_, rfl⟩
  have hl2 : LLs W1.heap.size w2 v2 (layP [] (synF se)) vs2 := hl2
  have e2 : v2 = .slice a2 n2 c2 := by rw [hn2]; exact e2
  subst e2
  have k2 : Kp (fun _ => False) W1 w2 := k2.mono (fun k _ e => by cases e)
  have H2 := Lib.hid (And.intro (hl2.weaken H1.out.2.2) (And.intro (H1.out.1.kp0 k2) (H1.out.2.1.trans (k2.mono (fun _ _ h => h.elim)))))
  clear hl2 k2 hn2 CL
  go_wp2_with fail
  go_ret
  exact ⟨_, rfl, vs2, by rw [← H.out.2]; exact H2.out.1, H2.out.2.1, H2.out.2.2⟩
set_option maxHeartbeats 1000000 in
theorem atells_wait {W : World} {o I at_ : Nat} {t : Tk} (h : TkC W o t (agX true at_) I) (hst : t.st = 1) (now : Nat) (ht : now ≤ 2147483647) (hw : now < at_ + 8) :
    Calls Try.prog 69 #[.pointer (some ⟨o, 0, none⟩), .int .i64 (now : Nat)] W fun e w' => e = .returned (.slice none 0 0) ∧ Kp (fun _ => False) W w' := by
  obtain ⟨se, hse⟩ : ∃ se, se = t.se := ⟨_, rfl⟩
  have hseb := h.se
  rw [← hse] at hseb
  have h7 : W.cell? ⟨o, 7, none⟩ = some (.bool true) := h.hat.cell 7
  have h8 : W.cell? ⟨o, 8, none⟩ = some (.int .i64 (at_ : Nat)) := h.hat.cell 8
  have c0 : W.cell? ⟨o, 0, none⟩ = some (.int .i64 1) := by rw [h.c.1, hst]; rfl
  have g7 := h.hat.frozen 7
  have g8 := h.hat.frozen 8
  have H := Lib.hid (And.intro h hse)
  clear h hst hse
  by_cases hle : now < at_
  · have j2 : ¬ (at_ : Int) ≤ (now : Int) := by omega
    have j2b : (now : Int) ≤ (at_ : Int) := by omega
    have j1 : (now : Int) < (at_ : Int) := by omega
    go_enter Try.func69, Try.ntmps69
    go_wp2_with fail
    go_ret
    exact ⟨rfl, Kp.refl _ _⟩
  · rcases Nat.lt_or_ge at_ now with hlt | hge
    · have j2 : (at_ : Int) ≤ (now : Int) := by omega
      have j2b : ¬ (now : Int) ≤ (at_ : Int) := by omega
      have j1 : ¬ (now : Int) < (at_ : Int) := by omega
      have j3 : (now : Int) - (at_ : Int) < 8 := by omega
      go_enter Try.func69, Try.ntmps69
      go_wp2_with fail
      go_ret
      exact ⟨rfl, Kp.refl _ _⟩
    · obtain rfl : at_ = now := by omega
      go_enter Try.func69, Try.ntmps69
      go_wp2_with fail
      go_ret
      exact ⟨rfl, Kp.refl _ _⟩
end Go.Proofs.Ytokembhfebnjpaa
