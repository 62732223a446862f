/- slices.Clone at []byte, whatever comes in. -/
import Derived.Test.YtgcgcdgjooaipaaApb
namespace Go.Proofs.Ytgcgcdgjooaipaa
open Go.RowKit
set_option linter.unusedVariables false
theorem clone_any (a : Option Addr) (cap : Nat) (l : List Int) (w : World) (h : RdB w a l) (hl : l.length ≤ 1000000) :
    Calls Try.prog 37 #[.slice a l.length cap] w fun e w' => ∃ v, e = .returned v ∧ OwnB w' v l ∧ (∀ g, v.ownBlock = some g → w.heap.size ≤ g) ∧ Kp (fun _ => False) w w' := by
  rcases a with _ | x
  · have hl0 : l = [] := by
      cases l with
      | nil => rfl
      | cons => obtain ⟨_, _, e, _⟩ := h.cell 0 (by simp); cases e
    subst hl0
    have hnil := Lib.run_eql_slice_nil (P := Try.prog) w
    go_enter Try.func37, Try.ntmps37
    go_wp2
    go_ret
    exact ⟨_, rfl, OwnB.nil' _, fun g hg => by simp [Value.ownBlock] at hg, Kp.refl _ _⟩
  · have hka := (Kp.refl (fun _ => False) w).alloc (.cells #[] 5)
    have hown : OwnB (w.alloc (.cells #[] 5)) (.slice (some ⟨w.heap.size, 0, none⟩) 0 0) [] :=
      ⟨⟨by simp, .inr ⟨w.heap.size, 0, [], rfl, At.new w [] 5, by simp, by simp, by simp⟩⟩, fun g hg => ⟨[], by simp [Value.ownBlock] at hg; subst hg; exact At.new w [] 5, by simp⟩, fun x hx => by simp at hx, by simp⟩
    obtain ⟨v', w', hr1, ho, hk, hat⟩ := run_append_b (P := Try.prog) (t := 26) (tx := 26) (ty := 26) (w.alloc (.cells #[] 5)) Try.underlying26 elem_u8 Try.underlying26 hown (a := some x) (c := cap) (m := l) (h.kp hka (fun _ _ h => h)) (by simp; omega)
    rw [List.nil_append] at ho
    have Hr := Lib.hid hr1
    have hfin : Hid (OwnB w' v' l ∧ (∀ g, v'.ownBlock = some g → w.heap.size ≤ g) ∧ Kp (fun _ => False) w w') := ⟨ho, fun g hg => by
      rcases hat with e | e
      · rw [e] at hg; simp [Value.ownBlock] at hg; omega
      · rw [e] at hg; simp at hg; omega, hka.then hk (fun i hi e => by simp [Value.ownBlock] at e; omega)⟩
    clear hr1 ho hk hat hown hka h
    have hnil := Lib.run_eql_slice_nil (P := Try.prog) w
    go_enter Try.func37, Try.ntmps37
    go_wp2_with (at_builtin; refine wpList_append_run _ Hr.out rfl rfl rfl rfl ?_)
    go_ret
    exact ⟨_, rfl, hfin.out⟩
end Go.Proofs.Ytgcgcdgjooaipaa
