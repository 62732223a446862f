/- satchelkit.CopyBytes: bytes of the call's own. -/
import Derived.Test.YtabibgddbmllkaaGrdR
namespace Go.Proofs.Ytabibgddbmllkaa
open Go.RowKit
set_option linter.unusedVariables false
theorem copy_b (a : Option Addr) (cap : Nat) (l : List Int) (w : World) (h : RdB w a l) (hl : l.length ≤ 1000000000) :
    Calls Try.prog 22 #[.slice a l.length cap] w fun e w' => ∃ v, e = .returned v ∧ OwnB w' v l ∧ (∀ g, v.ownBlock = some g → w.heap.size ≤ g) ∧ Kp (fun _ => False) w w' := by
  have hka := (Kp.refl (fun _ => False) w).alloc (.cells #[] 5)
  obtain ⟨v1, w1, hr1, ho1, hk1, hat1⟩ := run_append_b (P := Try.prog) (t := 22) (tx := 22) (ty := 22) (w.alloc (.cells #[] 5)) Try.underlying22 elem_u8 Try.underlying22 (ownb_new w) (a := a) (c := cap) (m := l) (h.kp hka (fun _ _ h => h)) (by simpa using hl)
  rw [List.nil_append] at ho1
  have Hr := Lib.hid hr1
  have hfin : Hid (OwnB w1 v1 l ∧ (∀ g, v1.ownBlock = some g → w.heap.size ≤ g) ∧ Kp (fun _ => False) w w1) := ⟨ho1, fun g hg => by
    rcases hat1 with e | e
    · rw [e] at hg; simp [Value.ownBlock] at hg; omega
    · rw [e] at hg; simp at hg; omega, hka.then hk1 (fun i hi e => by simp [Value.ownBlock] at e; omega)⟩
  clear hr1 ho1 hk1 hat1 hka h
  go_enter Try.func22, Try.ntmps22
  go_wp2_with (at_builtin; refine wpList_append_run _ Hr.out rfl rfl rfl rfl ?_)
  go_ret
  exact ⟨_, rfl, hfin.out⟩
end Go.Proofs.Ytabibgddbmllkaa
