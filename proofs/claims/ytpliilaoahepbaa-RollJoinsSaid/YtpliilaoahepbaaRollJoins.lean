/- The walk of RollJoins: it returns true, whatever comes in. No condition. -/
import Derived.Test.YtpliilaoahepbaaRollSums
import Derived.Test.YtpliilaoahepbaaRollI
namespace Go.Proofs.Ytpliilaoahepbaa
open Go.RowKit
set_option linter.unusedVariables false
/-- k times three. -/
def tri (x : Int) : Nat → Int
  | 0 => x
  | k + 1 => 3 * tri x k % 4294967296
theorem tri_bd (x : Int) (h : 0 ≤ x ∧ x < 4294967296) : ∀ k, 0 ≤ tri x k ∧ tri x k < 4294967296
  | 0 => h
  | k + 1 => by simp only [tri]; omega
theorem sm_append (a b : List Int) : sm (a ++ b) = (tri (sm a) b.length + sm b) % 4294967296 := by
  induction b using snoc_ind with
  | h0 => have := sm_bd a; simp [tri, sm]; simp [sm] at this; omega
  | h1 b c ih =>
    rw [← List.append_assoc, sm_snoc, ih, sm_snoc, List.length_append, List.length_singleton]
    simp only [tri]
    omega

theorem rollJoins_walk (a0 : Option Addr) (len0 cap0 : Nat) (z0 : List Int) (a1 : Option Addr) (len1 cap1 : Nat) (z1 : List Int) (w : World) (w0 : IsRow .u8 w a0 len0 cap0 z0) (w1 : IsRow .u8 w a1 len1 cap1 z1) :
    Calls Try.prog 6 #[.slice a0 len0 cap0, .slice a1 len1 cap1] w fun e w' => e = .returned (.bool true) ∧ Below w.heap.size w w' := by
  have hle := w0.le
  have hle1 := w1.le
  unfold maxLen at hle hle1
  by_cases hlen : 500 < len0 ∨ 500 < len1
  · clear w0 w1
    by_cases h1 : 500 < len0
    all_goals
      go_enter Try.func6, Try.ntmps6
      go_wp2_with fail
      refine (awake_any _).mono ?_
      rintro e w1 ⟨rfl, hk⟩
      go_wp2
      go_ret
      exact ⟨rfl, hk.below (fun _ _ h => h)⟩
  · have h3 : len0 ≤ 500 := by omega
    have h4 : len1 ≤ 500 := by omega
    clear hlen
    obtain ⟨l, rfl, hr⟩ := w0.ex (by omega)
    obtain ⟨m, rfl, hm⟩ := w1.ex (by omega)
    clear w0 w1
    go_enter Try.func6, Try.ntmps6
    go_wp2_with fail
    refine (awake_any _).mono ?_
    rintro e w1 ⟨rfl, hk⟩
    have hr1 := hr.kp hk (fun _ _ h => h)
    have hm1 := hm.kp hk (fun _ _ h => h)
    go_wp2_with (go_at_call 14; refine (sum_any _ _ _ _ hr1).mono ?_; rintro e w' ⟨rfl, rfl⟩)
    go_loop [6, 7] (fun s i => ∃ k : Nat, k ≤ m.length ∧ i = .int .i64 k ∧ s = .int .u32 (tri (sm l) k)) (fun _ i => m.length - (intOf i).toNat)
    case atStart => exact ⟨0, by omega, rfl, rfl⟩
    case round =>
      obtain ⟨k, hkm, rfl, rfl⟩ := hrel
      have hb := tri_bd (sm l) (sm_bd l) k
      by_cases hlt : k < m.length
      · go_wp2
        go_round
        case rel => exact ⟨k + 1, by omega, by go_num, rfl⟩
        case measure => simp [intOf]; omega
      · obtain rfl : k = m.length := by omega
        go_wp2_with fail
        refine (copy_any _ _ l _ hr1 (by omega)).mono ?_
        rintro e w2 ⟨g, cap', rfl, hown, hg, hk2⟩
        have hm2 := hm1.kp hk2 (fun _ _ h => h)
        obtain ⟨v', w3, hrun, hown3, hk3, hat3⟩ := run_append_at (P := Try.prog) (t := 22) (tx := 22) (ty := 22) w2 Try.underlying22 elem_u8 Try.underlying22 hown (a := a1) (m := m.length) (c := cap1) (news := m.map (Value.int .u8)) (by simp) hm2.rd (oneCell_u8 m) (by unfold maxLen; omega) (by omega)
        rw [← List.map_append] at hown3
        obtain ⟨a', c', rfl, hc1, hc2⟩ := hown3.form
        have hr3 := hown3.rdB (hr.bd.append hm.bd) (by omega)
        have hsz1 := hk.size
        have hkk := (hk.trans hk2).then (S' := fun k => (Value.slice (some ⟨g, 0, none⟩) l.length cap').ownBlock = some k) hk3 (fun i hi e => by simp only [Value.ownBlock, Option.some.injEq] at e; omega)
        have hm3 := hm.kp0 hkk (fun _ _ h => h)
        have Hr := Lib.hid hrun
        have hb2 := sm_bd m
        have he : ((sm (l ++ m)) == (tri (sm l) m.length + sm m) % 4294967296) = true := by rw [sm_append]; simp
        clear hrun hown hown3
        go_wp2_with (at_builtin; refine wpList_append_run _ Hr.out rfl rfl rfl rfl ?_)
        refine (sum_n a' _ _ (l ++ m) _ hr3 (by simp)).mono ?_
        rintro e w' ⟨rfl, rfl⟩
        go_wp2_with fail
        refine (sum_any _ _ _ _ hm3).mono ?_
        rintro e w' ⟨rfl, rfl⟩
        go_wp2
        go_ret
        exact ⟨rfl, hkk.below (fun _ _ h => h)⟩
end Go.Proofs.Ytpliilaoahepbaa
