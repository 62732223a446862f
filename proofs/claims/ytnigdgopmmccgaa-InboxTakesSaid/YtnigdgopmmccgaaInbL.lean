/- Chapter 14's helper 'long'. -/
import Derived.Test.YtnigdgopmmccgaaInbZ
namespace Go.Proofs.Ytnigdgopmmccgaa
open Go.RowKit
set_option linter.unusedVariables false
def tot : List (Int × List Int) → Int
  | [] => 0
  | x :: r => x.2.length + tot r
theorem tot_append (a b : List (Int × List Int)) : tot (a ++ b) = tot a + tot b := by
  induction a with
  | nil => simp [tot]
  | cons x r ih => rw [List.cons_append, tot, tot, ih]; omega
theorem tot_mem {l : List (Int × List Int)} : ∀ x ∈ l, (x.2.length : Int) ≤ tot l := by
  have nn : ∀ l : List (Int × List Int), 0 ≤ tot l := fun l => by
    induction l with
    | nil => simp [tot]
    | cons x r ih => rw [tot]; omega
  induction l with
  | nil => intro x hx; simp at hx
  | cons y r ih =>
    intro x hx
    have := nn r
    rcases List.mem_cons.1 hx with rfl | hx
    · rw [tot]; omega
    · have := ih x hx; rw [tot]; omega
def lg (l : List (Int × List Int)) : Bool := decide (300 < l.length) || decide (4000 < tot (l.take 301))
theorem lg_no {l : List (Int × List Int)} (h : lg l = false) : l.length ≤ 300 ∧ tot l ≤ 4000 ∧ ∀ i, (l.getD i (0, [])).2.length ≤ 4000 := by
  simp only [lg, Bool.or_eq_false_iff, decide_eq_false_iff_not] at h
  have h1 : l.length ≤ 300 := by omega
  have h2 : tot l ≤ 4000 := by
    have := h.2
    rw [List.take_of_length_le (by omega)] at this
    omega
  refine ⟨h1, h2, fun i => ?_⟩
  rcases Nat.lt_or_ge i l.length with hi | hi
  · have := tot_mem (l := l) _ (List.getElem_mem hi)
    rw [List.getD_eq_getElem?_getD, List.getElem?_eq_getElem hi]
    simp only [Option.getD_some]
    omega
  · rw [List.getD_eq_getElem?_getD, List.getElem?_eq_none hi]; simp
theorem long_any (a : Option Addr) (len cap : Nat) (l : List (Int × List Int)) (w : World) (h : RdC w a l) (hn : l.length = len) (hl : len ≤ 140737488351232) :
    Calls Try.prog 9 #[.slice a len cap] w fun e w' => e = .returned (.bool (lg l)) ∧ w = w' := by
  subst hn
  go_enter Try.func9, Try.ntmps9
  go_wp2_with fail
  go_loop [3, 4] (fun s i => ∃ k : Nat, k ≤ l.length ∧ k ≤ 301 ∧ i = .int .i64 k ∧ s = .int .i64 (tot (l.take k)) ∧ 0 ≤ tot (l.take k) ∧ tot (l.take k) ≤ k * 140737488351232) (fun _ i => l.length - (intOf i).toNat)
  case atStart => exact ⟨0, by omega, by omega, rfl, rfl, by simp [tot], by simp [tot]⟩
  case round =>
    obtain ⟨k, hkl, hk3, rfl, rfl, ht0, ht1⟩ := hrel
    by_cases hlt : k < l.length ∧ k < 301
    · obtain ⟨hlt, hlt3⟩ := hlt
      obtain ⟨b, off, ai, ci, rfl, q1, q2, q3, q4, q5, q6⟩ := h k hlt
      have HT := Lib.hid (congrArg tot (take_snoc l (0, []) k hlt))
      have HS : Hid (tot (l.take (k + 1)) = tot (l.take k) + (l.getD k (0, [])).2.length) := by
        show _ = _
        rw [HT.out, tot_append, tot, tot]; omega
      have hb1 : tot (l.take k) ≤ 9000000000000000000 := by omega
      have i1 : (k : Int) < l.length := by omega
      have i2 : (k : Int) < 301 := by omega
      generalize l.getD k (0, []) = x at *
      generalize tot (l.take k) = t at *
      clear HT
      go_wp2
      go_round
      case rel => exact ⟨k + 1, by omega, by omega, by go_num, by rw [HS.out], by rw [HS.out]; omega, by rw [HS.out]; omega⟩
      case measure => simp [intOf]; omega
    · have hres : Hid (lg l = (decide ((300 : Int) < l.length) || decide (4000 < tot (l.take k)))) := by
        show _ = _
        unfold lg
        by_cases h3 : 300 < l.length
        · rw [decide_eq_true h3, decide_eq_true (show (300 : Int) < l.length by omega)]; rfl
        · have e1 : l.take k = l := List.take_of_length_le (by omega)
          have e2 : l.take 301 = l := List.take_of_length_le (by omega)
          rw [e1, e2, decide_eq_false h3, decide_eq_false (show ¬ (300 : Int) < l.length by omega)]
      by_cases hlt' : k < l.length
      · have h301 : ¬ (k : Int) < 301 := by omega
        have i1 : (k : Int) < l.length := by omega
        have i3 : (300 : Int) < l.length := by omega
        rw [decide_eq_true i3] at hres
        clear ht0 ht1 hkl hk3 hl hlt hlt'
        generalize tot (l.take k) = t at *
        go_wp2
        go_ret
        exact ⟨ret_bool hres.out.symm, rfl⟩
      · have i1 : ¬ (k : Int) < l.length := by omega
        clear ht0 ht1 hkl hk3 hl hlt hlt'
        generalize tot (l.take k) = t at *
        by_cases i3 : (300 : Int) < l.length
        · rw [decide_eq_true i3] at hres
          go_wp2
          go_ret
          exact ⟨ret_bool hres.out.symm, rfl⟩
        · rw [decide_eq_false i3] at hres
          go_wp2
          go_ret
          exact ⟨ret_bool hres.out.symm, rfl⟩
end Go.Proofs.Ytnigdgopmmccgaa
