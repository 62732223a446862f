/- Package window: the contracts of its small methods. -/
import Derived.Test.YtnapokdipelmiaaWinP
import Derived.Test.YtnapokdipelmiaaSpr
import Derived.Test.YtnapokdipelmiaaFnM
namespace Go.Proofs.Ytnapokdipelmiaa
open Go.RowKit Flt
set_option linter.unusedVariables false
theorem wnone_nil (w : World) : Calls Try.prog 22 #[.pointer none] w fun e w' => e = .returned (.bool true) ∧ w = w' := by
  go_enter Try.func22, Try.ntmps22
  go_wp2
  go_ret
  exact ⟨rfl, rfl⟩
theorem wnone_at (b : Nat) (s : Int) (w : World) (h : w.cell? ⟨b, 0, none⟩ = some (.int .i64 s)) :
    Calls Try.prog 22 #[.pointer (some ⟨b, 0, none⟩)] w fun e w' => e = .returned (.bool (s == 0)) ∧ w = w' := by
  go_enter Try.func22, Try.ntmps22
  go_wp2
  go_ret
  exact ⟨rfl, rfl⟩
theorem wnone_no (b s : Nat) (w : World) (h : w.cell? ⟨b, 0, none⟩ = some (.int .i64 s)) (hs : 1 ≤ s) :
    Calls Try.prog 22 #[.pointer (some ⟨b, 0, none⟩)] w fun e w' => e = .returned (.bool false) ∧ w = w' := by
  have := wnone_at b s w h
  rwa [show ((s : Int) == 0) = false by rw [beq_eq_false_iff_ne]; omega] at this
def timeB (n : Int) : Bool := decide (0 ≤ n) && decide (n ≤ 2147483647)
theorem timeB_yes {n : Int} (h : timeB n = true) : 0 ≤ n ∧ n ≤ 2147483647 := by simpa [timeB] using h
theorem timeB_of {n : Nat} (h : n ≤ 2147483647) : timeB n = true := by simp [timeB]; omega
theorem wtime_any (n : Int) (w : World) : Calls Try.prog 23 #[.int .i64 n] w fun e w' => e = .returned (.bool (timeB n)) ∧ w = w' := by
  by_cases h : 0 ≤ n
  · have e : timeB n = decide (n ≤ 2147483647) := by simp [timeB, h]
    rw [e]
    go_enter Try.func23, Try.ntmps23
    go_wp2
    go_ret
    exact ⟨rfl, rfl⟩
  · have e : timeB n = false := by simp [timeB, h]
    rw [e]
    go_enter Try.func23, Try.ntmps23
    go_wp2
    go_ret
    exact ⟨rfl, rfl⟩
/-- When a packet is due. -/
def dueA (p : Pk) (now : Nat) : Nat := if p.times = 0 then now else p.att + p.wt
theorem pdue_any (p : Pk) (now : Nat) (w : World) (hat : At w p.g (pkC p)) (ha : p.att ≤ 2147483647) (hw : p.wt ≤ 60) :
    Calls Try.prog 27 #[.pointer (some ⟨p.g, 0, none⟩), .int .i64 now] w fun e w' => e = .returned (.int .i64 (dueA p now)) ∧ ∃ k, w' = w.drewN k := by
  have h2 := hat.cell 2
  have h3 := hat.cell 3
  have h4 := hat.cell 4
  simp only [pkC, List.getElem?_cons_succ, List.getElem?_cons_zero] at h2 h3 h4
  by_cases h0 : p.times = 0
  · have e : dueA p now = now := if_pos h0
    rw [e]
    rw [h0] at h2
    clear e h0
    go_enter Try.func27, Try.ntmps27
    go_wp2
    go_ret
    exact ⟨rfl, 0, rfl⟩
  · have e : ((dueA p now : Nat) : Int) = p.att + p.wt := by unfold dueA; rw [if_neg h0]; simp
    rw [e]
    have hz : ((p.times : Int) == 0) = false := by rw [beq_eq_false_iff_ne]; omega
    have hs : IntKind.i64.wrap ((p.att : Int) + p.wt) = p.att + p.wt := IntWalk.i64_in _ (by omega)
    clear e
    go_enter Try.func27, Try.ntmps27
    go_wp2_with fail
    go_quiet (fail)
    go_wp2
    go_ret
    exact ⟨rfl, _, rfl⟩
/-- The wait of a packet that is sent for the t-th time, where one waits n at first. -/
def wk (n t : Nat) : Nat := min (n * 2 ^ (t - 1)) 60
theorem wk_bd {n t : Nat} (h2 : 2 ≤ n) : 2 ≤ wk n t ∧ wk n t ≤ 60 := by
  have : 1 ≤ 2 ^ (t - 1) := Nat.one_le_two_pow
  have : n * 1 ≤ n * 2 ^ (t - 1) := Nat.mul_le_mul_left _ this
  unfold wk; omega
theorem wk_mono {n t t' : Nat} (h : t ≤ t') : wk n t ≤ wk n t' := by
  have : 2 ^ (t - 1) ≤ 2 ^ (t' - 1) := Nat.pow_le_pow_right (by omega) (by omega)
  have := Nat.mul_le_mul_left n this
  unfold wk; omega
theorem wk_end {n t j c : Nat} (hc : c = n * 2 ^ j) (hj : j + 1 ≤ t) (h : j + 1 = t ∨ 60 ≤ c) : min c 60 = wk n t := by
  unfold wk
  rcases h with h | h
  · rw [hc, show t - 1 = j by omega]
  · have : 2 ^ j ≤ 2 ^ (t - 1) := Nat.pow_le_pow_right (by omega) (by omega)
    have := Nat.mul_le_mul_left n this
    omega
def waitN (m s : Nat) : Nat := (waitF m s).toNat
theorem waitN_bd (m s : Nat) : 2 ≤ waitN m s ∧ waitN m s ≤ 60 ∧ waitF m s = (waitN m s : Nat) := by
  have := wait_range m s
  unfold waitN; omega
set_option maxHeartbeats 1000000 in
theorem wwait_any (b m s t : Nat) (w : World) (h3 : w.cell? ⟨b, 3, none⟩ = some (.float .f64 m)) (h4 : w.cell? ⟨b, 4, none⟩ = some (.float .f64 s)) (ht : 1 ≤ t) (ht2 : t ≤ 4611686018427387904) :
    Calls Try.prog 29 #[.pointer (some ⟨b, 0, none⟩), .int .i64 t] w fun e w' => e = .returned (.int .i64 (wk (waitN m s) t)) ∧ ∃ k, w' = w.drewN k := by
  obtain ⟨n2, n60, he⟩ := waitN_bd m s
  have C := fun w' n => Calls.quiet_of (n := n) (wait_any m s (World.drewN w' n))
  rw [he] at C
  obtain ⟨n, hn⟩ : ∃ n, n = waitN m s := ⟨_, rfl⟩
  rw [← hn] at C n2 n60 ⊢
  obtain ⟨R, hR⟩ : ∃ R, R = wk n t := ⟨_, rfl⟩
  rw [← hR]
  have HR := Lib.hid hR
  clear he hn hR
  go_enter Try.func29, Try.ntmps29
  go_wp2_with fail
  go_quiet ((go_at_call 32; exact C _ _))
  clear C
  go_wp2_with fail
  go_loop [1, 5] (fun k c => ∃ j c' : Nat, j + 1 ≤ t ∧ k = .int .i64 ((t - j : Nat) : Nat) ∧ c = .int .i64 c' ∧ c' = n * 2 ^ j ∧ c' ≤ 120) (fun k _ => (intOf k).toNat)
  case atStart => exact ⟨0, n, by omega, by simp, rfl, by simp, by omega⟩
  case round =>
    obtain ⟨j, c', hj, rfl, rfl, hc, hc2⟩ := hrel
    obtain ⟨k, hk⟩ : ∃ k, k = t - j := ⟨_, rfl⟩
    rw [← hk]
    have hkb : 1 ≤ k ∧ k ≤ 4611686018427387904 := by omega
    obtain ⟨hk1, hk2⟩ := hkb
    have HC := Lib.hid (And.intro hc (And.intro hk hj))
    clear hc hk hj
    by_cases hgo : 1 < k ∧ c' < 60
    · obtain ⟨g1, g2⟩ := hgo
      go_wp2
      go_round
      case rel =>
        obtain ⟨q1, q2, q3⟩ := HC.out
        exact ⟨j + 1, c' * 2, by omega, by rw [show t - (j + 1) = k - 1 by omega]; congr 1; omega, by go_num, by rw [q1, Nat.pow_succ, Nat.mul_assoc], by omega⟩
      case measure => simp [intOf]; omega
    · have hm : min c' 60 = wk n t := by
        obtain ⟨q1, q2, q3⟩ := HC.out
        exact wk_end q1 q3 (by omega)
      by_cases h1 : 1 < k
      · have h6 : ¬ c' < 60 := by omega
        have hm2 : wk n t = 60 := by omega
        have HM := Lib.hid hm2
        clear hm hm2 hgo
        go_wp2
        all_goals
          go_ret
          exact ⟨ret_int (by have q1 := HM.out; have q2 := HR.out; omega), _, rfl⟩
      · by_cases h6 : c' < 60
        · have hm2 : wk n t = c' := by omega
          have HM := Lib.hid hm2
          clear hm hm2 hgo
          go_wp2
          all_goals
            go_ret
            exact ⟨ret_int (by have q1 := HM.out; have q2 := HR.out; omega), _, rfl⟩
        · have hm2 : wk n t = 60 := by omega
          have HM := Lib.hid hm2
          clear hm hm2 hgo
          go_wp2
          all_goals
            go_ret
            exact ⟨ret_int (by have q1 := HM.out; have q2 := HR.out; omega), _, rfl⟩
end Go.Proofs.Ytnapokdipelmiaa
