/- The walk of GuardPieces: it returns true, whatever comes in. No condition. -/
import Derived.Test.YtabibgddbmllkaaGrdA
import Derived.Test.YtabibgddbmllkaaGrdB
import Derived.Test.YtabibgddbmllkaaOpen
import Derived.Test.YtabibgddbmllkaaPick
import Derived.Outline
namespace Go.Proofs.Ytabibgddbmllkaa
open Go.RowKit
set_option linter.unusedVariables false
theorem pieces_long (a : Option Addr) (cap len : Nat) (n1 n2 : Int) (w : World) (hl : 1000 < len) (hl2 : len ≤ 140737488351232) :
    Calls Try.prog 7 #[.slice a len cap, .int .i64 n1, .int .i64 n2] w fun e w' => e = .returned (.bool true) ∧ Below w.heap.size w w' := by
  go_enter Try.func7, Try.ntmps7
  go_wp2_with fail
  refine (awake_any _).mono ?_
  rintro e w1 ⟨rfl, hk⟩
  go_wp2
  go_ret
  exact ⟨rfl, hk.below (fun _ _ h => h)⟩
/-- A number from 0 on, below n. -/
theorem emod_nat (x : Int) (n : Nat) (h : 0 < n) : ∃ p : Nat, x % (n : Int) = p ∧ p < n := by
  have h1 := Int.emod_nonneg x (show (n : Int) ≠ 0 by omega)
  have h2 := Int.emod_lt_of_pos x (show (0 : Int) < n by omega)
  exact ⟨(x % n).toNat, by omega, by omega⟩
/-- A slice's middle, or end. -/
theorem RdB.mid {w : World} {b off cap : Nat} {l : List Int} (h : RdB w (some ⟨b, off, none⟩) l) (i n : Nat) (hi : i ≤ l.length) (hc : l.length ≤ cap) : RdB w (if cap = i then some ⟨b, off, none⟩ else some ⟨b, off + i, none⟩) ((l.drop i).take n) := by
  by_cases e : cap = i
  · rw [if_pos e, List.drop_of_length_le (by omega), List.take_nil]; exact RdB.nil _ _
  · rw [if_neg e]; exact h.slice i n
set_option maxHeartbeats 2000000 in
theorem pieces_main (b off cap : Nat) (l : List Int) (n1 n2 : Int) (h1 : -9223372036854775808 ≤ n1 ∧ n1 ≤ 9223372036854775807) (h2 : -9223372036854775808 ≤ n2 ∧ n2 ≤ 9223372036854775807) (w : World) (h : RdB w (some ⟨b, off, none⟩) l) (hl : l.length ≤ 1000) (hcap : l.length ≤ cap) :
    Calls Try.prog 7 #[.slice (some ⟨b, off, none⟩) l.length cap, .int .i64 n1, .int .i64 n2] w fun e w' => e = .returned (.bool true) ∧ Below w.heap.size w w' := by
  obtain ⟨p, hp, hpl⟩ := emod_nat n1 (l.length + 1) (by omega)
  obtain ⟨q, hq, hql⟩ := emod_nat n2 (l.length - p + 1) (by omega)
  have P1 := fun w => pick_any n1 ((l.length : Int) + 1) w h1 (by omega)
  rw [show (l.length : Int) + 1 = ((l.length + 1 : Nat) : Int) by omega, hp] at P1
  rw [show ((l.length + 1 : Nat) : Int) = (l.length : Int) + 1 by omega] at P1
  have P2 := fun w => pick_any n2 ((l.length : Int) - p + 1) w h2 (by omega)
  rw [show (l.length : Int) - p + 1 = ((l.length - p + 1 : Nat) : Int) by omega, hq] at P2
  rw [show ((l.length - p + 1 : Nat) : Int) = (l.length : Int) - p + 1 by omega] at P2
  obtain ⟨t, ht⟩ : ∃ t, t = p + q := ⟨_, rfl⟩
  have e1 : IntKind.i64.wrap ((p : Int) + q) = (t : Int) := (IntWalk.i64_in _ (by omega)).trans (by omega)
  have hs1 := more_lt 0 (l.take p)
  have hs2 := more_lt (more 0 (l.take p)) ((l.drop p).take q)
  have hall : Hid (more (more (more 0 (l.take p)) ((l.drop p).take q)) ((l.drop t).take (l.length - t)) = sum4 l) := by
    show _ = more 0 l
    rw [← more_append (h.bd.take p), ← more_append ((h.bd.take p).append ((h.bd.drop p).take q))]
    congr 1
    rw [show (l.drop t).take (l.length - t) = l.drop t from List.take_of_length_le (by simp), ht, ← List.drop_drop, List.append_assoc, List.take_append_drop, List.take_append_drop]
  have hs := more_lt 0 l
  rw [show more 0 l = sum4 l from rfl] at hs
  have lp : (l.take p).length = p := by simp; omega
  have lq : ((l.drop p).take q).length = q := by simp; omega
  have lt : ((l.drop t).take (l.length - t)).length = l.length - t := by simp
  have C1 := fun w' (k : Kp (fun _ => False) w w') => more_any 0 (by decide) (some ⟨b, off, none⟩) cap (l.take p) w' ((h.kp0 k (fun _ _ h => h)).pre p) (by omega)
  have C2 := fun w' (k : Kp (fun _ => False) w w') => more_any _ hs1 (if cap = p then some ⟨b, off, none⟩ else some ⟨b, off + p, none⟩) (cap - p) ((l.drop p).take q) w' ((h.kp0 k (fun _ _ h => h)).mid p q (by omega) hcap) (by omega)
  have C3 := fun w' (k : Kp (fun _ => False) w w') => more_any _ hs2 (if cap = t then some ⟨b, off, none⟩ else some ⟨b, off + t, none⟩) (cap - t) ((l.drop t).take (l.length - t)) w' ((h.kp0 k (fun _ _ h => h)).mid t (l.length - t) (by omega) hcap) (by omega)
  rw [lp] at C1
  rw [lq] at C2
  rw [lt, hall.out] at C3
  have C4 := Lib.hid (fun w' (k : Kp (fun _ => False) w w') => sum_any (some ⟨b, off, none⟩) cap l w' (h.kp0 k (fun _ _ h => h)) (by omega))
  have C5 := fun w' => more_any (sum4 l) hs none 0 [] w' (RdB.nil _ _) (by simp)
  rw [more_nil hs] at C5
  have C6 := fun w' (k : Kp (fun _ => False) w w') => more_any 0 (by decide) (some ⟨b, off, none⟩) cap l w' (h.kp0 k (fun _ _ h => h)) (by omega)
  rw [show more 0 l = sum4 l from rfl] at C6
  have P1' := Lib.hid P1
  have P2' := Lib.hid P2
  have e2 : t - p = q := by omega
  have i1 : (p : Int) ≤ t := by omega
  have i2 : (t : Int) ≤ l.length := by omega
  have i3 : (p : Int) ≤ cap := by omega
  have i4 : (t : Int) ≤ cap := by omega
  have i5 : (p : Int) ≤ l.length := by omega
  clear P1 P2 hall hp hq h1 h2 lp lq lt ht hs hs1 hs2 hql
  generalize sum4 l = s at *
  generalize more 0 (l.take p) = s1 at *
  generalize more s1 ((l.drop p).take q) = s2 at *
  have C1' := Lib.hid (show ∀ w', Kp (fun _ => False) w w' → Calls Try.prog 14 #[.int .u32 0, .slice (some ⟨b, off, none⟩) p cap] w' fun e w'' => e = .returned (.int .u32 (s1 : Int)) ∧ Kp (fun _ => False) w' w'' from C1)
  obtain ⟨A1, hA1⟩ : ∃ A1, (if cap = p then some (⟨b, off, none⟩ : Addr) else some ⟨b, off + p, none⟩) = some A1 := by split <;> exact ⟨_, rfl⟩
  obtain ⟨A2, hA2⟩ : ∃ A2, (if cap = t then some (⟨b, off, none⟩ : Addr) else some ⟨b, off + t, none⟩) = some A2 := by split <;> exact ⟨_, rfl⟩
  rw [hA1] at C2
  rw [hA2] at C3
  have C2' := Lib.hid C2
  have C3' := Lib.hid C3
  have C5' := Lib.hid (show ∀ w', Calls Try.prog 14 #[.int .u32 (s : Int), .slice none 0 0] w' fun e w'' => e = .returned (.int .u32 (s : Int)) ∧ Kp (fun _ => False) w' w'' from C5)
  have C6' := Lib.hid (show ∀ w', Kp (fun _ => False) w w' → Calls Try.prog 14 #[.int .u32 0, .slice (some ⟨b, off, none⟩) l.length cap] w' fun e w'' => e = .returned (.int .u32 (s : Int)) ∧ Kp (fun _ => False) w' w'' from C6)
  clear C1 C2 C3 C5 C6
  go_enter Try.func7, Try.ntmps7
  go_wp2_with fail
  refine (awake_any _).mono ?_
  rintro e w1 ⟨rfl, hk1⟩
  have H1 := Lib.hid hk1
  clear hk1
  go_wp2_with fail
  refine (P1'.out _).mono ?_
  rintro e w' ⟨rfl, rfl⟩
  clear P1'
  go_wp2_with fail
  refine (P2'.out _).mono ?_
  rintro e w' ⟨rfl, rfl⟩
  clear P2'
  go_wp2_with fail
  go_region_held3 (fun w' => Kp (fun _ => False) w w') (first | assumption | (exact H1.out.drew) | (exact Kp.trans ‹_› kq)) (first | (go_at_call_of 14 (Value.int IntKind.u32 0); refine (C1'.out _ ?_).mono ?_; assumption; rintro e w' ⟨rfl, kq⟩) | (go_at_call_of 14 (Value.int IntKind.u32 (s1 : Int)); refine (C2'.out _ ?_).mono ?_; assumption; rintro e w' ⟨rfl, kq⟩) | (go_at_call_of 14 (Value.int IntKind.u32 (s2 : Int)); refine (C3'.out _ ?_).mono ?_; assumption; rintro e w' ⟨rfl, kq⟩))
  go_wp2_with fail
  refine (C4.out _ ?_).mono ?_
  · assumption
  rintro e w3 ⟨rfl, k3⟩
  have H3 := Lib.hid (Kp.trans ‹Kp (fun _ => False) w _› k3)
  clear k3 C4
  go_wp2_with fail
  refine (C5'.out _).mono ?_
  rintro e w4 ⟨rfl, k4⟩
  have H4 := Lib.hid (H3.out.trans k4)
  clear k4 C5' H3
  go_wp2_with fail
  refine (C6'.out _ H4.out).mono ?_
  rintro e w5 ⟨rfl, k5⟩
  have H5 := Lib.hid (H4.out.trans k5)
  clear k5 C6' H4
  go_wp2
  go_ret
  exact ⟨rfl, H5.out.below (fun _ _ h => h)⟩
set_option maxHeartbeats 1000000 in
theorem pieces_nil (n1 n2 : Int) (h1 : -9223372036854775808 ≤ n1 ∧ n1 ≤ 9223372036854775807) (h2 : -9223372036854775808 ≤ n2 ∧ n2 ≤ 9223372036854775807) (w : World) :
    Calls Try.prog 7 #[.slice none 0 0, .int .i64 n1, .int .i64 n2] w fun e w' => e = .returned (.bool true) ∧ Below w.heap.size w w' := by
  have P1 := fun w => pick_any n1 1 w h1 (by omega)
  have P2 := fun w => pick_any n2 1 w h2 (by omega)
  rw [Int.emod_one] at P1 P2
  have P1' := Lib.hid P1
  have P2' := Lib.hid P2
  have hs : more 0 [] = 0 := by decide +kernel
  have hs4 : sum4 [] = 0 := by decide +kernel
  have C1 := fun w' => more_any 0 (by decide) none 0 [] w' (RdB.nil _ _) (by simp)
  rw [hs] at C1
  have C1' := Lib.hid (show ∀ w', Calls Try.prog 14 #[.int .u32 0, .slice none 0 0] w' fun e w'' => e = .returned (.int .u32 0) ∧ Kp (fun _ => False) w' w'' from C1)
  have C4 := fun w' => sum_any none 0 [] w' (RdB.nil _ _) (by simp)
  rw [hs4] at C4
  have C4' := Lib.hid (show ∀ w', Calls Try.prog 12 #[.slice none 0 0] w' fun e w'' => e = .returned (.int .u32 0) ∧ Kp (fun _ => False) w' w'' from C4)
  clear C1 C4 P1 P2 hs hs4 h1 h2
  go_enter Try.func7, Try.ntmps7
  go_wp2_with fail
  refine (awake_any _).mono ?_
  rintro e w1 ⟨rfl, hk1⟩
  have H1 := Lib.hid hk1
  clear hk1
  go_wp2_with fail
  refine (P1'.out _).mono ?_
  rintro e w' ⟨rfl, rfl⟩
  clear P1'
  go_wp2_with fail
  refine (P2'.out _).mono ?_
  rintro e w' ⟨rfl, rfl⟩
  clear P2'
  go_wp2_with fail
  go_region_held3 (fun w' => Kp (fun _ => False) w w') (first | assumption | (exact H1.out.drew) | (exact Kp.trans ‹_› kq)) (first | (go_at_call 14; refine (C1'.out _).mono ?_; rintro e w' ⟨rfl, kq⟩))
  go_wp2_with fail
  refine (C4'.out _).mono ?_
  rintro e w3 ⟨rfl, k3⟩
  have H3 := Lib.hid (Kp.trans ‹Kp (fun _ => False) w _› k3)
  clear k3 C4'
  go_wp2_with fail
  refine (C1'.out _).mono ?_
  rintro e w4 ⟨rfl, k4⟩
  have H4 := Lib.hid (H3.out.trans k4)
  clear k4 H3
  go_wp2_with fail
  refine (C1'.out _).mono ?_
  rintro e w5 ⟨rfl, k5⟩
  have H5 := Lib.hid (H4.out.trans k5)
  clear k5 C1' H4
  go_wp2
  go_ret
  exact ⟨rfl, H5.out.below (fun _ _ h => h)⟩
set_option maxHeartbeats 1000000 in
theorem pieces_empty (x : Addr) (cap : Nat) (hcm : cap ≤ 140737488351232) (n1 n2 : Int) (h1 : -9223372036854775808 ≤ n1 ∧ n1 ≤ 9223372036854775807) (h2 : -9223372036854775808 ≤ n2 ∧ n2 ≤ 9223372036854775807) (w : World) :
    Calls Try.prog 7 #[.slice (some x) 0 cap, .int .i64 n1, .int .i64 n2] w fun e w' => e = .returned (.bool true) ∧ Below w.heap.size w w' := by
  have P1 := fun w => pick_any n1 1 w h1 (by omega)
  have P2 := fun w => pick_any n2 1 w h2 (by omega)
  rw [Int.emod_one] at P1 P2
  have P1' := Lib.hid P1
  have P2' := Lib.hid P2
  have hs : more 0 [] = 0 := by decide +kernel
  have hs4 : sum4 [] = 0 := by decide +kernel
  have C1 := fun w' a c => more_any 0 (by decide) a c [] w' (RdB.nil _ _) (by simp)
  rw [hs] at C1
  have C1' := Lib.hid (show ∀ w' a c, Calls Try.prog 14 #[.int .u32 0, .slice a 0 c] w' fun e w'' => e = .returned (.int .u32 0) ∧ Kp (fun _ => False) w' w'' from C1)
  have C4 := fun w' => sum_any (some x) cap [] w' (RdB.nil _ _) (by simp)
  rw [hs4] at C4
  have C4' := Lib.hid (show ∀ w', Calls Try.prog 12 #[.slice (some x) 0 cap] w' fun e w'' => e = .returned (.int .u32 0) ∧ Kp (fun _ => False) w' w'' from C4)
  clear C1 C4 P1 P2 hs hs4 h1 h2
  obtain ⟨A1, hA1⟩ : ∃ A1, (if cap = 0 then some x else some (x.add 0)) = some A1 := by split <;> exact ⟨_, rfl⟩
  go_enter Try.func7, Try.ntmps7
  go_wp2_with fail
  refine (awake_any _).mono ?_
  rintro e w1 ⟨rfl, hk1⟩
  have H1 := Lib.hid hk1
  clear hk1
  go_wp2_with fail
  refine (P1'.out _).mono ?_
  rintro e w' ⟨rfl, rfl⟩
  clear P1'
  go_wp2_with fail
  refine (P2'.out _).mono ?_
  rintro e w' ⟨rfl, rfl⟩
  clear P2'
  go_wp2_with fail
  go_region_held3 (fun w' => Kp (fun _ => False) w w') (first | assumption | (exact H1.out.drew) | (exact Kp.trans ‹_› kq)) (first | (go_at_call 14; refine (C1'.out _ _ _).mono ?_; rintro e w' ⟨rfl, kq⟩))
  go_wp2_with fail
  refine (C4'.out _).mono ?_
  rintro e w3 ⟨rfl, k3⟩
  have H3 := Lib.hid (Kp.trans ‹Kp (fun _ => False) w _› k3)
  clear k3 C4'
  go_wp2_with fail
  refine (C1'.out _ _ _).mono ?_
  rintro e w4 ⟨rfl, k4⟩
  have H4 := Lib.hid (H3.out.trans k4)
  clear k4 H3
  go_wp2_with fail
  refine (C1'.out _ _ _).mono ?_
  rintro e w5 ⟨rfl, k5⟩
  have H5 := Lib.hid (H4.out.trans k5)
  clear k5 C1' H4
  go_wp2
  go_ret
  exact ⟨rfl, H5.out.below (fun _ _ h => h)⟩
theorem guardPieces_walk (a0 : Option Addr) (len0 cap0 : Nat) (n1 n2 : Int) (w : World) (r0 : Rdg Try.prog w 22 [.slice a0 len0 cap0]) (r1 : Rdg Try.prog w 3 [.int .i64 n1]) (r2 : Rdg Try.prog w 3 [.int .i64 n2]) :
    Calls Try.prog 7 #[.slice a0 len0 cap0, .int .i64 n1, .int .i64 n2] w fun e w' => e = .returned (.bool true) ∧ Below w.heap.size w w' := by
  have r0' := r0
  obtain ⟨_, l, _, e0, h, h1, h2⟩ := r0.bytes Try.underlying22 Try.underlying5 (by kernel_rfl) (by kernel_rfl)
  simp only [List.cons.injEq, Value.slice.injEq, and_true] at e0
  obtain ⟨rfl, rfl, rfl⟩ := e0
  obtain ⟨x, ex, hwf⟩ := r1.int Try.underlying3
  simp only [List.cons.injEq, Value.int.injEq, true_and, and_true] at ex
  subst ex
  obtain ⟨y, ey, hwf'⟩ := r2.int Try.underlying3
  simp only [List.cons.injEq, Value.int.injEq, true_and, and_true] at ey
  subst ey
  have b1 : -9223372036854775808 ≤ n1 ∧ n1 ≤ 9223372036854775807 := by
    simp [Lit.wf, IntKind.min, IntKind.max, IntKind.signed, IntKind.bits] at hwf; omega
  have b2 : -9223372036854775808 ≤ n2 ∧ n2 ≤ 9223372036854775807 := by
    simp [Lit.wf, IntKind.min, IntKind.max, IntKind.signed, IntKind.bits] at hwf'; omega
  by_cases hl : 1000 < l.length
  · exact pieces_long _ _ _ _ _ w hl (by omega)
  · rcases a0 with _ | ⟨b, off, spot⟩
    · obtain ⟨e1, e2⟩ := Rdg.nil_cap Try.underlying22 (by rw [show Try.prog.cellsOf 5 = 1 by kernel_rfl]; omega) r0'
      rw [e1, e2]
      exact pieces_nil n1 n2 b1 b2 w
    · rcases Nat.eq_zero_or_pos l.length with h0 | h0
      · have hc : cap0 ≤ 140737488351232 := h2
        rw [h0]
        exact pieces_empty _ cap0 hc n1 n2 b1 b2 w
      · obtain ⟨b', off', e, _⟩ := h.cell 0 h0
        cases e
        exact pieces_main _ _ _ l n1 n2 b1 b2 w h (by omega) h1
end Go.Proofs.Ytabibgddbmllkaa
