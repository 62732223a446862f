/- Chapter 15: ends are made. -/
import Derived.Test.YtokembhfebnjpaaQLnL
namespace Go.Proofs.Ytokembhfebnjpaa
set_option maxRecDepth 20000
open Go.RowKit Flt
set_option linter.unusedVariables false
def noIx : Ix := ⟨0, wnew 1, 0, fun _ => none, 1, 0, fun _ => False⟩
def agT (s z : Nat) : Tk := ⟨1, s, 0, z, .pointer none, .pointer none, false, noIx⟩
def dmT (b z : Nat) : Tk := ⟨3, 0, b, z, .pointer none, .pointer none, false, noIx⟩
theorem fitB_yes {n z : Int} (h : fitB n z = true) : 1 ≤ n ∧ n ≤ 2147483647 ∧ 1 ≤ z ∧ z ≤ 64 := by
  unfold fitB at h
  simp only [Bool.and_eq_true, decide_eq_true_eq] at h
  exact ⟨h.1.1.1, h.1.1.2, h.1.2, h.2⟩
theorem agent_ok (s z : Nat) (w : World) (h : fitB s z = true) : Calls Try.prog 8 #[.int .i64 (s : Nat), .int .i64 (z : Nat)] w fun e w' => ∃ lb o, e = .returned (.tuple #[.pointer (some ⟨lb, 0, none⟩), .int .i64 0]) ∧ LkC w' lb 54 o ∧ TkC w' o (agT s z) (agX false 0) 0 ∧ w.heap.size ≤ lb ∧ w.heap.size ≤ o ∧ lb ≠ o ∧ Kp (fun _ => False) w w' := by
  have C := lfits_any s z w
  rw [h] at C
  have C := Lib.hid C
  have hf := fitB_yes h
  have HF := Lib.hid hf
  clear h hf
  go_enter Try.func8, Try.ntmps8
  go_wp2_with (go_at_call 24; refine C.out.mono ?_; rintro e w' ⟨rfl, rfl⟩)
  go_ret2
  have hf := HF.out
  have a1 := At.new w (talkC (agT s z) ++ agX false 0) 60
  have a2 := At.new (w.alloc (.cells (talkC (agT s z) ++ agX false 0).toArray 60)) [.iface 54 (.pointer (some ⟨w.heap.size, 0, none⟩))] 47
  rw [World.size_alloc] at a2
  refine ⟨w.heap.size + 1, w.heap.size, rfl, a2, ⟨a1.alloc _, fun e => absurd (show (1 : Nat) = 2 from e) (by decide), by show s ≤ _; omega, by show 0 ≤ _; omega, by show 1 ≤ z ∧ z ≤ 64; omega⟩, by omega, Nat.le_refl _, by omega, ((Kp.refl _ w).alloc _).alloc _⟩
theorem daemon_ok (s z : Nat) (w : World) (h : fitB s z = true) : Calls Try.prog 9 #[.int .i64 (s : Nat), .int .i64 (z : Nat)] w fun e w' => ∃ lb o, e = .returned (.tuple #[.pointer (some ⟨lb, 0, none⟩), .int .i64 0]) ∧ LkC w' lb 61 o ∧ DmC w' o (dmT s z) false (.slice none 0 0) [] 0 ∧ w.heap.size ≤ lb ∧ w.heap.size ≤ o ∧ lb ≠ o ∧ Kp (fun _ => False) w w' := by
  have C := lfits_any s z w
  rw [h] at C
  have C := Lib.hid C
  have hf := fitB_yes h
  have HF := Lib.hid hf
  clear h hf
  go_enter Try.func9, Try.ntmps9
  go_wp2_with (go_at_call 24; refine C.out.mono ?_; rintro e w' ⟨rfl, rfl⟩)
  go_ret2
  have hf := HF.out
  have a1 := At.new w (talkC (dmT s z) ++ [Value.bool false, Value.slice none 0 0]) 63
  have a2 := At.new (w.alloc (.cells (talkC (dmT s z) ++ [Value.bool false, Value.slice none 0 0]).toArray 63)) [.iface 61 (.pointer (some ⟨w.heap.size, 0, none⟩))] 47
  rw [World.size_alloc] at a2
  refine ⟨w.heap.size + 1, w.heap.size, rfl, a2, ⟨⟨a1.alloc _, fun e => absurd (show (3 : Nat) = 2 from e) (by decide), by show 0 ≤ _; omega, by show s ≤ _; omega, by show 1 ≤ z ∧ z ≤ 64; omega⟩, Own.nil _ 1, fun g hg => (by cases hg), Nat.zero_le _⟩, by omega, Nat.le_refl _, by omega, ((Kp.refl _ w).alloc _).alloc _⟩
theorem agent_bad (s z : Int) (w : World) (h : fitB s z = false) : Calls Try.prog 8 #[.int .i64 s, .int .i64 z] w fun e w' => e = .returned (.tuple #[.pointer none, .int .i64 2]) ∧ w = w' := by
  have C := lfits_any s z w
  rw [h] at C
  have C := Lib.hid C
  clear h
  go_enter Try.func8, Try.ntmps8
  go_wp2_with (go_at_call 24; refine C.out.mono ?_; rintro e w' ⟨rfl, rfl⟩)
  go_ret2
  exact ⟨rfl, rfl⟩
theorem daemon_bad (s z : Int) (w : World) (h : fitB s z = false) : Calls Try.prog 9 #[.int .i64 s, .int .i64 z] w fun e w' => e = .returned (.tuple #[.pointer none, .int .i64 2]) ∧ w = w' := by
  have C := lfits_any s z w
  rw [h] at C
  have C := Lib.hid C
  clear h
  go_enter Try.func9, Try.ntmps9
  go_wp2_with (go_at_call 24; refine C.out.mono ?_; rintro e w' ⟨rfl, rfl⟩)
  go_ret2
  exact ⟨rfl, rfl⟩
end Go.Proofs.Ytokembhfebnjpaa
/- Chapter 15: a link that is nil, or was not made; Tick. (Written by wip/lnn.py.) -/
namespace Go.Proofs.Ytokembhfebnjpaa
set_option maxRecDepth 20000
open Go.RowKit Flt
set_option linter.unusedVariables false
set_option linter.unusedSimpArgs false
theorem lsend_nil (a : Option Addr) (n c : Nat) (w : World) : Calls Try.prog 12 #[.pointer none, .slice a n c] w fun e w' => e = .returned (.int .i64 1) ∧ w = w' := by
  go_enter Try.func12, Try.ntmps12
  go_wp2_with (go_at_call 25; refine (lnone_nil _).mono ?_; rintro e w' ⟨rfl, rfl⟩)
  go_ret
  exact ⟨rfl, rfl⟩
theorem lsend_un (a : Option Addr) (n c : Nat) (lb : Nat) (w : World) (h : w.cell? ⟨lb, 0, none⟩ = some .nilIface) : Calls Try.prog 12 #[.pointer (some ⟨lb, 0, none⟩), .slice a n c] w fun e w' => e = .returned (.int .i64 1) ∧ w = w' := by
  have C := Lib.hid (lnone_un lb w h)
  go_enter Try.func12, Try.ntmps12
  go_wp2_with (go_at_call 25; refine C.out.mono ?_; rintro e w' ⟨rfl, rfl⟩)
  go_ret
  exact ⟨rfl, rfl⟩
theorem lreceive_nil (a : Option Addr) (n c : Nat) (now : Int) (w : World) : Calls Try.prog 14 #[.pointer none, .slice a n c, .int .i64 now] w fun e w' => e = .returned (.tuple #[.slice none 0 0, .int .i64 1]) ∧ w = w' := by
  go_enter Try.func14, Try.ntmps14
  go_wp2_with (go_at_call 25; refine (lnone_nil _).mono ?_; rintro e w' ⟨rfl, rfl⟩)
  go_ret2
  exact ⟨rfl, rfl⟩
theorem lreceive_un (a : Option Addr) (n c : Nat) (now : Int) (lb : Nat) (w : World) (h : w.cell? ⟨lb, 0, none⟩ = some .nilIface) : Calls Try.prog 14 #[.pointer (some ⟨lb, 0, none⟩), .slice a n c, .int .i64 now] w fun e w' => e = .returned (.tuple #[.slice none 0 0, .int .i64 1]) ∧ w = w' := by
  have C := Lib.hid (lnone_un lb w h)
  go_enter Try.func14, Try.ntmps14
  go_wp2_with (go_at_call 25; refine C.out.mono ?_; rintro e w' ⟨rfl, rfl⟩)
  go_ret2
  exact ⟨rfl, rfl⟩
theorem ltick_nil (now : Int) (w : World) : Calls Try.prog 15 #[.pointer none, .int .i64 now] w fun e w' => e = .returned (.slice none 0 0) ∧ w = w' := by
  go_enter Try.func15, Try.ntmps15
  go_wp2_with (go_at_call 25; refine (lnone_nil _).mono ?_; rintro e w' ⟨rfl, rfl⟩)
  go_ret
  exact ⟨rfl, rfl⟩
theorem ltick_un (now : Int) (lb : Nat) (w : World) (h : w.cell? ⟨lb, 0, none⟩ = some .nilIface) : Calls Try.prog 15 #[.pointer (some ⟨lb, 0, none⟩), .int .i64 now] w fun e w' => e = .returned (.slice none 0 0) ∧ w = w' := by
  have C := Lib.hid (lnone_un lb w h)
  go_enter Try.func15, Try.ntmps15
  go_wp2_with (go_at_call 25; refine C.out.mono ?_; rintro e w' ⟨rfl, rfl⟩)
  go_ret
  exact ⟨rfl, rfl⟩
theorem ltick_a {lb o : Nat} {w : World} (h : LkC w lb 54 o) (now : Int) (ht : timeB now = true) {Q : Value → World → Prop}
    (C : Calls Try.prog 69 #[.pointer (some ⟨o, 0, none⟩), .int .i64 now] w fun e w' => ∃ v, e = .returned v ∧ Q v w') :
    Calls Try.prog 15 #[.pointer (some ⟨lb, 0, none⟩), .int .i64 now] w fun e w' => ∃ v, e = .returned v ∧ Q v w' := by
  have c0 : w.cell? ⟨lb, 0, none⟩ = some (.iface 54 (.pointer (some ⟨o, 0, none⟩))) := h.cell 0
  have CN := Lib.hid (lnone_at lb _ o w c0)
  have CT := ltime_any now w
  rw [ht] at CT
  have CT := Lib.hid CT
  have HC := Lib.hid C
  have hm : ∀ (F : Nat) (w : World), (method (F + 1) 54 (.pointer (some ⟨o, 0, none⟩)) "satchel/link.tells").run Try.prog w = .ok (69, .pointer (some ⟨o, 0, none⟩)) w := fun F w => by kernel_rfl
  clear h C ht
  go_enter Try.func15, Try.ntmps15
  go_wp2_with (first | (go_at_call 25; refine CN.out.mono ?_; rintro e w' ⟨rfl, rfl⟩) | (go_at_call 31; refine CT.out.mono ?_; rintro e w' ⟨rfl, rfl⟩))
  go_at_call 69
  refine HC.out.mono ?_
  rintro e w1 ⟨v, rfl, hq⟩
  have HQ := Lib.hid hq
  clear hq
  go_wp2_with fail
  go_ret
  exact ⟨v, rfl, HQ.out⟩
theorem ltick_d {lb o : Nat} {w : World} (h : LkC w lb 61 o) (now : Int) (ht : timeB now = true) {Q : Value → World → Prop}
    (C : Calls Try.prog 113 #[.pointer (some ⟨o, 0, none⟩), .int .i64 now] w fun e w' => ∃ v, e = .returned v ∧ Q v w') :
    Calls Try.prog 15 #[.pointer (some ⟨lb, 0, none⟩), .int .i64 now] w fun e w' => ∃ v, e = .returned v ∧ Q v w' := by
  have c0 : w.cell? ⟨lb, 0, none⟩ = some (.iface 61 (.pointer (some ⟨o, 0, none⟩))) := h.cell 0
  have CN := Lib.hid (lnone_at lb _ o w c0)
  have CT := ltime_any now w
  rw [ht] at CT
  have CT := Lib.hid CT
  have HC := Lib.hid C
  have hm : ∀ (F : Nat) (w : World), (method (F + 1) 61 (.pointer (some ⟨o, 0, none⟩)) "satchel/link.tells").run Try.prog w = .ok (113, .pointer (some ⟨o, 0, none⟩)) w := fun F w => by kernel_rfl
  clear h C ht
  go_enter Try.func15, Try.ntmps15
  go_wp2_with (first | (go_at_call 25; refine CN.out.mono ?_; rintro e w' ⟨rfl, rfl⟩) | (go_at_call 31; refine CT.out.mono ?_; rintro e w' ⟨rfl, rfl⟩))
  go_at_call 113
  refine HC.out.mono ?_
  rintro e w1 ⟨v, rfl, hq⟩
  have HQ := Lib.hid hq
  clear hq
  go_wp2_with fail
  go_ret
  exact ⟨v, rfl, HQ.out⟩
end Go.Proofs.Ytokembhfebnjpaa
