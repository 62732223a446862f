/- Chapter 15: Receive at an end. (Written by wip/lno.py.) -/
import Derived.Test.YtokembhfebnjpaaQLnM
import Derived.Test.YtokembhfebnjpaaQFrmK
namespace Go.Proofs.Ytokembhfebnjpaa
set_option maxRecDepth 20000
open Go.RowKit Flt
set_option linter.unusedVariables false
set_option linter.unusedSimpArgs false
set_option maxHeartbeats 1000000 in
theorem lreceive_alate {lb o : Nat} {w : World} (h : LkC w lb 54 o) (now : Int) (ht : timeB now = false) (a : Option Addr) (n c : Nat) :
    Calls Try.prog 14 #[.pointer (some ⟨lb, 0, none⟩), .slice a n c, .int .i64 now] w fun e w' => e = .returned (.tuple #[.slice none 0 0, .int .i64 2]) ∧ w = w' := by
  have c0 : w.cell? ⟨lb, 0, none⟩ = some (.iface 54 (.pointer (some ⟨o, 0, none⟩))) := h.cell 0
  have CN := Lib.hid (lnone_at lb _ o w c0)
  have CT := ltime_any now w
  rw [ht] at CT
  have CT := Lib.hid CT
  have hta : ∀ w : World, (Instr.typeAssert (.iface 54 (.pointer (some ⟨o, 0, none⟩))) 45 54 true).run Try.prog w = .ok (.tuple #[.pointer (some ⟨o, 0, none⟩), .bool true]) w := fun w => by kernel_rfl
  clear h ht
  go_enter Try.func14, Try.ntmps14
  go_wp2_with (first | (go_at_call 25; refine CN.out.mono ?_; rintro e w' ⟨rfl, rfl⟩) | (go_at_call 31; refine CT.out.mono ?_; rintro e w' ⟨rfl, rfl⟩))
  go_ret2
  exact ⟨rfl, rfl⟩
set_option maxHeartbeats 1000000 in
theorem lreceive_dlate {lb o : Nat} {w : World} (h : LkC w lb 61 o) (now : Int) (ht : timeB now = false) (a : Option Addr) (n c : Nat) :
    Calls Try.prog 14 #[.pointer (some ⟨lb, 0, none⟩), .slice a n c, .int .i64 now] w fun e w' => e = .returned (.tuple #[.slice none 0 0, .int .i64 2]) ∧ w = w' := by
  have c0 : w.cell? ⟨lb, 0, none⟩ = some (.iface 61 (.pointer (some ⟨o, 0, none⟩))) := h.cell 0
  have CN := Lib.hid (lnone_at lb _ o w c0)
  have CT := ltime_any now w
  rw [ht] at CT
  have CT := Lib.hid CT
  have hta : ∀ w : World, (Instr.typeAssert (.iface 61 (.pointer (some ⟨o, 0, none⟩))) 45 54 true).run Try.prog w = .ok (.tuple #[.pointer none, .bool false]) w := fun w => by kernel_rfl
  clear h ht
  go_enter Try.func14, Try.ntmps14
  go_wp2_with (first | (go_at_call 25; refine CN.out.mono ?_; rintro e w' ⟨rfl, rfl⟩) | (go_at_call 31; refine CT.out.mono ?_; rintro e w' ⟨rfl, rfl⟩))
  go_ret2
  exact ⟨rfl, rfl⟩
set_option maxHeartbeats 1000000 in
theorem lreceive_abad {lb o I : Nat} {t : Tk} {ext : List Value} {w : World} (h : LkC w lb 54 o) (hk : TkC w o t ext I) (hst : ¬ t.st = 3) (now : Int) (ht : timeB now = true) (a : Option Addr) (n c : Nat) (l : List Int) (hn : l.length = n) (hr : RdB w a l) (hl : n ≤ 100000000) (hcap : n ≤ c) (hcm : c ≤ maxLen) (he : errR l ≠ 0) :
    Calls Try.prog 14 #[.pointer (some ⟨lb, 0, none⟩), .slice a n c, .int .i64 now] w fun e w' => e = .returned (.tuple #[.slice none 0 0, .int .i64 (errR l)]) ∧ Kp (fun _ => False) w w' := by
  subst hn
  have c0 : w.cell? ⟨lb, 0, none⟩ = some (.iface 54 (.pointer (some ⟨o, 0, none⟩))) := h.cell 0
  have s0 := hk.c.1
  have CN := Lib.hid (lnone_at lb _ o w c0)
  have CT := ltime_any now w
  rw [ht] at CT
  have CT := Lib.hid CT
  have CR := Lib.hid (fread_any a c l w hr hl hcap hcm)
  have hta : ∀ w : World, (Instr.typeAssert (.iface 54 (.pointer (some ⟨o, 0, none⟩))) 45 54 true).run Try.prog w = .ok (.tuple #[.pointer (some ⟨o, 0, none⟩), .bool true]) w := fun w => by kernel_rfl
  obtain ⟨st, hst2⟩ : ∃ st, st = t.st := ⟨_, rfl⟩
  rw [← hst2] at s0 hst
  have hs3 : ¬ (st : Int) = 3 := by omega
  have hs4 : ((st : Int) == 3) = false := by simpa using hs3
  have heb : (errR l == 0) = false := by simpa using he
  have heb2 : (errR l != 0) = true := by simpa using he
  obtain ⟨er, her⟩ : ∃ er, er = errR l := ⟨_, rfl⟩
  rw [← her] at he heb heb2 ⊢
  have HER := Lib.hid her
  obtain ⟨n, hn⟩ : ∃ n, n = l.length := ⟨_, rfl⟩
  rw [← hn] at CR ⊢
  clear h hk ht hr hl hcap hcm hst2 her hn
  go_enter Try.func14, Try.ntmps14
  go_wp2_with (first | (go_at_call 25; refine CN.out.mono ?_; rintro e w' ⟨rfl, rfl⟩) | (go_at_call 31; refine CT.out.mono ?_; rintro e w' ⟨rfl, rfl⟩))
  go_at_call 32
  refine CR.out.mono ?_
  rintro e w1 hro
  obtain ⟨A', c', rfl, hrA, hfA, k1⟩ := hro
  rw [← HER.out]
  have K1 := Lib.hid k1
  generalize frR l = F at *
  obtain ⟨ty, se, bo, sq, ac, bd⟩ := F
  dsimp only [frA] at *
  clear hrA hfA k1 CR
  go_wp2_with fail
  go_ret2
  exact ⟨rfl, by first | exact K1.out.alloc _ | exact K1.out⟩
set_option maxHeartbeats 1000000 in
theorem lreceive_dbad {lb o I : Nat} {t : Tk} {ext : List Value} {w : World} (h : LkC w lb 61 o) (hk : TkC w o t ext I) (now : Int) (ht : timeB now = true) (a : Option Addr) (n c : Nat) (l : List Int) (hn : l.length = n) (hr : RdB w a l) (hl : n ≤ 100000000) (hcap : n ≤ c) (hcm : c ≤ maxLen) (he : errR l ≠ 0) :
    Calls Try.prog 14 #[.pointer (some ⟨lb, 0, none⟩), .slice a n c, .int .i64 now] w fun e w' => e = .returned (.tuple #[.slice none 0 0, .int .i64 (errR l)]) ∧ Kp (fun _ => False) w w' := by
  subst hn
  have c0 : w.cell? ⟨lb, 0, none⟩ = some (.iface 61 (.pointer (some ⟨o, 0, none⟩))) := h.cell 0
  have s0 := hk.c.1
  have CN := Lib.hid (lnone_at lb _ o w c0)
  have CT := ltime_any now w
  rw [ht] at CT
  have CT := Lib.hid CT
  have CR := Lib.hid (fread_any a c l w hr hl hcap hcm)
  have hta : ∀ w : World, (Instr.typeAssert (.iface 61 (.pointer (some ⟨o, 0, none⟩))) 45 54 true).run Try.prog w = .ok (.tuple #[.pointer none, .bool false]) w := fun w => by kernel_rfl
  obtain ⟨st, hst2⟩ : ∃ st, st = t.st := ⟨_, rfl⟩
  rw [← hst2] at s0
  have heb : (errR l == 0) = false := by simpa using he
  have heb2 : (errR l != 0) = true := by simpa using he
  obtain ⟨er, her⟩ : ∃ er, er = errR l := ⟨_, rfl⟩
  rw [← her] at he heb heb2 ⊢
  have HER := Lib.hid her
  obtain ⟨n, hn⟩ : ∃ n, n = l.length := ⟨_, rfl⟩
  rw [← hn] at CR ⊢
  clear h hk ht hr hl hcap hcm hst2 her hn
  go_enter Try.func14, Try.ntmps14
  go_wp2_with (first | (go_at_call 25; refine CN.out.mono ?_; rintro e w' ⟨rfl, rfl⟩) | (go_at_call 31; refine CT.out.mono ?_; rintro e w' ⟨rfl, rfl⟩))
  go_at_call 32
  refine CR.out.mono ?_
  rintro e w1 hro
  obtain ⟨A', c', rfl, hrA, hfA, k1⟩ := hro
  rw [← HER.out]
  have K1 := Lib.hid k1
  generalize frR l = F at *
  obtain ⟨ty, se, bo, sq, ac, bd⟩ := F
  dsimp only [frA] at *
  clear hrA hfA k1 CR
  go_wp2_with fail
  go_ret2
  exact ⟨rfl, by first | exact K1.out.alloc _ | exact K1.out⟩
end Go.Proofs.Ytokembhfebnjpaa
