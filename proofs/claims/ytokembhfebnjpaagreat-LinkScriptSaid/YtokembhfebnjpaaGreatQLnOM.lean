/- Chapter 15: Receive at an end. (Written by wip/lno.py.) -/
import Derived.Test.YtokembhfebnjpaaGreatQKt0M
import Derived.Test.YtokembhfebnjpaaGreatQFrmDM
import Derived.Test.YtokembhfebnjpaaGreatQLnGM
namespace Go.Proofs.YtokembhfebnjpaaGreat
set_option maxRecDepth 20000
open Go.RowKit Flt
set_option linter.unusedVariables false
set_option linter.unusedSimpArgs false
set_option maxHeartbeats 1000000 in
theorem lreceive_alate {lb o : Nat} {w : World} (h : LkC w lb 58 o) (now : Int) (ht : timeB now = false) (a : Option Addr) (n c : Nat) :
 Calls Tryz.prog 38 #[.pointer (some ⟨lb, 0, none⟩), .slice a n c, .int .i64 now] w fun e w' => e = .returned (.tuple #[.slice none 0 0, .int .i64 2]) ∧ w = w' := by
 have c0 : w.cell? ⟨lb, 0, none⟩ = some (.iface 58 (.pointer (some ⟨o, 0, none⟩))) := h.cell 0
 have CN := Lib.hid (lnone_at lb _ o w c0)
 have CT := ltime_any now w
 rw [ht] at CT
 have CT := Lib.hid CT
 have hta : ∀ w : World, (Instr.typeAssert (.iface 58 (.pointer (some ⟨o, 0, none⟩))) 50 58 true).run Tryz.prog w = .ok (.tuple #[.pointer (some ⟨o, 0, none⟩), .bool true]) w := fun w => by kernel_rfl
 clear h ht
 go_enter Tryz.func38, Tryz.ntmps38
 go_wp2_with (first | (go_at_call 33; refine CN.out.mono ?_; rintro e w' ⟨rfl, rfl⟩) | (go_at_call 42; refine CT.out.mono ?_; rintro e w' ⟨rfl, rfl⟩))
 go_ret2
 exact ⟨rfl, rfl⟩
set_option maxHeartbeats 1000000 in
theorem lreceive_dlate {lb o : Nat} {w : World} (h : LkC w lb 41 o) (now : Int) (ht : timeB now = false) (a : Option Addr) (n c : Nat) :
 Calls Tryz.prog 38 #[.pointer (some ⟨lb, 0, none⟩), .slice a n c, .int .i64 now] w fun e w' => e = .returned (.tuple #[.slice none 0 0, .int .i64 2]) ∧ w = w' := by
 have c0 : w.cell? ⟨lb, 0, none⟩ = some (.iface 41 (.pointer (some ⟨o, 0, none⟩))) := h.cell 0
 have CN := Lib.hid (lnone_at lb _ o w c0)
 have CT := ltime_any now w
 rw [ht] at CT
 have CT := Lib.hid CT
 have hta : ∀ w : World, (Instr.typeAssert (.iface 41 (.pointer (some ⟨o, 0, none⟩))) 50 58 true).run Tryz.prog w = .ok (.tuple #[.pointer none, .bool false]) w := fun w => by kernel_rfl
 clear h ht
 go_enter Tryz.func38, Tryz.ntmps38
 go_wp2_with (first | (go_at_call 33; refine CN.out.mono ?_; rintro e w' ⟨rfl, rfl⟩) | (go_at_call 42; refine CT.out.mono ?_; rintro e w' ⟨rfl, rfl⟩))
 go_ret2
 exact ⟨rfl, rfl⟩
set_option maxHeartbeats 1000000 in
theorem lreceive_abad {lb o I : Nat} {t : Tk} {ext : List Value} {w : World} (h : LkC w lb 58 o) (hk : TkC w o t ext I) (hst : ¬ t.st = 3) (now : Int) (ht : timeB now = true) (a : Option Addr) (n c : Nat) (l : List Int) (hn : l.length = n) (hr : RdB w a l) (hl : n ≤ 100000000) (hcap : n ≤ c) (hcm : c ≤ maxLen) (he : errR l ≠ 0) :
 Calls Tryz.prog 38 #[.pointer (some ⟨lb, 0, none⟩), .slice a n c, .int .i64 now] w fun e w' => e = .returned (.tuple #[.slice none 0 0, .int .i64 (errR l)]) ∧ Kp (fun _ => False) w w' := by
 subst hn
 have c0 : w.cell? ⟨lb, 0, none⟩ = some (.iface 58 (.pointer (some ⟨o, 0, none⟩))) := h.cell 0
 have s0 := hk.c.1
 have CN := Lib.hid (lnone_at lb _ o w c0)
 have CT := ltime_any now w
 rw [ht] at CT
 have CT := Lib.hid CT
 have CR := Lib.hid (fread_any a c l w hr hl hcap hcm)
 have hta : ∀ w : World, (Instr.typeAssert (.iface 58 (.pointer (some ⟨o, 0, none⟩))) 50 58 true).run Tryz.prog w = .ok (.tuple #[.pointer (some ⟨o, 0, none⟩), .bool true]) w := fun w => by kernel_rfl
 obtain ⟨st, hst2⟩ : ∃ st, st = t.st := ⟨_, rfl⟩
 rw [← hst2] at s0 hst
 have hs3 : ¬ (st : Int) = 3 := by omega
 have hs4 : ((st : Int) == 3) = false := by simpa using hs3
 have heb : (errR l == 0) = false := by simpa using he
 have heb2 : (errR l != 0) = true := by simpa using he
 obtain ⟨er, her⟩ : ∃ er, er = errR l := ⟨_, rfl⟩
 rw [← her] at he heb heb2 ⊢
 have HER := Lib.hid her
 obtain ⟨n, hn⟩ : ∃ n, n = l.length := ⟨_, rfl⟩
 rw [← hn] at CR ⊢
 clear h hk ht hr hl hcap hcm hst2 her hn
 go_enter Tryz.func38, Tryz.ntmps38
 go_wp2_with (first | (go_at_call 33; refine CN.out.mono ?_; rintro e w' ⟨rfl, rfl⟩) | (go_at_call 42; refine CT.out.mono ?_; rintro e w' ⟨rfl, rfl⟩))
 go_at_call 49
 refine CR.out.mono ?_
 rintro e w1 hro
 obtain ⟨A', c', rfl, hrA, hfA, k1⟩ := hro
 rw [← HER.out]
 have K1 := Lib.hid k1
 generalize frR l = F at *
 obtain ⟨ty, se, bo, sq, ac, bd⟩ := F
 dsimp only [frA] at *
 clear hrA hfA k1 CR
 go_wp2_with fail
 go_ret2
 exact ⟨rfl, by first | exact K1.out.alloc _ | exact K1.out⟩
set_option maxHeartbeats 1000000 in
theorem lreceive_dbad {lb o I : Nat} {t : Tk} {ext : List Value} {w : World} (h : LkC w lb 41 o) (hk : TkC w o t ext I) (now : Int) (ht : timeB now = true) (a : Option Addr) (n c : Nat) (l : List Int) (hn : l.length = n) (hr : RdB w a l) (hl : n ≤ 100000000) (hcap : n ≤ c) (hcm : c ≤ maxLen) (he : errR l ≠ 0) :
 Calls Tryz.prog 38 #[.pointer (some ⟨lb, 0, none⟩), .slice a n c, .int .i64 now] w fun e w' => e = .returned (.tuple #[.slice none 0 0, .int .i64 (errR l)]) ∧ Kp (fun _ => False) w w' := by
 subst hn
 have c0 : w.cell? ⟨lb, 0, none⟩ = some (.iface 41 (.pointer (some ⟨o, 0, none⟩))) := h.cell 0
 have s0 := hk.c.1
 have CN := Lib.hid (lnone_at lb _ o w c0)
 have CT := ltime_any now w
 rw [ht] at CT
 have CT := Lib.hid CT
 have CR := Lib.hid (fread_any a c l w hr hl hcap hcm)
 have hta : ∀ w : World, (Instr.typeAssert (.iface 41 (.pointer (some ⟨o, 0, none⟩))) 50 58 true).run Tryz.prog w = .ok (.tuple #[.pointer none, .bool false]) w := fun w => by kernel_rfl
 obtain ⟨st, hst2⟩ : ∃ st, st = t.st := ⟨_, rfl⟩
 rw [← hst2] at s0
 have heb : (errR l == 0) = false := by simpa using he
 have heb2 : (errR l != 0) = true := by simpa using he
 obtain ⟨er, her⟩ : ∃ er, er = errR l := ⟨_, rfl⟩
 rw [← her] at he heb heb2 ⊢
 have HER := Lib.hid her
 obtain ⟨n, hn⟩ : ∃ n, n = l.length := ⟨_, rfl⟩
 rw [← hn] at CR ⊢
 clear h hk ht hr hl hcap hcm hst2 her hn
 go_enter Tryz.func38, Tryz.ntmps38
 go_wp2_with (first | (go_at_call 33; refine CN.out.mono ?_; rintro e w' ⟨rfl, rfl⟩) | (go_at_call 42; refine CT.out.mono ?_; rintro e w' ⟨rfl, rfl⟩))
 go_at_call 49
 refine CR.out.mono ?_
 rintro e w1 hro
 obtain ⟨A', c', rfl, hrA, hfA, k1⟩ := hro
 rw [← HER.out]
 have K1 := Lib.hid k1
 generalize frR l = F at *
 obtain ⟨ty, se, bo, sq, ac, bd⟩ := F
 dsimp only [frA] at *
 clear hrA hfA k1 CR
 go_wp2_with fail
 go_ret2
 exact ⟨rfl, by first | exact K1.out.alloc _ | exact K1.out⟩
set_option maxHeartbeats 2000000 in
theorem lreceive_agood {lb o I : Nat} {t : Tk} {ext : List Value} {w : World} (h : LkC w lb 58 o) (hk : TkC w o t ext I) (hst : ¬ t.st = 3) (now : Int) (ht : timeB now = true) (a : Option Addr) (n c : Nat) (l : List Int) (hn : l.length = n) (hr : RdB w a l) (hl : n ≤ 100000000) (hcap : n ≤ c) (hcm : c ≤ maxLen) (he : errR l = 0) (f : Fr) (hf : frR l = f) (hse : f.se = t.se) {Q : Value → Int → World → Prop} (hQ : Stays Q)
 (C : ∀ w' A c', Kp (fun _ => False) w w' → RdB w' A f.bd → (∀ g, (Value.slice A 0 c').ownBlock = some g → w.heap.size ≤ g) → Tells Tryz.prog 155 #[.pointer (some ⟨o, 0, none⟩), .agg (frA f A c'), .int .i64 now] w' Q) :
 Tells Tryz.prog 38 #[.pointer (some ⟨lb, 0, none⟩), .slice a n c, .int .i64 now] w Q := by
 subst hn
 have c0 : w.cell? ⟨lb, 0, none⟩ = some (.iface 58 (.pointer (some ⟨o, 0, none⟩))) := h.cell 0
 have s0 := hk.c.1
 have CN := Lib.hid (lnone_at lb _ o w c0)
 have CT := ltime_any now w
 rw [ht] at CT
 have CT := Lib.hid CT
 have CR := fread_any a c l w hr hl hcap hcm
 unfold RdOut at CR
 rw [he, hf] at CR
 have CR := Lib.hid CR
 have hta : ∀ w : World, (Instr.typeAssert (.iface 58 (.pointer (some ⟨o, 0, none⟩))) 50 58 true).run Tryz.prog w = .ok (.tuple #[.pointer (some ⟨o, 0, none⟩), .bool true]) w := fun w => by kernel_rfl
 have hmh : ∀ (F : Nat) (w : World), (method (F + 1) 58 (.pointer (some ⟨o, 0, none⟩)) "satchel/link.hears").run Tryz.prog w = .ok (154, .pointer (some ⟨o, 0, none⟩)) w := fun F w => by kernel_rfl
 have hmt : ∀ (F : Nat) (w : World), (method (F + 1) 58 (.pointer (some ⟨o, 0, none⟩)) "satchel/link.takes").run Tryz.prog w = .ok (155, .pointer (some ⟨o, 0, none⟩)) w := fun F w => by kernel_rfl
 obtain ⟨st, hst2⟩ : ∃ st, st = t.st := ⟨_, rfl⟩
 rw [← hst2] at s0 hst
 have hs3 : ¬ (st : Int) = 3 := by omega
 have hs4 : ((st : Int) == 3) = false := by simpa using hs3
 have HH := Lib.hid (And.intro hk (And.intro hQ C))
 have CH := fun (w2 : World) (k : Kp (fun _ => False) w w2) (A : Option Addr) (c : Nat) => ahears_any (hk.kp0 k) f A c
 simp only [if_pos hse] at CH
 have CH := Lib.hid CH
 obtain ⟨n, hn⟩ : ∃ n, n = l.length := ⟨_, rfl⟩
 rw [← hn] at CR ⊢
 clear h hk ht hr hl hcap hcm hst2 hn he hf hQ C hse hst
 unfold Tells
 go_enter Tryz.func38, Tryz.ntmps38
 go_wp2_with (first | (go_at_call 33; refine CN.out.mono ?_; rintro e w' ⟨rfl, rfl⟩) | (go_at_call 42; refine CT.out.mono ?_; rintro e w' ⟨rfl, rfl⟩))
 go_at_call 49
 refine CR.out.mono ?_
 rintro e w1 hro
 obtain ⟨A, c', rfl, hrA, hfA, k1⟩ := hro
 have K1 := Lib.hid (And.intro k1 (And.intro hrA hfA))
 have c0 := k1.cell c0 (fun h => h)
 obtain ⟨ty, se, bo, sq, ac, bd⟩ := f
 dsimp only [frA] at *
 obtain ⟨w2, hw2⟩ : ∃ w2, w2 = w1.alloc (.cells #[.int .i64 ty, .int .i64 se, .int .i64 bo, .int .i64 sq, .int .i64 ac, .slice A bd.length c'] 34) := ⟨_, rfl⟩
 obtain ⟨fb, hfb⟩ : ∃ fb, fb = w1.heap.size := ⟨_, rfl⟩
 have k2 : Kp (fun _ => False) w1 w2 := by rw [hw2]; exact (Kp.refl _ w1).alloc _
 have ab : At w2 fb [.int .i64 ty, .int .i64 se, .int .i64 bo, .int .i64 sq, .int .i64 ac, .slice A bd.length c'] := by rw [hw2, hfb]; exact At.new w1 _ _
 have q0 : w2.cell? ⟨fb, 0, none⟩ = some (.int .i64 ty) := ab.cell 0
 have q1 : w2.cell? ⟨fb, 1, none⟩ = some (.int .i64 se) := ab.cell 1
 have q2 : w2.cell? ⟨fb, 2, none⟩ = some (.int .i64 bo) := ab.cell 2
 have q3 : w2.cell? ⟨fb, 3, none⟩ = some (.int .i64 sq) := ab.cell 3
 have q4 : w2.cell? ⟨fb, 4, none⟩ = some (.int .i64 ac) := ab.cell 4
 have q5 : w2.cell? ⟨fb, 5, none⟩ = some (.slice A bd.length c') := ab.cell 5
 have c0 := k2.cell c0 (fun h => h)
 have K2 := Lib.hid (k1.trans k2)
 have K12 := Lib.hid k2
 generalize bd.length = nb at *
 clear hrA hfA k1 CR k2 ab
 go_upto_region 10 with fail
 rw [← hw2, ← hfb]
 clear hw2 hfb
 refine region_L (S := fun w' => Kp (fun _ => False) w2 w') [5] rfl ?_
 have hSd : ∀ (w' : World) (n' : Nat), Kp (fun _ => False) w2 w' → Kp (fun _ => False) w2 (w'.drewN n') := fun w' n' h => h.drewN n'
 have hS0 : Kp (fun _ => False) w2 w2.drew := (Kp.refl _ w2).drew
 refine anyL_world (fun w' => Kp (fun _ => False) w2 w') hS0 ?_
 clear hS0
 intro z0 kz0
 refine tF 0 43 (.pointer (some ⟨lb, 0, none⟩)) rfl rfl hSd (fun _ => kz0) ?_
 try simp only [sC]
 refine tF 1 44 (.pointer (some ⟨lb, 0, none⟩)) rfl rfl hSd (fun _ => kz0) ?_
 try simp only [sC]
 refine tF 2 45 (.pointer (some ⟨lb, 0, none⟩)) rfl rfl hSd (fun _ => kz0) ?_
 try simp only [sC]
 refine tD 3 46 (.iface 58 (.pointer (some ⟨o, 0, none⟩))) rfl rfl hSd (.inl (.inl ⟨rfl, fun w' hS => by have h0 := hS.cell c0 (fun h => h); go_simp⟩)) kz0 ?_
 try simp only [sC]
 refine tD 4 47 (.agg #[.int .i64 ty, .int .i64 se, .int .i64 bo, .int .i64 sq, .int .i64 ac, .slice A nb c']) rfl rfl hSd (.inl (.inl ⟨rfl, fun w' hS => by have h0 := hS.cell q0 (fun h => h); have h1 := hS.cell q1 (fun h => h); have h2 := hS.cell q2 (fun h => h); have h3 := hS.cell q3 (fun h => h); have h4 := hS.cell q4 (fun h => h); have h5 := hS.cell q5 (fun h => h); go_simp⟩)) kz0 ?_
 try simp only [sC]
 refine tA 5 ?_
 intro n11
 refine wpOp_of rfl rfl ?_
 go_simp
 refine Calls.mono (CH.out (z0.drewN n11) (K2.out.trans (kz0.drewN n11)) A c') ?_
 rintro e w9p ⟨rfl, k9⟩
 try dsimp only
 refine ⟨fun h => Bool.noConfusion (show false = true from h), ?_⟩
 try simp only [sC]
 refine tF 6 11 (.int .i64 0) rfl rfl hSd (fun h => Bool.noConfusion (show false = true from h)) ?_
 try simp only [sC]
 refine anyL_done (by kernel_rfl) (fun nn => ?_) _
 have kw9 : Kp (fun _ => False) w9p (w9p.drewN nn) := (Kp.refl _ w9p).drewN nn
 generalize w9p.drewN nn = w9 at *
 have K9 := Lib.hid ((kz0.drewN n11).trans (k9.trans kw9))
 clear hSd kz0 k9 kw9
 go_upto_region 13 with fail
 have c0 := K9.out.cell c0 (fun h => h)
 have q0 := K9.out.cell q0 (fun h => h)
 have q1 := K9.out.cell q1 (fun h => h)
 have q2 := K9.out.cell q2 (fun h => h)
 have q3 := K9.out.cell q3 (fun h => h)
 have q4 := K9.out.cell q4 (fun h => h)
 have q5 := K9.out.cell q5 (fun h => h)
 refine region_L (S := fun w' => Kp (fun _ => False) w9 w') [6] rfl ?_
 have hSd : ∀ (w' : World) (n' : Nat), Kp (fun _ => False) w9 w' → Kp (fun _ => False) w9 (w'.drewN n') := fun w' n' h => h.drewN n'
 have hS0 : Kp (fun _ => False) w9 w9.drew := (Kp.refl _ w9).drew
 refine anyL_world (fun w' => Kp (fun _ => False) w9 w') hS0 ?_
 clear hS0
 intro z0 kz0
 refine tF 0 52 (.pointer (some ⟨lb, 0, none⟩)) rfl rfl hSd (fun _ => kz0) ?_
 try simp only [sC]
 refine tF 1 53 (.pointer (some ⟨lb, 0, none⟩)) rfl rfl hSd (fun _ => kz0) ?_
 try simp only [sC]
 refine tF 2 54 (.pointer (some ⟨lb, 0, none⟩)) rfl rfl hSd (fun _ => kz0) ?_
 try simp only [sC]
 refine tD 3 55 (.iface 58 (.pointer (some ⟨o, 0, none⟩))) rfl rfl hSd (.inl (.inl ⟨rfl, fun w' hS => by have h0 := hS.cell c0 (fun h => h); go_simp⟩)) kz0 ?_
 try simp only [sC]
 refine tD 4 56 (.agg #[.int .i64 ty, .int .i64 se, .int .i64 bo, .int .i64 sq, .int .i64 ac, .slice A nb c']) rfl rfl hSd (.inl (.inl ⟨rfl, fun w' hS => by have h0 := hS.cell q0 (fun h => h); have h1 := hS.cell q1 (fun h => h); have h2 := hS.cell q2 (fun h => h); have h3 := hS.cell q3 (fun h => h); have h4 := hS.cell q4 (fun h => h); have h5 := hS.cell q5 (fun h => h); go_simp⟩)) kz0 ?_
 try simp only [sC]
 refine tF 5 57 (.int .i64 now) rfl rfl hSd (fun _ => kz0) ?_
 try simp only [sC]
 refine tA 6 ?_
 intro n11
 refine wpOp_of rfl rfl ?_
 go_simp
 refine Calls.mono (HH.out.2.2 (z0.drewN n11) A c' ((K2.out.trans K9.out).trans (kz0.drewN n11)) (K1.out.2.1.kp0 ((K12.out.trans K9.out).trans (kz0.drewN n11)) (fun _ _ h => h)) K1.out.2.2) ?_
 rintro e w10p ⟨v, k, rfl, hq⟩
 try dsimp only
 refine ⟨fun h => Bool.noConfusion (show false = true from h), ?_⟩
 try simp only [sC]
 refine tF 7 59 v rfl rfl hSd (fun h => Bool.noConfusion (show false = true from h)) ?_
 try simp only [sC]
 refine tF 8 60 (.int .i64 k) rfl rfl hSd (fun h => Bool.noConfusion (show false = true from h)) ?_
 try simp only [sC]
 refine tF 9 6 v rfl rfl hSd (fun h => Bool.noConfusion (show false = true from h)) ?_
 try simp only [sC]
 refine tF 10 7 (.int .i64 k) rfl rfl hSd (fun h => Bool.noConfusion (show false = true from h)) ?_
 try simp only [sC]
 refine anyL_done (by kernel_rfl) (fun nn => ?_) _
 clear hSd kz0
 go_wp2_with fail
 go_ret2
 exact ⟨v, k, rfl, HH.out.2.1 _ _ _ _ hq⟩
set_option maxHeartbeats 2000000 in
theorem lreceive_dgood {lb o I : Nat} {t : Tk} {ext : List Value} {w : World} (h : LkC w lb 41 o) (hk : TkC w o t ext I) (now : Int) (ht : timeB now = true) (a : Option Addr) (n c : Nat) (l : List Int) (hn : l.length = n) (hr : RdB w a l) (hl : n ≤ 100000000) (hcap : n ≤ c) (hcm : c ≤ maxLen) (he : errR l = 0) (f : Fr) (hf : frR l = f) {Q : Value → Int → World → Prop} (hQ : Stays Q)
 (C : ∀ w' A c', Kp (fun _ => False) w w' → RdB w' A f.bd → (∀ g, (Value.slice A 0 c').ownBlock = some g → w.heap.size ≤ g) → Tells Tryz.prog 106 #[.pointer (some ⟨o, 0, none⟩), .agg (frA f A c'), .int .i64 now] w' Q) :
 Tells Tryz.prog 38 #[.pointer (some ⟨lb, 0, none⟩), .slice a n c, .int .i64 now] w Q := by
 subst hn
 have c0 : w.cell? ⟨lb, 0, none⟩ = some (.iface 41 (.pointer (some ⟨o, 0, none⟩))) := h.cell 0
 have s0 := hk.c.1
 have CN := Lib.hid (lnone_at lb _ o w c0)
 have CT := ltime_any now w
 rw [ht] at CT
 have CT := Lib.hid CT
 have CR := fread_any a c l w hr hl hcap hcm
 unfold RdOut at CR
 rw [he, hf] at CR
 have CR := Lib.hid CR
 have hta : ∀ w : World, (Instr.typeAssert (.iface 41 (.pointer (some ⟨o, 0, none⟩))) 50 58 true).run Tryz.prog w = .ok (.tuple #[.pointer none, .bool false]) w := fun w => by kernel_rfl
 have hmh : ∀ (F : Nat) (w : World), (method (F + 1) 41 (.pointer (some ⟨o, 0, none⟩)) "satchel/link.hears").run Tryz.prog w = .ok (105, .pointer (some ⟨o, 0, none⟩)) w := fun F w => by kernel_rfl
 have hmt : ∀ (F : Nat) (w : World), (method (F + 1) 41 (.pointer (some ⟨o, 0, none⟩)) "satchel/link.takes").run Tryz.prog w = .ok (106, .pointer (some ⟨o, 0, none⟩)) w := fun F w => by kernel_rfl
 obtain ⟨st, hst2⟩ : ∃ st, st = t.st := ⟨_, rfl⟩
 rw [← hst2] at s0


 have HH := Lib.hid (And.intro hk (And.intro hQ C))
 have CH := fun (w2 : World) (A : Option Addr) (c : Nat) => dhears_any o w2 f A c

 have CH := Lib.hid CH
 obtain ⟨n, hn⟩ : ∃ n, n = l.length := ⟨_, rfl⟩
 rw [← hn] at CR ⊢
 clear h hk ht hr hl hcap hcm hst2 hn he hf hQ C
 unfold Tells
 go_enter Tryz.func38, Tryz.ntmps38
 go_wp2_with (first | (go_at_call 33; refine CN.out.mono ?_; rintro e w' ⟨rfl, rfl⟩) | (go_at_call 42; refine CT.out.mono ?_; rintro e w' ⟨rfl, rfl⟩))
 go_at_call 49
 refine CR.out.mono ?_
 rintro e w1 hro
 obtain ⟨A, c', rfl, hrA, hfA, k1⟩ := hro
 have K1 := Lib.hid (And.intro k1 (And.intro hrA hfA))
 have c0 := k1.cell c0 (fun h => h)
 obtain ⟨ty, se, bo, sq, ac, bd⟩ := f
 dsimp only [frA] at *
 obtain ⟨w2, hw2⟩ : ∃ w2, w2 = w1.alloc (.cells #[.int .i64 ty, .int .i64 se, .int .i64 bo, .int .i64 sq, .int .i64 ac, .slice A bd.length c'] 34) := ⟨_, rfl⟩
 obtain ⟨fb, hfb⟩ : ∃ fb, fb = w1.heap.size := ⟨_, rfl⟩
 have k2 : Kp (fun _ => False) w1 w2 := by rw [hw2]; exact (Kp.refl _ w1).alloc _
 have ab : At w2 fb [.int .i64 ty, .int .i64 se, .int .i64 bo, .int .i64 sq, .int .i64 ac, .slice A bd.length c'] := by rw [hw2, hfb]; exact At.new w1 _ _
 have q0 : w2.cell? ⟨fb, 0, none⟩ = some (.int .i64 ty) := ab.cell 0
 have q1 : w2.cell? ⟨fb, 1, none⟩ = some (.int .i64 se) := ab.cell 1
 have q2 : w2.cell? ⟨fb, 2, none⟩ = some (.int .i64 bo) := ab.cell 2
 have q3 : w2.cell? ⟨fb, 3, none⟩ = some (.int .i64 sq) := ab.cell 3
 have q4 : w2.cell? ⟨fb, 4, none⟩ = some (.int .i64 ac) := ab.cell 4
 have q5 : w2.cell? ⟨fb, 5, none⟩ = some (.slice A bd.length c') := ab.cell 5
 have c0 := k2.cell c0 (fun h => h)
 have K2 := Lib.hid (k1.trans k2)
 have K12 := Lib.hid k2
 generalize bd.length = nb at *
 clear hrA hfA k1 CR k2 ab
 go_upto_region 10 with fail
 rw [← hw2, ← hfb]
 clear hw2 hfb
 refine region_L (S := fun w' => Kp (fun _ => False) w2 w') [5] rfl ?_
 have hSd : ∀ (w' : World) (n' : Nat), Kp (fun _ => False) w2 w' → Kp (fun _ => False) w2 (w'.drewN n') := fun w' n' h => h.drewN n'
 have hS0 : Kp (fun _ => False) w2 w2.drew := (Kp.refl _ w2).drew
 refine anyL_world (fun w' => Kp (fun _ => False) w2 w') hS0 ?_
 clear hS0
 intro z0 kz0
 refine tF 0 43 (.pointer (some ⟨lb, 0, none⟩)) rfl rfl hSd (fun _ => kz0) ?_
 try simp only [sC]
 refine tF 1 44 (.pointer (some ⟨lb, 0, none⟩)) rfl rfl hSd (fun _ => kz0) ?_
 try simp only [sC]
 refine tF 2 45 (.pointer (some ⟨lb, 0, none⟩)) rfl rfl hSd (fun _ => kz0) ?_
 try simp only [sC]
 refine tD 3 46 (.iface 41 (.pointer (some ⟨o, 0, none⟩))) rfl rfl hSd (.inl (.inl ⟨rfl, fun w' hS => by have h0 := hS.cell c0 (fun h => h); go_simp⟩)) kz0 ?_
 try simp only [sC]
 refine tD 4 47 (.agg #[.int .i64 ty, .int .i64 se, .int .i64 bo, .int .i64 sq, .int .i64 ac, .slice A nb c']) rfl rfl hSd (.inl (.inl ⟨rfl, fun w' hS => by have h0 := hS.cell q0 (fun h => h); have h1 := hS.cell q1 (fun h => h); have h2 := hS.cell q2 (fun h => h); have h3 := hS.cell q3 (fun h => h); have h4 := hS.cell q4 (fun h => h); have h5 := hS.cell q5 (fun h => h); go_simp⟩)) kz0 ?_
 try simp only [sC]
 refine tA 5 ?_
 intro n11
 refine wpOp_of rfl rfl ?_
 go_simp
 refine Calls.mono (CH.out (z0.drewN n11) A c') ?_
 rintro e w9p ⟨rfl, k9⟩
 try dsimp only
 refine ⟨fun h => Bool.noConfusion (show false = true from h), ?_⟩
 try simp only [sC]
 refine tF 6 11 (.int .i64 0) rfl rfl hSd (fun h => Bool.noConfusion (show false = true from h)) ?_
 try simp only [sC]
 refine anyL_done (by kernel_rfl) (fun nn => ?_) _
 have kw9 : Kp (fun _ => False) w9p (w9p.drewN nn) := (Kp.refl _ w9p).drewN nn
 generalize w9p.drewN nn = w9 at *
 have K9 := Lib.hid ((kz0.drewN n11).trans (k9.trans kw9))
 clear hSd kz0 k9 kw9
 go_upto_region 13 with fail
 have c0 := K9.out.cell c0 (fun h => h)
 have q0 := K9.out.cell q0 (fun h => h)
 have q1 := K9.out.cell q1 (fun h => h)
 have q2 := K9.out.cell q2 (fun h => h)
 have q3 := K9.out.cell q3 (fun h => h)
 have q4 := K9.out.cell q4 (fun h => h)
 have q5 := K9.out.cell q5 (fun h => h)
 refine region_L (S := fun w' => Kp (fun _ => False) w9 w') [6] rfl ?_
 have hSd : ∀ (w' : World) (n' : Nat), Kp (fun _ => False) w9 w' → Kp (fun _ => False) w9 (w'.drewN n') := fun w' n' h => h.drewN n'
 have hS0 : Kp (fun _ => False) w9 w9.drew := (Kp.refl _ w9).drew
 refine anyL_world (fun w' => Kp (fun _ => False) w9 w') hS0 ?_
 clear hS0
 intro z0 kz0
 refine tF 0 52 (.pointer (some ⟨lb, 0, none⟩)) rfl rfl hSd (fun _ => kz0) ?_
 try simp only [sC]
 refine tF 1 53 (.pointer (some ⟨lb, 0, none⟩)) rfl rfl hSd (fun _ => kz0) ?_
 try simp only [sC]
 refine tF 2 54 (.pointer (some ⟨lb, 0, none⟩)) rfl rfl hSd (fun _ => kz0) ?_
 try simp only [sC]
 refine tD 3 55 (.iface 41 (.pointer (some ⟨o, 0, none⟩))) rfl rfl hSd (.inl (.inl ⟨rfl, fun w' hS => by have h0 := hS.cell c0 (fun h => h); go_simp⟩)) kz0 ?_
 try simp only [sC]
 refine tD 4 56 (.agg #[.int .i64 ty, .int .i64 se, .int .i64 bo, .int .i64 sq, .int .i64 ac, .slice A nb c']) rfl rfl hSd (.inl (.inl ⟨rfl, fun w' hS => by have h0 := hS.cell q0 (fun h => h); have h1 := hS.cell q1 (fun h => h); have h2 := hS.cell q2 (fun h => h); have h3 := hS.cell q3 (fun h => h); have h4 := hS.cell q4 (fun h => h); have h5 := hS.cell q5 (fun h => h); go_simp⟩)) kz0 ?_
 try simp only [sC]
 refine tF 5 57 (.int .i64 now) rfl rfl hSd (fun _ => kz0) ?_
 try simp only [sC]
 refine tA 6 ?_
 intro n11
 refine wpOp_of rfl rfl ?_
 go_simp
 refine Calls.mono (HH.out.2.2 (z0.drewN n11) A c' ((K2.out.trans K9.out).trans (kz0.drewN n11)) (K1.out.2.1.kp0 ((K12.out.trans K9.out).trans (kz0.drewN n11)) (fun _ _ h => h)) K1.out.2.2) ?_
 rintro e w10p ⟨v, k, rfl, hq⟩
 try dsimp only
 refine ⟨fun h => Bool.noConfusion (show false = true from h), ?_⟩
 try simp only [sC]
 refine tF 7 59 v rfl rfl hSd (fun h => Bool.noConfusion (show false = true from h)) ?_
 try simp only [sC]
 refine tF 8 60 (.int .i64 k) rfl rfl hSd (fun h => Bool.noConfusion (show false = true from h)) ?_
 try simp only [sC]
 refine tF 9 6 v rfl rfl hSd (fun h => Bool.noConfusion (show false = true from h)) ?_
 try simp only [sC]
 refine tF 10 7 (.int .i64 k) rfl rfl hSd (fun h => Bool.noConfusion (show false = true from h)) ?_
 try simp only [sC]
 refine anyL_done (by kernel_rfl) (fun nn => ?_) _
 clear hSd kz0
 go_wp2_with fail
 go_ret2
 exact ⟨v, k, rfl, HH.out.2.1 _ _ _ _ hq⟩
def sendT (t : Tk) (p : Pk) (V : Value) : Tk := { t with i := { t.i with x := { t.i.x with last := t.i.x.last + 1, V := V, l := t.i.x.l ++ [p] } } }
theorem TkC.sent {W W' : World} {o I : Nat} {t : Tk} {ext : List Value} (h : TkC W o t ext I) (hst : t.st = 2) {p : Pk} {V' : Value} (hp : p.times = 0) (hw : WinC W' t.i.g { t.i.x with last := t.i.x.last + 1, V := V', l := t.i.x.l ++ [p] })
 (hM : ∀ k, Mine t.i.g { t.i.x with last := t.i.x.last + 1, V := V', l := t.i.x.l ++ [p] } k → Mine t.i.g t.i.x k ∨ W.heap.size ≤ k) (k : Kp (Mine t.i.g t.i.x) W W') : TkC W' o (sendT t p V') ext (I + 1) := by
 have hu := h.up hst
 have hF : ∀ g, t.i.F g → g < W.heap.size := fun g hg => h.lt (.inr ⟨hst, .inr hg⟩)
 refine { h with hat := k.at h.hat (fun e => hu.oW e), up := fun _ => ?_ }
 have h1 := hu.last
 have h2 := hu.ll
 refine { hu with win := hw, ms := hu.ms, last := by show t.i.x.last + 1 ≤ I + 1; omega, ll := by show (t.i.x.l ++ [p]).length ≤ t.i.x.last + 1; rw [List.length_append, List.length_singleton]; omega, times := fun j hj => ?_, inb := hu.inb.kp k (fun g hg e => hu.ap g e hg), oW := fun hm => ?_, ap := fun j hj hF' => ?_ }
 · have hj : j < (t.i.x.l ++ [p]).length := hj
   show (pk (t.i.x.l ++ [p]) j).times ≤ I + 1
   rw [List.length_append, List.length_singleton] at hj
   by_cases hj' : j < t.i.x.l.length
   · rw [pk_app_lt hj']; have := hu.times j hj'; omega
   · obtain rfl : j = t.i.x.l.length := by omega
     rw [pk_app_at, hp]; omega
 · rcases hM _ hm with e | e
   · exact hu.oW e
   · have := h.hat.lt; omega
 · rcases hM _ hj with e | e
   · exact hu.ap j e hF'
   · have := hF j hF'; omega
theorem me_sent {W : World} {o : Nat} {t : Tk} {p : Pk} {V' : Value} (hM : ∀ k, Mine t.i.g { t.i.x with last := t.i.x.last + 1, V := V', l := t.i.x.l ++ [p] } k → Mine t.i.g t.i.x k ∨ W.heap.size ≤ k) {k : Nat} (hk : Me o (sendT t p V') k) : Me o t k ∨ W.heap.size ≤ k := by
 rcases hk with hk | ⟨e, hk | hk⟩
 · exact .inl (.inl hk)
 · rcases hM k hk with e1 | e1
   · exact .inl (.inr ⟨e, .inl e1⟩)
   · exact .inr e1
 · exact .inl (.inr ⟨e, .inr hk⟩)
theorem lsend_ashut {lb o I : Nat} {t : Tk} {ext : List Value} {w : World} (h : LkC w lb 58 o) (hk : TkC w o t ext I) (hst : ¬ t.st = 2) (a : Option Addr) (n c : Nat) : Calls Tryz.prog 15 #[.pointer (some ⟨lb, 0, none⟩), .slice a n c] w fun e w' => e = .returned (.int .i64 9) ∧ w = w' := by
 have c0 : w.cell? ⟨lb, 0, none⟩ = some (.iface 58 (.pointer (some ⟨o, 0, none⟩))) := h.cell 0
 have CN := Lib.hid (lnone_at lb _ o w c0)
 have CI := tis_any o t.st w hk.c.1
 rw [decide_eq_false hst] at CI
 have CI := Lib.hid CI
 have hm : ∀ (F : Nat) (w : World), (method (F + 1) 58 (.pointer (some ⟨o, 0, none⟩)) "satchel/link.talks").run Tryz.prog w = .ok (107, .pointer (some ⟨o, 0, none⟩)) w := fun F w => by kernel_rfl
 clear h hk hst
 go_enter Tryz.func15, Tryz.ntmps15
 go_wp2_with (first | (go_at_call 33; refine CN.out.mono ?_; rintro e w' ⟨rfl, rfl⟩) | (go_at_call 107; refine (talks_any o _).mono ?_; rintro e w' ⟨rfl, rfl⟩) | (go_at_call 34; refine CI.out.mono ?_; rintro e w' ⟨rfl, rfl⟩))
 go_ret
 exact ⟨rfl, rfl⟩
theorem lsend_along {lb o I : Nat} {t : Tk} {ext : List Value} {w : World} (h : LkC w lb 58 o) (hk : TkC w o t ext I) (hst : t.st = 2) (a : Option Addr) (n c : Nat) (hn : 1400 < n) (hnm : n ≤ 1000000000) : Calls Tryz.prog 15 #[.pointer (some ⟨lb, 0, none⟩), .slice a n c] w fun e w' => e = .returned (.int .i64 3) ∧ w = w' := by
 have c0 : w.cell? ⟨lb, 0, none⟩ = some (.iface 58 (.pointer (some ⟨o, 0, none⟩))) := h.cell 0
 have CN := Lib.hid (lnone_at lb _ o w c0)
 have CI := tis_any o t.st w hk.c.1
 rw [decide_eq_true hst] at CI
 have CI := Lib.hid CI
 have hm : ∀ (F : Nat) (w : World), (method (F + 1) 58 (.pointer (some ⟨o, 0, none⟩)) "satchel/link.talks").run Tryz.prog w = .ok (107, .pointer (some ⟨o, 0, none⟩)) w := fun F w => by kernel_rfl
 have j1 : (n : Int) > 1400 := by omega
 clear h hk hst
 go_enter Tryz.func15, Tryz.ntmps15
 go_wp2_with (first | (go_at_call 33; refine CN.out.mono ?_; rintro e w' ⟨rfl, rfl⟩) | (go_at_call 107; refine (talks_any o _).mono ?_; rintro e w' ⟨rfl, rfl⟩) | (go_at_call 34; refine CI.out.mono ?_; rintro e w' ⟨rfl, rfl⟩))
 go_ret
 exact ⟨rfl, rfl⟩
theorem lsend_afull {lb o I : Nat} {t : Tk} {ext : List Value} {w : World} (h : LkC w lb 58 o) (hk : TkC w o t ext I) (hst : t.st = 2) (a : Option Addr) (n c : Nat) (hn : n ≤ 1400) (hf : t.i.x.size ≤ t.i.x.l.length) : Calls Tryz.prog 15 #[.pointer (some ⟨lb, 0, none⟩), .slice a n c] w fun e w' => e = .returned (.int .i64 8) ∧ ∃ k, w' = w.drewN k := by
 have c0 : w.cell? ⟨lb, 0, none⟩ = some (.iface 58 (.pointer (some ⟨o, 0, none⟩))) := h.cell 0
 have CN := Lib.hid (lnone_at lb _ o w c0)
 have CI := tis_any o t.st w hk.c.1
 rw [decide_eq_true hst] at CI
 have CI := Lib.hid CI
 have hm : ∀ (F : Nat) (w : World), (method (F + 1) 58 (.pointer (some ⟨o, 0, none⟩)) "satchel/link.talks").run Tryz.prog w = .ok (107, .pointer (some ⟨o, 0, none⟩)) w := fun F w => by kernel_rfl
 have j1 : ¬ (n : Int) > 1400 := by omega
 have hu := h.cell 0
 have c4 := hk.c.2.2.2.2.1
 rw [(hk.up hst).wv] at c4
 have CP := Lib.hid (push_full (hk.up hst).win hf a n c)
 generalize t.i.g = g at *
 clear h hk hst hu hf
 go_enter Tryz.func15, Tryz.ntmps15
 go_wp2_with (first | (go_at_call 33; refine CN.out.mono ?_; rintro e w' ⟨rfl, rfl⟩) | (go_at_call 107; refine (talks_any o _).mono ?_; rintro e w' ⟨rfl, rfl⟩) | (go_at_call 34; refine CI.out.mono ?_; rintro e w' ⟨rfl, rfl⟩) | (go_at_call 35; refine CP.out.mono ?_; rintro e w' ⟨rfl, k, rfl⟩))
 go_ret
 exact ⟨rfl, _, rfl⟩
theorem lsend_aok {lb o I : Nat} {t : Tk} {ext : List Value} {w : World} (h : LkC w lb 58 o) (hk : TkC w o t ext I) (hst : t.st = 2) (hI : I ≤ 1000000) (a : Option Addr) (n c : Nat) (body : List Int) (hn : n = body.length) (hr : RdB w a body) (hnb : n ≤ 1400) (hf : t.i.x.l.length < t.i.x.size) : Calls Tryz.prog 15 #[.pointer (some ⟨lb, 0, none⟩), .slice a n c] w fun e w' => e = .returned (.int .i64 0) ∧ ∃ p V', p.seq = t.i.x.last + 1 ∧ p.body = body ∧ p.times = 0 ∧ TkC w' o (sendT t p V') ext (I + 1) ∧ (∀ k, Me o (sendT t p V') k → Me o t k ∨ w.heap.size ≤ k) ∧ Kp (Me o t) w w' := by
 have c0 : w.cell? ⟨lb, 0, none⟩ = some (.iface 58 (.pointer (some ⟨o, 0, none⟩))) := h.cell 0
 have CN := Lib.hid (lnone_at lb _ o w c0)
 have CI := tis_any o t.st w hk.c.1
 rw [decide_eq_true hst] at CI
 have CI := Lib.hid CI
 have hm : ∀ (F : Nat) (w : World), (method (F + 1) 58 (.pointer (some ⟨o, 0, none⟩)) "satchel/link.talks").run Tryz.prog w = .ok (107, .pointer (some ⟨o, 0, none⟩)) w := fun F w => by kernel_rfl
 have j1 : ¬ (n : Int) > 1400 := by omega
 have c4 := hk.c.2.2.2.2.1
 rw [(hk.up hst).wv] at c4
 have CP := push_ok (hk.up hst).win hf (by have := (hk.up hst).last; omega) a n c body hn hr (by omega)
 have HK := Lib.hid (And.intro hk hst)
 obtain ⟨g, hg⟩ : ∃ g, g = t.i.g := ⟨_, rfl⟩
 rw [← hg] at c4 CP
 have CP := Lib.hid CP
 have HG := Lib.hid hg
 clear h hk hst hf hr hn hg
 go_enter Tryz.func15, Tryz.ntmps15
 go_wp2_with (first | (go_at_call 33; refine CN.out.mono ?_; rintro e w' ⟨rfl, rfl⟩) | (go_at_call 107; refine (talks_any o _).mono ?_; rintro e w' ⟨rfl, rfl⟩) | (go_at_call 34; refine CI.out.mono ?_; rintro e w' ⟨rfl, rfl⟩))
 go_at_call 35
 refine CP.out.mono ?_
 rintro e w1 ⟨rfl, p, V', h1, h2, h3, h4, h5, h6⟩
 rw [HG.out] at h4 h5 h6
 have H := Lib.hid (And.intro h1 (And.intro h2 (And.intro h3 (And.intro (HK.out.1.sent HK.out.2 h3 h4 h5 h6) (And.intro (fun k (hk : Me o (sendT t p V') k) => me_sent h5 hk) (h6.mono (S' := Me o t) (fun k _ hk => Or.inr ⟨HK.out.2, Or.inl hk⟩)))))))
 clear h1 h2 h3 h4 h5 h6
 go_wp2_with fail
 go_ret
 exact ⟨rfl, p, V', H.out.1, H.out.2.1, H.out.2.2.1, H.out.2.2.2.1, H.out.2.2.2.2.1, H.out.2.2.2.2.2⟩
theorem lopen_ano {lb o I : Nat} {t : Tk} {ext : List Value} {w : World} (h : LkC w lb 58 o) (hk : TkC w o t ext I) (hst : ¬ t.st = 2) : Calls Tryz.prog 27 #[.pointer (some ⟨lb, 0, none⟩)] w fun e w' => e = .returned (.int .i64 0) ∧ w = w' := by
 have c0 : w.cell? ⟨lb, 0, none⟩ = some (.iface 58 (.pointer (some ⟨o, 0, none⟩))) := h.cell 0
 have CN := Lib.hid (lnone_at lb _ o w c0)
 have CI := tis_any o t.st w hk.c.1
 rw [decide_eq_false hst] at CI
 have CI := Lib.hid CI
 have hm : ∀ (F : Nat) (w : World), (method (F + 1) 58 (.pointer (some ⟨o, 0, none⟩)) "satchel/link.talks").run Tryz.prog w = .ok (107, .pointer (some ⟨o, 0, none⟩)) w := fun F w => by kernel_rfl
 clear h hk hst
 go_enter Tryz.func27, Tryz.ntmps27
 go_wp2_with (first | (go_at_call 33; refine CN.out.mono ?_; rintro e w' ⟨rfl, rfl⟩) | (go_at_call 107; refine (talks_any o _).mono ?_; rintro e w' ⟨rfl, rfl⟩) | (go_at_call 34; refine CI.out.mono ?_; rintro e w' ⟨rfl, rfl⟩))
 go_ret
 exact ⟨rfl, rfl⟩
theorem lgot_ano {lb o I : Nat} {t : Tk} {ext : List Value} {w : World} (h : LkC w lb 58 o) (hk : TkC w o t ext I) (hst : ¬ t.st = 2) : Calls Tryz.prog 29 #[.pointer (some ⟨lb, 0, none⟩)] w fun e w' => e = .returned (.int .i64 0) ∧ w = w' := by
 have c0 : w.cell? ⟨lb, 0, none⟩ = some (.iface 58 (.pointer (some ⟨o, 0, none⟩))) := h.cell 0
 have CN := Lib.hid (lnone_at lb _ o w c0)
 have CI := tis_any o t.st w hk.c.1
 rw [decide_eq_false hst] at CI
 have CI := Lib.hid CI
 have hm : ∀ (F : Nat) (w : World), (method (F + 1) 58 (.pointer (some ⟨o, 0, none⟩)) "satchel/link.talks").run Tryz.prog w = .ok (107, .pointer (some ⟨o, 0, none⟩)) w := fun F w => by kernel_rfl
 clear h hk hst
 go_enter Tryz.func29, Tryz.ntmps29
 go_wp2_with (first | (go_at_call 33; refine CN.out.mono ?_; rintro e w' ⟨rfl, rfl⟩) | (go_at_call 107; refine (talks_any o _).mono ?_; rintro e w' ⟨rfl, rfl⟩) | (go_at_call 34; refine CI.out.mono ?_; rintro e w' ⟨rfl, rfl⟩))
 go_ret
 exact ⟨rfl, rfl⟩
theorem lopen_aup {lb o I : Nat} {t : Tk} {ext : List Value} {w : World} (h : LkC w lb 58 o) (hk : TkC w o t ext I) (hst : t.st = 2) : Calls Tryz.prog 27 #[.pointer (some ⟨lb, 0, none⟩)] w fun e w' => e = .returned (.int .i64 t.i.x.l.length) ∧ w = w' := by
 have c0 : w.cell? ⟨lb, 0, none⟩ = some (.iface 58 (.pointer (some ⟨o, 0, none⟩))) := h.cell 0
 have CN := Lib.hid (lnone_at lb _ o w c0)
 have CI := tis_any o t.st w hk.c.1
 rw [decide_eq_true hst] at CI
 have CI := Lib.hid CI
 have hm : ∀ (F : Nat) (w : World), (method (F + 1) 58 (.pointer (some ⟨o, 0, none⟩)) "satchel/link.talks").run Tryz.prog w = .ok (107, .pointer (some ⟨o, 0, none⟩)) w := fun F w => by kernel_rfl
 have c4 := hk.c.2.2.2.2.1
 rw [(hk.up hst).wv] at c4
 have CO := wopen_any (hk.up hst).win
 generalize t.i.x.l.length = n at *
 have CO := Lib.hid CO
 generalize t.i.g = g at *
 clear h hk hst
 go_enter Tryz.func27, Tryz.ntmps27
 go_wp2_with (first | (go_at_call 33; refine CN.out.mono ?_; rintro e w' ⟨rfl, rfl⟩) | (go_at_call 107; refine (talks_any o _).mono ?_; rintro e w' ⟨rfl, rfl⟩) | (go_at_call 34; refine CI.out.mono ?_; rintro e w' ⟨rfl, rfl⟩) | (go_at_call 45; refine CO.out.mono ?_; rintro e w' ⟨rfl, rfl⟩))
 go_ret
 exact ⟨rfl, rfl⟩
theorem lgot_aup {lb o I : Nat} {t : Tk} {ext : List Value} {w : World} (h : LkC w lb 58 o) (hk : TkC w o t ext I) (hst : t.st = 2) (hn : 1 ≤ t.i.n ∧ t.i.n ≤ 1000000000) : Calls Tryz.prog 29 #[.pointer (some ⟨lb, 0, none⟩)] w fun e w' => e = .returned (.int .i64 (t.i.n - 1 : Nat)) ∧ w = w' := by
 have c0 : w.cell? ⟨lb, 0, none⟩ = some (.iface 58 (.pointer (some ⟨o, 0, none⟩))) := h.cell 0
 have CN := Lib.hid (lnone_at lb _ o w c0)
 have CI := tis_any o t.st w hk.c.1
 rw [decide_eq_true hst] at CI
 have CI := Lib.hid CI
 have hm : ∀ (F : Nat) (w : World), (method (F + 1) 58 (.pointer (some ⟨o, 0, none⟩)) "satchel/link.talks").run Tryz.prog w = .ok (107, .pointer (some ⟨o, 0, none⟩)) w := fun F w => by kernel_rfl
 have c5 := hk.c.2.2.2.2.2.1
 rw [(hk.up hst).xv] at c5
 have CX := (hk.up hst).inb.1.elim fun c hc => hc.next
 obtain ⟨n, hnn⟩ : ∃ n, t.i.n = n + 1 := ⟨t.i.n - 1, by omega⟩
 rw [hnn] at CX ⊢
 have hnb : n ≤ 1000000000 := by omega
 have CX := Lib.hid CX
 generalize t.i.b = b at *
 clear h hk hst hn hnn
 go_enter Tryz.func29, Tryz.ntmps29
 go_wp2_with (first | (go_at_call 33; refine CN.out.mono ?_; rintro e w' ⟨rfl, rfl⟩) | (go_at_call 107; refine (talks_any o _).mono ?_; rintro e w' ⟨rfl, rfl⟩) | (go_at_call 34; refine CI.out.mono ?_; rintro e w' ⟨rfl, rfl⟩) | (go_at_call 46; refine CX.out.mono ?_; rintro e w' ⟨rfl, rfl⟩))
 go_ret
 exact ⟨by go_num, rfl⟩
theorem lsend_dshut {lb o I : Nat} {t : Tk} {ext : List Value} {w : World} (h : LkC w lb 41 o) (hk : TkC w o t ext I) (hst : ¬ t.st = 2) (a : Option Addr) (n c : Nat) : Calls Tryz.prog 15 #[.pointer (some ⟨lb, 0, none⟩), .slice a n c] w fun e w' => e = .returned (.int .i64 9) ∧ w = w' := by
 have c0 : w.cell? ⟨lb, 0, none⟩ = some (.iface 41 (.pointer (some ⟨o, 0, none⟩))) := h.cell 0
 have CN := Lib.hid (lnone_at lb _ o w c0)
 have CI := tis_any o t.st w hk.c.1
 rw [decide_eq_false hst] at CI
 have CI := Lib.hid CI
 have hm : ∀ (F : Nat) (w : World), (method (F + 1) 41 (.pointer (some ⟨o, 0, none⟩)) "satchel/link.talks").run Tryz.prog w = .ok (107, .pointer (some ⟨o, 0, none⟩)) w := fun F w => by kernel_rfl
 clear h hk hst
 go_enter Tryz.func15, Tryz.ntmps15
 go_wp2_with (first | (go_at_call 33; refine CN.out.mono ?_; rintro e w' ⟨rfl, rfl⟩) | (go_at_call 107; refine (talks_any o _).mono ?_; rintro e w' ⟨rfl, rfl⟩) | (go_at_call 34; refine CI.out.mono ?_; rintro e w' ⟨rfl, rfl⟩))
 go_ret
 exact ⟨rfl, rfl⟩
theorem lsend_dlong {lb o I : Nat} {t : Tk} {ext : List Value} {w : World} (h : LkC w lb 41 o) (hk : TkC w o t ext I) (hst : t.st = 2) (a : Option Addr) (n c : Nat) (hn : 1400 < n) (hnm : n ≤ 1000000000) : Calls Tryz.prog 15 #[.pointer (some ⟨lb, 0, none⟩), .slice a n c] w fun e w' => e = .returned (.int .i64 3) ∧ w = w' := by
 have c0 : w.cell? ⟨lb, 0, none⟩ = some (.iface 41 (.pointer (some ⟨o, 0, none⟩))) := h.cell 0
 have CN := Lib.hid (lnone_at lb _ o w c0)
 have CI := tis_any o t.st w hk.c.1
 rw [decide_eq_true hst] at CI
 have CI := Lib.hid CI
 have hm : ∀ (F : Nat) (w : World), (method (F + 1) 41 (.pointer (some ⟨o, 0, none⟩)) "satchel/link.talks").run Tryz.prog w = .ok (107, .pointer (some ⟨o, 0, none⟩)) w := fun F w => by kernel_rfl
 have j1 : (n : Int) > 1400 := by omega
 clear h hk hst
 go_enter Tryz.func15, Tryz.ntmps15
 go_wp2_with (first | (go_at_call 33; refine CN.out.mono ?_; rintro e w' ⟨rfl, rfl⟩) | (go_at_call 107; refine (talks_any o _).mono ?_; rintro e w' ⟨rfl, rfl⟩) | (go_at_call 34; refine CI.out.mono ?_; rintro e w' ⟨rfl, rfl⟩))
 go_ret
 exact ⟨rfl, rfl⟩
theorem lsend_dfull {lb o I : Nat} {t : Tk} {ext : List Value} {w : World} (h : LkC w lb 41 o) (hk : TkC w o t ext I) (hst : t.st = 2) (a : Option Addr) (n c : Nat) (hn : n ≤ 1400) (hf : t.i.x.size ≤ t.i.x.l.length) : Calls Tryz.prog 15 #[.pointer (some ⟨lb, 0, none⟩), .slice a n c] w fun e w' => e = .returned (.int .i64 8) ∧ ∃ k, w' = w.drewN k := by
 have c0 : w.cell? ⟨lb, 0, none⟩ = some (.iface 41 (.pointer (some ⟨o, 0, none⟩))) := h.cell 0
 have CN := Lib.hid (lnone_at lb _ o w c0)
 have CI := tis_any o t.st w hk.c.1
 rw [decide_eq_true hst] at CI
 have CI := Lib.hid CI
 have hm : ∀ (F : Nat) (w : World), (method (F + 1) 41 (.pointer (some ⟨o, 0, none⟩)) "satchel/link.talks").run Tryz.prog w = .ok (107, .pointer (some ⟨o, 0, none⟩)) w := fun F w => by kernel_rfl
 have j1 : ¬ (n : Int) > 1400 := by omega
 have hu := h.cell 0
 have c4 := hk.c.2.2.2.2.1
 rw [(hk.up hst).wv] at c4
 have CP := Lib.hid (push_full (hk.up hst).win hf a n c)
 generalize t.i.g = g at *
 clear h hk hst hu hf
 go_enter Tryz.func15, Tryz.ntmps15
 go_wp2_with (first | (go_at_call 33; refine CN.out.mono ?_; rintro e w' ⟨rfl, rfl⟩) | (go_at_call 107; refine (talks_any o _).mono ?_; rintro e w' ⟨rfl, rfl⟩) | (go_at_call 34; refine CI.out.mono ?_; rintro e w' ⟨rfl, rfl⟩) | (go_at_call 35; refine CP.out.mono ?_; rintro e w' ⟨rfl, k, rfl⟩))
 go_ret
 exact ⟨rfl, _, rfl⟩
theorem lsend_dok {lb o I : Nat} {t : Tk} {ext : List Value} {w : World} (h : LkC w lb 41 o) (hk : TkC w o t ext I) (hst : t.st = 2) (hI : I ≤ 1000000) (a : Option Addr) (n c : Nat) (body : List Int) (hn : n = body.length) (hr : RdB w a body) (hnb : n ≤ 1400) (hf : t.i.x.l.length < t.i.x.size) : Calls Tryz.prog 15 #[.pointer (some ⟨lb, 0, none⟩), .slice a n c] w fun e w' => e = .returned (.int .i64 0) ∧ ∃ p V', p.seq = t.i.x.last + 1 ∧ p.body = body ∧ p.times = 0 ∧ TkC w' o (sendT t p V') ext (I + 1) ∧ (∀ k, Me o (sendT t p V') k → Me o t k ∨ w.heap.size ≤ k) ∧ Kp (Me o t) w w' := by
 have c0 : w.cell? ⟨lb, 0, none⟩ = some (.iface 41 (.pointer (some ⟨o, 0, none⟩))) := h.cell 0
 have CN := Lib.hid (lnone_at lb _ o w c0)
 have CI := tis_any o t.st w hk.c.1
 rw [decide_eq_true hst] at CI
 have CI := Lib.hid CI
 have hm : ∀ (F : Nat) (w : World), (method (F + 1) 41 (.pointer (some ⟨o, 0, none⟩)) "satchel/link.talks").run Tryz.prog w = .ok (107, .pointer (some ⟨o, 0, none⟩)) w := fun F w => by kernel_rfl
 have j1 : ¬ (n : Int) > 1400 := by omega
 have c4 := hk.c.2.2.2.2.1
 rw [(hk.up hst).wv] at c4
 have CP := push_ok (hk.up hst).win hf (by have := (hk.up hst).last; omega) a n c body hn hr (by omega)
 have HK := Lib.hid (And.intro hk hst)
 obtain ⟨g, hg⟩ : ∃ g, g = t.i.g := ⟨_, rfl⟩
 rw [← hg] at c4 CP
 have CP := Lib.hid CP
 have HG := Lib.hid hg
 clear h hk hst hf hr hn hg
 go_enter Tryz.func15, Tryz.ntmps15
 go_wp2_with (first | (go_at_call 33; refine CN.out.mono ?_; rintro e w' ⟨rfl, rfl⟩) | (go_at_call 107; refine (talks_any o _).mono ?_; rintro e w' ⟨rfl, rfl⟩) | (go_at_call 34; refine CI.out.mono ?_; rintro e w' ⟨rfl, rfl⟩))
 go_at_call 35
 refine CP.out.mono ?_
 rintro e w1 ⟨rfl, p, V', h1, h2, h3, h4, h5, h6⟩
 rw [HG.out] at h4 h5 h6
 have H := Lib.hid (And.intro h1 (And.intro h2 (And.intro h3 (And.intro (HK.out.1.sent HK.out.2 h3 h4 h5 h6) (And.intro (fun k (hk : Me o (sendT t p V') k) => me_sent h5 hk) (h6.mono (S' := Me o t) (fun k _ hk => Or.inr ⟨HK.out.2, Or.inl hk⟩)))))))
 clear h1 h2 h3 h4 h5 h6
 go_wp2_with fail
 go_ret
 exact ⟨rfl, p, V', H.out.1, H.out.2.1, H.out.2.2.1, H.out.2.2.2.1, H.out.2.2.2.2.1, H.out.2.2.2.2.2⟩
theorem lopen_dno {lb o I : Nat} {t : Tk} {ext : List Value} {w : World} (h : LkC w lb 41 o) (hk : TkC w o t ext I) (hst : ¬ t.st = 2) : Calls Tryz.prog 27 #[.pointer (some ⟨lb, 0, none⟩)] w fun e w' => e = .returned (.int .i64 0) ∧ w = w' := by
 have c0 : w.cell? ⟨lb, 0, none⟩ = some (.iface 41 (.pointer (some ⟨o, 0, none⟩))) := h.cell 0
 have CN := Lib.hid (lnone_at lb _ o w c0)
 have CI := tis_any o t.st w hk.c.1
 rw [decide_eq_false hst] at CI
 have CI := Lib.hid CI
 have hm : ∀ (F : Nat) (w : World), (method (F + 1) 41 (.pointer (some ⟨o, 0, none⟩)) "satchel/link.talks").run Tryz.prog w = .ok (107, .pointer (some ⟨o, 0, none⟩)) w := fun F w => by kernel_rfl
 clear h hk hst
 go_enter Tryz.func27, Tryz.ntmps27
 go_wp2_with (first | (go_at_call 33; refine CN.out.mono ?_; rintro e w' ⟨rfl, rfl⟩) | (go_at_call 107; refine (talks_any o _).mono ?_; rintro e w' ⟨rfl, rfl⟩) | (go_at_call 34; refine CI.out.mono ?_; rintro e w' ⟨rfl, rfl⟩))
 go_ret
 exact ⟨rfl, rfl⟩
theorem lgot_dno {lb o I : Nat} {t : Tk} {ext : List Value} {w : World} (h : LkC w lb 41 o) (hk : TkC w o t ext I) (hst : ¬ t.st = 2) : Calls Tryz.prog 29 #[.pointer (some ⟨lb, 0, none⟩)] w fun e w' => e = .returned (.int .i64 0) ∧ w = w' := by
 have c0 : w.cell? ⟨lb, 0, none⟩ = some (.iface 41 (.pointer (some ⟨o, 0, none⟩))) := h.cell 0
 have CN := Lib.hid (lnone_at lb _ o w c0)
 have CI := tis_any o t.st w hk.c.1
 rw [decide_eq_false hst] at CI
 have CI := Lib.hid CI
 have hm : ∀ (F : Nat) (w : World), (method (F + 1) 41 (.pointer (some ⟨o, 0, none⟩)) "satchel/link.talks").run Tryz.prog w = .ok (107, .pointer (some ⟨o, 0, none⟩)) w := fun F w => by kernel_rfl
 clear h hk hst
 go_enter Tryz.func29, Tryz.ntmps29
 go_wp2_with (first | (go_at_call 33; refine CN.out.mono ?_; rintro e w' ⟨rfl, rfl⟩) | (go_at_call 107; refine (talks_any o _).mono ?_; rintro e w' ⟨rfl, rfl⟩) | (go_at_call 34; refine CI.out.mono ?_; rintro e w' ⟨rfl, rfl⟩))
 go_ret
 exact ⟨rfl, rfl⟩
theorem lopen_dup {lb o I : Nat} {t : Tk} {ext : List Value} {w : World} (h : LkC w lb 41 o) (hk : TkC w o t ext I) (hst : t.st = 2) : Calls Tryz.prog 27 #[.pointer (some ⟨lb, 0, none⟩)] w fun e w' => e = .returned (.int .i64 t.i.x.l.length) ∧ w = w' := by
 have c0 : w.cell? ⟨lb, 0, none⟩ = some (.iface 41 (.pointer (some ⟨o, 0, none⟩))) := h.cell 0
 have CN := Lib.hid (lnone_at lb _ o w c0)
 have CI := tis_any o t.st w hk.c.1
 rw [decide_eq_true hst] at CI
 have CI := Lib.hid CI
 have hm : ∀ (F : Nat) (w : World), (method (F + 1) 41 (.pointer (some ⟨o, 0, none⟩)) "satchel/link.talks").run Tryz.prog w = .ok (107, .pointer (some ⟨o, 0, none⟩)) w := fun F w => by kernel_rfl
 have c4 := hk.c.2.2.2.2.1
 rw [(hk.up hst).wv] at c4
 have CO := wopen_any (hk.up hst).win
 generalize t.i.x.l.length = n at *
 have CO := Lib.hid CO
 generalize t.i.g = g at *
 clear h hk hst
 go_enter Tryz.func27, Tryz.ntmps27
 go_wp2_with (first | (go_at_call 33; refine CN.out.mono ?_; rintro e w' ⟨rfl, rfl⟩) | (go_at_call 107; refine (talks_any o _).mono ?_; rintro e w' ⟨rfl, rfl⟩) | (go_at_call 34; refine CI.out.mono ?_; rintro e w' ⟨rfl, rfl⟩) | (go_at_call 45; refine CO.out.mono ?_; rintro e w' ⟨rfl, rfl⟩))
 go_ret
 exact ⟨rfl, rfl⟩
theorem lgot_dup {lb o I : Nat} {t : Tk} {ext : List Value} {w : World} (h : LkC w lb 41 o) (hk : TkC w o t ext I) (hst : t.st = 2) (hn : 1 ≤ t.i.n ∧ t.i.n ≤ 1000000000) : Calls Tryz.prog 29 #[.pointer (some ⟨lb, 0, none⟩)] w fun e w' => e = .returned (.int .i64 (t.i.n - 1 : Nat)) ∧ w = w' := by
 have c0 : w.cell? ⟨lb, 0, none⟩ = some (.iface 41 (.pointer (some ⟨o, 0, none⟩))) := h.cell 0
 have CN := Lib.hid (lnone_at lb _ o w c0)
 have CI := tis_any o t.st w hk.c.1
 rw [decide_eq_true hst] at CI
 have CI := Lib.hid CI
 have hm : ∀ (F : Nat) (w : World), (method (F + 1) 41 (.pointer (some ⟨o, 0, none⟩)) "satchel/link.talks").run Tryz.prog w = .ok (107, .pointer (some ⟨o, 0, none⟩)) w := fun F w => by kernel_rfl
 have c5 := hk.c.2.2.2.2.2.1
 rw [(hk.up hst).xv] at c5
 have CX := (hk.up hst).inb.1.elim fun c hc => hc.next
 obtain ⟨n, hnn⟩ : ∃ n, t.i.n = n + 1 := ⟨t.i.n - 1, by omega⟩
 rw [hnn] at CX ⊢
 have hnb : n ≤ 1000000000 := by omega
 have CX := Lib.hid CX
 generalize t.i.b = b at *
 clear h hk hst hn hnn
 go_enter Tryz.func29, Tryz.ntmps29
 go_wp2_with (first | (go_at_call 33; refine CN.out.mono ?_; rintro e w' ⟨rfl, rfl⟩) | (go_at_call 107; refine (talks_any o _).mono ?_; rintro e w' ⟨rfl, rfl⟩) | (go_at_call 34; refine CI.out.mono ?_; rintro e w' ⟨rfl, rfl⟩) | (go_at_call 46; refine CX.out.mono ?_; rintro e w' ⟨rfl, rfl⟩))
 go_ret
 exact ⟨by go_num, rfl⟩
theorem lreceive_ashut {lb o I : Nat} {t : Tk} {ext : List Value} {w : World} (h : LkC w lb 58 o) (hk : TkC w o t ext I) (hst : t.st = 3) (now : Int) (ht : timeB now = true) (a : Option Addr) (n c : Nat) :
 Calls Tryz.prog 38 #[.pointer (some ⟨lb, 0, none⟩), .slice a n c, .int .i64 now] w fun e w' => e = .returned (.tuple #[.slice none 0 0, .int .i64 9]) ∧ w = w' := by
 have c0 : w.cell? ⟨lb, 0, none⟩ = some (.iface 58 (.pointer (some ⟨o, 0, none⟩))) := h.cell 0
 have s0 := hk.c.1
 rw [hst] at s0
 have CN := Lib.hid (lnone_at lb _ o w c0)
 have CT := ltime_any now w
 rw [ht] at CT
 have CT := Lib.hid CT
 have hta : ∀ w : World, (Instr.typeAssert (.iface 58 (.pointer (some ⟨o, 0, none⟩))) 50 58 true).run Tryz.prog w = .ok (.tuple #[.pointer (some ⟨o, 0, none⟩), .bool true]) w := fun w => by kernel_rfl
 clear h hk hst ht
 go_enter Tryz.func38, Tryz.ntmps38
 go_wp2_with (first | (go_at_call 33; refine CN.out.mono ?_; rintro e w' ⟨rfl, rfl⟩) | (go_at_call 42; refine CT.out.mono ?_; rintro e w' ⟨rfl, rfl⟩))
 go_ret2
 exact ⟨rfl, rfl⟩
set_option maxHeartbeats 2000000 in
theorem lreceive_aother {lb o I : Nat} {t : Tk} {ext : List Value} {w : World} (h : LkC w lb 58 o) (hk : TkC w o t ext I) (hst : ¬ t.st = 3) (now : Int) (ht : timeB now = true) (a : Option Addr) (n c : Nat) (l : List Int) (hn : l.length = n) (hr : RdB w a l) (hl : n ≤ 100000000) (hcap : n ≤ c) (hcm : c ≤ maxLen) (he : errR l = 0) (f : Fr) (hf : frR l = f) (hse : ¬ f.se = t.se) :
 Calls Tryz.prog 38 #[.pointer (some ⟨lb, 0, none⟩), .slice a n c, .int .i64 now] w fun e w' => e = .returned (.tuple #[.slice none 0 0, .int .i64 6]) ∧ Kp (fun _ => False) w w' := by
 subst hn
 have c0 : w.cell? ⟨lb, 0, none⟩ = some (.iface 58 (.pointer (some ⟨o, 0, none⟩))) := h.cell 0
 have s0 := hk.c.1
 have CN := Lib.hid (lnone_at lb _ o w c0)
 have CT := ltime_any now w
 rw [ht] at CT
 have CT := Lib.hid CT
 have CR := fread_any a c l w hr hl hcap hcm
 unfold RdOut at CR
 rw [he, hf] at CR
 have CR := Lib.hid CR
 have hta : ∀ w : World, (Instr.typeAssert (.iface 58 (.pointer (some ⟨o, 0, none⟩))) 50 58 true).run Tryz.prog w = .ok (.tuple #[.pointer (some ⟨o, 0, none⟩), .bool true]) w := fun w => by kernel_rfl
 have hmh : ∀ (F : Nat) (w : World), (method (F + 1) 58 (.pointer (some ⟨o, 0, none⟩)) "satchel/link.hears").run Tryz.prog w = .ok (154, .pointer (some ⟨o, 0, none⟩)) w := fun F w => by kernel_rfl
 obtain ⟨st, hst2⟩ : ∃ st, st = t.st := ⟨_, rfl⟩
 rw [← hst2] at s0 hst
 have hs3 : ¬ (st : Int) = 3 := by omega
 have hs4 : ((st : Int) == 3) = false := by simpa using hs3
 have CH := fun (w2 : World) (k : Kp (fun _ => False) w w2) (A : Option Addr) (c : Nat) => ahears_any (hk.kp0 k) f A c
 simp only [if_neg hse] at CH
 have CH := Lib.hid CH
 obtain ⟨n, hn⟩ : ∃ n, n = l.length := ⟨_, rfl⟩
 rw [← hn] at CR ⊢
 clear h hk ht hr hl hcap hcm hst2 hn he hf hse hst
 go_enter Tryz.func38, Tryz.ntmps38
 go_wp2_with (first | (go_at_call 33; refine CN.out.mono ?_; rintro e w' ⟨rfl, rfl⟩) | (go_at_call 42; refine CT.out.mono ?_; rintro e w' ⟨rfl, rfl⟩))
 go_at_call 49
 refine CR.out.mono ?_
 rintro e w1 hro
 obtain ⟨A, c', rfl, hrA, hfA, k1⟩ := hro
 have K1 := Lib.hid (And.intro k1 (And.intro hrA hfA))
 have c0 := k1.cell c0 (fun h => h)
 obtain ⟨ty, se, bo, sq, ac, bd⟩ := f
 dsimp only [frA] at *
 obtain ⟨w2, hw2⟩ : ∃ w2, w2 = w1.alloc (.cells #[.int .i64 ty, .int .i64 se, .int .i64 bo, .int .i64 sq, .int .i64 ac, .slice A bd.length c'] 34) := ⟨_, rfl⟩
 obtain ⟨fb, hfb⟩ : ∃ fb, fb = w1.heap.size := ⟨_, rfl⟩
 have k2 : Kp (fun _ => False) w1 w2 := by rw [hw2]; exact (Kp.refl _ w1).alloc _
 have ab : At w2 fb [.int .i64 ty, .int .i64 se, .int .i64 bo, .int .i64 sq, .int .i64 ac, .slice A bd.length c'] := by rw [hw2, hfb]; exact At.new w1 _ _
 have q0 : w2.cell? ⟨fb, 0, none⟩ = some (.int .i64 ty) := ab.cell 0
 have q1 : w2.cell? ⟨fb, 1, none⟩ = some (.int .i64 se) := ab.cell 1
 have q2 : w2.cell? ⟨fb, 2, none⟩ = some (.int .i64 bo) := ab.cell 2
 have q3 : w2.cell? ⟨fb, 3, none⟩ = some (.int .i64 sq) := ab.cell 3
 have q4 : w2.cell? ⟨fb, 4, none⟩ = some (.int .i64 ac) := ab.cell 4
 have q5 : w2.cell? ⟨fb, 5, none⟩ = some (.slice A bd.length c') := ab.cell 5
 have c0 := k2.cell c0 (fun h => h)
 have K2 := Lib.hid (k1.trans k2)
 generalize bd.length = nb at *
 clear hrA hfA k1 CR k2 ab
 go_upto_region 10 with fail
 rw [← hw2, ← hfb]
 clear hw2 hfb
 refine region_L (S := fun w' => Kp (fun _ => False) w2 w') [5] rfl ?_
 have hSd : ∀ (w' : World) (n' : Nat), Kp (fun _ => False) w2 w' → Kp (fun _ => False) w2 (w'.drewN n') := fun w' n' h => h.drewN n'
 have hS0 : Kp (fun _ => False) w2 w2.drew := (Kp.refl _ w2).drew
 refine anyL_world (fun w' => Kp (fun _ => False) w2 w') hS0 ?_
 clear hS0
 intro z0 kz0
 refine tF 0 43 (.pointer (some ⟨lb, 0, none⟩)) rfl rfl hSd (fun _ => kz0) ?_
 try simp only [sC]
 refine tF 1 44 (.pointer (some ⟨lb, 0, none⟩)) rfl rfl hSd (fun _ => kz0) ?_
 try simp only [sC]
 refine tF 2 45 (.pointer (some ⟨lb, 0, none⟩)) rfl rfl hSd (fun _ => kz0) ?_
 try simp only [sC]
 refine tD 3 46 (.iface 58 (.pointer (some ⟨o, 0, none⟩))) rfl rfl hSd (.inl (.inl ⟨rfl, fun w' hS => by have h0 := hS.cell c0 (fun h => h); go_simp⟩)) kz0 ?_
 try simp only [sC]
 refine tD 4 47 (.agg #[.int .i64 ty, .int .i64 se, .int .i64 bo, .int .i64 sq, .int .i64 ac, .slice A nb c']) rfl rfl hSd (.inl (.inl ⟨rfl, fun w' hS => by have h0 := hS.cell q0 (fun h => h); have h1 := hS.cell q1 (fun h => h); have h2 := hS.cell q2 (fun h => h); have h3 := hS.cell q3 (fun h => h); have h4 := hS.cell q4 (fun h => h); have h5 := hS.cell q5 (fun h => h); go_simp⟩)) kz0 ?_
 try simp only [sC]
 refine tA 5 ?_
 intro n11
 refine wpOp_of rfl rfl ?_
 go_simp
 refine Calls.mono (CH.out (z0.drewN n11) (K2.out.trans (kz0.drewN n11)) A c') ?_
 rintro e w9p ⟨rfl, k9⟩
 try dsimp only
 refine ⟨fun h => Bool.noConfusion (show false = true from h), ?_⟩
 try simp only [sC]
 refine tF 6 11 (.int .i64 6) rfl rfl hSd (fun h => Bool.noConfusion (show false = true from h)) ?_
 try simp only [sC]
 refine anyL_done (by kernel_rfl) (fun nn => ?_) _
 have kw9 : Kp (fun _ => False) w9p (w9p.drewN nn) := (Kp.refl _ w9p).drewN nn
 generalize w9p.drewN nn = w9 at *
 have K9 := Lib.hid ((kz0.drewN n11).trans (k9.trans kw9))
 clear hSd kz0 k9 kw9
 go_wp2_with fail
 go_ret2
 exact ⟨rfl, K2.out.trans K9.out⟩
structure Mv (F F' : Nat → Prop) (W W' : World) : Prop where
 nw : ∀ k, F' k → F k ∨ W.heap.size ≤ k
 kp : Kp F W W'
theorem Mv.refl (F : Nat → Prop) {W W' : World} (k : Kp (fun _ => False) W W') : Mv F F W W' := ⟨fun _ h => .inl h, k.mono (fun _ _ h => h.elim)⟩
theorem Mv.pre {F F' : Nat → Prop} {W W1 W2 : World} (k : Kp (fun _ => False) W W1) (m : Mv F F' W1 W2) : Mv F F' W W2 :=
 ⟨fun j hj => (m.nw j hj).imp_right (fun e => Nat.le_trans k.size e), (k.mono (fun _ _ h => h.elim)).trans m.kp⟩
theorem Mv.drewN {F F' : Nat → Prop} {W W1 : World} (m : Mv F F' W W1) (n : Nat) : Mv F F' W (W1.drewN n) := ⟨m.nw, m.kp.drewN n⟩
theorem Mv.post {F F' : Nat → Prop} {W W1 W2 : World} (m : Mv F F' W W1) (k : Kp (fun _ => False) W1 W2) : Mv F F' W W2 := ⟨m.nw, m.kp.trans (k.mono (fun _ _ h => h.elim))⟩
structure Ae where
 lb : Nat
 o : Nat
 t : Tk
 sent : Bool
 at_ : Nat
 I : Nat
structure De where
 lb : Nat
 o : Nat
 t : Tk
 wel : Bool
 rv : Value
 rs : List Nat
 I : Nat
def Ae.F (x : Ae) (k : Nat) : Prop := k = x.lb ∨ Me x.o x.t k
def De.F (x : De) (k : Nat) : Prop := k = x.lb ∨ MeD x.o x.t x.rv k
structure AgS (W : World) (B : Nat) (x : Ae) : Prop where
 lk : LkC W x.lb 58 x.o
 tk : TkC W x.o x.t (agX x.sent x.at_) x.I
 ne : ¬ Me x.o x.t x.lb
 ge : ∀ k, x.F k → B ≤ k
structure DmS (W : World) (B : Nat) (x : De) : Prop where
 lk : LkC W x.lb 41 x.o
 dm : DmC W x.o x.t x.wel x.rv x.rs x.I
 ne : ¬ MeD x.o x.t x.rv x.lb
 ge : ∀ k, x.F k → B ≤ k
theorem DmC.lt {W : World} {o I : Nat} {t : Tk} {wel : Bool} {rv : Value} {rs : List Nat} (h : DmC W o t wel rv rs I) {k : Nat} (hk : MeD o t rv k) : k < W.heap.size := by
 rcases hk with hk | hk
 · exact h.tk.lt hk
 · exact h.own.lt k hk
theorem AgS.lt {W : World} {B : Nat} {x : Ae} (h : AgS W B x) (k : Nat) (hk : x.F k) : k < W.heap.size := by
 rcases hk with rfl | hk
 · exact At.lt h.lk
 · exact h.tk.lt hk
theorem DmS.lt {W : World} {B : Nat} {x : De} (h : DmS W B x) (k : Nat) (hk : x.F k) : k < W.heap.size := by
 rcases hk with rfl | hk
 · exact At.lt h.lk
 · exact h.dm.lt hk
theorem AgS.kp {S : Nat → Prop} {W W' : World} {B : Nat} {x : Ae} (h : AgS W B x) (k : Kp S W W') (hs : ∀ j, x.F j → ¬ S j) : AgS W' B x :=
 ⟨k.at h.lk (hs _ (.inl rfl)), h.tk.kp k (fun j hj => hs j (.inr hj)), h.ne, h.ge⟩
theorem AgS.kp0 {W W' : World} {B : Nat} {x : Ae} (h : AgS W B x) (k : Kp (fun _ => False) W W') : AgS W' B x := h.kp k (fun _ _ h => h)
theorem AgS.drewN {W : World} {B : Nat} {x : Ae} (h : AgS W B x) (n : Nat) : AgS (W.drewN n) B x := h.kp0 ((Kp.refl _ W).drewN n)
theorem DmS.kp {S : Nat → Prop} {W W' : World} {B : Nat} {x : De} (h : DmS W B x) (k : Kp S W W') (hs : ∀ j, x.F j → ¬ S j) : DmS W' B x :=
 ⟨k.at h.lk (hs _ (.inl rfl)), h.dm.kp k (fun j hj => hs j (.inr hj)), h.ne, h.ge⟩
theorem DmS.kp0 {W W' : World} {B : Nat} {x : De} (h : DmS W B x) (k : Kp (fun _ => False) W W') : DmS W' B x := h.kp k (fun _ _ h => h)
theorem DmS.drewN {W : World} {B : Nat} {x : De} (h : DmS W B x) (n : Nat) : DmS (W.drewN n) B x := h.kp0 ((Kp.refl _ W).drewN n)
theorem AgS.step {W W' : World} {B : Nat} {x : Ae} (h : AgS W B x) (hB : B ≤ W.heap.size) {t' : Tk} {s' : Bool} {a' I' : Nat} (hk : TkC W' x.o t' (agX s' a') I') (hm : ∀ k, Me x.o t' k → Me x.o x.t k ∨ W.heap.size ≤ k) (k : Kp (Me x.o x.t) W W') :
 AgS W' B { x with t := t', sent := s', at_ := a', I := I' } ∧ Mv x.F (Ae.F { x with t := t', sent := s', at_ := a', I := I' }) W W' :=
 ⟨⟨k.at h.lk h.ne, hk, fun e => (hm _ e).elim h.ne (fun e => by have := h.lt _ (.inl rfl); have e : W.heap.size ≤ x.lb := e; omega), fun j hj => hj.elim (fun e => h.ge j (.inl e)) (fun e => (hm j e).elim (fun e => h.ge j (.inr e)) (fun e => Nat.le_trans hB e))⟩,
  fun j hj => hj.elim (fun e => .inl (.inl e)) (fun e => (hm j e).imp_left .inr), k.mono (fun j _ e => .inr e)⟩
theorem DmS.step {W W' : World} {B : Nat} {x : De} (h : DmS W B x) (hB : B ≤ W.heap.size) {t' : Tk} {w' : Bool} {rv' : Value} {rs' : List Nat} {I' : Nat} (hk : DmC W' x.o t' w' rv' rs' I') (hm : ∀ k, MeD x.o t' rv' k → MeD x.o x.t x.rv k ∨ W.heap.size ≤ k) (k : Kp (MeD x.o x.t x.rv) W W') :
 DmS W' B { x with t := t', wel := w', rv := rv', rs := rs', I := I' } ∧ Mv x.F (De.F { x with t := t', wel := w', rv := rv', rs := rs', I := I' }) W W' :=
 ⟨⟨k.at h.lk h.ne, hk, fun e => (hm _ e).elim h.ne (fun e => by have := h.lt _ (.inl rfl); have e : W.heap.size ≤ x.lb := e; omega), fun j hj => hj.elim (fun e => h.ge j (.inl e)) (fun e => (hm j e).elim (fun e => h.ge j (.inr e)) (fun e => Nat.le_trans hB e))⟩,
  fun j hj => hj.elim (fun e => .inl (.inl e)) (fun e => (hm j e).imp_left .inr), k.mono (fun j _ e => .inr e)⟩
def Dj (F G : Nat → Prop) : Prop := ∀ k, F k → ¬ G k
theorem Mv.djL {F F' G : Nat → Prop} {W W' : World} (m : Mv F F' W W') (d : Dj F G) (hG : ∀ k, G k → k < W.heap.size) : Dj F' G := fun k hk hg => (m.nw k hk).elim (fun e => d k e hg) (fun e => by have := hG k hg; omega)
theorem Mv.djR {F F' G : Nat → Prop} {W W' : World} (m : Mv F F' W W') (d : Dj G F) (hG : ∀ k, G k → k < W.heap.size) : Dj G F' := fun k hg hk => (m.nw k hk).elim (fun e => d k hg e) (fun e => by have := hG k hg; omega)
structure Two (w W : World) (x : Ae) (y : De) : Prop where
 a : AgS W w.heap.size x
 d : DmS W w.heap.size y
 dj : Dj x.F y.F
 kp : Kp (fun _ => False) w W
theorem Two.stepA {w W W' : World} {x x' : Ae} {y : De} (h : Two w W x y) (h' : AgS W' w.heap.size x') (m : Mv x.F x'.F W W') : Two w W' x' y :=
 ⟨h', h.d.kp m.kp (fun j hj e => h.dj j e hj), m.djL h.dj h.d.lt, h.kp.then m.kp (fun i hi e => by have := h.a.ge i e; omega)⟩
theorem Two.stepD {w W W' : World} {x : Ae} {y y' : De} (h : Two w W x y) (h' : DmS W' w.heap.size y') (m : Mv y.F y'.F W W') : Two w W' x y' :=
 ⟨h.a.kp m.kp (fun j hj e => h.dj j hj e), h', m.djR h.dj h.a.lt, h.kp.then m.kp (fun i hi e => by have := h.d.ge i e; omega)⟩
theorem Two.kp0 {w W W' : World} {x : Ae} {y : De} (h : Two w W x y) (k : Kp (fun _ => False) W W') : Two w W' x y := ⟨h.a.kp0 k, h.d.kp0 k, h.dj, h.kp.trans k⟩
theorem Two.sz {w W : World} {x : Ae} {y : De} (h : Two w W x y) : w.heap.size ≤ W.heap.size := h.kp.size
theorem me_up {o k g b : Nat} {t : Tk} (h : Me o (upT t g b) k) : k = o ∨ k = g ∨ k = b := by
 rcases h with h | ⟨_, h | h⟩
 · exact .inl h
 · exact .inr (.inl (mine_newL h))
 · exact .inr (.inr h)
theorem me_due {o k now : Nat} {t : Tk} (h : Me o (dueT t now) k) : Me o t k := by
 rcases h with h | ⟨e, h | h⟩
 · exact .inl h
 · exact .inr ⟨e, .inl ((st_mine t.i.g (atW t.i.x now) (dueI (atW t.i.x now)) k).1 h)⟩
 · exact .inr ⟨e, .inr h⟩
theorem errF_syn {s : Nat} (h1 : 1 ≤ s) (h2 : s ≤ 2147483647) : errF (synF s) = 0 := by
 have e : says (synF s) = true := by unfold says; rw [decide_eq_true_eq]; refine ⟨by show (1 : Int) ≤ (s : Nat); omega, fun _ => ⟨rfl, rfl, rfl, rfl⟩, ?_, ?_, ?_, ?_⟩ <;> intro e <;> exact absurd (show (1 : Int) = _ from e) (by decide)
 unfold errF
 rw [if_neg (by simp [synF, typedP]), if_neg (by simp [synF, rangeP]; omega), if_neg (by simp [synF]), e]
 rfl
theorem errF_wel {s b : Nat} (h1 : 1 ≤ s) (h2 : s ≤ 2147483647) (h3 : 1 ≤ b) (h4 : b ≤ 2147483647) : errF (welF s b) = 0 := by
 have e : says (welF s b) = true := by unfold says; rw [decide_eq_true_eq]; refine ⟨by show (1 : Int) ≤ (s : Nat); omega, ?_, fun _ => ⟨by show (1 : Int) ≤ (b : Nat); omega, rfl, rfl, rfl⟩, ?_, ?_, ?_⟩ <;> intro e <;> exact absurd (show (2 : Int) = _ from e) (by decide)
 unfold errF
 rw [if_neg (by simp [welF, typedP]), if_neg (by simp [welF, rangeP]; omega), if_neg (by simp [welF]), e]
 rfl
theorem errF_rst {s b : Nat} (h1 : 1 ≤ s) (h2 : s ≤ 2147483647) (h4 : b ≤ 2147483647) : errF (rstF b s) = 0 := by
 have e : says (rstF b s) = true := by unfold says; rw [decide_eq_true_eq]; refine ⟨by show (1 : Int) ≤ (s : Nat); omega, ?_, ?_, ?_, ?_, fun _ => ⟨rfl, rfl, rfl⟩⟩ <;> intro e <;> exact absurd (show (5 : Int) = _ from e) (by decide)
 unfold errF
 rw [if_neg (by simp [rstF, typedP]), if_neg (by simp [rstF, rangeP]; omega), if_neg (by simp [rstF]), e]
 rfl
theorem errF_dat {s b q a : Nat} {l : List Int} (h1 : 1 ≤ s) (h2 : s ≤ 2147483647) (h3 : 1 ≤ b) (h4 : b ≤ 2147483647) (h5 : 1 ≤ q) (h6 : q ≤ 2147483647) (h7 : a ≤ 2147483647) (h8 : l.length ≤ 1400) : errF ⟨3, s, b, q, a, l⟩ = 0 := by
 have e : says ⟨3, s, b, q, a, l⟩ = true := by unfold says; rw [decide_eq_true_eq]; refine ⟨by show (1 : Int) ≤ (s : Nat); omega, ?_, ?_, fun _ => ⟨by show (1 : Int) ≤ (b : Nat); omega, by show (1 : Int) ≤ (q : Nat); omega⟩, ?_, ?_⟩ <;> intro e <;> exact absurd (show (3 : Int) = _ from e) (by decide)
 unfold errF
 rw [if_neg (by simp [typedP]), if_neg (by simp [rangeP]; omega), if_neg (by show ¬ (1400 : Int) < l.length; omega), e]
 rfl
theorem errF_ack {s b a : Nat} (h1 : 1 ≤ s) (h2 : s ≤ 2147483647) (h3 : 1 ≤ b) (h4 : b ≤ 2147483647) (h7 : a ≤ 2147483647) : errF ⟨4, s, b, 0, a, []⟩ = 0 := by
 have e : says ⟨4, s, b, 0, a, []⟩ = true := by unfold says; rw [decide_eq_true_eq]; refine ⟨by show (1 : Int) ≤ (s : Nat); omega, ?_, ?_, ?_, fun _ => ⟨by show (1 : Int) ≤ (b : Nat); omega, rfl, rfl⟩, ?_⟩ <;> intro e <;> exact absurd (show (4 : Int) = _ from e) (by decide)
 unfold errF
 rw [if_neg (by simp [typedP]), if_neg (by simp [rangeP]; omega), if_neg (by simp), e]
 rfl
theorem OwnB.form3 {w : World} {v : Value} {l : List Int} (h : OwnB w v l) : ∃ a c, v = .slice a l.length c ∧ RdB w a l ∧ l.length ≤ c ∧ c ≤ maxLen := by
 obtain ⟨a, c, e, h1, h2⟩ := h.form
 obtain ⟨a', c', e', _, h3⟩ := h.own.form
 rw [e] at e'
 simp only [Value.slice.injEq] at e'
 obtain ⟨rfl, _, rfl⟩ := e'
 exact ⟨a, c, e, h1, h2, h3⟩
theorem timeN {n : Nat} (h : n ≤ 2147483647) : timeB (n : Int) = true := by unfold timeB; simp; omega
def apt (x : Ae) : Value := .pointer (some ⟨x.lb, 0, none⟩)
def dpt (x : De) : Value := .pointer (some ⟨x.lb, 0, none⟩)
section
variable {W : World} {B : Nat}
theorem ag_tick_first {x : Ae} (h : AgS W B x) (hB : B ≤ W.heap.size) (hst : x.t.st = 1) (hs : x.sent = false) (now : Nat) (ht : now ≤ 2147483647) :
 Calls Tryz.prog 21 #[apt x, .int .i64 (now : Nat)] W fun e w' => ∃ v, e = .returned v ∧ ∃ vs, LLs W.heap.size w' v (layP [] (synF x.t.se)) vs ∧ AgS w' B { x with sent := true, at_ := now } ∧ Mv x.F (Ae.F { x with sent := true, at_ := now }) W w' := by
 refine ltick_a h.lk now (timeN ht) ?_
 have h2 := h.tk
 rw [hs] at h2
 refine (atells_first h2 hst now ht).mono ?_
 rintro e w' ⟨v, rfl, vs, h3, h4, h5⟩
 obtain ⟨h6, h7⟩ := h.step hB h4 (fun k hk => .inl hk) (h5.mono (fun i _ e => .inl e))
 exact ⟨v, rfl, vs, h3, h6, h7⟩
theorem ag_tick_again {x : Ae} (h : AgS W B x) (hB : B ≤ W.heap.size) (hst : x.t.st = 1) (hs : x.sent = true) (now : Nat) (ht : now ≤ 2147483647) (hw : x.at_ + 8 ≤ now) :
 Calls Tryz.prog 21 #[apt x, .int .i64 (now : Nat)] W fun e w' => ∃ v, e = .returned v ∧ ∃ vs, LLs W.heap.size w' v (layP [] (synF x.t.se)) vs ∧ AgS w' B { x with sent := true, at_ := now } ∧ Mv x.F (Ae.F { x with sent := true, at_ := now }) W w' := by
 refine ltick_a h.lk now (timeN ht) ?_
 have h2 := h.tk
 rw [hs] at h2
 refine (atells_again h2 hst now ht hw).mono ?_
 rintro e w' ⟨v, rfl, vs, h3, h4, h5⟩
 obtain ⟨h6, h7⟩ := h.step hB h4 (fun k hk => .inl hk) (h5.mono (fun i _ e => .inl e))
 exact ⟨v, rfl, vs, h3, h6, h7⟩
theorem ag_tick_wait {x : Ae} (h : AgS W B x) (hst : x.t.st = 1) (hs : x.sent = true) (now : Nat) (ht : now ≤ 2147483647) (hw : now < x.at_ + 8) :
 Calls Tryz.prog 21 #[apt x, .int .i64 (now : Nat)] W fun e w' => ∃ v, e = .returned v ∧ v = .slice none 0 0 ∧ Kp (fun _ => False) W w' := by
 refine ltick_a h.lk now (timeN ht) ?_
 have h2 := h.tk
 rw [hs] at h2
 refine (atells_wait h2 hst now ht hw).mono ?_
 rintro e w' ⟨rfl, h3⟩
 exact ⟨_, rfl, rfl, h3⟩
theorem ag_tick_up {x : Ae} (h : AgS W B x) (hB : B ≤ W.heap.size) (hst : x.t.st = 2) (hI : x.I ≤ 1000000) (now : Nat) (ht : now ≤ 2147483647) :
 Calls Tryz.prog 21 #[apt x, .int .i64 (now : Nat)] W fun e w' => ∃ v, e = .returned v ∧ ∃ vs l8, TelL (atW x.t.i.x now) (dueI (atW x.t.i.x now)) l8 ∧ LLs W.heap.size w' v (dueL x.t [] l8) vs ∧ AgS w' B { x with t := dueT x.t now, I := x.I + 1 } ∧ Mv x.F (Ae.F { x with t := dueT x.t now, I := x.I + 1 }) W w' := by
 refine ltick_a h.lk now (timeN ht) ?_
 refine atells_due h.tk (by omega) now ?_
 refine (due_yes h.tk hst hI now ht (LLs.nil _ W) (fun k hk => h.tk.lt hk) (Nat.le_refl _) (Nat.zero_le _)).mono ?_
 rintro e w' ⟨v, vs, l8, rfl, h3, h4, h5, h6⟩
 obtain ⟨h7, h8⟩ := h.step hB h5 (fun k hk => .inl (me_due hk)) (h6.mono (fun i hi e => e.elim id (fun e => by omega)))
 exact ⟨v, rfl, vs, l8, h3, h4, h7, h8⟩
theorem ag_welcome {x : Ae} (h : AgS W B x) (hB : B ≤ W.heap.size) (hst : x.t.st = 1) (bo : Nat) (hse : 1 ≤ x.t.se) (hbo : 1 ≤ bo ∧ bo ≤ 2147483647) (now : Int) (ht : timeB now = true) (A : Option Addr) (c : Nat) (hr : RdB W A (layF (welF x.t.se bo))) (hc : (layF (welF x.t.se bo)).length ≤ c) (hcm : c ≤ maxLen) :
 Tells Tryz.prog 38 #[apt x, .slice A (layF (welF x.t.se bo)).length c, .int .i64 now] W fun v k w' => v = .slice none 0 0 ∧ k = 0 ∧ ∃ g b, AgS w' B { x with t := upT { x.t with bo := bo } g b } ∧ Mv x.F (Ae.F { x with t := upT { x.t with bo := bo } g b }) W w' := by
 have he := errF_wel hse h.tk.se hbo.1 hbo.2
 have hQ : Stays fun v k w' => v = .slice none 0 0 ∧ k = 0 ∧ ∃ g b, AgS w' B { x with t := upT { x.t with bo := bo } g b } ∧ Mv x.F (Ae.F { x with t := upT { x.t with bo := bo } g b }) W w' := by
  rintro v k w n ⟨h1, h2, g, b, h3, h4⟩
  exact ⟨h1, h2, g, b, h3.drewN n, h4.drewN n⟩
 refine lreceive_agood h.lk h.tk (by omega) now ht A _ c _ rfl hr (by rw [layF_len]; simp [welF]) hc hcm (errR_lay he).1 _ (errR_lay he).2 rfl hQ ?_
 intro w1 A' c' k1 hrA hfA
 refine atakes_2 _ _ _ _ _ rfl hQ ?_
 intro w2 k2
 have k12 := k1.trans k2
 have h2 := h.kp0 k12
 refine (awelcome_open h2.tk hst _ bo rfl hbo.2 A' c' now).mono ?_
 rintro e w' ⟨rfl, g, b, h3, hg, hb, hm, k3⟩
 obtain ⟨h4, m⟩ := h2.step (Nat.le_trans hB k12.size) h3 (fun k hk => (hm k hk).elim (fun e => .inl (.inl e)) (fun e => .inr (by omega))) (k3.mono (fun i _ e => .inl e))
 exact ⟨_, _, rfl, rfl, rfl, g, b, h4, Mv.pre k12 m⟩
theorem ag_ack {x : Ae} (h : AgS W B x) (hB : B ≤ W.heap.size) (hst : x.t.st = 2) (hI : x.I ≤ 1000000) (ac : Nat) (hac : ac ≤ 2147483647) (hse : 1 ≤ x.t.se) (hbo : 1 ≤ x.t.bo) (now : Int) (ht : timeB now = true) (hb : ackB x.t.i.x ac now = true) (A : Option Addr) (c : Nat) (hr : RdB W A (layF ⟨4, x.t.se, x.t.bo, 0, ac, []⟩)) (hc : (layF ⟨4, x.t.se, x.t.bo, 0, ac, []⟩).length ≤ c) (hcm : c ≤ maxLen) :
 Tells Tryz.prog 38 #[apt x, .slice A (layF ⟨4, x.t.se, x.t.bo, 0, ac, []⟩).length c, .int .i64 now] W fun v k w' => v = .slice none 0 0 ∧ k = 0 ∧ ∃ V', AgS w' B { x with t := ackT x.t (ackX x.t.i.x ac now V') } ∧ Mv x.F (Ae.F { x with t := ackT x.t (ackX x.t.i.x ac now V') }) W w' := by
 have he := errF_ack hse h.tk.se hbo h.tk.bo hac
 have hQ : Stays fun v k w' => v = .slice none 0 0 ∧ k = 0 ∧ ∃ V', AgS w' B { x with t := ackT x.t (ackX x.t.i.x ac now V') } ∧ Mv x.F (Ae.F { x with t := ackT x.t (ackX x.t.i.x ac now V') }) W w' := by
  rintro v k w n ⟨h1, h2, V', h3, h4⟩
  exact ⟨h1, h2, V', h3.drewN n, h4.drewN n⟩
 refine lreceive_agood h.lk h.tk (by omega) now ht A _ c _ rfl hr (by rw [layF_len]; simp) hc hcm (errR_lay he).1 _ (errR_lay he).2 rfl hQ ?_
 intro w1 A' c' k1 hrA hfA
 refine atakes_4 _ _ _ _ _ rfl hQ ?_
 intro w2 k2
 have k12 := k1.trans k2
 refine anews_yes (h.kp0 k12).tk hst _ A' c' now rfl hQ ?_
 intro w3 k3
 have k13 := k12.trans k3
 have h2 := h.kp0 k13
 refine (news_ack h2.tk hst hI _ A' c' now hb (by show (4 : Int) ≠ 3; decide)).mono ?_
 rintro e w' ⟨rfl, V', h3, hV, k4⟩
 obtain ⟨h4, m⟩ := h2.step (Nat.le_trans hB k13.size) h3 (fun k hk => .inl (me_ack hV hk)) k4
 exact ⟨_, _, rfl, rfl, rfl, V', h4, Mv.pre k13 m⟩
theorem medX {o k : Nat} {t t' : Tk} {rv : Value} {W : World} (h : ∀ k, Me o t' k → Me o t k ∨ W.heap.size ≤ k) (hk : MeD o t' rv k) : MeD o t rv k ∨ W.heap.size ≤ k :=
 hk.elim (fun e => (h k e).imp_left .inl) (fun e => .inl (.inr e))
theorem dm_newer {y : De} (h : DmS W B y) (hB : B ≤ W.heap.size) (s : Nat) (hs : y.t.se < s) (hsb : s ≤ 2147483647) (now : Int) (ht : timeB now = true) (A : Option Addr) (c : Nat) (hr : RdB W A (layF (synF s))) (hc : (layF (synF s)).length ≤ c) (hcm : c ≤ maxLen) :
 Tells Tryz.prog 38 #[dpt y, .slice A (layF (synF s)).length c, .int .i64 now] W fun v k w' => v = .slice none 0 0 ∧ k = 0 ∧ ∃ g b, DmS w' B { y with t := upT { y.t with se := s } g b, wel := true } ∧ Mv y.F (De.F { y with t := upT { y.t with se := s } g b, wel := true }) W w' := by
 have he := errF_syn (s := s) (by omega) hsb
 have hQ : Stays fun v k w' => v = .slice none 0 0 ∧ k = 0 ∧ ∃ g b, DmS w' B { y with t := upT { y.t with se := s } g b, wel := true } ∧ Mv y.F (De.F { y with t := upT { y.t with se := s } g b, wel := true }) W w' := by
  rintro v k w n ⟨h1, h2, g, b, h3, h4⟩
  exact ⟨h1, h2, g, b, h3.drewN n, h4.drewN n⟩
 refine lreceive_dgood h.lk h.dm.tk now ht A _ c _ rfl hr (by rw [layF_len]; simp [synF]) hc hcm (errR_lay he).1 _ (errR_lay he).2 hQ ?_
 intro w1 A' c' k1 hrA hfA
 refine dtakes_syn _ _ _ _ _ _ rfl ?_
 intro w2 k2
 have k12 := k1.trans k2
 have h2 := h.kp0 k12
 refine (dsyn_newer h2.dm _ A' c' s rfl hsb hs).mono ?_
 rintro e w' ⟨rfl, g, b, h3, hg, hb, k3⟩
 obtain ⟨h4, m⟩ := h2.step (Nat.le_trans hB k12.size) h3 (fun k hk => medX (fun k hk => (me_up hk).elim (fun e => .inl (.inl e)) (fun e => .inr (by omega))) hk) (k3.mono (fun i _ e => .inl (.inl e)))
 exact ⟨_, _, rfl, rfl, rfl, g, b, h4, Mv.pre k12 m⟩
theorem medR {o k : Nat} {t : Tk} {rv rv' : Value} {W : World} (h : ∀ g, rv'.ownBlock = some g → rv.ownBlock = some g ∨ W.heap.size ≤ g) (hk : MeD o t rv' k) : MeD o t rv k ∨ W.heap.size ≤ k :=
 hk.elim (fun e => .inl (.inl e)) (fun e => (h k e).imp_left .inr)
theorem me_take {o k : Nat} {t : Tk} {n now : Int} {V' : Value} {f' : Bodies} {n' hd' : Nat} {F' : Nat → Prop} {W : World} (hV : V'.ownBlock = t.i.x.V.ownBlock) (hF : ∀ k, F' k → t.i.F k ∨ W.heap.size ≤ k) (hk : Me o (takeT t (ackX t.i.x n now V') f' n' hd' F') k) : Me o t k ∨ W.heap.size ≤ k := by
 rcases hk with hk | ⟨e, hk | hk⟩
 · exact .inl (.inl hk)
 · exact .inl (.inr ⟨e, .inl (Mine.pop (x := t.i.x) hV hk)⟩)
 · exact (hF k hk).imp_left (fun h => .inr ⟨e, .inr h⟩)
theorem dm_data {y : De} (h : DmS W B y) (hB : B ≤ W.heap.size) (hst : y.t.st = 2) (hI : y.I ≤ 1000000) (f : Fr) (he : errF f = 0) (hty : f.ty = 3) (hse : f.se = y.t.se) (hbo : f.bo = y.t.bo) (now : Int) (ht : timeB now = true) (hb : ackB y.t.i.x f.ac now = true) (A : Option Addr) (c : Nat) (hr : RdB W A (layF f)) (hc : (layF f).length ≤ c) (hcm : c ≤ maxLen) :
 Tells Tryz.prog 38 #[dpt y, .slice A (layF f).length c, .int .i64 now] W fun v k w' => k = 0 ∧ ∃ V' n' hd' F' vs, V'.ownBlock = y.t.i.x.V.ownBlock ∧ y.t.i.n ≤ n' ∧ n' ≤ y.t.i.n + y.t.sz ∧ vs.length = n' - y.t.i.n ∧ Own w' v (n' - y.t.i.n) 1 vs ∧ Told w' (nf y.t.i.f y.t.i.n y.t.sz f.sq f.bd) y.t.i.n vs (fun k => (y.t.i.F k ∧ k ≠ y.t.i.b) ∨ W.heap.size ≤ k) F' ∧ (∀ k, v.ownBlock = some k → W.heap.size ≤ k ∧ ¬ F' k) ∧
  DmS w' B { y with t := takeT y.t (ackX y.t.i.x f.ac now V') (nf y.t.i.f y.t.i.n y.t.sz f.sq f.bd) n' hd' F' } ∧ Mv y.F (De.F { y with t := takeT y.t (ackX y.t.i.x f.ac now V') (nf y.t.i.f y.t.i.n y.t.sz f.sq f.bd) n' hd' F' }) W w' := by
 obtain ⟨_, hrg, hbd, _⟩ := errF_ok he
 have hsq := hrg.2.2.1
 have hQ : Stays fun v k w' => k = 0 ∧ ∃ V' n' hd' F' vs, V'.ownBlock = y.t.i.x.V.ownBlock ∧ y.t.i.n ≤ n' ∧ n' ≤ y.t.i.n + y.t.sz ∧ vs.length = n' - y.t.i.n ∧ Own w' v (n' - y.t.i.n) 1 vs ∧ Told w' (nf y.t.i.f y.t.i.n y.t.sz f.sq f.bd) y.t.i.n vs (fun k => (y.t.i.F k ∧ k ≠ y.t.i.b) ∨ W.heap.size ≤ k) F' ∧ (∀ k, v.ownBlock = some k → W.heap.size ≤ k ∧ ¬ F' k) ∧
  DmS w' B { y with t := takeT y.t (ackX y.t.i.x f.ac now V') (nf y.t.i.f y.t.i.n y.t.sz f.sq f.bd) n' hd' F' } ∧ Mv y.F (De.F { y with t := takeT y.t (ackX y.t.i.x f.ac now V') (nf y.t.i.f y.t.i.n y.t.sz f.sq f.bd) n' hd' F' }) W w' := by
  rintro v k w n ⟨h1, V', n', hd', F', vs, hV, h2, h3, h4, h5, h6, h7, h8, h9⟩
  exact ⟨h1, V', n', hd', F', vs, hV, h2, h3, h4, h5.kp ((Kp.refl _ w).drewN n) (fun _ _ h => h), h6.kp ((Kp.refl _ w).drewN n) (fun _ _ _ _ h => h), h7, h8.drewN n, h9.drewN n⟩
 refine lreceive_dgood h.lk h.dm.tk now ht A _ c _ rfl hr (by rw [layF_len]; omega) hc hcm (errR_lay he).1 _ (errR_lay he).2 hQ ?_
 intro w1 A' c' k1 hrA hfA
 have h2 := h.kp0 k1
 refine dtakes_yes3 h2.dm _ A' c' now hty hst hse hbo hQ ?_
 intro w2 k2
 have k12 := k1.trans k2
 have h3 := h.kp0 k12
 refine (news_take h3.dm.tk hst hI f A' c' now hb hty (by omega) (hrA.kp k2 (fun _ _ h => h)) (by omega) (fun a ha hm => ?_)).mono ?_
 · have q1 := hfA a.block (by rw [ha]; rfl)
   have q2 := h.dm.tk.lt hm
   omega
 · rintro e w' ⟨V', n', hd', F', v, vs, rfl, h4, hV, h5, h6, h7, h8, h9, h10, h11, k4⟩
   have hdm : DmC w' y.o (takeT y.t (ackX y.t.i.x f.ac now V') (nf y.t.i.f y.t.i.n y.t.sz f.sq f.bd) n' hd' F') y.wel y.rv y.rs y.I := ⟨h4, h3.dm.own.kp k4 (fun g hg e => h3.dm.ap g hg e), fun g hg e => (me_take (W := w2) hV h11 e).elim (h3.dm.ap g hg) (fun e => by have := h3.dm.own.lt g hg; omega), h3.dm.len⟩
   obtain ⟨h12, m⟩ := h3.step (Nat.le_trans hB k12.size) hdm (fun k hk => medX (fun k hk => me_take hV h11 hk) hk) (k4.mono (fun i _ e => .inl e))
   have hsz := k12.size
   exact ⟨v, 0, rfl, rfl, V', n', hd', F', vs, hV, h5, h6, h7, h8, ⟨h9.own, fun i g hi hg => ⟨(h9.blk i g hi hg).1.imp_right (fun e => by omega), (h9.blk i g hi hg).2⟩, h9.dist⟩, fun k hk => ⟨by have := (h10 k hk).1; omega, (h10 k hk).2⟩, h12, Mv.pre k12 m⟩
end
theorem LLs.one {Bd : Nat} {w : World} {v : Value} {b : List Int} {vs : List Value} (h : LLs Bd w v [b] vs) : ∃ g cap A c, v = .slice (some ⟨g, 0, none⟩) 1 cap ∧ w.cell? ⟨g, 0, none⟩ = some (.slice A b.length c) ∧ RdB w A b ∧ b.length ≤ c ∧ c ≤ maxLen := by
 obtain ⟨A, c, e, h1, h2, h3⟩ := (h.each 0 (by simp)).form3
 have e1 : vs.getD 0 undef = .slice A b.length c := e
 rcases h.own.2 with ⟨_, h0⟩ | ⟨g, cap, sp, hv, hat, _⟩
 · simp at h0
 · have hl := h.own.1
   refine ⟨g, cap, A, c, hv, ?_, h1, h2, h3⟩
   have hc := hat.cell 0
   rw [hc]
   rw [List.getD_eq_getElem?_getD] at e1
   cases vs with
   | nil => simp at hl
   | cons u us => simpa using e1
set_option maxHeartbeats 2000000 in
theorem over_one {w : World} {fl tl : Nat} (now : Int) (b : List Int) (ms : List (List Int)) (hm : ms.length ≤ 1000) {Q1 : World → Prop} {Q2 : List Value → World → Prop} 
 (CT : Calls Tryz.prog 21 #[.pointer (some ⟨fl, 0, none⟩), .int .i64 now] w fun e w' => ∃ v, e = .returned v ∧ ∃ Bd vs, LLs Bd w' v [b] vs ∧ Q1 w')
 (CR : ∀ w1 A c, Q1 w1 → RdB w1 A b → b.length ≤ c → c ≤ maxLen → Tells Tryz.prog 38 #[.pointer (some ⟨tl, 0, none⟩), .slice A b.length c, .int .i64 now] w1 (fun v k w3 => k = 0 ∧ ∃ us, LLu w3 v ms us ∧ Q2 us w3)) :
 Calls Tryz.prog 32 #[.pointer (some ⟨fl, 0, none⟩), .pointer (some ⟨tl, 0, none⟩), .int .i64 now] w fun e w' => ∃ a c us w3, e = .returned (.tuple #[.slice a ms.length c, .bool true]) ∧ LLs 0 w' (.slice a ms.length c) ms us ∧ Q2 us w3 ∧ Kp (fun _ => False) w3 w' ∧ (∀ g, (Value.slice a ms.length c).ownBlock = some g → w3.heap.size ≤ g) := by
 have CT := Lib.hid CT
 have CR := Lib.hid CR
 obtain ⟨nm, hnm⟩ : ∃ nm, nm = ms.length := ⟨_, rfl⟩
 rw [← hnm]
 have HNM := Lib.hid hnm
 clear hnm
 go_enter Tryz.func32, Tryz.ntmps32
 go_wp2_with fail
 go_at_call 21
 refine CT.out.mono ?_
 rintro e w1 ⟨v, rfl, Bd, vs, hl, hq1⟩
 obtain ⟨g, cap, A, c, rfl, hcell, hrA, hc1, hc2⟩ := hl.one
 have C1 := Lib.hid (CR.out w1 A c hq1 hrA hc1 hc2)
 obtain ⟨n, hn⟩ : ∃ n, n = b.length := ⟨_, rfl⟩
 rw [← hn] at C1 hcell
 clear hl hq1 hrA hc1 hc2 hn CT
 go_wp2_with fail
 go_loopw [9, 10] (fun ov iv wr => (iv = .int .i64 0 ∧ ov = .slice none 0 0 ∧ w1 = wr) ∨ (iv = .int .i64 1 ∧ ∃ oa oc us w3, ov = .slice oa nm oc ∧ LLs 0 wr (.slice oa nm oc) ms us ∧ Q2 us w3 ∧ Kp (fun _ => False) w3 wr ∧ (∀ g, (Value.slice oa nm oc).ownBlock = some g → w3.heap.size ≤ g))) (fun _ iv _ => 1 - (intOf iv).toNat)
 case atStart => exact .inl ⟨rfl, rfl, rfl⟩
 case round =>
  rcases hrel with ⟨rfl, rfl, rfl⟩ | ⟨rfl, oa, oc, us, w3, rfl, hl, hq, hk, hg⟩
  · go_wp2_with fail
    go_at_call 38
    refine C1.out.mono ?_
    rintro e w3 ⟨v, k, rfl, rfl, us, hl, hq⟩
    obtain ⟨va, vc, hv⟩ := hl.form
    have hnm := HNM.out
    rw [← hnm] at hv
    subst hv
    obtain ⟨v', w4, hr, hL, k4, hb⟩ := (LLs.nil 0 w3).cat (P := Tryz.prog) (t := 67) (tx := 67) (ty := 67) hl Tryz.underlying67 elem_sl Tryz.underlying67 (by omega) hnm (fun i g hi hg => ⟨fun e => by simp [Value.ownBlock] at e, fun j hj => by simp at hj⟩) (by simp; omega)
    have hL : LLs 0 w4 v' ms us := by simpa using hL
    have k4 : Kp (fun _ => False) w3 w4 := k4.mono (fun i _ e => by simp [Value.ownBlock] at e)
    have hb : ∀ g, v'.ownBlock = some g → w3.heap.size ≤ g := fun g hg => by
     rcases hb with e | e
     · rw [e] at hg; simp [Value.ownBlock] at hg
     · rw [e] at hg; cases hg; exact Nat.le_refl _
    obtain ⟨va', vc', hv', _⟩ := hL.form
    rw [← hnm] at hv'
    subst hv'
    have HR := Lib.hid hr
    have H4 := Lib.hid (And.intro hL (And.intro hq (And.intro k4 hb)))
    clear hl hq hr hL k4 hb hnm
    go_wp2_with (at_builtin; refine wpList_append_run _ HR.out rfl rfl rfl rfl ?_)
    go_roundw
    case rel => exact .inr ⟨by go_num, _, _, us, w3, rfl, H4.out.1, H4.out.2.1, H4.out.2.2.1, H4.out.2.2.2⟩
    case measure => simp [intOf]
  · have HL := Lib.hid (And.intro hl (And.intro hq (And.intro hk hg)))
    clear hl hq hk hg
    go_wp2_with fail
    go_ret2
    exact ⟨_, _, us, w3, rfl, HL.out.1, HL.out.2.1, HL.out.2.2.1, HL.out.2.2.2⟩
theorem layP_one {f : Fr} (h : errF f = 0) : layP [] f = [layF f] := by unfold layP; rw [if_pos h]; rfl
def welL (y : De) : List (List Int) := if y.wel then layP [] (welF y.t.se y.t.bo) else []
theorem dm_tick {W : World} {B : Nat} {y : De} (h : DmS W B y) (hB : B ≤ W.heap.size) (hst : y.t.st = 2) (hI : y.I ≤ 1000000) (hrb : ∀ s ∈ y.rs, s ≤ 2147483647) (now : Nat) (ht : now ≤ 2147483647) :
 Calls Tryz.prog 21 #[dpt y, .int .i64 (now : Nat)] W fun e w' => ∃ v, e = .returned v ∧ ∃ vs l8, TelL (atW y.t.i.x now) (dueI (atW y.t.i.x now)) l8 ∧ LLs W.heap.size w' v (dueL y.t (rstL y.t.bo (welL y) y.rs) l8) vs ∧ DmS w' B { y with t := dueT y.t now, wel := false, rv := .slice none 0 0, rs := [], I := y.I + 1 } ∧ Mv y.F (De.F { y with t := dueT y.t now, wel := false, rv := .slice none 0 0, rs := [], I := y.I + 1 }) W w' := by
 refine ltick_d h.lk now (timeN ht) ?_
 refine dtells_any y.wel h.dm hrb now (welL y) rfl ?_
 intro w1 v vs hl hd k1
 have hMe : ∀ k, Me y.o y.t k → k < W.heap.size := fun k hk => h.dm.tk.lt hk
 have hlen : (rstL y.t.bo (welL y) y.rs).length ≤ 1000 := by
  have h1 := rstL_len y.t.bo (welL y) y.rs
  have h2 := h.dm.len
  have h3 : (welL y).length ≤ 1 := by unfold welL; split; exact layP_len _ _; simp
  omega
 refine (due_yes hd.tk hst hI now ht hl hMe k1.size hlen).mono ?_
 rintro e w2 ⟨v2, vs2, l8, rfl, h3, h4, h5, k2⟩
 have kk : Kp (Me y.o y.t) W w2 := (k1.mono (fun i _ e => .inl e)).then k2 (fun i hi e => e.elim id (fun e => by omega))
 have hdm : DmC w2 y.o (dueT y.t now) false (.slice none 0 0) [] (y.I + 1) := ⟨h5, Own.nil _ 1, fun g hg => (by cases hg), Nat.zero_le _⟩
 obtain ⟨h6, m⟩ := h.step hB hdm (fun k hk => hk.elim (fun e => .inl (.inl (me_due e))) (fun e => (by cases e))) (kk.mono (fun i _ e => .inl e))
 exact ⟨v2, rfl, vs2, l8, h3, h4, h6, m⟩
theorem ag_send {W : World} {B : Nat} {x : Ae} (h : AgS W B x) (hB : B ≤ W.heap.size) (hst : x.t.st = 2) (hI : x.I ≤ 1000000) (a : Option Addr) (n c : Nat) (body : List Int) (hn : n = body.length) (hr : RdB W a body) (hnb : n ≤ 1400) (hf : x.t.i.x.l.length < x.t.sz) :
 Calls Tryz.prog 15 #[.pointer (some ⟨x.lb, 0, none⟩), .slice a n c] W fun e w' => e = .returned (.int .i64 0) ∧ ∃ p V', p.seq = x.t.i.x.last + 1 ∧ p.body = body ∧ p.times = 0 ∧ AgS w' B { x with t := sendT x.t p V', I := x.I + 1 } ∧ Mv x.F (Ae.F { x with t := sendT x.t p V', I := x.I + 1 }) W w' := by
 refine (lsend_aok h.lk h.tk hst hI a n c body hn hr hnb (by rw [(h.tk.up hst).wsz]; exact hf)).mono ?_
 rintro e w' ⟨rfl, p, V', h1, h2, h3, h4, h5, h6⟩
 obtain ⟨h7, m⟩ := h.step hB h4 h5 h6
 exact ⟨rfl, p, V', h1, h2, h3, h7, m⟩
def WE (x : Wn) (n : Nat) : Prop := x.l = [] ∧ x.last = n
def W1 (x : Wn) (q : Nat) (l : List Int) (n : Nat) : Prop := ∃ p, x.l = [p] ∧ p.seq = q ∧ p.body = l ∧ p.times = 0 ∧ x.last = n
theorem WE.new (s : Nat) : WE (wnew s) 0 := ⟨rfl, rfl⟩
theorem WE.due {x : Wn} {n : Nat} (h : WE x n) (now : Nat) : dueI (atW x now) = [] ∧ WE (dueW (atW x now)) n := by
 have e : dueI (atW x now) = [] := by
  unfold dueI
  rw [show (atW x now).l = [] from h.1]
  rfl
 refine ⟨e, ?_⟩
 unfold dueW
 rw [e, stW_nil]
 exact ⟨h.1, h.2⟩
theorem WE.push {x : Wn} {n : Nat} (h : WE x n) {p : Pk} {V : Value} {q : Nat} {l : List Int} (h1 : p.seq = x.last + 1) (h2 : p.body = l) (h3 : p.times = 0) : W1 { x with last := x.last + 1, V := V, l := x.l ++ [p] } (n + 1) l (n + 1) :=
 ⟨p, by show x.l ++ [p] = [p]; rw [h.1]; rfl, by rw [h1, h.2], h2, h3, by show x.last + 1 = n + 1; rw [h.2]⟩
theorem tel_nil {x : Wn} {l8 : List Tp} (h : TelL x [] l8) : l8 = [] := List.eq_nil_of_length_eq_zero h.1
theorem W1.due {x : Wn} {q n : Nat} {l : List Int} (h : W1 x q l n) (now : Nat) : dueI (atW x now) = [0] ∧ (∀ l8, TelL (atW x now) (dueI (atW x now)) l8 → ∃ u, l8 = [u] ∧ u.seq = q ∧ u.body = l) ∧ (dueW (atW x now)).l.length = 1 ∧ (dueW (atW x now)).last = n := by
 obtain ⟨p, h1, h2, h3, h4, h5⟩ := h
 have hp : pk x.l 0 = p := by rw [h1]; rfl
 have e : dueI (atW x now) = [0] := by
  unfold dueI
  rw [show (atW x now).l = x.l from rfl, h1]
  show (List.range 1).filter _ = _
  have : dueB (pk [p] 0) (atW x now).now = true := by
   rw [show pk [p] 0 = p from rfl]
   unfold dueB dueA
   rw [if_pos h4]; simp
  simp [List.range_succ, this]
 refine ⟨e, fun l8 ht => ?_, ?_, h5⟩
 · rw [e] at ht
   have hl := ht.1
   obtain ⟨e1, e2⟩ := ht.2 0 0 rfl
   cases l8 with
   | nil => simp at hl
   | cons u us =>
    cases us with
    | nil => exact ⟨u, rfl, by rw [show u.seq = _ from e1, show (atW x now).l = x.l from rfl, hp, h2], by rw [show u.body = _ from e2, show (atW x now).l = x.l from rfl, hp, h3]⟩
    | cons u' us => simp at hl
 · unfold dueW
   rw [show (stW (atW x now) (dueI (atW x now))).l = stL (atW x now) (dueI (atW x now)) from rfl, stL_len, show (atW x now).l = x.l from rfl, h1]; rfl
theorem over_syn {w W : World} {x : Ae} {y : De} (h : Two w W x y) (la ld : Nat) (hla : x.lb = la) (hld : y.lb = ld) (hst : x.t.st = 1) (hs : x.sent = false) (hse : 1 ≤ x.t.se) (hlt : y.t.se < x.t.se) (now : Nat) (q : Int) (hq : (now : Int) = q) (ht : now ≤ 2147483647) :
 Calls Tryz.prog 32 #[.pointer (some ⟨la, 0, none⟩), .pointer (some ⟨ld, 0, none⟩), .int .i64 q] W fun e w' => ∃ a c, e = .returned (.tuple #[.slice a 0 c, .bool true]) ∧ ∃ g b, Two w w' { x with sent := true, at_ := now } { y with t := upT { y.t with se := x.t.se } g b, wel := true } := by
 subst hla; subst hld; subst hq
 have hsb := h.a.tk.se
 refine (over_one (now : Int) (layF (synF x.t.se)) [] (Nat.zero_le _) (Q1 := fun w' => Two w w' { x with sent := true, at_ := now } y) (Q2 := fun us w' => ∃ g b, Two w w' { x with sent := true, at_ := now } { y with t := upT { y.t with se := x.t.se } g b, wel := true }) ?_ ?_).mono ?_
 · refine (ag_tick_first h.a h.sz hst hs now ht).mono ?_
   rintro e w' ⟨v, rfl, vs, h1, h2, h3⟩
   rw [layP_one (errF_syn hse hsb)] at h1
   exact ⟨v, rfl, _, vs, h1, h.stepA h2 h3⟩
 · intro w1 A c h1 hr hc hcm
   refine (dm_newer h1.d h1.sz x.t.se hlt hsb now (timeN ht) A c hr hc hcm).mono ?_
   rintro e w' ⟨v, k, rfl, rfl, rfl, g, b, h2, h3⟩
   exact ⟨_, _, rfl, rfl, [], LLu.nil w', g, b, h1.stepD h2 h3⟩
 · rintro e w' ⟨a, c, us, w3, rfl, h1, ⟨g, b, h2⟩, h3, h4⟩
   exact ⟨a, c, rfl, g, b, h2.kp0 h3⟩
theorem wel_due {y : De} (hw : y.wel = true) (hr : y.rs = []) (ho : y.t.owed = false) (he : errF (welF y.t.se y.t.bo) = 0) : dueL y.t (rstL y.t.bo (welL y) y.rs) [] = [layF (welF y.t.se y.t.bo)] := by
 unfold dueL welL
 rw [hw, hr, ho]
 simp only [rstL, List.foldl_nil, if_pos rfl, layP_one he]
 rfl
theorem over_wel {w W : World} {x : Ae} {y : De} (h : Two w W x y) (la ld : Nat) (hla : x.lb = la) (hld : y.lb = ld) (hst : x.t.st = 1) (hyt : y.t.st = 2) (hse : 1 ≤ x.t.se) (hss : y.t.se = x.t.se) (hbo : 1 ≤ y.t.bo) (hw : y.wel = true) (hrs : y.rs = []) (ho : y.t.owed = false) (hI : y.I ≤ 1000000) {m : Nat} (hE : WE y.t.i.x m) (now : Nat) (q : Int) (hq : (now : Int) = q) (ht : now ≤ 2147483647) :
 Calls Tryz.prog 32 #[.pointer (some ⟨ld, 0, none⟩), .pointer (some ⟨la, 0, none⟩), .int .i64 q] W fun e w' => ∃ a c, e = .returned (.tuple #[.slice a 0 c, .bool true]) ∧ ∃ g b, Two w w' { x with t := upT { x.t with bo := y.t.bo } g b } { y with t := dueT y.t now, wel := false, rv := .slice none 0 0, rs := [], I := y.I + 1 } := by
 subst hla; subst hld; subst hq
 have hsb := h.a.tk.se
 have hbb := h.d.dm.tk.bo
 have he := errF_wel hse hsb hbo hbb
 refine (over_one (now : Int) (layF (welF x.t.se y.t.bo)) [] (Nat.zero_le _) (Q1 := fun w' => Two w w' x { y with t := dueT y.t now, wel := false, rv := .slice none 0 0, rs := [], I := y.I + 1 }) (Q2 := fun us w' => ∃ g b, Two w w' { x with t := upT { x.t with bo := y.t.bo } g b } { y with t := dueT y.t now, wel := false, rv := .slice none 0 0, rs := [], I := y.I + 1 }) ?_ ?_).mono ?_
 · refine (dm_tick h.d h.sz hyt hI (fun s hs => by rw [hrs] at hs; cases hs) now ht).mono ?_
   rintro e w' ⟨v, rfl, vs, l8, h0, h1, h2, h3⟩
   rw [(hE.due now).1] at h0
   rw [tel_nil h0, wel_due hw hrs ho (by rw [hss]; exact he), hss] at h1
   exact ⟨v, rfl, _, vs, h1, h.stepD h2 h3⟩
 · intro w1 A c h1 hr hc hcm
   refine (ag_welcome h1.a h1.sz hst y.t.bo hse ⟨hbo, hbb⟩ now (timeN ht) A c hr hc hcm).mono ?_
   rintro e w' ⟨v, k, rfl, rfl, rfl, g, b, h2, h3⟩
   exact ⟨_, _, rfl, rfl, [], LLu.nil w', g, b, h1.stepA h2 h3⟩
 · rintro e w' ⟨a, c, us, w3, rfl, h1, ⟨g, b, h2⟩, h3, h4⟩
   exact ⟨a, c, rfl, g, b, h2.kp0 h3⟩
theorem dm_first {w W : World} {x : Ae} {y : De} (h : Two w W x y) (hst : y.t.st = 2) (hI : y.I ≤ 1000000) (f : Fr) (l : List Int) (he : errF f = 0) (hty : f.ty = 3) (hse : f.se = y.t.se) (hbo : f.bo = y.t.bo) (hsq : f.sq = 1) (hbd : f.bd = l) (hac : f.ac = 0) (hf : y.t.i.f = fun _ => none) (hn : y.t.i.n = 1) (now : Int) (ht : timeB now = true) (A : Option Addr) (c : Nat) (hr : RdB W A (layF f)) (hc : (layF f).length ≤ c) (hcm : c ≤ maxLen) :
 Tells Tryz.prog 38 #[dpt y, .slice A (layF f).length c, .int .i64 now] W fun v k w' => k = 0 ∧ ∃ us, LLu w' v [l] us ∧ ∃ V' hd' F', Two w w' x { y with t := takeT y.t (ackX y.t.i.x 0 now V') (put y.t.i.f 1 l) 2 hd' F' } ∧
  (∀ g, (v.ownBlock = some g ∨ ∃ i, i < 1 ∧ (us.getD i undef).ownBlock = some g) → ¬ x.F g ∧ ¬ De.F { y with t := takeT y.t (ackX y.t.i.x 0 now V') (put y.t.i.f 1 l) 2 hd' F' } g) ∧ Mv y.F (De.F { y with t := takeT y.t (ackX y.t.i.x 0 now V') (put y.t.i.f 1 l) 2 hd' F' }) W w' := by
 have hu := h.d.dm.tk.up hst
 have hb : ackB y.t.i.x f.ac now = true := by unfold ackB; rw [hac, ht]; simp
 refine (dm_data h.d h.sz hst hI f he hty hse hbo now ht hb A c hr hc hcm).mono ?_
 rintro e w' ⟨v, k, rfl, rfl, V', n', hd', F', vs, hV, h1, h2, h3, h4, h5, h6, h7, h8⟩
 have hsz := h.d.dm.tk.sz
 have hcd : cd y.t.i.f y.t.i.n y.t.sz f.sq = 0 := by
  rw [hsq, hn, hf]
  unfold cd
  rw [if_neg (by omega), if_neg (by simp [hasI]), if_neg (by omega)]
 have hnf : nf y.t.i.f y.t.i.n y.t.sz f.sq f.bd = put y.t.i.f 1 l := by rw [nf_put _ _ _ _ _ hcd, hsq, hbd]; rfl
 rw [hnf] at h5 h7 h8
 rw [hac] at h7 h8
 rw [hn] at h1 h2 h3 h4 h5
 have hin : InbAt w' y.t.i.b y.t.sz (put y.t.i.f 1 l) n' hd' F' := (h7.dm.tk.up hst).inb
 have hp1 : put y.t.i.f 1 l 1 = some l := by unfold put; simp
 have hp2 : put y.t.i.f 1 l 2 = none := by unfold put; simp [hf]
 have e1 : n' = 2 := by
  have q1 := hin.next_le (k := 2) (by omega) hp2
  have q2 := hin.2
  rcases (show n' = 1 ∨ n' = 2 by omega) with e | e
  · rw [e, hp1] at q2; cases q2
  · exact e
 subst e1
 refine ⟨v, 0, rfl, rfl, vs, ⟨h4, fun i hi => ?_, fun i j k hij hj _ _ => ?_⟩, V', hd', F', h.stepD h7 h8, fun g hg => ?_, h8⟩
 · obtain rfl : i = 0 := by simp at hi; omega
   obtain ⟨l', e1, e2⟩ := h5.own 0 (by omega)
   rw [show 1 + 0 = 1 from rfl, hp1] at e1
   cases e1
   exact e2
 · simp at hj; omega
 · have hG : ((y.t.i.F g ∧ g ≠ y.t.i.b) ∨ W.heap.size ≤ g) ∧ ¬ F' g := by
    rcases hg with hg | ⟨i, hi, hg⟩
    · exact ⟨.inr (h6 g hg).1, (h6 g hg).2⟩
    · exact h5.blk i g (by omega) hg
   have hFl : ∀ k, y.t.i.F k → y.F k := fun k hk => .inr (.inl (.inr ⟨hst, .inr hk⟩))
   refine ⟨fun hx => ?_, fun hy => ?_⟩
   · rcases hG.1 with e | e
     · exact h.dj g hx (hFl g e.1)
     · have := h.a.lt g hx; omega
   · rcases hy with hy | hy | hy
     · have hy : g = y.lb := hy
       rcases hG.1 with e | e
       · exact h.d.ne (hy ▸ (.inl (.inr ⟨hst, .inr e.1⟩) : MeD y.o y.t y.rv g))
       · have := h.d.lt g (.inl hy); omega
     · rcases hy with hy | ⟨_, hy | hy⟩
       · have hy : g = y.o := hy
         rcases hG.1 with e | e
         · exact hu.oX (hy ▸ e.1)
         · have := h.d.dm.tk.hat.lt; omega
       · have hy : Mine y.t.i.g y.t.i.x g := by
          exact Mine.pop (x := y.t.i.x) hV hy
         rcases hG.1 with e | e
         · exact hu.ap g hy e.1
         · have := hu.win.lt hy; omega
       · exact hG.2 hy
     · have hy : y.rv.ownBlock = some g := hy
       rcases hG.1 with e | e
       · exact h.d.dm.ap g hy (.inr ⟨hst, .inr e.1⟩)
       · have := h.d.dm.own.lt g hy; omega
end Go.Proofs.YtokembhfebnjpaaGreat
