/- Chapter 15: Receive of a frame. (Written by wip/lnp.py.) -/
import Derived.Test.YtokembhfebnjpaaQLnO
namespace Go.Proofs.Ytokembhfebnjpaa
set_option maxRecDepth 20000
open Go.RowKit Flt
set_option linter.unusedVariables false
set_option linter.unusedSimpArgs false
set_option maxHeartbeats 2000000 in
theorem lreceive_agood {lb o I : Nat} {t : Tk} {ext : List Value} {w : World} (h : LkC w lb 54 o) (hk : TkC w o t ext I) (hst : ¬ t.st = 3) (now : Int) (ht : timeB now = true) (a : Option Addr) (n c : Nat) (l : List Int) (hn : l.length = n) (hr : RdB w a l) (hl : n ≤ 100000000) (hcap : n ≤ c) (hcm : c ≤ maxLen) (he : errR l = 0) (f : Fr) (hf : frR l = f) (hse : f.se = t.se) {Q : Value → Int → World → Prop} (hQ : Stays Q)
    (C : ∀ w' A c', Kp (fun _ => False) w w' → RdB w' A f.bd → (∀ g, (Value.slice A 0 c').ownBlock = some g → w.heap.size ≤ g) → Tells Try.prog 67 #[.pointer (some ⟨o, 0, none⟩), .agg (frA f A c'), .int .i64 now] w' Q) :
    Tells Try.prog 14 #[.pointer (some ⟨lb, 0, none⟩), .slice a n c, .int .i64 now] w Q := by
  subst hn
  have c0 : w.cell? ⟨lb, 0, none⟩ = some (.iface 54 (.pointer (some ⟨o, 0, none⟩))) := h.cell 0
  have s0 := hk.c.1
  have CN := Lib.hid (lnone_at lb _ o w c0)
  have CT := ltime_any now w
  rw [ht] at CT
  have CT := Lib.hid CT
  have CR := fread_any a c l w hr hl hcap hcm
  unfold RdOut at CR
  rw [he, hf] at CR
  have CR := Lib.hid CR
  have hta : ∀ w : World, (Instr.typeAssert (.iface 54 (.pointer (some ⟨o, 0, none⟩))) 45 54 true).run Try.prog w = .ok (.tuple #[.pointer (some ⟨o, 0, none⟩), .bool true]) w := fun w => by kernel_rfl
  have hmh : ∀ (F : Nat) (w : World), (method (F + 1) 54 (.pointer (some ⟨o, 0, none⟩)) "satchel/link.hears").run Try.prog w = .ok (66, .pointer (some ⟨o, 0, none⟩)) w := fun F w => by kernel_rfl
  have hmt : ∀ (F : Nat) (w : World), (method (F + 1) 54 (.pointer (some ⟨o, 0, none⟩)) "satchel/link.takes").run Try.prog w = .ok (67, .pointer (some ⟨o, 0, none⟩)) w := fun F w => by kernel_rfl
  obtain ⟨st, hst2⟩ : ∃ st, st = t.st := ⟨_, rfl⟩
  rw [← hst2] at s0 hst
  have hs3 : ¬ (st : Int) = 3 := by omega
  have hs4 : ((st : Int) == 3) = false := by simpa using hs3
  have HH := Lib.hid (And.intro hk (And.intro hQ C))
  have CH := fun (w2 : World) (k : Kp (fun _ => False) w w2) (A : Option Addr) (c : Nat) => ahears_any (hk.kp0 k) f A c
  simp only [if_pos hse] at CH
  have CH := Lib.hid CH
  obtain ⟨n, hn⟩ : ∃ n, n = l.length := ⟨_, rfl⟩
  rw [← hn] at CR ⊢
  clear h hk ht hr hl hcap hcm hst2 hn he hf hQ C hse hst
  unfold Tells
  go_enter Try.func14, Try.ntmps14
  go_wp2_with (first | (go_at_call 25; refine CN.out.mono ?_; rintro e w' ⟨rfl, rfl⟩) | (go_at_call 31; refine CT.out.mono ?_; rintro e w' ⟨rfl, rfl⟩))
  go_at_call 32
  refine CR.out.mono ?_
  rintro e w1 hro
  obtain ⟨A, c', rfl, hrA, hfA, k1⟩ := hro
  have K1 := Lib.hid (And.intro k1 (And.intro hrA hfA))
  have c0 := k1.cell c0 (fun h => h)
  obtain ⟨ty, se, bo, sq, ac, bd⟩ := f
  dsimp only [frA] at *
  obtain ⟨w2, hw2⟩ : ∃ w2, w2 = w1.alloc (.cells #[.int .i64 ty, .int .i64 se, .int .i64 bo, .int .i64 sq, .int .i64 ac, .slice A bd.length c'] 36) := ⟨_, rfl⟩
  obtain ⟨fb, hfb⟩ : ∃ fb, fb = w1.heap.size := ⟨_, rfl⟩
  have k2 : Kp (fun _ => False) w1 w2 := by rw [hw2]; exact (Kp.refl _ w1).alloc _
  have ab : At w2 fb [.int .i64 ty, .int .i64 se, .int .i64 bo, .int .i64 sq, .int .i64 ac, .slice A bd.length c'] := by rw [hw2, hfb]; exact At.new w1 _ _
  have q0 : w2.cell? ⟨fb, 0, none⟩ = some (.int .i64 ty) := ab.cell 0
  have q1 : w2.cell? ⟨fb, 1, none⟩ = some (.int .i64 se) := ab.cell 1
  have q2 : w2.cell? ⟨fb, 2, none⟩ = some (.int .i64 bo) := ab.cell 2
  have q3 : w2.cell? ⟨fb, 3, none⟩ = some (.int .i64 sq) := ab.cell 3
  have q4 : w2.cell? ⟨fb, 4, none⟩ = some (.int .i64 ac) := ab.cell 4
  have q5 : w2.cell? ⟨fb, 5, none⟩ = some (.slice A bd.length c') := ab.cell 5
  have c0 := k2.cell c0 (fun h => h)
  have K2 := Lib.hid (k1.trans k2)
  have K12 := Lib.hid k2
  generalize bd.length = nb at *
  clear hrA hfA k1 CR k2 ab
  go_upto_region 10 with fail
  rw [← hw2, ← hfb]
  clear hw2 hfb
  refine region_L (S := fun w' => Kp (fun _ => False) w2 w') [5] rfl ?_
  have hSd : ∀ (w' : World) (n' : Nat), Kp (fun _ => False) w2 w' → Kp (fun _ => False) w2 (w'.drewN n') := fun w' n' h => h.drewN n'
  have hS0 : Kp (fun _ => False) w2 w2.drew := (Kp.refl _ w2).drew
  refine anyL_world (fun w' => Kp (fun _ => False) w2 w') hS0 ?_
  clear hS0
  intro z0 kz0
  refine anyL_takeF (i := 0) (d := 43) (v := (.pointer (some ⟨lb, 0, none⟩))) rfl rfl (by kernel_rfl) (by kernel_rfl) (by kernel_rfl) (fun _ _ _ h => h) hSd (by kernel_rfl) (.inl (.inl ⟨rfl, fun w' hS => by first | rfl | go_simp⟩)) (fun _ => kz0) ?_
  try simp only [List.setIfInBounds_toArray, List.set_cons_succ, List.set_cons_zero]
  refine anyL_takeF (i := 1) (d := 44) (v := (.pointer (some ⟨lb, 0, none⟩))) rfl rfl (by kernel_rfl) (by kernel_rfl) (by kernel_rfl) (fun _ _ _ h => h) hSd (by kernel_rfl) (.inl (.inl ⟨rfl, fun w' hS => by first | rfl | go_simp⟩)) (fun _ => kz0) ?_
  try simp only [List.setIfInBounds_toArray, List.set_cons_succ, List.set_cons_zero]
  refine anyL_takeF (i := 2) (d := 45) (v := (.pointer (some ⟨lb, 0, none⟩))) rfl rfl (by kernel_rfl) (by kernel_rfl) (by kernel_rfl) (fun _ _ _ h => h) hSd (by kernel_rfl) (.inl (.inl ⟨rfl, fun w' hS => by first | rfl | go_simp⟩)) (fun _ => kz0) ?_
  try simp only [List.setIfInBounds_toArray, List.set_cons_succ, List.set_cons_zero]
  refine anyL_takeD (i := 3) (d := 46) (v := (.iface 54 (.pointer (some ⟨o, 0, none⟩)))) rfl rfl (by kernel_rfl) (by kernel_rfl) (by kernel_rfl) (fun _ _ _ h => h) hSd (by kernel_rfl) (.inl (.inl ⟨rfl, fun w' hS => by have h0 := hS.cell c0 (fun h => h); go_simp⟩)) kz0 ?_
  try simp only [List.setIfInBounds_toArray, List.set_cons_succ, List.set_cons_zero]
  refine anyL_takeD (i := 4) (d := 47) (v := (.agg #[.int .i64 ty, .int .i64 se, .int .i64 bo, .int .i64 sq, .int .i64 ac, .slice A nb c'])) rfl rfl (by kernel_rfl) (by kernel_rfl) (by kernel_rfl) (fun _ _ _ h => h) hSd (by kernel_rfl) (.inl (.inl ⟨rfl, fun w' hS => by have h0 := hS.cell q0 (fun h => h); have h1 := hS.cell q1 (fun h => h); have h2 := hS.cell q2 (fun h => h); have h3 := hS.cell q3 (fun h => h); have h4 := hS.cell q4 (fun h => h); have h5 := hS.cell q5 (fun h => h); go_simp⟩)) kz0 ?_
  try simp only [List.setIfInBounds_toArray, List.set_cons_succ, List.set_cons_zero]
  refine anyL_all (rs := [5]) (by kernel_rfl) (by simp) ?_
  intro n11 i' hi'
  simp only [List.mem_cons, List.not_mem_nil, or_false] at hi'
  obtain rfl := hi'
  refine wpOp_of rfl rfl ?_
  go_simp
  refine Calls.mono (CH.out (z0.drewN n11) (K2.out.trans (kz0.drewN n11)) A c') ?_
  rintro e w9p ⟨rfl, k9⟩
  try dsimp only
  refine ⟨fun h => Bool.noConfusion (show false = true from h), ?_⟩
  try simp only [List.setIfInBounds_toArray, List.set_cons_succ, List.set_cons_zero]
  refine anyL_takeF (i := 6) (d := 11) (v := (.int .i64 0)) rfl rfl (by kernel_rfl) (by kernel_rfl) (by kernel_rfl) (fun _ _ _ h => h) hSd (by kernel_rfl) (.inl (.inl ⟨rfl, fun w' hS => by first | rfl | go_simp⟩)) (fun h => Bool.noConfusion (show false = true from h)) ?_
  try simp only [List.setIfInBounds_toArray, List.set_cons_succ, List.set_cons_zero]
  refine anyL_done (by kernel_rfl) (fun nn => ?_) _
  have kw9 : Kp (fun _ => False) w9p (w9p.drewN nn) := (Kp.refl _ w9p).drewN nn
  generalize w9p.drewN nn = w9 at *
  have K9 := Lib.hid ((kz0.drewN n11).trans (k9.trans kw9))
  clear hSd kz0 k9 kw9
  go_upto_region 13 with fail
  have c0 := K9.out.cell c0 (fun h => h)
  have q0 := K9.out.cell q0 (fun h => h)
  have q1 := K9.out.cell q1 (fun h => h)
  have q2 := K9.out.cell q2 (fun h => h)
  have q3 := K9.out.cell q3 (fun h => h)
  have q4 := K9.out.cell q4 (fun h => h)
  have q5 := K9.out.cell q5 (fun h => h)
  refine region_L (S := fun w' => Kp (fun _ => False) w9 w') [6] rfl ?_
  have hSd : ∀ (w' : World) (n' : Nat), Kp (fun _ => False) w9 w' → Kp (fun _ => False) w9 (w'.drewN n') := fun w' n' h => h.drewN n'
  have hS0 : Kp (fun _ => False) w9 w9.drew := (Kp.refl _ w9).drew
  refine anyL_world (fun w' => Kp (fun _ => False) w9 w') hS0 ?_
  clear hS0
  intro z0 kz0
  refine anyL_takeF (i := 0) (d := 52) (v := (.pointer (some ⟨lb, 0, none⟩))) rfl rfl (by kernel_rfl) (by kernel_rfl) (by kernel_rfl) (fun _ _ _ h => h) hSd (by kernel_rfl) (.inl (.inl ⟨rfl, fun w' hS => by first | rfl | go_simp⟩)) (fun _ => kz0) ?_
  try simp only [List.setIfInBounds_toArray, List.set_cons_succ, List.set_cons_zero]
  refine anyL_takeF (i := 1) (d := 53) (v := (.pointer (some ⟨lb, 0, none⟩))) rfl rfl (by kernel_rfl) (by kernel_rfl) (by kernel_rfl) (fun _ _ _ h => h) hSd (by kernel_rfl) (.inl (.inl ⟨rfl, fun w' hS => by first | rfl | go_simp⟩)) (fun _ => kz0) ?_
  try simp only [List.setIfInBounds_toArray, List.set_cons_succ, List.set_cons_zero]
  refine anyL_takeF (i := 2) (d := 54) (v := (.pointer (some ⟨lb, 0, none⟩))) rfl rfl (by kernel_rfl) (by kernel_rfl) (by kernel_rfl) (fun _ _ _ h => h) hSd (by kernel_rfl) (.inl (.inl ⟨rfl, fun w' hS => by first | rfl | go_simp⟩)) (fun _ => kz0) ?_
  try simp only [List.setIfInBounds_toArray, List.set_cons_succ, List.set_cons_zero]
  refine anyL_takeD (i := 3) (d := 55) (v := (.iface 54 (.pointer (some ⟨o, 0, none⟩)))) rfl rfl (by kernel_rfl) (by kernel_rfl) (by kernel_rfl) (fun _ _ _ h => h) hSd (by kernel_rfl) (.inl (.inl ⟨rfl, fun w' hS => by have h0 := hS.cell c0 (fun h => h); go_simp⟩)) kz0 ?_
  try simp only [List.setIfInBounds_toArray, List.set_cons_succ, List.set_cons_zero]
  refine anyL_takeD (i := 4) (d := 56) (v := (.agg #[.int .i64 ty, .int .i64 se, .int .i64 bo, .int .i64 sq, .int .i64 ac, .slice A nb c'])) rfl rfl (by kernel_rfl) (by kernel_rfl) (by kernel_rfl) (fun _ _ _ h => h) hSd (by kernel_rfl) (.inl (.inl ⟨rfl, fun w' hS => by have h0 := hS.cell q0 (fun h => h); have h1 := hS.cell q1 (fun h => h); have h2 := hS.cell q2 (fun h => h); have h3 := hS.cell q3 (fun h => h); have h4 := hS.cell q4 (fun h => h); have h5 := hS.cell q5 (fun h => h); go_simp⟩)) kz0 ?_
  try simp only [List.setIfInBounds_toArray, List.set_cons_succ, List.set_cons_zero]
  refine anyL_takeF (i := 5) (d := 57) (v := (.int .i64 now)) rfl rfl (by kernel_rfl) (by kernel_rfl) (by kernel_rfl) (fun _ _ _ h => h) hSd (by kernel_rfl) (.inl (.inl ⟨rfl, fun w' hS => by first | rfl | go_simp⟩)) (fun _ => kz0) ?_
  try simp only [List.setIfInBounds_toArray, List.set_cons_succ, List.set_cons_zero]
  refine anyL_all (rs := [6]) (by kernel_rfl) (by simp) ?_
  intro n11 i' hi'
  simp only [List.mem_cons, List.not_mem_nil, or_false] at hi'
  obtain rfl := hi'
  refine wpOp_of rfl rfl ?_
  go_simp
  refine Calls.mono (HH.out.2.2 (z0.drewN n11) A c' ((K2.out.trans K9.out).trans (kz0.drewN n11)) (K1.out.2.1.kp0 ((K12.out.trans K9.out).trans (kz0.drewN n11)) (fun _ _ h => h)) K1.out.2.2) ?_
  rintro e w10p ⟨v, k, rfl, hq⟩
  try dsimp only
  refine ⟨fun h => Bool.noConfusion (show false = true from h), ?_⟩
  try simp only [List.setIfInBounds_toArray, List.set_cons_succ, List.set_cons_zero]
  refine anyL_takeF (i := 7) (d := 59) (v := v) rfl rfl (by kernel_rfl) (by kernel_rfl) (by kernel_rfl) (fun _ _ _ h => h) hSd (by kernel_rfl) (.inl (.inl ⟨rfl, fun w' hS => by first | rfl | go_simp⟩)) (fun h => Bool.noConfusion (show false = true from h)) ?_
  try simp only [List.setIfInBounds_toArray, List.set_cons_succ, List.set_cons_zero]
  refine anyL_takeF (i := 8) (d := 60) (v := (.int .i64 k)) rfl rfl (by kernel_rfl) (by kernel_rfl) (by kernel_rfl) (fun _ _ _ h => h) hSd (by kernel_rfl) (.inl (.inl ⟨rfl, fun w' hS => by first | rfl | go_simp⟩)) (fun h => Bool.noConfusion (show false = true from h)) ?_
  try simp only [List.setIfInBounds_toArray, List.set_cons_succ, List.set_cons_zero]
  refine anyL_takeF (i := 9) (d := 6) (v := v) rfl rfl (by kernel_rfl) (by kernel_rfl) (by kernel_rfl) (fun _ _ _ h => h) hSd (by kernel_rfl) (.inl (.inl ⟨rfl, fun w' hS => by first | rfl | go_simp⟩)) (fun h => Bool.noConfusion (show false = true from h)) ?_
  try simp only [List.setIfInBounds_toArray, List.set_cons_succ, List.set_cons_zero]
  refine anyL_takeF (i := 10) (d := 7) (v := (.int .i64 k)) rfl rfl (by kernel_rfl) (by kernel_rfl) (by kernel_rfl) (fun _ _ _ h => h) hSd (by kernel_rfl) (.inl (.inl ⟨rfl, fun w' hS => by first | rfl | go_simp⟩)) (fun h => Bool.noConfusion (show false = true from h)) ?_
  try simp only [List.setIfInBounds_toArray, List.set_cons_succ, List.set_cons_zero]
  refine anyL_done (by kernel_rfl) (fun nn => ?_) _
  clear hSd kz0
  go_wp2_with fail
  go_ret2
  exact ⟨v, k, rfl, HH.out.2.1 _ _ _ _ hq⟩
set_option maxHeartbeats 2000000 in
theorem lreceive_dgood {lb o I : Nat} {t : Tk} {ext : List Value} {w : World} (h : LkC w lb 61 o) (hk : TkC w o t ext I) (now : Int) (ht : timeB now = true) (a : Option Addr) (n c : Nat) (l : List Int) (hn : l.length = n) (hr : RdB w a l) (hl : n ≤ 100000000) (hcap : n ≤ c) (hcm : c ≤ maxLen) (he : errR l = 0) (f : Fr) (hf : frR l = f) {Q : Value → Int → World → Prop} (hQ : Stays Q)
    (C : ∀ w' A c', Kp (fun _ => False) w w' → RdB w' A f.bd → (∀ g, (Value.slice A 0 c').ownBlock = some g → w.heap.size ≤ g) → Tells Try.prog 112 #[.pointer (some ⟨o, 0, none⟩), .agg (frA f A c'), .int .i64 now] w' Q) :
    Tells Try.prog 14 #[.pointer (some ⟨lb, 0, none⟩), .slice a n c, .int .i64 now] w Q := by
  subst hn
  have c0 : w.cell? ⟨lb, 0, none⟩ = some (.iface 61 (.pointer (some ⟨o, 0, none⟩))) := h.cell 0
  have s0 := hk.c.1
  have CN := Lib.hid (lnone_at lb _ o w c0)
  have CT := ltime_any now w
  rw [ht] at CT
  have CT := Lib.hid CT
  have CR := fread_any a c l w hr hl hcap hcm
  unfold RdOut at CR
  rw [he, hf] at CR
  have CR := Lib.hid CR
  have hta : ∀ w : World, (Instr.typeAssert (.iface 61 (.pointer (some ⟨o, 0, none⟩))) 45 54 true).run Try.prog w = .ok (.tuple #[.pointer none, .bool false]) w := fun w => by kernel_rfl
  have hmh : ∀ (F : Nat) (w : World), (method (F + 1) 61 (.pointer (some ⟨o, 0, none⟩)) "satchel/link.hears").run Try.prog w = .ok (111, .pointer (some ⟨o, 0, none⟩)) w := fun F w => by kernel_rfl
  have hmt : ∀ (F : Nat) (w : World), (method (F + 1) 61 (.pointer (some ⟨o, 0, none⟩)) "satchel/link.takes").run Try.prog w = .ok (112, .pointer (some ⟨o, 0, none⟩)) w := fun F w => by kernel_rfl
  obtain ⟨st, hst2⟩ : ∃ st, st = t.st := ⟨_, rfl⟩
  rw [← hst2] at s0
  
  
  have HH := Lib.hid (And.intro hk (And.intro hQ C))
  have CH := fun (w2 : World) (A : Option Addr) (c : Nat) => dhears_any o w2 f A c
  
  have CH := Lib.hid CH
  obtain ⟨n, hn⟩ : ∃ n, n = l.length := ⟨_, rfl⟩
  rw [← hn] at CR ⊢
  clear h hk ht hr hl hcap hcm hst2 hn he hf hQ C
  unfold Tells
  go_enter Try.func14, Try.ntmps14
  go_wp2_with (first | (go_at_call 25; refine CN.out.mono ?_; rintro e w' ⟨rfl, rfl⟩) | (go_at_call 31; refine CT.out.mono ?_; rintro e w' ⟨rfl, rfl⟩))
  go_at_call 32
  refine CR.out.mono ?_
  rintro e w1 hro
  obtain ⟨A, c', rfl, hrA, hfA, k1⟩ := hro
  have K1 := Lib.hid (And.intro k1 (And.intro hrA hfA))
  have c0 := k1.cell c0 (fun h => h)
  obtain ⟨ty, se, bo, sq, ac, bd⟩ := f
  dsimp only [frA] at *
  obtain ⟨w2, hw2⟩ : ∃ w2, w2 = w1.alloc (.cells #[.int .i64 ty, .int .i64 se, .int .i64 bo, .int .i64 sq, .int .i64 ac, .slice A bd.length c'] 36) := ⟨_, rfl⟩
  obtain ⟨fb, hfb⟩ : ∃ fb, fb = w1.heap.size := ⟨_, rfl⟩
  have k2 : Kp (fun _ => False) w1 w2 := by rw [hw2]; exact (Kp.refl _ w1).alloc _
  have ab : At w2 fb [.int .i64 ty, .int .i64 se, .int .i64 bo, .int .i64 sq, .int .i64 ac, .slice A bd.length c'] := by rw [hw2, hfb]; exact At.new w1 _ _
  have q0 : w2.cell? ⟨fb, 0, none⟩ = some (.int .i64 ty) := ab.cell 0
  have q1 : w2.cell? ⟨fb, 1, none⟩ = some (.int .i64 se) := ab.cell 1
  have q2 : w2.cell? ⟨fb, 2, none⟩ = some (.int .i64 bo) := ab.cell 2
  have q3 : w2.cell? ⟨fb, 3, none⟩ = some (.int .i64 sq) := ab.cell 3
  have q4 : w2.cell? ⟨fb, 4, none⟩ = some (.int .i64 ac) := ab.cell 4
  have q5 : w2.cell? ⟨fb, 5, none⟩ = some (.slice A bd.length c') := ab.cell 5
  have c0 := k2.cell c0 (fun h => h)
  have K2 := Lib.hid (k1.trans k2)
  have K12 := Lib.hid k2
  generalize bd.length = nb at *
  clear hrA hfA k1 CR k2 ab
  go_upto_region 10 with fail
  rw [← hw2, ← hfb]
  clear hw2 hfb
  refine region_L (S := fun w' => Kp (fun _ => False) w2 w') [5] rfl ?_
  have hSd : ∀ (w' : World) (n' : Nat), Kp (fun _ => False) w2 w' → Kp (fun _ => False) w2 (w'.drewN n') := fun w' n' h => h.drewN n'
  have hS0 : Kp (fun _ => False) w2 w2.drew := (Kp.refl _ w2).drew
  refine anyL_world (fun w' => Kp (fun _ => False) w2 w') hS0 ?_
  clear hS0
  intro z0 kz0
  refine anyL_takeF (i := 0) (d := 43) (v := (.pointer (some ⟨lb, 0, none⟩))) rfl rfl (by kernel_rfl) (by kernel_rfl) (by kernel_rfl) (fun _ _ _ h => h) hSd (by kernel_rfl) (.inl (.inl ⟨rfl, fun w' hS => by first | rfl | go_simp⟩)) (fun _ => kz0) ?_
  try simp only [List.setIfInBounds_toArray, List.set_cons_succ, List.set_cons_zero]
  refine anyL_takeF (i := 1) (d := 44) (v := (.pointer (some ⟨lb, 0, none⟩))) rfl rfl (by kernel_rfl) (by kernel_rfl) (by kernel_rfl) (fun _ _ _ h => h) hSd (by kernel_rfl) (.inl (.inl ⟨rfl, fun w' hS => by first | rfl | go_simp⟩)) (fun _ => kz0) ?_
  try simp only [List.setIfInBounds_toArray, List.set_cons_succ, List.set_cons_zero]
  refine anyL_takeF (i := 2) (d := 45) (v := (.pointer (some ⟨lb, 0, none⟩))) rfl rfl (by kernel_rfl) (by kernel_rfl) (by kernel_rfl) (fun _ _ _ h => h) hSd (by kernel_rfl) (.inl (.inl ⟨rfl, fun w' hS => by first | rfl | go_simp⟩)) (fun _ => kz0) ?_
  try simp only [List.setIfInBounds_toArray, List.set_cons_succ, List.set_cons_zero]
  refine anyL_takeD (i := 3) (d := 46) (v := (.iface 61 (.pointer (some ⟨o, 0, none⟩)))) rfl rfl (by kernel_rfl) (by kernel_rfl) (by kernel_rfl) (fun _ _ _ h => h) hSd (by kernel_rfl) (.inl (.inl ⟨rfl, fun w' hS => by have h0 := hS.cell c0 (fun h => h); go_simp⟩)) kz0 ?_
  try simp only [List.setIfInBounds_toArray, List.set_cons_succ, List.set_cons_zero]
  refine anyL_takeD (i := 4) (d := 47) (v := (.agg #[.int .i64 ty, .int .i64 se, .int .i64 bo, .int .i64 sq, .int .i64 ac, .slice A nb c'])) rfl rfl (by kernel_rfl) (by kernel_rfl) (by kernel_rfl) (fun _ _ _ h => h) hSd (by kernel_rfl) (.inl (.inl ⟨rfl, fun w' hS => by have h0 := hS.cell q0 (fun h => h); have h1 := hS.cell q1 (fun h => h); have h2 := hS.cell q2 (fun h => h); have h3 := hS.cell q3 (fun h => h); have h4 := hS.cell q4 (fun h => h); have h5 := hS.cell q5 (fun h => h); go_simp⟩)) kz0 ?_
  try simp only [List.setIfInBounds_toArray, List.set_cons_succ, List.set_cons_zero]
  refine anyL_all (rs := [5]) (by kernel_rfl) (by simp) ?_
  intro n11 i' hi'
  simp only [List.mem_cons, List.not_mem_nil, or_false] at hi'
  obtain rfl := hi'
  refine wpOp_of rfl rfl ?_
  go_simp
  refine Calls.mono (CH.out (z0.drewN n11) A c') ?_
  rintro e w9p ⟨rfl, k9⟩
  try dsimp only
  refine ⟨fun h => Bool.noConfusion (show false = true from h), ?_⟩
  try simp only [List.setIfInBounds_toArray, List.set_cons_succ, List.set_cons_zero]
  refine anyL_takeF (i := 6) (d := 11) (v := (.int .i64 0)) rfl rfl (by kernel_rfl) (by kernel_rfl) (by kernel_rfl) (fun _ _ _ h => h) hSd (by kernel_rfl) (.inl (.inl ⟨rfl, fun w' hS => by first | rfl | go_simp⟩)) (fun h => Bool.noConfusion (show false = true from h)) ?_
  try simp only [List.setIfInBounds_toArray, List.set_cons_succ, List.set_cons_zero]
  refine anyL_done (by kernel_rfl) (fun nn => ?_) _
  have kw9 : Kp (fun _ => False) w9p (w9p.drewN nn) := (Kp.refl _ w9p).drewN nn
  generalize w9p.drewN nn = w9 at *
  have K9 := Lib.hid ((kz0.drewN n11).trans (k9.trans kw9))
  clear hSd kz0 k9 kw9
  go_upto_region 13 with fail
  have c0 := K9.out.cell c0 (fun h => h)
  have q0 := K9.out.cell q0 (fun h => h)
  have q1 := K9.out.cell q1 (fun h => h)
  have q2 := K9.out.cell q2 (fun h => h)
  have q3 := K9.out.cell q3 (fun h => h)
  have q4 := K9.out.cell q4 (fun h => h)
  have q5 := K9.out.cell q5 (fun h => h)
  refine region_L (S := fun w' => Kp (fun _ => False) w9 w') [6] rfl ?_
  have hSd : ∀ (w' : World) (n' : Nat), Kp (fun _ => False) w9 w' → Kp (fun _ => False) w9 (w'.drewN n') := fun w' n' h => h.drewN n'
  have hS0 : Kp (fun _ => False) w9 w9.drew := (Kp.refl _ w9).drew
  refine anyL_world (fun w' => Kp (fun _ => False) w9 w') hS0 ?_
  clear hS0
  intro z0 kz0
  refine anyL_takeF (i := 0) (d := 52) (v := (.pointer (some ⟨lb, 0, none⟩))) rfl rfl (by kernel_rfl) (by kernel_rfl) (by kernel_rfl) (fun _ _ _ h => h) hSd (by kernel_rfl) (.inl (.inl ⟨rfl, fun w' hS => by first | rfl | go_simp⟩)) (fun _ => kz0) ?_
  try simp only [List.setIfInBounds_toArray, List.set_cons_succ, List.set_cons_zero]
  refine anyL_takeF (i := 1) (d := 53) (v := (.pointer (some ⟨lb, 0, none⟩))) rfl rfl (by kernel_rfl) (by kernel_rfl) (by kernel_rfl) (fun _ _ _ h => h) hSd (by kernel_rfl) (.inl (.inl ⟨rfl, fun w' hS => by first | rfl | go_simp⟩)) (fun _ => kz0) ?_
  try simp only [List.setIfInBounds_toArray, List.set_cons_succ, List.set_cons_zero]
  refine anyL_takeF (i := 2) (d := 54) (v := (.pointer (some ⟨lb, 0, none⟩))) rfl rfl (by kernel_rfl) (by kernel_rfl) (by kernel_rfl) (fun _ _ _ h => h) hSd (by kernel_rfl) (.inl (.inl ⟨rfl, fun w' hS => by first | rfl | go_simp⟩)) (fun _ => kz0) ?_
  try simp only [List.setIfInBounds_toArray, List.set_cons_succ, List.set_cons_zero]
  refine anyL_takeD (i := 3) (d := 55) (v := (.iface 61 (.pointer (some ⟨o, 0, none⟩)))) rfl rfl (by kernel_rfl) (by kernel_rfl) (by kernel_rfl) (fun _ _ _ h => h) hSd (by kernel_rfl) (.inl (.inl ⟨rfl, fun w' hS => by have h0 := hS.cell c0 (fun h => h); go_simp⟩)) kz0 ?_
  try simp only [List.setIfInBounds_toArray, List.set_cons_succ, List.set_cons_zero]
  refine anyL_takeD (i := 4) (d := 56) (v := (.agg #[.int .i64 ty, .int .i64 se, .int .i64 bo, .int .i64 sq, .int .i64 ac, .slice A nb c'])) rfl rfl (by kernel_rfl) (by kernel_rfl) (by kernel_rfl) (fun _ _ _ h => h) hSd (by kernel_rfl) (.inl (.inl ⟨rfl, fun w' hS => by have h0 := hS.cell q0 (fun h => h); have h1 := hS.cell q1 (fun h => h); have h2 := hS.cell q2 (fun h => h); have h3 := hS.cell q3 (fun h => h); have h4 := hS.cell q4 (fun h => h); have h5 := hS.cell q5 (fun h => h); go_simp⟩)) kz0 ?_
  try simp only [List.setIfInBounds_toArray, List.set_cons_succ, List.set_cons_zero]
  refine anyL_takeF (i := 5) (d := 57) (v := (.int .i64 now)) rfl rfl (by kernel_rfl) (by kernel_rfl) (by kernel_rfl) (fun _ _ _ h => h) hSd (by kernel_rfl) (.inl (.inl ⟨rfl, fun w' hS => by first | rfl | go_simp⟩)) (fun _ => kz0) ?_
  try simp only [List.setIfInBounds_toArray, List.set_cons_succ, List.set_cons_zero]
  refine anyL_all (rs := [6]) (by kernel_rfl) (by simp) ?_
  intro n11 i' hi'
  simp only [List.mem_cons, List.not_mem_nil, or_false] at hi'
  obtain rfl := hi'
  refine wpOp_of rfl rfl ?_
  go_simp
  refine Calls.mono (HH.out.2.2 (z0.drewN n11) A c' ((K2.out.trans K9.out).trans (kz0.drewN n11)) (K1.out.2.1.kp0 ((K12.out.trans K9.out).trans (kz0.drewN n11)) (fun _ _ h => h)) K1.out.2.2) ?_
  rintro e w10p ⟨v, k, rfl, hq⟩
  try dsimp only
  refine ⟨fun h => Bool.noConfusion (show false = true from h), ?_⟩
  try simp only [List.setIfInBounds_toArray, List.set_cons_succ, List.set_cons_zero]
  refine anyL_takeF (i := 7) (d := 59) (v := v) rfl rfl (by kernel_rfl) (by kernel_rfl) (by kernel_rfl) (fun _ _ _ h => h) hSd (by kernel_rfl) (.inl (.inl ⟨rfl, fun w' hS => by first | rfl | go_simp⟩)) (fun h => Bool.noConfusion (show false = true from h)) ?_
  try simp only [List.setIfInBounds_toArray, List.set_cons_succ, List.set_cons_zero]
  refine anyL_takeF (i := 8) (d := 60) (v := (.int .i64 k)) rfl rfl (by kernel_rfl) (by kernel_rfl) (by kernel_rfl) (fun _ _ _ h => h) hSd (by kernel_rfl) (.inl (.inl ⟨rfl, fun w' hS => by first | rfl | go_simp⟩)) (fun h => Bool.noConfusion (show false = true from h)) ?_
  try simp only [List.setIfInBounds_toArray, List.set_cons_succ, List.set_cons_zero]
  refine anyL_takeF (i := 9) (d := 6) (v := v) rfl rfl (by kernel_rfl) (by kernel_rfl) (by kernel_rfl) (fun _ _ _ h => h) hSd (by kernel_rfl) (.inl (.inl ⟨rfl, fun w' hS => by first | rfl | go_simp⟩)) (fun h => Bool.noConfusion (show false = true from h)) ?_
  try simp only [List.setIfInBounds_toArray, List.set_cons_succ, List.set_cons_zero]
  refine anyL_takeF (i := 10) (d := 7) (v := (.int .i64 k)) rfl rfl (by kernel_rfl) (by kernel_rfl) (by kernel_rfl) (fun _ _ _ h => h) hSd (by kernel_rfl) (.inl (.inl ⟨rfl, fun w' hS => by first | rfl | go_simp⟩)) (fun h => Bool.noConfusion (show false = true from h)) ?_
  try simp only [List.setIfInBounds_toArray, List.set_cons_succ, List.set_cons_zero]
  refine anyL_done (by kernel_rfl) (fun nn => ?_) _
  clear hSd kz0
  go_wp2_with fail
  go_ret2
  exact ⟨v, k, rfl, HH.out.2.1 _ _ _ _ hq⟩
end Go.Proofs.Ytokembhfebnjpaa
