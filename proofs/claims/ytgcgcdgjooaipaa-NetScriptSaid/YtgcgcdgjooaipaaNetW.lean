/- Package net: off, Send. (Written by wip/netw.py.) -/
import Derived.Test.YtgcgcdgjooaipaaNetA
namespace Go.Proofs.Ytgcgcdgjooaipaa
open Go.RowKit Go.Maps
set_option linter.unusedVariables false
set_option linter.unusedSimpArgs false
theorem zero_unit (w : World) : (zeroValue 76).run Try.prog w = .ok (.agg #[]) w := by kernel_rfl
theorem key_pair {a b : Int} (ha : 0 ≤ a ∧ a < 64) (hb : 0 ≤ b ∧ b < 64) : ∃ k, keyOf Try.prog 74 (pairV a b) = some k := key2 _ _ (by omega) (by omega)
set_option maxHeartbeats 1000000 in
theorem off_any (nb mb N : Nat) (f : Value → Bool) (a b : Int) (w : World) (c6 : w.cell? ⟨nb, 6, none⟩ = some (.map (some mb))) (hset : SetV Try.prog 74 w mb N f) (ha : 0 ≤ a ∧ a < 64) (hb : 0 ≤ b ∧ b < 64) :
    Calls Try.prog 33 #[.pointer (some ⟨nb, 0, none⟩), .int .i64 a, .int .i64 b] w fun e w' => e = .returned (.bool (f (pairV a b))) ∧ Kp (fun _ => False) w w' := by
  obtain ⟨k, hk⟩ := key_pair ha hb
  have hlk : ∀ w', Kp (fun _ => False) w w' → (Instr.lookup 59 (.map (some mb)) (pairV a b) true).run Try.prog w' = .ok (.tuple #[.agg #[], .bool (f (pairV a b))]) w' := fun w' kk => (hset.kp kk (fun h => h)).look law2 Try.underlying59 (zero_unit w') hk
  have CP := Lib.hid (fun w' => pair_any a b w')
  have HS0 := Lib.hid (show w.drew.cell? ⟨nb, 6, none⟩ = some (.map (some mb)) ∧ Kp (fun _ => False) w w.drew from ⟨c6, (Kp.refl _ w).drew⟩)
  have HS := Lib.hid (fun w' (k : Kp (fun _ => False) w w') => (⟨k.cell c6 (fun h => h), k⟩ : w'.cell? ⟨nb, 6, none⟩ = some (.map (some mb)) ∧ Kp (fun _ => False) w w'))
  generalize pairV a b = pv at *
  go_enter Try.func33, Try.ntmps33
  go_wp2_with fail
  go_region_held3 (fun w' => w'.cell? ⟨nb, 6, none⟩ = some (.map (some mb)) ∧ Kp (fun _ => False) w w')
    (first | assumption | exact HS0.out | (go_split_ands; refine HS.out _ ?_; first | exact Kp.trans ‹Kp (fun _ => False) w _› k1 | exact Kp.alloc ‹Kp (fun _ => False) w _› _ | exact Kp.setCell (Kp.alloc ‹Kp (fun _ => False) w _› _) (fun h => absurd h (by have := Kp.size ‹Kp (fun _ => False) w _›; simp; omega)) _))
    (first | (go_at_call 39; refine (CP.out _).mono ?_; rintro e w1 ⟨rfl, k1⟩))
  all_goals
    go_split_ands
    have HK := Lib.hid ‹Kp (fun _ => False) w _›
    go_wp2
    go_ret
    exact ⟨rfl, HK.out⟩
theorem send_arg (nb : Nat) (fr to : Int) (B : Value) (w : World) (c0 : w.cell? ⟨nb, 0, none⟩ = some (.bool true)) (he : isEnd fr = false ∨ isEnd to = false) (hB : ∃ a m c, B = .slice a m c) :
    Calls Try.prog 11 #[.pointer (some ⟨nb, 0, none⟩), .agg #[.int .i64 fr, .int .i64 to, B]] w fun e w' => e = .returned (.int .i64 2) ∧ Kp (fun _ => False) w w' := by
  obtain ⟨a, m, c, rfl⟩ := hB
  have HN := Lib.hid (fun w' (k : Kp (fun _ => False) w w') => none_at nb w' (k.cell c0 (fun h => h)))
  have hlt := World.block_lt_of_cell? w _ c0
  have he2 : (!isEnd fr || !isEnd to) = true := by rcases he with h | h <;> simp [h]
  cases h1 : isEnd fr
  · have E1 := Lib.hid (fun w' => (end_any fr w'))
    rw [h1] at E1
    go_enter Try.func11, Try.ntmps11
    go_wp2_with (first | (go_at_call 31; (with_reducible refine (HN.out _ ((Kp.refl _ w).alloc _)).mono ?_); rintro e w' ⟨rfl, rfl⟩) | (go_at_call 32; (with_reducible refine (E1.out _).mono ?_); rintro e w' ⟨rfl, rfl⟩))
    go_ret
    exact ⟨rfl, (Kp.refl _ w).alloc _⟩
  · have h2 : isEnd to = false := by rcases he with h | h; (rw [h1] at h; cases h); exact h
    have E1 := Lib.hid (fun w' => (end_any fr w'))
    have E2 := Lib.hid (fun w' => (end_any to w'))
    rw [h1] at E1
    rw [h2] at E2
    go_enter Try.func11, Try.ntmps11
    go_wp2_with (first | (go_at_call 31; (with_reducible refine (HN.out _ ((Kp.refl _ w).alloc _)).mono ?_); rintro e w' ⟨rfl, rfl⟩) | (go_at_call 32; (with_reducible refine (E1.out _).mono ?_); rintro e w' ⟨rfl, rfl⟩) | (go_at_call 32; (with_reducible refine (E2.out _).mono ?_); rintro e w' ⟨rfl, rfl⟩))
    go_ret
    exact ⟨rfl, (Kp.refl _ w).alloc _⟩
theorem mine_set {P : Program} {K : TypeId} {w : World} {nb mb N : Nat} {f : Value → Bool} {nds : List Nd} {n lost : Int} {mb' : Nat} (h : NetC w nb nds n mb' lost) (hset : SetV P K w mb N f) : ∀ b, Mine nb nds b → b ≠ mb := fun b hb => by
  rcases hb with rfl | ⟨i, hi, rfl | hb⟩
  · exact hset.not h.hat
  · exact hset.not (h.node i hi)
  · obtain ⟨cs, hc, _⟩ := (h.own i hi).blk b hb; exact hset.not hc
set_option maxHeartbeats 1000000 in
set_option maxRecDepth 20000 in
theorem send_cut (nb mb N : Nat) (f : Value → Bool) (nds : List Nd) (lost fr to : Int) (a : Option Addr) (cap : Nat) (l : List Int) (w : World) (h : NetC w nb nds nds.length mb lost) (hset : SetV Try.prog 74 w mb N f) (hb : RdB w a l) (hl : l.length ≤ 1500) (hn : nds.length ≤ 10000)
    (h1 : isEnd fr = true) (h2 : isEnd to = true) (hoff : f (pairV fr to) = true) (hlo : 0 ≤ lost ∧ lost ≤ 10000) :
    Calls Try.prog 11 #[.pointer (some ⟨nb, 0, none⟩), .agg #[.int .i64 fr, .int .i64 to, .slice a l.length cap]] w fun e w' =>
      e = .returned (.int .i64 0) ∧ NetC w' nb nds nds.length mb (lost + 1) ∧ SetV Try.prog 74 w' mb N f ∧ Kp (· = nb) w w' := by
  have c0 : w.cell? ⟨nb, 0, none⟩ = some (.bool true) := (h.hat.cell 0).trans rfl
  have c5 : w.cell? ⟨nb, 5, none⟩ = some (.int .i64 (nds.length : Nat)) := (h.hat.cell 5).trans rfl
  have c6 : w.cell? ⟨nb, 6, none⟩ = some (.map (some mb)) := (h.hat.cell 6).trans rfl
  have c7 : w.cell? ⟨nb, 7, none⟩ = some (.int .i64 lost) := (h.hat.cell 7).trans rfl
  have hlt := h.hat.lt
  have HN := Lib.hid (fun w' (k : Kp (fun _ => False) w w') => none_at nb w' (k.cell c0 (fun h => h)))
  have E1 := Lib.hid (fun w' => (end_any fr w'))
  have E2 := Lib.hid (fun w' => (end_any to w'))
  rw [h1] at E1
  rw [h2] at E2
  have hfr : 0 ≤ fr ∧ fr < 64 := by simpa [isEnd] using h1
  have hto : 0 ≤ to ∧ to < 64 := by simpa [isEnd] using h2
  have CO := Lib.hid (fun w' (k : Kp (fun _ => False) w w') => off_any nb mb N f fr to w' (k.cell c6 (fun h => h)) (hset.kp k (fun h => h)) hfr hto)
  rw [hoff] at CO
  have CL := Lib.hid (fun w' (k : Kp (fun _ => False) w w') => last_any nb mb nds lost fr to a cap l w' (h.kp k (fun _ _ h => h)) (hb.kp0 k (fun _ _ h => h)) (by omega) hn)
  have H := Lib.hid h
  have HS := Lib.hid (And.intro hset (mine_set h hset))
  have HC := Lib.hid (And.intro c5 c7)
  have HF := Lib.hid (h.hat.frozen 7)
  obtain ⟨m, hm⟩ : ∃ m, m = l.length := ⟨_, rfl⟩
  rw [← hm] at CL hl ⊢
  obtain ⟨len, hlen⟩ : ∃ len, len = nds.length := ⟨_, rfl⟩
  have HL := Lib.hid hlen
  rw [← hlen] at CL HC hn
  try rw [← hlen]
  clear h hset hb hm h1 h2 c6 hoff c0 c5 c7
  have b1 : ¬ (1500 : Int) < (m : Int) := by omega
  skip
  clear hlen
  skip
  go_enter Try.func11, Try.ntmps11
  go_wp2_with (first | (go_at_call 31; (with_reducible refine (HN.out _ ((Kp.refl _ w).alloc _)).mono ?_); rintro e w' ⟨rfl, rfl⟩) | (go_at_call 32; (with_reducible refine (E1.out _).mono ?_); rintro e w' ⟨rfl, rfl⟩) | (go_at_call 32; (with_reducible refine (E2.out _).mono ?_); rintro e w' ⟨rfl, rfl⟩) | (go_at_call 33; (with_reducible refine (CO.out _ ((Kp.refl _ w).alloc _)).mono ?_); rintro e w1 ⟨rfl, k1⟩; have K1 := Lib.hid (((Kp.refl (fun _ => False) w).alloc _).trans k1); have x5 := K1.out.cell HC.out.1 (fun h => h); have x7 := K1.out.cell HC.out.2 (fun h => h); have f7 := (K1.out.at H.out.hat (fun h => h)).frozen 7; have hbx := k1.at (At.new w (dgC fr to (.slice a m cap)) 28) (fun h => h); have y0 := (hbx.cell 0).trans (show _ = some (Value.int .i64 fr) from rfl); have y1 := (hbx.cell 1).trans (show _ = some (Value.int .i64 to) from rfl); have y2 := (hbx.cell 2).trans (show _ = some (Value.slice a m cap) from rfl); clear k1 hbx) | (go_at_call 34; (with_reducible refine (CL.out _ K1.out).mono ?_); rintro e w2 ⟨d, rfl, hN2, e1, e2, e3, g1, g2, k2⟩; have H2 := Lib.hid (And.intro hN2 (And.intro e1 (And.intro e2 (And.intro e3 (And.intro g1 (And.intro g2 k2)))))); clear hN2 e1 e2 e3 g1 g2 k2))
  go_ret
  have hN1 := H.out.kp K1.out (fun _ _ h => h)
  rw [← HL.out] at hN1
  obtain ⟨h2, k2⟩ := hN1.setLost (lost + 1)
  have k12 := (K1.out.mono (S' := (· = nb)) (fun _ _ h => h.elim)).trans k2
  exact ⟨rfl, h2, HS.out.1.kp k12 (fun e => HS.out.2 nb (Mine.hd _ _) e.symm), k12⟩
set_option maxHeartbeats 1000000 in
set_option maxRecDepth 20000 in
theorem send_full (nb mb N : Nat) (f : Value → Bool) (nds : List Nd) (lost fr to : Int) (a : Option Addr) (cap : Nat) (l : List Int) (w : World) (h : NetC w nb nds nds.length mb lost) (hset : SetV Try.prog 74 w mb N f) (hb : RdB w a l) (hl : l.length ≤ 1500) (hn : nds.length ≤ 10000)
    (h1 : isEnd fr = true) (h2 : isEnd to = true) (hoff : f (pairV fr to) = false) (hroom : 2000 ≤ nds.length) :
    Calls Try.prog 11 #[.pointer (some ⟨nb, 0, none⟩), .agg #[.int .i64 fr, .int .i64 to, .slice a l.length cap]] w fun e w' =>
      e = .returned (.int .i64 8) ∧ Kp (fun _ => False) w w' := by
  have c0 : w.cell? ⟨nb, 0, none⟩ = some (.bool true) := (h.hat.cell 0).trans rfl
  have c5 : w.cell? ⟨nb, 5, none⟩ = some (.int .i64 (nds.length : Nat)) := (h.hat.cell 5).trans rfl
  have c6 : w.cell? ⟨nb, 6, none⟩ = some (.map (some mb)) := (h.hat.cell 6).trans rfl
  have c7 : w.cell? ⟨nb, 7, none⟩ = some (.int .i64 lost) := (h.hat.cell 7).trans rfl
  have hlt := h.hat.lt
  have HN := Lib.hid (fun w' (k : Kp (fun _ => False) w w') => none_at nb w' (k.cell c0 (fun h => h)))
  have E1 := Lib.hid (fun w' => (end_any fr w'))
  have E2 := Lib.hid (fun w' => (end_any to w'))
  rw [h1] at E1
  rw [h2] at E2
  have hfr : 0 ≤ fr ∧ fr < 64 := by simpa [isEnd] using h1
  have hto : 0 ≤ to ∧ to < 64 := by simpa [isEnd] using h2
  have CO := Lib.hid (fun w' (k : Kp (fun _ => False) w w') => off_any nb mb N f fr to w' (k.cell c6 (fun h => h)) (hset.kp k (fun h => h)) hfr hto)
  rw [hoff] at CO
  have CL := Lib.hid (fun w' (k : Kp (fun _ => False) w w') => last_any nb mb nds lost fr to a cap l w' (h.kp k (fun _ _ h => h)) (hb.kp0 k (fun _ _ h => h)) (by omega) hn)
  have H := Lib.hid h
  have HS := Lib.hid (And.intro hset (mine_set h hset))
  have HC := Lib.hid (And.intro c5 c7)
  have HF := Lib.hid (h.hat.frozen 7)
  obtain ⟨m, hm⟩ : ∃ m, m = l.length := ⟨_, rfl⟩
  rw [← hm] at CL hl ⊢
  obtain ⟨len, hlen⟩ : ∃ len, len = nds.length := ⟨_, rfl⟩
  have HL := Lib.hid hlen
  rw [← hlen] at CL HC hn
  try rw [← hlen]
  clear h hset hb hm h1 h2 c6 hoff c0 c5 c7
  have b1 : ¬ (1500 : Int) < (m : Int) := by omega
  rw [← hlen] at hroom
  clear hlen
  have b2 : (2000 : Int) ≤ (len : Int) := by omega
  go_enter Try.func11, Try.ntmps11
  go_wp2_with (first | (go_at_call 31; (with_reducible refine (HN.out _ ((Kp.refl _ w).alloc _)).mono ?_); rintro e w' ⟨rfl, rfl⟩) | (go_at_call 32; (with_reducible refine (E1.out _).mono ?_); rintro e w' ⟨rfl, rfl⟩) | (go_at_call 32; (with_reducible refine (E2.out _).mono ?_); rintro e w' ⟨rfl, rfl⟩) | (go_at_call 33; (with_reducible refine (CO.out _ ((Kp.refl _ w).alloc _)).mono ?_); rintro e w1 ⟨rfl, k1⟩; have K1 := Lib.hid (((Kp.refl (fun _ => False) w).alloc _).trans k1); have x5 := K1.out.cell HC.out.1 (fun h => h); have x7 := K1.out.cell HC.out.2 (fun h => h); have f7 := (K1.out.at H.out.hat (fun h => h)).frozen 7; have hbx := k1.at (At.new w (dgC fr to (.slice a m cap)) 28) (fun h => h); have y0 := (hbx.cell 0).trans (show _ = some (Value.int .i64 fr) from rfl); have y1 := (hbx.cell 1).trans (show _ = some (Value.int .i64 to) from rfl); have y2 := (hbx.cell 2).trans (show _ = some (Value.slice a m cap) from rfl); clear k1 hbx) | (go_at_call 34; (with_reducible refine (CL.out _ K1.out).mono ?_); rintro e w2 ⟨d, rfl, hN2, e1, e2, e3, g1, g2, k2⟩; have H2 := Lib.hid (And.intro hN2 (And.intro e1 (And.intro e2 (And.intro e3 (And.intro g1 (And.intro g2 k2)))))); clear hN2 e1 e2 e3 g1 g2 k2))
  go_ret
  exact ⟨rfl, K1.out⟩
set_option maxHeartbeats 1000000 in
set_option maxRecDepth 20000 in
theorem send_ok (nb mb N : Nat) (f : Value → Bool) (nds : List Nd) (lost fr to : Int) (a : Option Addr) (cap : Nat) (l : List Int) (w : World) (h : NetC w nb nds nds.length mb lost) (hset : SetV Try.prog 74 w mb N f) (hb : RdB w a l) (hl : l.length ≤ 1500) (hn : nds.length ≤ 10000)
    (h1 : isEnd fr = true) (h2 : isEnd to = true) (hoff : f (pairV fr to) = false) (hroom : nds.length < 2000) :
    Calls Try.prog 11 #[.pointer (some ⟨nb, 0, none⟩), .agg #[.int .i64 fr, .int .i64 to, .slice a l.length cap]] w fun e w' =>
      ∃ d, e = .returned (.int .i64 0) ∧ NetC w' nb (nds ++ [d]) ((nds.length : Int) + 1) mb lost ∧ SetV Try.prog 74 w' mb N f ∧ d.fr = fr ∧ d.to = to ∧ d.l = l ∧ w.heap.size ≤ d.g ∧ (∀ b, d.B.ownBlock = some b → w.heap.size ≤ b) ∧ Kp (Mine nb nds) w w' := by
  have c0 : w.cell? ⟨nb, 0, none⟩ = some (.bool true) := (h.hat.cell 0).trans rfl
  have c5 : w.cell? ⟨nb, 5, none⟩ = some (.int .i64 (nds.length : Nat)) := (h.hat.cell 5).trans rfl
  have c6 : w.cell? ⟨nb, 6, none⟩ = some (.map (some mb)) := (h.hat.cell 6).trans rfl
  have c7 : w.cell? ⟨nb, 7, none⟩ = some (.int .i64 lost) := (h.hat.cell 7).trans rfl
  have hlt := h.hat.lt
  have HN := Lib.hid (fun w' (k : Kp (fun _ => False) w w') => none_at nb w' (k.cell c0 (fun h => h)))
  have E1 := Lib.hid (fun w' => (end_any fr w'))
  have E2 := Lib.hid (fun w' => (end_any to w'))
  rw [h1] at E1
  rw [h2] at E2
  have hfr : 0 ≤ fr ∧ fr < 64 := by simpa [isEnd] using h1
  have hto : 0 ≤ to ∧ to < 64 := by simpa [isEnd] using h2
  have CO := Lib.hid (fun w' (k : Kp (fun _ => False) w w') => off_any nb mb N f fr to w' (k.cell c6 (fun h => h)) (hset.kp k (fun h => h)) hfr hto)
  rw [hoff] at CO
  have CL := Lib.hid (fun w' (k : Kp (fun _ => False) w w') => last_any nb mb nds lost fr to a cap l w' (h.kp k (fun _ _ h => h)) (hb.kp0 k (fun _ _ h => h)) (by omega) hn)
  have H := Lib.hid h
  have HS := Lib.hid (And.intro hset (mine_set h hset))
  have HC := Lib.hid (And.intro c5 c7)
  have HF := Lib.hid (h.hat.frozen 7)
  obtain ⟨m, hm⟩ : ∃ m, m = l.length := ⟨_, rfl⟩
  rw [← hm] at CL hl ⊢
  obtain ⟨len, hlen⟩ : ∃ len, len = nds.length := ⟨_, rfl⟩
  have HL := Lib.hid hlen
  rw [← hlen] at CL HC hn
  try rw [← hlen]
  clear h hset hb hm h1 h2 c6 hoff c0 c5 c7
  have b1 : ¬ (1500 : Int) < (m : Int) := by omega
  rw [← hlen] at hroom
  clear hlen
  have b2 : ¬ (2000 : Int) ≤ (len : Int) := by omega
  go_enter Try.func11, Try.ntmps11
  go_wp2_with (first | (go_at_call 31; (with_reducible refine (HN.out _ ((Kp.refl _ w).alloc _)).mono ?_); rintro e w' ⟨rfl, rfl⟩) | (go_at_call 32; (with_reducible refine (E1.out _).mono ?_); rintro e w' ⟨rfl, rfl⟩) | (go_at_call 32; (with_reducible refine (E2.out _).mono ?_); rintro e w' ⟨rfl, rfl⟩) | (go_at_call 33; (with_reducible refine (CO.out _ ((Kp.refl _ w).alloc _)).mono ?_); rintro e w1 ⟨rfl, k1⟩; have K1 := Lib.hid (((Kp.refl (fun _ => False) w).alloc _).trans k1); have x5 := K1.out.cell HC.out.1 (fun h => h); have x7 := K1.out.cell HC.out.2 (fun h => h); have f7 := (K1.out.at H.out.hat (fun h => h)).frozen 7; have hbx := k1.at (At.new w (dgC fr to (.slice a m cap)) 28) (fun h => h); have y0 := (hbx.cell 0).trans (show _ = some (Value.int .i64 fr) from rfl); have y1 := (hbx.cell 1).trans (show _ = some (Value.int .i64 to) from rfl); have y2 := (hbx.cell 2).trans (show _ = some (Value.slice a m cap) from rfl); clear k1 hbx) | (go_at_call 34; (with_reducible refine (CL.out _ K1.out).mono ?_); rintro e w2 ⟨d, rfl, hN2, e1, e2, e3, g1, g2, k2⟩; have H2 := Lib.hid (And.intro hN2 (And.intro e1 (And.intro e2 (And.intro e3 (And.intro g1 (And.intro g2 k2)))))); clear hN2 e1 e2 e3 g1 g2 k2))
  go_ret
  have k12 := (K1.out.mono (S' := Mine nb nds) (fun _ _ h => h.elim)).trans H2.out.2.2.2.2.2.2
  have hs1 := K1.out.size
  exact ⟨d, rfl, H2.out.1, HS.out.1.kp k12 (fun e => HS.out.2 mb e rfl), H2.out.2.1, H2.out.2.2.1, H2.out.2.2.2.1, Nat.le_trans hs1 H2.out.2.2.2.2.1, fun b hb => Nat.le_trans hs1 (H2.out.2.2.2.2.2.1 b hb), k12⟩
/-- Too long a datagram. -/
theorem send_long (nb : Nat) (fr to : Int) (a : Option Addr) (m cap : Nat) (w : World) (c0 : w.cell? ⟨nb, 0, none⟩ = some (.bool true)) (h1 : isEnd fr = true) (h2 : isEnd to = true) (hm : 1500 < m) :
    Calls Try.prog 11 #[.pointer (some ⟨nb, 0, none⟩), .agg #[.int .i64 fr, .int .i64 to, .slice a m cap]] w fun e w' => e = .returned (.int .i64 3) ∧ Kp (fun _ => False) w w' := by
  have HN := Lib.hid (fun w' (k : Kp (fun _ => False) w w') => none_at nb w' (k.cell c0 (fun h => h)))
  have E1 := Lib.hid (fun w' => (end_any fr w'))
  have E2 := Lib.hid (fun w' => (end_any to w'))
  rw [h1] at E1
  rw [h2] at E2
  have b1 : (1500 : Int) < (m : Int) := by omega
  clear c0 h1 h2
  go_enter Try.func11, Try.ntmps11
  go_wp2_with (first | (go_at_call 31; (with_reducible refine (HN.out _ ((Kp.refl _ w).alloc _)).mono ?_); rintro e w' ⟨rfl, rfl⟩) | (go_at_call 32; (with_reducible refine (E1.out _).mono ?_); rintro e w' ⟨rfl, rfl⟩) | (go_at_call 32; (with_reducible refine (E2.out _).mono ?_); rintro e w' ⟨rfl, rfl⟩))
  go_ret
  exact ⟨rfl, (Kp.refl _ w).alloc _⟩
/-- No net. -/
theorem send_none (p : Option Addr) (fr to : Int) (a : Option Addr) (m cap : Nat) (w : World) (hno : ∀ w', Kp (fun _ => False) w w' → Calls Try.prog 31 #[.pointer p] w' fun e w'' => e = .returned (.bool true) ∧ w' = w'') :
    Calls Try.prog 11 #[.pointer p, .agg #[.int .i64 fr, .int .i64 to, .slice a m cap]] w fun e w' => e = .returned (.int .i64 1) ∧ Kp (fun _ => False) w w' := by
  have HN := Lib.hid hno
  clear hno
  go_enter Try.func11, Try.ntmps11
  go_wp2_with (go_at_call 31; (with_reducible refine (HN.out _ ((Kp.refl _ w).alloc _)).mono ?_); rintro e w' ⟨rfl, rfl⟩)
  go_ret
  exact ⟨rfl, (Kp.refl _ w).alloc _⟩
end Go.Proofs.Ytgcgcdgjooaipaa
