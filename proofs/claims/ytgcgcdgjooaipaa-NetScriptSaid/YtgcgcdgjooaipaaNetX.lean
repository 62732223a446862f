/- Package net: Swap. (Written by wip/netx.py.) -/
import Derived.Test.YtgcgcdgjooaipaaNetU
namespace Go.Proofs.Ytgcgcdgjooaipaa
open Go.RowKit Go.Maps
set_option linter.unusedVariables false
set_option linter.unusedSimpArgs false
theorem swap_none (p : Option Addr) (i k : Int) (w : World) (hno : ∀ w', Kp (fun _ => False) w w' → Calls Try.prog 31 #[.pointer p] w' fun e w'' => e = .returned (.bool true) ∧ w' = w'') :
    Calls Try.prog 16 #[.pointer p, .int .i64 i, .int .i64 k] w fun e w' => e = .returned (.int .i64 1) ∧ Kp (fun _ => False) w w' := by
  have HN := Lib.hid hno
  clear hno
  go_enter Try.func16, Try.ntmps16
  go_wp2_with (go_at_call 31; (with_reducible refine (HN.out _ (Kp.refl _ w)).mono ?_); rintro e w' ⟨rfl, rfl⟩)
  go_ret
  exact ⟨rfl, Kp.refl _ w⟩
theorem swap_no (nb mb : Nat) (nds : List Nd) (lost i k : Int) (w : World) (h : NetC w nb nds nds.length mb lost) (hn : nds.length ≤ 10000) (hi : (i < 0 ∨ (nds.length : Int) ≤ i) ∨ (k < 0 ∨ (nds.length : Int) ≤ k)) :
    Calls Try.prog 16 #[.pointer (some ⟨nb, 0, none⟩), .int .i64 i, .int .i64 k] w fun e w' => e = .returned (.int .i64 6) ∧ Kp (fun _ => False) w w' := by
  have c0 : w.cell? ⟨nb, 0, none⟩ = some (.bool true) := (h.hat.cell 0).trans rfl
  have HN := Lib.hid (fun w' (k : Kp (fun _ => False) w w') => none_at nb w' (k.cell c0 (fun h => h)))
  by_cases h1 : i < 0 ∨ (nds.length : Int) ≤ i
  · have CA := Lib.hid (fun w' (kk : Kp (fun _ => False) w w') => at_no nb mb nds lost i w' (h.kp kk (fun _ _ h => h)) hn h1)
    by_cases h2 : k < 0 ∨ (nds.length : Int) ≤ k
    · have CB := Lib.hid (fun w' (kk : Kp (fun _ => False) w w') => at_no nb mb nds lost k w' (h.kp kk (fun _ _ h => h)) hn h2)
      clear h c0 hi h1 h2
      go_enter Try.func16, Try.ntmps16
      go_wp2_with (first | (go_at_call 31; (with_reducible refine (HN.out _ (Kp.refl _ w)).mono ?_); rintro e w' ⟨rfl, rfl⟩) | (go_at_call 38; (with_reducible refine (CA.out _ (Kp.refl _ w)).mono ?_); rintro e w1 ⟨rfl, k1⟩; have K1 := Lib.hid k1; clear k1) | (go_at_call 38; (with_reducible refine (CB.out _ K1.out).mono ?_); rintro e w2 ⟨rfl, k2⟩; have K2 := Lib.hid (K1.out.trans k2); clear k2))
      go_ret
      exact ⟨rfl, K2.out⟩
    · obtain ⟨k', rfl⟩ : ∃ k' : Nat, k = (k' : Nat) := ⟨k.toNat, by omega⟩
      have CB := Lib.hid (fun w' (kk : Kp (fun _ => False) w w') => at_yes nb mb nds lost k' w' (h.kp kk (fun _ _ h => h)) hn (by omega))
      clear h c0 hi h1 h2
      go_enter Try.func16, Try.ntmps16
      go_wp2_with (first | (go_at_call 31; (with_reducible refine (HN.out _ (Kp.refl _ w)).mono ?_); rintro e w' ⟨rfl, rfl⟩) | (go_at_call 38; (with_reducible refine (CA.out _ (Kp.refl _ w)).mono ?_); rintro e w1 ⟨rfl, k1⟩; have K1 := Lib.hid k1; clear k1) | (go_at_call 38; (with_reducible refine (CB.out _ K1.out).mono ?_); rintro e w2 ⟨rfl, k2⟩; have K2 := Lib.hid (K1.out.trans k2); clear k2))
      go_ret
      exact ⟨rfl, K2.out⟩
  · obtain ⟨i', rfl⟩ : ∃ i' : Nat, i = (i' : Nat) := ⟨i.toNat, by omega⟩
    have CA := Lib.hid (fun w' (kk : Kp (fun _ => False) w w') => at_yes nb mb nds lost i' w' (h.kp kk (fun _ _ h => h)) hn (by omega))
    have CB := Lib.hid (fun w' (kk : Kp (fun _ => False) w w') => at_no nb mb nds lost k w' (h.kp kk (fun _ _ h => h)) hn (by omega))
    clear h c0 hi h1
    go_enter Try.func16, Try.ntmps16
    go_wp2_with (first | (go_at_call 31; (with_reducible refine (HN.out _ (Kp.refl _ w)).mono ?_); rintro e w' ⟨rfl, rfl⟩) | (go_at_call 38; (with_reducible refine (CA.out _ (Kp.refl _ w)).mono ?_); rintro e w1 ⟨rfl, k1⟩; have K1 := Lib.hid k1; clear k1) | (go_at_call 38; (with_reducible refine (CB.out _ K1.out).mono ?_); rintro e w2 ⟨rfl, k2⟩; have K2 := Lib.hid (K1.out.trans k2); clear k2))
    go_ret
    exact ⟨rfl, K2.out⟩
def set3 (w : World) (b : Nat) (u0 u1 u2 : Value) : World := ((w.setCell ⟨b, 0, none⟩ u0).setCell ⟨b, 1, none⟩ u1).setCell ⟨b, 2, none⟩ u2
set_option maxHeartbeats 2000000 in
set_option maxRecDepth 20000 in
theorem swap_core (nb pi oi pk ok gi gk : Nat) (fri toi frk tok : Int) (Ai Ak : Option Addr) (mi ci mk ck : Nat) (i k : Int) (ti tk : Option Addr) (w : World) (c0 : w.cell? ⟨nb, 0, none⟩ = some (.bool true))
    (hA : ∀ w', Kp (fun _ => False) w w' → Calls Try.prog 38 #[.pointer (some ⟨nb, 0, none⟩), .int .i64 i] w' fun e w'' => e = .returned (.pointer (some ⟨pi, oi, none⟩)) ∧ Kp (fun _ => False) w' w'')
    (hB : ∀ w', Kp (fun _ => False) w w' → Calls Try.prog 38 #[.pointer (some ⟨nb, 0, none⟩), .int .i64 k] w' fun e w'' => e = .returned (.pointer (some ⟨pk, ok, none⟩)) ∧ Kp (fun _ => False) w' w'')
    (ni : w.cell? ⟨pi, oi + 3, none⟩ = some (.pointer (some ⟨gi, 0, none⟩))) (nk : w.cell? ⟨pk, ok + 3, none⟩ = some (.pointer (some ⟨gk, 0, none⟩)))
    (hi : At w gi [.int .i64 fri, .int .i64 toi, .slice Ai mi ci, .pointer ti]) (hk : At w gk [.int .i64 frk, .int .i64 tok, .slice Ak mk ck, .pointer tk]) :
    Calls Try.prog 16 #[.pointer (some ⟨nb, 0, none⟩), .int .i64 i, .int .i64 k] w fun e w' => e = .returned (.int .i64 0) ∧ ∃ w1, Kp (fun _ => False) w w1 ∧ w' = set3 (set3 w1 gi (.int .i64 frk) (.int .i64 tok) (.slice Ak mk ck)) gk (.int .i64 fri) (.int .i64 toi) (.slice Ai mi ci) := by
  have HN := Lib.hid (fun w' (k : Kp (fun _ => False) w w') => none_at nb w' (k.cell c0 (fun h => h)))
  have CA := Lib.hid hA
  have CB := Lib.hid hB
  have HC := Lib.hid (fun w' (kk : Kp (fun _ => False) w w') => (⟨kk.cell ni (fun h => h), kk.cell nk (fun h => h), (have a := kk.at hi (fun h => h); ⟨(a.cell 0).trans rfl, (a.cell 1).trans rfl, (a.cell 2).trans rfl⟩), (have a := kk.at hk (fun h => h); ⟨(a.cell 0).trans rfl, (a.cell 1).trans rfl, (a.cell 2).trans rfl⟩), kk⟩ :
    w'.cell? ⟨pi, oi + 3, none⟩ = some (.pointer (some ⟨gi, 0, none⟩)) ∧ w'.cell? ⟨pk, ok + 3, none⟩ = some (.pointer (some ⟨gk, 0, none⟩)) ∧
    (w'.cell? ⟨gi, 0, none⟩ = some (.int .i64 fri) ∧ w'.cell? ⟨gi, 1, none⟩ = some (.int .i64 toi) ∧ w'.cell? ⟨gi, 2, none⟩ = some (.slice Ai mi ci)) ∧
    (w'.cell? ⟨gk, 0, none⟩ = some (.int .i64 frk) ∧ w'.cell? ⟨gk, 1, none⟩ = some (.int .i64 tok) ∧ w'.cell? ⟨gk, 2, none⟩ = some (.slice Ak mk ck)) ∧ Kp (fun _ => False) w w'))
  have HI := Lib.hid (And.intro hi hk)
  clear hA hB c0 ni nk hi hk
  go_enter Try.func16, Try.ntmps16
  go_upto_region 6 with (first | (go_at_call 31; (with_reducible refine (HN.out _ (Kp.refl _ w)).mono ?_); rintro e w' ⟨rfl, rfl⟩) | (go_at_call 38; (with_reducible refine (CA.out _ (Kp.refl _ w)).mono ?_); rintro e w1 ⟨rfl, k1⟩; have K1 := Lib.hid k1; clear k1) | (go_at_call 38; (with_reducible refine (CB.out _ K1.out).mono ?_); rintro e w2 ⟨rfl, k2⟩; have K2 := Lib.hid (K1.out.trans k2); clear k2))
  obtain ⟨S, hS⟩ : ∃ S : World → Prop, S = fun w' => w'.cell? ⟨pi, oi + 3, none⟩ = some (.pointer (some ⟨gi, 0, none⟩)) ∧ w'.cell? ⟨pk, ok + 3, none⟩ = some (.pointer (some ⟨gk, 0, none⟩)) ∧
    (w'.cell? ⟨gi, 0, none⟩ = some (.int .i64 fri) ∧ w'.cell? ⟨gi, 1, none⟩ = some (.int .i64 toi) ∧ w'.cell? ⟨gi, 2, none⟩ = some (.slice Ai mi ci)) ∧
    (w'.cell? ⟨gk, 0, none⟩ = some (.int .i64 frk) ∧ w'.cell? ⟨gk, 1, none⟩ = some (.int .i64 tok) ∧ w'.cell? ⟨gk, 2, none⟩ = some (.slice Ak mk ck)) ∧ Kp (fun _ => False) w w' := ⟨_, rfl⟩
  refine region_L (S := S) [24, 27] rfl ?_
  have hSd : ∀ (w' : World) (n' : Nat), S w' → S (w'.drewN n') := fun w' n' h => by rw [hS] at h ⊢; exact ⟨h.1, h.2.1, h.2.2.1, h.2.2.2.1, h.2.2.2.2.drewN n'⟩
  have HSe := Lib.hid hS
  clear hS
  have hS1 : S w2.drew := by rw [HSe.out]; exact HC.out _ K2.out.drew
  refine anyL_takeF (i := 0) (d := 23) (v := (.pointer (some ⟨pi, oi, none⟩))) rfl rfl (by kernel_rfl) (by kernel_rfl) (by kernel_rfl) (fun _ _ _ h => h) hSd (by kernel_rfl) (.inl (.inl ⟨rfl, fun w' hS => rfl⟩)) (fun _ => hS1) ?_
  try simp only [List.setIfInBounds_toArray, List.set_cons_succ, List.set_cons_zero]
  refine anyL_takeF (i := 1) (d := 24) (v := (.pointer (some ⟨pi, oi, none⟩))) rfl rfl (by kernel_rfl) (by kernel_rfl) (by kernel_rfl) (fun _ _ _ h => h) hSd (by kernel_rfl) (.inl (.inl ⟨rfl, fun w' hS => by go_simp⟩)) (fun _ => hS1) ?_
  try simp only [List.setIfInBounds_toArray, List.set_cons_succ, List.set_cons_zero]
  refine anyL_takeF (i := 2) (d := 25) (v := (.pointer (some ⟨pi, oi + 3, none⟩))) rfl rfl (by kernel_rfl) (by kernel_rfl) (by kernel_rfl) (fun _ _ _ h => h) hSd (by kernel_rfl) (.inl (.inl ⟨rfl, fun w' hS => by go_simp⟩)) (fun _ => hS1) ?_
  try simp only [List.setIfInBounds_toArray, List.set_cons_succ, List.set_cons_zero]
  refine anyL_takeD (i := 3) (d := 26) (v := (.pointer (some ⟨gi, 0, none⟩))) rfl rfl (by kernel_rfl) (by kernel_rfl) (by kernel_rfl) (fun _ _ _ h => h) hSd (by kernel_rfl) (.inl (.inl ⟨rfl, fun w' hS => by rw [HSe.out] at hS; have hc := hS.1; go_simp⟩)) hS1 ?_
  try simp only [List.setIfInBounds_toArray, List.set_cons_succ, List.set_cons_zero]
  refine anyL_takeF (i := 4) (d := 27) (v := (.pointer (some ⟨pk, ok, none⟩))) rfl rfl (by kernel_rfl) (by kernel_rfl) (by kernel_rfl) (fun _ _ _ h => h) hSd (by kernel_rfl) (.inl (.inl ⟨rfl, fun w' hS => rfl⟩)) (fun _ => hS1) ?_
  try simp only [List.setIfInBounds_toArray, List.set_cons_succ, List.set_cons_zero]
  refine anyL_takeF (i := 5) (d := 28) (v := (.pointer (some ⟨pk, ok, none⟩))) rfl rfl (by kernel_rfl) (by kernel_rfl) (by kernel_rfl) (fun _ _ _ h => h) hSd (by kernel_rfl) (.inl (.inl ⟨rfl, fun w' hS => by go_simp⟩)) (fun _ => hS1) ?_
  try simp only [List.setIfInBounds_toArray, List.set_cons_succ, List.set_cons_zero]
  refine anyL_takeF (i := 6) (d := 29) (v := (.pointer (some ⟨pk, ok + 3, none⟩))) rfl rfl (by kernel_rfl) (by kernel_rfl) (by kernel_rfl) (fun _ _ _ h => h) hSd (by kernel_rfl) (.inl (.inl ⟨rfl, fun w' hS => by go_simp⟩)) (fun _ => hS1) ?_
  try simp only [List.setIfInBounds_toArray, List.set_cons_succ, List.set_cons_zero]
  refine anyL_takeD (i := 7) (d := 30) (v := (.pointer (some ⟨gk, 0, none⟩))) rfl rfl (by kernel_rfl) (by kernel_rfl) (by kernel_rfl) (fun _ _ _ h => h) hSd (by kernel_rfl) (.inl (.inl ⟨rfl, fun w' hS => by rw [HSe.out] at hS; have hc := hS.2.1; go_simp⟩)) hS1 ?_
  try simp only [List.setIfInBounds_toArray, List.set_cons_succ, List.set_cons_zero]
  refine anyL_takeF (i := 8) (d := 31) (v := (.pointer (some ⟨pk, ok, none⟩))) rfl rfl (by kernel_rfl) (by kernel_rfl) (by kernel_rfl) (fun _ _ _ h => h) hSd (by kernel_rfl) (.inl (.inl ⟨rfl, fun w' hS => rfl⟩)) (fun _ => hS1) ?_
  try simp only [List.setIfInBounds_toArray, List.set_cons_succ, List.set_cons_zero]
  refine anyL_takeF (i := 9) (d := 32) (v := (.pointer (some ⟨pk, ok, none⟩))) rfl rfl (by kernel_rfl) (by kernel_rfl) (by kernel_rfl) (fun _ _ _ h => h) hSd (by kernel_rfl) (.inl (.inl ⟨rfl, fun w' hS => by go_simp⟩)) (fun _ => hS1) ?_
  try simp only [List.setIfInBounds_toArray, List.set_cons_succ, List.set_cons_zero]
  refine anyL_takeF (i := 10) (d := 33) (v := (.pointer (some ⟨pk, ok + 3, none⟩))) rfl rfl (by kernel_rfl) (by kernel_rfl) (by kernel_rfl) (fun _ _ _ h => h) hSd (by kernel_rfl) (.inl (.inl ⟨rfl, fun w' hS => by go_simp⟩)) (fun _ => hS1) ?_
  try simp only [List.setIfInBounds_toArray, List.set_cons_succ, List.set_cons_zero]
  refine anyL_takeD (i := 11) (d := 34) (v := (.pointer (some ⟨gk, 0, none⟩))) rfl rfl (by kernel_rfl) (by kernel_rfl) (by kernel_rfl) (fun _ _ _ h => h) hSd (by kernel_rfl) (.inl (.inl ⟨rfl, fun w' hS => by rw [HSe.out] at hS; have hc := hS.2.1; go_simp⟩)) hS1 ?_
  try simp only [List.setIfInBounds_toArray, List.set_cons_succ, List.set_cons_zero]
  refine anyL_takeF (i := 12) (d := 35) (v := (.pointer (some ⟨gk, 0, none⟩))) rfl rfl (by kernel_rfl) (by kernel_rfl) (by kernel_rfl) (fun _ _ _ h => h) hSd (by kernel_rfl) (.inl (.inl ⟨rfl, fun w' hS => by go_simp⟩)) (fun _ => hS1) ?_
  try simp only [List.setIfInBounds_toArray, List.set_cons_succ, List.set_cons_zero]
  refine anyL_takeF (i := 13) (d := 36) (v := (.pointer (some ⟨gk, 0, none⟩))) rfl rfl (by kernel_rfl) (by kernel_rfl) (by kernel_rfl) (fun _ _ _ h => h) hSd (by kernel_rfl) (.inl (.inl ⟨rfl, fun w' hS => by go_simp⟩)) (fun _ => hS1) ?_
  try simp only [List.setIfInBounds_toArray, List.set_cons_succ, List.set_cons_zero]
  refine anyL_takeD (i := 14) (d := 37) (v := (.agg #[.int .i64 frk, .int .i64 tok, .slice Ak mk ck])) rfl rfl (by kernel_rfl) (by kernel_rfl) (by kernel_rfl) (fun _ _ _ h => h) hSd (by kernel_rfl) (.inl (.inl ⟨rfl, fun w' hS => by rw [HSe.out] at hS; have h0 := hS.2.2.2.1.1; have h1 := hS.2.2.2.1.2.1; have h2 := hS.2.2.2.1.2.2; go_simp⟩)) hS1 ?_
  try simp only [List.setIfInBounds_toArray, List.set_cons_succ, List.set_cons_zero]
  refine anyL_takeF (i := 15) (d := 38) (v := (.pointer (some ⟨pi, oi, none⟩))) rfl rfl (by kernel_rfl) (by kernel_rfl) (by kernel_rfl) (fun _ _ _ h => h) hSd (by kernel_rfl) (.inl (.inl ⟨rfl, fun w' hS => rfl⟩)) (fun _ => hS1) ?_
  try simp only [List.setIfInBounds_toArray, List.set_cons_succ, List.set_cons_zero]
  refine anyL_takeF (i := 16) (d := 39) (v := (.pointer (some ⟨pi, oi, none⟩))) rfl rfl (by kernel_rfl) (by kernel_rfl) (by kernel_rfl) (fun _ _ _ h => h) hSd (by kernel_rfl) (.inl (.inl ⟨rfl, fun w' hS => by go_simp⟩)) (fun _ => hS1) ?_
  try simp only [List.setIfInBounds_toArray, List.set_cons_succ, List.set_cons_zero]
  refine anyL_takeF (i := 17) (d := 40) (v := (.pointer (some ⟨pi, oi + 3, none⟩))) rfl rfl (by kernel_rfl) (by kernel_rfl) (by kernel_rfl) (fun _ _ _ h => h) hSd (by kernel_rfl) (.inl (.inl ⟨rfl, fun w' hS => by go_simp⟩)) (fun _ => hS1) ?_
  try simp only [List.setIfInBounds_toArray, List.set_cons_succ, List.set_cons_zero]
  refine anyL_takeD (i := 18) (d := 41) (v := (.pointer (some ⟨gi, 0, none⟩))) rfl rfl (by kernel_rfl) (by kernel_rfl) (by kernel_rfl) (fun _ _ _ h => h) hSd (by kernel_rfl) (.inl (.inl ⟨rfl, fun w' hS => by rw [HSe.out] at hS; have hc := hS.1; go_simp⟩)) hS1 ?_
  try simp only [List.setIfInBounds_toArray, List.set_cons_succ, List.set_cons_zero]
  refine anyL_takeF (i := 19) (d := 42) (v := (.pointer (some ⟨gi, 0, none⟩))) rfl rfl (by kernel_rfl) (by kernel_rfl) (by kernel_rfl) (fun _ _ _ h => h) hSd (by kernel_rfl) (.inl (.inl ⟨rfl, fun w' hS => by go_simp⟩)) (fun _ => hS1) ?_
  try simp only [List.setIfInBounds_toArray, List.set_cons_succ, List.set_cons_zero]
  refine anyL_takeF (i := 20) (d := 43) (v := (.pointer (some ⟨gi, 0, none⟩))) rfl rfl (by kernel_rfl) (by kernel_rfl) (by kernel_rfl) (fun _ _ _ h => h) hSd (by kernel_rfl) (.inl (.inl ⟨rfl, fun w' hS => by go_simp⟩)) (fun _ => hS1) ?_
  try simp only [List.setIfInBounds_toArray, List.set_cons_succ, List.set_cons_zero]
  refine anyL_takeD (i := 21) (d := 44) (v := (.agg #[.int .i64 fri, .int .i64 toi, .slice Ai mi ci])) rfl rfl (by kernel_rfl) (by kernel_rfl) (by kernel_rfl) (fun _ _ _ h => h) hSd (by kernel_rfl) (.inl (.inl ⟨rfl, fun w' hS => by rw [HSe.out] at hS; have h0 := hS.2.2.1.1; have h1 := hS.2.2.1.2.1; have h2 := hS.2.2.1.2.2; go_simp⟩)) hS1 ?_
  try simp only [List.setIfInBounds_toArray, List.set_cons_succ, List.set_cons_zero]
  refine anyL_takeF (i := 22) (d := 45) (v := (.pointer (some ⟨gi, 0, none⟩))) rfl rfl (by kernel_rfl) (by kernel_rfl) (by kernel_rfl) (fun _ _ _ h => h) hSd (by kernel_rfl) (.inl (.inl ⟨rfl, fun w' hS => by go_simp⟩)) (fun _ => hS1) ?_
  try simp only [List.setIfInBounds_toArray, List.set_cons_succ, List.set_cons_zero]
  refine anyL_takeF (i := 23) (d := 46) (v := (.pointer (some ⟨gi, 0, none⟩))) rfl rfl (by kernel_rfl) (by kernel_rfl) (by kernel_rfl) (fun _ _ _ h => h) hSd (by kernel_rfl) (.inl (.inl ⟨rfl, fun w' hS => by go_simp⟩)) (fun _ => hS1) ?_
  try simp only [List.setIfInBounds_toArray, List.set_cons_succ, List.set_cons_zero]
  refine anyL_all (rs := [24]) (by kernel_rfl) (by simp) ?_
  intro n24 i hi
  simp only [List.mem_cons, List.not_mem_nil, or_false] at hi
  obtain rfl := hi
  refine wpOp_of rfl rfl ?_
  have kd : Kp (fun _ => False) w (w2.drewN (1 + n24)) := K2.out.drewN _
  have a1 := kd.at HI.out.1 (fun h => h)
  have a2 := kd.at HI.out.2 (fun h => h)
  have x0 : (w2.drewN (1 + n24)).cell? ⟨gi, 0, none⟩ = some (.int .i64 fri) := (a1.cell 0).trans rfl
  have x1 : (w2.drewN (1 + n24)).cell? ⟨gi, 1, none⟩ = some (.int .i64 toi) := (a1.cell 1).trans rfl
  have x2 : (w2.drewN (1 + n24)).cell? ⟨gi, 2, none⟩ = some (.slice Ai mi ci) := (a1.cell 2).trans rfl
  have y0 := a1.frozen 0
  have y1 := a1.frozen 1
  have y2 := a1.frozen 2
  have A2 : ∃ u0 u1 u2, At (set3 (w2.drewN (1 + n24)) gi (.int .i64 frk) (.int .i64 tok) (.slice Ak mk ck)) gk [u0, u1, u2, .pointer tk] := by
    by_cases e : gi = gk
    · subst e
      have e2 := a1.inj a2
      simp only [List.cons.injEq, Value.pointer.injEq, and_true] at e2
      obtain ⟨_, _, _, rfl⟩ := e2
      exact ⟨_, _, _, ((a1.set 0 (.int .i64 frk)).set 1 (.int .i64 tok)).set 2 (.slice Ak mk ck)⟩
    · exact ⟨_, _, _, ((a2.setOther (a := ⟨gi, 0, none⟩) e _).setOther (a := ⟨gi, 1, none⟩) e _).setOther (a := ⟨gi, 2, none⟩) e _⟩
  obtain ⟨u0, u1, u2, A2⟩ := A2
  have KD := Lib.hid kd
  clear a1 a2 hS1 kd
  go_simp
  rw [show ((((w2.drewN (1 + n24)).setCell ⟨gi, 0, none⟩ (.int .i64 frk)).setCell ⟨gi, 1, none⟩ (.int .i64 tok)).setCell ⟨gi, 2, none⟩ (.slice Ak mk ck)) = set3 (w2.drewN (1 + n24)) gi (.int .i64 frk) (.int .i64 tok) (.slice Ak mk ck) from rfl]
  clear x0 x1 x2 y0 y1 y2
  obtain ⟨w3, hw3⟩ : ∃ w3, w3 = set3 (w2.drewN (1 + n24)) gi (.int .i64 frk) (.int .i64 tok) (.slice Ak mk ck) := ⟨_, rfl⟩
  rw [← hw3] at A2 ⊢
  have HW3 := Lib.hid hw3
  clear hw3
  refine ⟨fun h => Bool.noConfusion (show false = true from h), ?_⟩
  refine anyL_takeF (i := 25) (d := 47) (v := (.pointer (some ⟨gk, 0, none⟩))) rfl rfl (by kernel_rfl) (by kernel_rfl) (by kernel_rfl) (fun _ _ _ h => h) hSd (by kernel_rfl) (.inl (.inl ⟨rfl, fun w' hS => by go_simp⟩)) (fun h => Bool.noConfusion (show false = true from h)) ?_
  try simp only [List.setIfInBounds_toArray, List.set_cons_succ, List.set_cons_zero]
  refine anyL_takeF (i := 26) (d := 48) (v := (.pointer (some ⟨gk, 0, none⟩))) rfl rfl (by kernel_rfl) (by kernel_rfl) (by kernel_rfl) (fun _ _ _ h => h) hSd (by kernel_rfl) (.inl (.inl ⟨rfl, fun w' hS => by go_simp⟩)) (fun h => Bool.noConfusion (show false = true from h)) ?_
  try simp only [List.setIfInBounds_toArray, List.set_cons_succ, List.set_cons_zero]
  refine anyL_all (rs := [27]) (by kernel_rfl) (by simp) ?_
  intro n27 i hi
  simp only [List.mem_cons, List.not_mem_nil, or_false] at hi
  obtain rfl := hi
  refine wpOp_of rfl rfl ?_
  have x0 : (w3.drewN n27).cell? ⟨gk, 0, none⟩ = some u0 := (A2.cell 0).trans rfl
  have x1 : (w3.drewN n27).cell? ⟨gk, 1, none⟩ = some u1 := (A2.cell 1).trans rfl
  have x2 : (w3.drewN n27).cell? ⟨gk, 2, none⟩ = some u2 := (A2.cell 2).trans rfl
  have y0 : (w3.drewN n27).frozen? ⟨gk, 0, none⟩ = false := A2.frozen 0
  have y1 : (w3.drewN n27).frozen? ⟨gk, 1, none⟩ = false := A2.frozen 1
  have y2 : (w3.drewN n27).frozen? ⟨gk, 2, none⟩ = false := A2.frozen 2
  clear A2
  go_simp
  refine ⟨fun h => Bool.noConfusion (show false = true from h), anyL_done (by kernel_rfl) (fun nn => ?_) _⟩
  have hw : ((((w3.drewN n27).setCell ⟨gk, 0, none⟩ (.int .i64 fri)).setCell ⟨gk, 1, none⟩ (.int .i64 toi)).setCell ⟨gk, 2, none⟩ (.slice Ai mi ci)).drewN nn = set3 (set3 (((w2.drewN (1 + n24)).drewN n27).drewN nn) gi (.int .i64 frk) (.int .i64 tok) (.slice Ak mk ck)) gk (.int .i64 fri) (.int .i64 toi) (.slice Ai mi ci) := by rw [HW3.out]; unfold set3; simp only [setCell_drewN]
  rw [hw]
  have HK := Lib.hid ((KD.out.drewN n27).drewN nn)
  clear hw x0 x1 x2 y0 y1 y2
  generalize ((w2.drewN (1 + n24)).drewN n27).drewN nn = w4 at *
  generalize hw5 : set3 (set3 w4 gi (.int .i64 frk) (.int .i64 tok) (.slice Ak mk ck)) gk (.int .i64 fri) (.int .i64 toi) (.slice Ai mi ci) = w5
  have HW5 := Lib.hid hw5
  clear hw5
  go_wp2
  go_ret
  exact ⟨rfl, w4, HK.out, HW5.out.symm⟩
def wd (d e : Nd) : Nd := ⟨d.g, e.fr, e.to, e.B, e.l⟩
/-- Two links change what they bear. -/
def swp (nds : List Nd) (i k : Nat) : List Nd := (nds.set i (wd (nd nds i) (nd nds k))).set k (wd (nd nds k) (nd nds i))
def sg (i k j : Nat) : Nat := if j = k then i else if j = i then k else j
theorem swp_len (nds : List Nd) (i k : Nat) : (swp nds i k).length = nds.length := by simp [swp]
theorem nd_swp {nds : List Nd} {i k : Nat} (hi : i < nds.length) (hk : k < nds.length) (j : Nat) : nd (swp nds i k) j = wd (nd nds j) (nd nds (sg i k j)) := by
  unfold swp sg
  rw [nd_set (by simpa using hk)]
  by_cases h1 : j = k
  · rw [if_pos h1, if_pos h1, h1]
  · rw [if_neg h1, if_neg h1, nd_set hi]
    by_cases h2 : j = i
    · rw [if_pos h2, if_pos h2, h2]
    · rw [if_neg h2, if_neg h2]; rfl
theorem sg_lt {i k j n : Nat} (hi : i < n) (hk : k < n) (hj : j < n) : sg i k j < n := by unfold sg; split <;> (try split) <;> omega
theorem sg_inv (i k j : Nat) : sg i k (sg i k j) = j := by
  unfold sg
  by_cases h1 : j = k
  · rw [if_pos h1]
    by_cases h2 : i = k
    · rw [if_pos h2]; omega
    · rw [if_neg h2, if_pos rfl]; omega
  · rw [if_neg h1]
    by_cases h2 : j = i
    · rw [if_pos h2, if_pos rfl]; omega
    · rw [if_neg h2, if_neg h1, if_neg h2]
theorem sg_inj {i k a b : Nat} (h : sg i k a = sg i k b) : a = b := by
  have := congrArg (sg i k) h
  rwa [sg_inv, sg_inv] at this
theorem set3_at {w : World} {b : Nat} {u0 u1 u2 x0 x1 x2 : Value} {t : Value} (h : At w b [x0, x1, x2, t]) : At (set3 w b u0 u1 u2) b [u0, u1, u2, t] := ((h.set 0 u0).set 1 u1).set 2 u2
theorem set3_kp (w : World) (b : Nat) (u0 u1 u2 : Value) : Kp (· = b) w (set3 w b u0 u1 u2) := kp_set3 (Kp.refl (· = b) w) (fun _ => rfl) u0 u1 u2
theorem swap_yes (nb mb : Nat) (nds : List Nd) (lost : Int) (i k : Nat) (w : World) (h : NetC w nb nds nds.length mb lost) (hn : nds.length ≤ 10000) (hi : i < nds.length) (hk : k < nds.length) :
    Calls Try.prog 16 #[.pointer (some ⟨nb, 0, none⟩), .int .i64 i, .int .i64 k] w fun e w' => e = .returned (.int .i64 0) ∧ NetC w' nb (swp nds i k) nds.length mb lost ∧ Kp (fun j => j = (nd nds i).g ∨ j = (nd nds k).g) w w' := by
  obtain ⟨Ai, ci, hBi, _, _⟩ := (h.own i hi).form
  obtain ⟨Ak, ck, hBk, _, _⟩ := (h.own k hk).form
  have ni := h.nextCell (i := i) (by omega)
  have nk := h.nextCell (i := k) (by omega)
  rw [nx_at hi] at ni
  rw [nx_at hk] at nk
  have ai := h.node i hi
  have ak := h.node k hk
  unfold ndC at ai ak
  rw [hBi] at ai
  rw [hBk] at ak
  refine (swap_core nb (pB nb nds i) (pO i) (pB nb nds k) (pO k) (nd nds i).g (nd nds k).g (nd nds i).fr (nd nds i).to (nd nds k).fr (nd nds k).to Ai Ak _ ci _ ck i k _ _ w ((h.hat.cell 0).trans rfl)
    (fun w' kk => at_yes nb mb nds lost i w' (h.kp kk (fun _ _ h => h)) hn hi) (fun w' kk => at_yes nb mb nds lost k w' (h.kp kk (fun _ _ h => h)) hn hk) ni.1 nk.1 ai ak).mono ?_
  rintro e w' ⟨rfl, w1, k1, rfl⟩
  have h1 := h.kp k1 (fun _ _ h => h)
  rw [← hBi, ← hBk]
  have ka := set3_kp w1 (nd nds i).g (.int .i64 (nd nds k).fr) (.int .i64 (nd nds k).to) (nd nds k).B
  have kb := set3_kp (set3 w1 (nd nds i).g (.int .i64 (nd nds k).fr) (.int .i64 (nd nds k).to) (nd nds k).B) (nd nds k).g (.int .i64 (nd nds i).fr) (.int .i64 (nd nds i).to) (nd nds i).B
  have kab : Kp (fun j => j = (nd nds i).g ∨ j = (nd nds k).g) w1 (set3 (set3 w1 (nd nds i).g (.int .i64 (nd nds k).fr) (.int .i64 (nd nds k).to) (nd nds k).B) (nd nds k).g (.int .i64 (nd nds i).fr) (.int .i64 (nd nds i).to) (nd nds i).B) := (ka.mono (fun _ _ e => .inl e)).trans (kb.mono (fun _ _ e => .inr e))
  have hs := nd_swp hi hk
  refine ⟨rfl, h1.data (swp_len _ _ _) (fun j hj => by rw [hs]; rfl) kab (fun e => ?_) (fun j hj => ?_) (fun j hj => ?_) (fun j q b hj hq e e' => ?_), (k1.mono (fun _ _ h => h.elim)).trans kab⟩
  · rcases e with e | e
    · exact h.gne i hi e.symm
    · exact h.gne k hk e.symm
  · rw [hs]
    have aj := h1.node j hj
    unfold ndC at aj ⊢
    by_cases e1 : j = k
    · subst e1
      rw [show sg i j j = i from if_pos rfl]
      by_cases e2 : (nd nds i).g = (nd nds j).g
      · have e3 := h.ginj i j hi hk e2
        subst e3
        exact set3_at (set3_at aj)
      · exact set3_at (ka.at aj (fun e => e2 e.symm))
    · have hne : (nd nds j).g ≠ (nd nds k).g := fun e => e1 (h.ginj j k hj hk e)
      by_cases e2 : j = i
      · subst e2
        rw [show sg j k j = k by unfold sg; rw [if_neg e1, if_pos rfl]]
        exact kb.at (set3_at aj) hne
      · rw [show sg i k j = j by unfold sg; rw [if_neg e1, if_neg e2]]
        exact kb.at (ka.at aj (fun e => e2 (h.ginj j i hj hi e))) hne
  · rw [hs]
    have hl := sg_lt hi hk hj
    exact (h1.own _ hl).kp kab (fun g hg e => by
      rcases e with e | e
      · exact (h1.apart hl hg).2 i hi e
      · exact (h1.apart hl hg).2 k hk e)
  · rw [hs] at e e'
    exact sg_inj (h.binj _ _ b (sg_lt hi hk hj) (sg_lt hi hk hq) e e')
end Go.Proofs.Ytgcgcdgjooaipaa
