/- Package net: Cut. (Written by wip/netc.py.) -/
import Derived.Test.YtgcgcdgjooaipaaNetX
namespace Go.Proofs.Ytgcgcdgjooaipaa
open Go.RowKit Go.Maps
set_option linter.unusedVariables false
set_option linter.unusedSimpArgs false
theorem cut_none (p : Option Addr) (a b : Int) (is : Bool) (w : World) (hno : ∀ w', Kp (fun _ => False) w w' → Calls Try.prog 31 #[.pointer p] w' fun e w'' => e = .returned (.bool true) ∧ w' = w'') :
    Calls Try.prog 18 #[.pointer p, .int .i64 a, .int .i64 b, .bool is] w fun e w' => e = .returned (.int .i64 1) ∧ Kp (fun _ => False) w w' := by
  have HN := Lib.hid hno
  clear hno
  go_enter Try.func18, Try.ntmps18
  go_wp2_with (go_at_call 31; (with_reducible refine (HN.out _ (Kp.refl _ w)).mono ?_); rintro e w' ⟨rfl, rfl⟩)
  go_ret
  exact ⟨rfl, Kp.refl _ w⟩
theorem cut_arg (nb : Nat) (a b : Int) (is : Bool) (w : World) (c0 : w.cell? ⟨nb, 0, none⟩ = some (.bool true)) (he : isEnd a = false ∨ isEnd b = false) :
    Calls Try.prog 18 #[.pointer (some ⟨nb, 0, none⟩), .int .i64 a, .int .i64 b, .bool is] w fun e w' => e = .returned (.int .i64 2) ∧ w = w' := by
  have HN := Lib.hid (fun w' (k : Kp (fun _ => False) w w') => none_at nb w' (k.cell c0 (fun h => h)))
  cases h1 : isEnd a
  · have E1 := Lib.hid (fun w' => (end_any a w'))
    rw [h1] at E1
    clear c0 he
    go_enter Try.func18, Try.ntmps18
    go_wp2_with (first | (go_at_call 31; (with_reducible refine (HN.out _ (Kp.refl _ w)).mono ?_); rintro e w' ⟨rfl, rfl⟩) | (go_at_call 32; (with_reducible refine (E1.out _).mono ?_); rintro e w' ⟨rfl, rfl⟩))
    go_ret
    exact ⟨rfl, rfl⟩
  · have h2 : isEnd b = false := by rcases he with h | h; (rw [h1] at h; cases h); exact h
    have E1 := Lib.hid (fun w' => (end_any a w'))
    have E2 := Lib.hid (fun w' => (end_any b w'))
    rw [h1] at E1
    rw [h2] at E2
    clear c0 he
    go_enter Try.func18, Try.ntmps18
    go_wp2_with (first | (go_at_call 31; (with_reducible refine (HN.out _ (Kp.refl _ w)).mono ?_); rintro e w' ⟨rfl, rfl⟩) | (go_at_call 32; (with_reducible refine (E1.out _).mono ?_); rintro e w' ⟨rfl, rfl⟩) | (go_at_call 32; (with_reducible refine (E2.out _).mono ?_); rintro e w' ⟨rfl, rfl⟩))
    go_ret
    exact ⟨rfl, rfl⟩
theorem wp_delete_go {P : Program} {o : Oper} {a : Act} {w w' : World} {K : Act → World → Prop} {Q : Exit → Act → World → Prop} {m x : Operand} {t k : TypeId} {M X : Value}
    (hrun : (Builtin.delete_ #[t, k] o.type #[M, X]).run P w = .ok (.tuple #[]) w') (ho : o.op = .call { callee := .builtin .delete, args := #[m, x], argTypes := #[t, k] })
    (hm : a.eval m = M) (hx : a.eval x = X) (h : K (a.put o.dst (.tuple #[])) w') : Oper.wp P o a w K Q := by
  unfold Oper.wp execOp
  simp only [ho, resolve, invoke, builtin, Sem.run_bind, Sem.run_pure, Result.andThen_ok, List.map_toArray, List.map_cons, List.map_nil, hm, hx, hrun]
  exact h
theorem wp_mapUpdate_go {P : Program} {o : Oper} {a : Act} {w w' : World} {K : Act → World → Prop} {Q : Exit → Act → World → Prop} {m x v : Operand} {t : TypeId} {M X V : Value}
    (hrun : (Instr.mapUpdate t M X V).run P w = .ok () w') (ho : o.op = .mapUpdate t m x v)
    (hm : a.eval m = M) (hx : a.eval x = X) (hv : a.eval v = V) (h : K (a.put o.dst undef) w') : Oper.wp P o a w K Q := by
  unfold Oper.wp
  simp [execOp, ho, hm, hx, hv, hrun, Result.andThen]
  exact h
set_option maxHeartbeats 2000000 in
set_option maxRecDepth 20000 in
/-- A link is cut, or joined. -/
theorem cut_yes (nb mb N : Nat) (f : Value → Bool) (a b : Int) (is : Bool) (w : World) (c0 : w.cell? ⟨nb, 0, none⟩ = some (.bool true)) (c6 : w.cell? ⟨nb, 6, none⟩ = some (.map (some mb))) (hset : SetV Try.prog 74 w mb N f) (hN : N ≤ 100000) (hne : nb ≠ mb)
    (h1 : isEnd a = true) (h2 : isEnd b = true) :
    Calls Try.prog 18 #[.pointer (some ⟨nb, 0, none⟩), .int .i64 a, .int .i64 b, .bool is] w fun e w' => e = .returned (.int .i64 0) ∧ ∃ f', SetV Try.prog 74 w' mb (N + 1) f' ∧ f' (pairV a b) = is ∧ (∀ u, u ≠ pairV a b → f' u = f u) ∧ Kp (· = mb) w w' := by
  have HN := Lib.hid (fun w' (k : Kp (fun _ => False) w w') => none_at nb w' (k.cell c0 (fun h => h)))
  have E1 := Lib.hid (fun w' => (end_any a w'))
  have E2 := Lib.hid (fun w' => (end_any b w'))
  rw [h1] at E1
  rw [h2] at E2
  have ha : 0 ≤ a ∧ a < 64 := by simpa [isEnd] using h1
  have hb : 0 ≤ b ∧ b < 64 := by simpa [isEnd] using h2
  obtain ⟨k, hk⟩ := key_pair ha hb
  have HK := Lib.hid hk
  have CP := Lib.hid (fun w' => pair_any a b w')
  have HC := Lib.hid (fun w' (kk : Kp (fun _ => False) w w') => (⟨kk.cell c6 (fun h => h), kk⟩ : w'.cell? ⟨nb, 6, none⟩ = some (.map (some mb)) ∧ Kp (fun _ => False) w w'))
  have HS := Lib.hid (And.intro hset c6)
  generalize pairV a b = pv at *
  clear c0 c6 hset h1 h2 ha hb hk
  go_enter Try.func18, Try.ntmps18
  go_upto_region 5 with (first | (go_at_call 31; (with_reducible refine (HN.out _ (Kp.refl _ w)).mono ?_); rintro e w' ⟨rfl, rfl⟩) | (go_at_call 32; (with_reducible refine (E1.out _).mono ?_); rintro e w' ⟨rfl, rfl⟩) | (go_at_call 32; (with_reducible refine (E2.out _).mono ?_); rintro e w' ⟨rfl, rfl⟩))
  refine region_L (S := fun w' => w'.cell? ⟨nb, 6, none⟩ = some (.map (some mb)) ∧ Kp (fun _ => False) w w') [7] rfl ?_
  have hSd : ∀ (w' : World) (n' : Nat), (w'.cell? ⟨nb, 6, none⟩ = some (.map (some mb)) ∧ Kp (fun _ => False) w w') → ((w'.drewN n').cell? ⟨nb, 6, none⟩ = some (.map (some mb)) ∧ Kp (fun _ => False) w (w'.drewN n')) := fun w' n' h => ⟨h.1, h.2.drewN n'⟩
  have hS1 : w.drew.cell? ⟨nb, 6, none⟩ = some (.map (some mb)) ∧ Kp (fun _ => False) w w.drew := HC.out _ (Kp.refl _ w).drew
  refine anyL_takeF (i := 0) (d := 21) (v := (.pointer (some ⟨nb, 0, none⟩))) rfl rfl (by kernel_rfl) (by kernel_rfl) (by kernel_rfl) (fun _ _ _ h => h) hSd (by kernel_rfl) (.inl (.inl ⟨rfl, fun w' hS => rfl⟩)) (fun _ => hS1) ?_
  try simp only [List.setIfInBounds_toArray, List.set_cons_succ, List.set_cons_zero]
  refine anyL_takeF (i := 1) (d := 22) (v := (.pointer (some ⟨nb, 0, none⟩))) rfl rfl (by kernel_rfl) (by kernel_rfl) (by kernel_rfl) (fun _ _ _ h => h) hSd (by kernel_rfl) (.inl (.inl ⟨rfl, fun w' hS => by go_simp⟩)) (fun _ => hS1) ?_
  try simp only [List.setIfInBounds_toArray, List.set_cons_succ, List.set_cons_zero]
  refine anyL_takeF (i := 2) (d := 23) (v := (.pointer (some ⟨nb, 6, none⟩))) rfl rfl (by kernel_rfl) (by kernel_rfl) (by kernel_rfl) (fun _ _ _ h => h) hSd (by kernel_rfl) (.inl (.inl ⟨rfl, fun w' hS => by go_simp⟩)) (fun _ => hS1) ?_
  try simp only [List.setIfInBounds_toArray, List.set_cons_succ, List.set_cons_zero]
  refine anyL_takeD (i := 3) (d := 24) (v := (.map (some mb))) rfl rfl (by kernel_rfl) (by kernel_rfl) (by kernel_rfl) (fun _ _ _ h => h) hSd (by kernel_rfl) (.inl (.inl ⟨rfl, fun w' hS => by have hc := hS.1; go_simp⟩)) hS1 ?_
  try simp only [List.setIfInBounds_toArray, List.set_cons_succ, List.set_cons_zero]
  refine anyL_takeF (i := 4) (d := 25) (v := (.int .i64 a)) rfl rfl (by kernel_rfl) (by kernel_rfl) (by kernel_rfl) (fun _ _ _ h => h) hSd (by kernel_rfl) (.inl (.inl ⟨rfl, fun w' hS => rfl⟩)) (fun _ => hS1) ?_
  try simp only [List.setIfInBounds_toArray, List.set_cons_succ, List.set_cons_zero]
  refine anyL_takeF (i := 5) (d := 26) (v := (.int .i64 b)) rfl rfl (by kernel_rfl) (by kernel_rfl) (by kernel_rfl) (fun _ _ _ h => h) hSd (by kernel_rfl) (.inl (.inl ⟨rfl, fun w' hS => rfl⟩)) (fun _ => hS1) ?_
  try simp only [List.setIfInBounds_toArray, List.set_cons_succ, List.set_cons_zero]
  refine anyL_all (rs := [6]) (by kernel_rfl) (by simp) ?_
  intro n6 i hi
  simp only [List.mem_cons, List.not_mem_nil, or_false] at hi
  obtain rfl := hi
  refine wpOp_of rfl rfl ?_
  go_simp
  refine (CP.out _).mono ?_
  rintro e w1 ⟨rfl, k1⟩
  have k01 : Kp (fun _ => False) w w1 := ((Kp.refl _ w).drewN _).trans k1
  try dsimp only
  refine ⟨fun _ => HC.out _ k01, ?_⟩
  try simp only [List.setIfInBounds_toArray, List.set_cons_succ, List.set_cons_zero]
  refine anyL_all (rs := [7]) (by kernel_rfl) (by simp) ?_
  intro n7 i hi
  simp only [List.mem_cons, List.not_mem_nil, or_false] at hi
  obtain rfl := hi
  refine wpOp_of rfl rfl ?_
  obtain ⟨w2, hr2, ⟨f2, hs2, e2, e2'⟩, k2⟩ := (HS.out.1.kp (k01.drewN n7) (fun h => h)).drop law2 Try.underlying59 HK.out 0
  refine wp_delete_go hr2 rfl rfl rfl ?_
  refine ⟨fun h => Bool.noConfusion (show false = true from h), anyL_done (by kernel_rfl) (fun nn => ?_) _⟩
  have K3 := Lib.hid (((k01.drewN n7).mono (S' := (· = mb)) (fun _ _ h => h.elim)).trans (k2.drewN nn))
  have H3 := Lib.hid (And.intro (hs2.kp ((Kp.refl (fun _ => False) w2).drewN nn) (fun h => h)) (And.intro e2 e2'))
  generalize w2.drewN nn = w3 at *
  have HC3 := Lib.hid (fun w' (kk : Kp (fun _ => False) w3 w') => (⟨(K3.out.trans (kk.mono (fun _ _ h => h.elim))).cell HS.out.2 hne, kk⟩ : w'.cell? ⟨nb, 6, none⟩ = some (.map (some mb)) ∧ Kp (fun _ => False) w3 w'))
  clear hs2 e2 e2' k2 hr2 k01 hS1 hSd k1
  cases is
  · go_wp2
    go_ret
    exact ⟨rfl, f2, H3.out.1.mono (by omega), H3.out.2.1, H3.out.2.2, K3.out⟩
  · go_upto_region 7 with fail
    refine region_L (S := fun w' => w'.cell? ⟨nb, 6, none⟩ = some (.map (some mb)) ∧ Kp (fun _ => False) w3 w') [8] rfl ?_
    have hSd : ∀ (w' : World) (n' : Nat), (w'.cell? ⟨nb, 6, none⟩ = some (.map (some mb)) ∧ Kp (fun _ => False) w3 w') → ((w'.drewN n').cell? ⟨nb, 6, none⟩ = some (.map (some mb)) ∧ Kp (fun _ => False) w3 (w'.drewN n')) := fun w' n' h => ⟨h.1, h.2.drewN n'⟩
    have hS1 : w3.drew.cell? ⟨nb, 6, none⟩ = some (.map (some mb)) ∧ Kp (fun _ => False) w3 w3.drew := HC3.out _ (Kp.refl _ w3).drew
    refine anyL_takeF (i := 0) (d := 29) (v := (.pointer (some ⟨nb, 0, none⟩))) rfl rfl (by kernel_rfl) (by kernel_rfl) (by kernel_rfl) (fun _ _ _ h => h) hSd (by kernel_rfl) (.inl (.inl ⟨rfl, fun w' hS => rfl⟩)) (fun _ => hS1) ?_
    try simp only [List.setIfInBounds_toArray, List.set_cons_succ, List.set_cons_zero]
    refine anyL_takeF (i := 1) (d := 30) (v := (.pointer (some ⟨nb, 0, none⟩))) rfl rfl (by kernel_rfl) (by kernel_rfl) (by kernel_rfl) (fun _ _ _ h => h) hSd (by kernel_rfl) (.inl (.inl ⟨rfl, fun w' hS => by go_simp⟩)) (fun _ => hS1) ?_
    try simp only [List.setIfInBounds_toArray, List.set_cons_succ, List.set_cons_zero]
    refine anyL_takeF (i := 2) (d := 31) (v := (.pointer (some ⟨nb, 6, none⟩))) rfl rfl (by kernel_rfl) (by kernel_rfl) (by kernel_rfl) (fun _ _ _ h => h) hSd (by kernel_rfl) (.inl (.inl ⟨rfl, fun w' hS => by go_simp⟩)) (fun _ => hS1) ?_
    try simp only [List.setIfInBounds_toArray, List.set_cons_succ, List.set_cons_zero]
    refine anyL_takeD (i := 3) (d := 32) (v := (.map (some mb))) rfl rfl (by kernel_rfl) (by kernel_rfl) (by kernel_rfl) (fun _ _ _ h => h) hSd (by kernel_rfl) (.inl (.inl ⟨rfl, fun w' hS => by have hc := hS.1; go_simp⟩)) hS1 ?_
    try simp only [List.setIfInBounds_toArray, List.set_cons_succ, List.set_cons_zero]
    refine anyL_takeF (i := 4) (d := 33) (v := (.int .i64 a)) rfl rfl (by kernel_rfl) (by kernel_rfl) (by kernel_rfl) (fun _ _ _ h => h) hSd (by kernel_rfl) (.inl (.inl ⟨rfl, fun w' hS => rfl⟩)) (fun _ => hS1) ?_
    try simp only [List.setIfInBounds_toArray, List.set_cons_succ, List.set_cons_zero]
    refine anyL_takeF (i := 5) (d := 34) (v := (.int .i64 b)) rfl rfl (by kernel_rfl) (by kernel_rfl) (by kernel_rfl) (fun _ _ _ h => h) hSd (by kernel_rfl) (.inl (.inl ⟨rfl, fun w' hS => rfl⟩)) (fun _ => hS1) ?_
    try simp only [List.setIfInBounds_toArray, List.set_cons_succ, List.set_cons_zero]
    refine anyL_takeF (i := 7) (d := 36) (v := (.agg #[])) rfl rfl (by kernel_rfl) (by kernel_rfl) (by kernel_rfl) (fun _ _ _ h => h) hSd (by kernel_rfl) (.inl (.inl ⟨rfl, fun w' hS => by go_simp⟩)) (fun _ => hS1) ?_
    try simp only [List.setIfInBounds_toArray, List.set_cons_succ, List.set_cons_zero]
    refine anyL_all (rs := [6]) (by kernel_rfl) (by simp) ?_
    intro n6 i hi
    simp only [List.mem_cons, List.not_mem_nil, or_false] at hi
    obtain rfl := hi
    refine wpOp_of rfl rfl ?_
    go_simp
    refine (CP.out _).mono ?_
    rintro e w4 ⟨rfl, k4⟩
    have k34 : Kp (fun _ => False) w3 w4 := ((Kp.refl _ w3).drewN _).trans k4
    try dsimp only
    refine ⟨fun _ => HC3.out _ k34, ?_⟩
    try simp only [List.setIfInBounds_toArray, List.set_cons_succ, List.set_cons_zero]
    refine anyL_all (rs := [8]) (by kernel_rfl) (by simp) ?_
    intro n8 i hi
    simp only [List.mem_cons, List.not_mem_nil, or_false] at hi
    obtain rfl := hi
    refine wpOp_of rfl rfl ?_
    obtain ⟨w5, hr5, ⟨f5, hs5, e5, e5'⟩, k5⟩ := (H3.out.1.kp (k34.drewN n8) (fun h => h)).store law2 Try.underlying59 (by unfold maxLen; omega) HK.out
    refine wp_mapUpdate_go hr5 rfl rfl rfl rfl ?_
    refine ⟨fun h => Bool.noConfusion (show false = true from h), anyL_done (by kernel_rfl) (fun nn5 => ?_) _⟩
    have K6 := Lib.hid (K3.out.trans (((k34.drewN n8).mono (S' := (· = mb)) (fun _ _ h => h.elim)).trans (k5.drewN nn5)))
    have H6 := Lib.hid (And.intro (hs5.kp ((Kp.refl (fun _ => False) w5).drewN nn5) (fun h => h)) (And.intro e5 e5'))
    generalize w5.drewN nn5 = w6 at *
    clear hs5 e5 e5' k5 hr5 k34 hS1 hSd k4
    go_wp2
    go_ret
    exact ⟨rfl, f5, H6.out.1, H6.out.2.1, fun u hu => by rw [H6.out.2.2 u hu, H3.out.2.2 u hu], K6.out⟩
end Go.Proofs.Ytgcgcdgjooaipaa
