/- The document's net: Drop, First, Cut. (Written by wip/refnet6.py.) -/
import Derived.Test.YtgcgcdgjooaipaaDnD
namespace Go.Proofs.Ytgcgcdgjooaipaa
open Go.RowKit Go.Maps
set_option linter.unusedVariables false
set_option linter.unusedSimpArgs false
section
variable {w w' : World} {db : Nat} {L O : Value} {ds ds' : List Nd} {os : List (Int × Int)} {lost : Int}
theorem ddrop_no (h : DN w db L O ds os lost) (i : Int) (hi : ¬ (0 ≤ i ∧ i < ds.length)) :
    Calls Try.prog 41 #[.pointer (some ⟨db, 0, none⟩), .int .i64 i] w fun e w' => e = .returned (.int .i64 6) ∧ Kp (fun _ => False) w w' := by
  have CT := Lib.hid (dtake_no h i hi)
  clear h hi
  go_enter Try.func41, Try.ntmps41
  go_wp2_with (go_at_call 40; (with_reducible refine CT.out.mono ?_); rintro e w1 ⟨rfl, k1⟩; have K1 := Lib.hid k1; clear k1)
  go_ret
  exact ⟨rfl, K1.out.alloc _⟩
set_option maxHeartbeats 1000000 in
theorem ddrop_yes (h : DN w db L O ds os lost) (i : Nat) (hi : i < ds.length) (hds : ds.length ≤ 2000) (hlo : 0 ≤ lost ∧ lost ≤ 10000) :
    Calls Try.prog 41 #[.pointer (some ⟨db, 0, none⟩), .int .i64 i] w fun e w' => e = .returned (.int .i64 0) ∧ ∃ L', DN w' db L' O (ds.eraseIdx i) os (lost + 1) ∧ DStp db L O ds w L' O (ds.eraseIdx i) w' := by
  have CT := Lib.hid (dtake_yes h i hi hds)
  obtain ⟨ai, ci, hBf, _⟩ := (h.l.each i hi).form
  rw [hBf] at CT
  have H := Lib.hid (And.intro h hi)
  clear h hi hBf
  go_enter Try.func41, Try.ntmps41
  go_wp2_with (go_at_call 40; (with_reducible refine CT.out.mono ?_); rintro e w1 ⟨rfl, L1, n1, s1, _⟩; have x2 := n1.c2; have f2 := n1.hat.frozen 2; have hl1 := n1.hat.lt; have H1 := Lib.hid (And.intro n1 s1); clear n1 s1)
  go_ret
  have n1 := H1.out.1
  have ks := (Kp.refl (· = db) w1).setCell (p := ⟨db, 2, none⟩) (fun _ => rfl) (.int .i64 (lost + 1))
  have n2 : DN (w1.setCell ⟨db, 2, none⟩ (.int .i64 (lost + 1))) db L1 O (ds.eraseIdx i) os (lost + 1) := ⟨n1.hat.set 2 _, n1.l.kp ks (fun b hb e => n1.dl (e ▸ hb)), n1.o.kp ks (fun b hb e => n1.dO (e ▸ hb)), n1.dl, n1.dO, n1.ol⟩
  exact ⟨rfl, L1, n2.kp0 ((Kp.refl _ _).alloc _), ⟨(H1.out.2.1.trans (ks.mono (fun j _ e => .inl e))).alloc _, H1.out.2.2⟩⟩
set_option maxHeartbeats 1000000 in
theorem dfirst_any (h : DN w db L O ds os lost) (hds : ds.length ≤ 2000) (to : Int) :
    Calls Try.prog 27 #[.pointer (some ⟨db, 0, none⟩), .int .i64 to] w fun e w' => e = .returned (.int .i64 (firstK (ds.map dkey) to 0)) ∧ w = w' := by
  obtain ⟨aL, cL, hL, hcL, hrd, c0⟩ := h.lf
  obtain ⟨n, hn⟩ : ∃ n, n = ds.length := ⟨_, rfl⟩
  rw [← hn] at c0 hcL hds
  have H := Lib.hid (And.intro hrd hn)
  clear h hL hrd hn
  go_enter Try.func27, Try.ntmps27
  go_wp2
  go_loopw [5] (fun i wr => ∃ k : Nat, k ≤ n ∧ i = .int .i64 k ∧ w = wr ∧ ∀ j, j < k → (nd ds j).to ≠ to) (fun i _ => n - (intOf i).toNat)
  case atStart => exact ⟨0, by omega, rfl, by simp, fun j hj => absurd hj (Nat.not_lt_zero _)⟩
  case round =>
    obtain ⟨k, hkn, rfl, rfl, hno⟩ := hrel
    by_cases hlt : k < n
    · have j1 : (k : Int) < n := by omega
      obtain ⟨b1, o1, a1, c1, rfl, f0, f1, f2, _⟩ := H.out.1 k (by rw [← H.out.2]; exact hlt)
      obtain ⟨dto, hdto⟩ : ∃ t, t = (nd ds k).to := ⟨_, rfl⟩
      rw [← hdto] at f1
      have HD := Lib.hid (And.intro hdto hno)
      clear hdto hno f0 f2
      cases hb : (dto == to)
      · have hne : dto ≠ to := by simpa using hb
        go_wp2
        go_roundw
        case rel =>
          refine ⟨k + 1, by omega, by go_num, trivial, fun j hj => ?_⟩
          rcases Nat.lt_or_ge j k with h1 | h1
          · exact HD.out.2 j h1
          · obtain rfl : j = k := by omega
            rw [← HD.out.1]; exact hne
        case measure => simp [intOf]; omega
      · have heq : dto = to := by simpa using hb
        go_wp2
        go_ret
        refine ⟨ret_int ?_, rfl⟩
        have e := firstOf_at ds to 0 k (by rw [← H.out.2]; exact hlt) HD.out.2 (by rw [← HD.out.1]; exact heq)
        rw [← firstOf_key, e]; omega
    · obtain rfl : k = n := by omega
      have HD := Lib.hid hno
      clear hno hlt
      go_wp2
      go_ret
      refine ⟨ret_int ?_, rfl⟩
      rw [← firstOf_key, firstOf_no ds to 0 (fun j hj => HD.out j (by rw [H.out.2]; exact hj))]
/-- The pairs without one. -/
def wo (os : List (Int × Int)) (p : Int × Int) : List (Int × Int) := os.filter (fun x => decide (x ≠ p))
theorem elem_pair : Elem Try.prog 74 (.agg #[.int .i64 0, .int .i64 0]) 2 16 := Elem.mk' (by kernel_rfl) rfl (by omega) (by simp [Value.cells, Value.oneCell'])
theorem wo_step {os : List (Int × Int)} {k : Nat} {p : Int × Int} (h : os[k]? = some (pr os k)) : wo (os.take (k + 1)) p = wo (os.take k) p ++ if pr os k = p then [] else [pr os k] := by
  unfold wo
  rw [List.take_add_one, h, List.filter_append]
  congr 1
  by_cases e : pr os k = p
  · rw [if_pos e]; simp [e]
  · rw [if_neg e]; simp [e]
theorem DN.setO {w1 : World} {O' : Value} {os' : List (Int × Int)} (h : DN w db L O ds os lost) (k : Kp (fun _ => False) w w1) (ho : Own w1 O' os'.length 2 (offC os')) (hg : ∀ g, O'.ownBlock = some g → w.heap.size ≤ g) :
    DN (w1.setCell ⟨db, 1, none⟩ O') db L O' ds os' lost ∧ DStp db L O ds w L O' ds (w1.setCell ⟨db, 1, none⟩ O') := by
  have h1 := h.kp0 k
  have ks := (Kp.refl (· = db) w1).setCell (p := ⟨db, 1, none⟩) (fun _ => rfl) O'
  have hd := h.hat.lt
  refine ⟨⟨h1.hat.set 1 _, h1.l.kp ks (fun b hb e => h1.dl (e ▸ hb)), ho.kp ks (fun b hb e => by have := hg b hb; omega), h.dl, fun e => by have := hg db e; omega, fun b hb hf => by have := hg b hb; have := h.l.lt hf; omega⟩, (k.mono (fun _ _ h => h.elim)).trans (ks.mono (fun j _ e => .inl e)), fun b hb => ?_⟩
  rcases hb with hb | hb | hb
  · exact .inl (.inl hb)
  · exact .inr (hg b hb)
  · exact .inl (.inr (.inr hb))
set_option maxHeartbeats 1000000 in
set_option maxRecDepth 20000 in
theorem dcutf_arg (a b : Int) (is : Bool) (w : World) (he : isEnd a = false ∨ isEnd b = false) :
    Calls Try.prog 45 #[.pointer (some ⟨db, 0, none⟩), .int .i64 a, .int .i64 b, .bool is] w fun e w' => e = .returned (.int .i64 2) ∧ w = w' := by
  cases h1 : isEnd a
  · have E1 := Lib.hid (fun w' => (dend_any a w'))
    rw [h1] at E1
    clear he
    go_enter Try.func45, Try.ntmps45
    go_wp2_with (go_at_call 52; (with_reducible refine (E1.out _).mono ?_); rintro e w' ⟨rfl, rfl⟩)
    go_ret
    exact ⟨rfl, rfl⟩
  · have h2 : isEnd b = false := by rcases he with h | h; (rw [h1] at h; cases h); exact h
    have E1 := Lib.hid (fun w' => (dend_any a w'))
    have E2 := Lib.hid (fun w' => (dend_any b w'))
    rw [h1] at E1
    rw [h2] at E2
    clear he
    go_enter Try.func45, Try.ntmps45
    go_wp2_with (first | (go_at_call 52; (with_reducible refine (E1.out _).mono ?_); rintro e w' ⟨rfl, rfl⟩) | (go_at_call 52; (with_reducible refine (E2.out _).mono ?_); rintro e w' ⟨rfl, rfl⟩))
    go_ret
    exact ⟨rfl, rfl⟩
set_option maxHeartbeats 2000000 in
set_option maxRecDepth 20000 in
theorem dcutf_yes (h : DN w db L O ds os lost) (hn : os.length ≤ 10000) (a b : Int) (is : Bool) (h1 : isEnd a = true) (h2 : isEnd b = true) :
    Calls Try.prog 45 #[.pointer (some ⟨db, 0, none⟩), .int .i64 a, .int .i64 b, .bool is] w fun e w' => e = .returned (.int .i64 0) ∧ ∃ O', DN w' db L O' ds (wo os (prOf a b) ++ if is then [prOf a b] else []) lost ∧ DStp db L O ds w L O' ds w' := by
  obtain ⟨ao, co, eO, hc, hr, c1⟩ := h.of
  subst eO
  obtain ⟨n, hnn⟩ : ∃ n, n = os.length := ⟨_, rfl⟩
  rw [← hnn] at hn hc c1
  have E1 := Lib.hid (fun w' => (dend_any a w'))
  have E2 := Lib.hid (fun w' => (dend_any b w'))
  rw [h1] at E1
  rw [h2] at E2
  have CL := Lib.hid (fun w' => dlink_any a b w')
  rw [prOf_V] at CL
  obtain ⟨q1, hq1⟩ : ∃ q1, q1 = (prOf a b).1 := ⟨_, rfl⟩
  obtain ⟨q2, hq2⟩ : ∃ q2, q2 = (prOf a b).2 := ⟨_, rfl⟩
  rw [← hq1, ← hq2] at CL
  have HQ := Lib.hid (show prOf a b = (q1, q2) by rw [hq1, hq2])
  have hlt := h.hat.lt
  have H := Lib.hid (And.intro hr (And.intro c1 (And.intro hnn h)))
  clear hq1 hq2 h hr hnn c1 h1 h2
  go_enter Try.func45, Try.ntmps45
  go_wp2_with (first | (go_at_call 52; (with_reducible refine (E1.out _).mono ?_); rintro e w' ⟨rfl, rfl⟩) | (go_at_call 52; (with_reducible refine (E2.out _).mono ?_); rintro e w' ⟨rfl, rfl⟩))
  go_loopw [9, 10] (fun v i wr => ∃ k : Nat, k ≤ n ∧ i = .int .i64 k ∧ Kp (fun _ => False) w wr ∧ Own wr v (wo (os.take k) (prOf a b)).length 2 (offC (wo (os.take k) (prOf a b))) ∧ (∀ g, v.ownBlock = some g → w.heap.size ≤ g)) (fun _ i _ => n - (intOf i).toNat)
  case atStart => exact ⟨0, by omega, rfl, Kp.refl _ _, by simpa [wo, offC] using Own.nil w 2, fun g hg => by simp [Value.ownBlock] at hg⟩
  case round =>
    obtain ⟨k, hkn, rfl, hkp, ho, hg⟩ := hrel
    have c1 := hkp.cell H.out.2.1 (fun h => h)
    obtain ⟨va, vc, rfl, hvc, _⟩ := ho.form
    have hwl : (wo (os.take k) (prOf a b)).length ≤ k := Nat.le_trans (List.length_filter_le _ _) (by simp; omega)
    by_cases hlt : k < n
    · have j1 : (k : Int) < n := by omega
      obtain ⟨bo, off, rfl, o1, o2⟩ := H.out.1.kp0 hkp k (by rw [← H.out.2.2.1]; exact hlt)
      have hpr := pr_mem (os := os) (k := k) (by rw [← H.out.2.2.1]; exact hlt)
      obtain ⟨p1, hp1⟩ : ∃ p1, p1 = (pr os k).1 := ⟨_, rfl⟩
      obtain ⟨p2, hp2⟩ : ∃ p2, p2 = (pr os k).2 := ⟨_, rfl⟩
      rw [← hp1] at o1
      rw [← hp2] at o2
      have HP := Lib.hid (And.intro hpr (And.intro hp1 (And.intro hp2 (And.intro hkp (And.intro ho hg)))))
      clear hpr hp1 hp2 hkp ho hg
      generalize hwlen : (wo (os.take k) (prOf a b)).length = wl at *
      have HWL := Lib.hid hwlen
      clear hwlen
      go_upto_region 7 with fail
      refine region_L (S := fun w' => w'.cell? ⟨db, 1, none⟩ = some (.slice (some ⟨bo, off, none⟩) n co) ∧ w'.cell? ⟨bo, off + k * 2, none⟩ = some (.int .i64 p1) ∧ w'.cell? ⟨bo, off + k * 2 + 1, none⟩ = some (.int .i64 p2) ∧ Kp (fun _ => False) wr w') [] rfl ?_
      have hSd : ∀ (w' : World) (n' : Nat), (w'.cell? ⟨db, 1, none⟩ = some (.slice (some ⟨bo, off, none⟩) n co) ∧ w'.cell? ⟨bo, off + k * 2, none⟩ = some (.int .i64 p1) ∧ w'.cell? ⟨bo, off + k * 2 + 1, none⟩ = some (.int .i64 p2) ∧ Kp (fun _ => False) wr w') → ((w'.drewN n').cell? ⟨db, 1, none⟩ = some (.slice (some ⟨bo, off, none⟩) n co) ∧ (w'.drewN n').cell? ⟨bo, off + k * 2, none⟩ = some (.int .i64 p1) ∧ (w'.drewN n').cell? ⟨bo, off + k * 2 + 1, none⟩ = some (.int .i64 p2) ∧ Kp (fun _ => False) wr (w'.drewN n')) := fun w' n' h => ⟨h.1, h.2.1, h.2.2.1, h.2.2.2.drewN n'⟩
      have hS1 : wr.drew.cell? ⟨db, 1, none⟩ = some (.slice (some ⟨bo, off, none⟩) n co) ∧ wr.drew.cell? ⟨bo, off + k * 2, none⟩ = some (.int .i64 p1) ∧ wr.drew.cell? ⟨bo, off + k * 2 + 1, none⟩ = some (.int .i64 p2) ∧ Kp (fun _ => False) wr wr.drew := ⟨c1, o1, o2, (Kp.refl _ wr).drew⟩
      refine anyL_takeF (i := 0) (d := 28) (v := (.pointer (some ⟨db, 0, none⟩))) rfl rfl (by kernel_rfl) (by kernel_rfl) (by kernel_rfl) (fun _ _ _ h => h) hSd (by kernel_rfl) (.inl (.inl ⟨rfl, fun w' hS => rfl⟩)) (fun _ => hS1) ?_
      try simp only [List.setIfInBounds_toArray, List.set_cons_succ, List.set_cons_zero]
      refine anyL_takeF (i := 1) (d := 29) (v := (.pointer (some ⟨db, 0, none⟩))) rfl rfl (by kernel_rfl) (by kernel_rfl) (by kernel_rfl) (fun _ _ _ h => h) hSd (by kernel_rfl) (.inl (.inl ⟨rfl, fun w' hS => by go_simp⟩)) (fun _ => hS1) ?_
      try simp only [List.setIfInBounds_toArray, List.set_cons_succ, List.set_cons_zero]
      refine anyL_takeF (i := 2) (d := 30) (v := (.pointer (some ⟨db, 1, none⟩))) rfl rfl (by kernel_rfl) (by kernel_rfl) (by kernel_rfl) (fun _ _ _ h => h) hSd (by kernel_rfl) (.inl (.inl ⟨rfl, fun w' hS => by go_simp⟩)) (fun _ => hS1) ?_
      try simp only [List.setIfInBounds_toArray, List.set_cons_succ, List.set_cons_zero]
      refine anyL_takeD (i := 3) (d := 31) (v := (.slice (some ⟨bo, off, none⟩) n co)) rfl rfl (by kernel_rfl) (by kernel_rfl) (by kernel_rfl) (fun _ _ _ h => h) hSd (by kernel_rfl) (.inl (.inl ⟨rfl, fun w' hS => by have hc := hS.1; go_simp⟩)) hS1 ?_
      try simp only [List.setIfInBounds_toArray, List.set_cons_succ, List.set_cons_zero]
      refine anyL_takeF (i := 4) (d := 32) (v := (.int .i64 (k : Nat))) rfl rfl (by kernel_rfl) (by kernel_rfl) (by kernel_rfl) (fun _ _ _ h => h) hSd (by kernel_rfl) (.inl (.inl ⟨rfl, fun w' hS => rfl⟩)) (fun _ => hS1) ?_
      try simp only [List.setIfInBounds_toArray, List.set_cons_succ, List.set_cons_zero]
      refine anyL_takeF (i := 5) (d := 33) (v := (.pointer (some ⟨bo, off + k * 2, none⟩))) rfl rfl (by kernel_rfl) (by kernel_rfl) (by kernel_rfl) (fun _ _ _ h => h) hSd (by kernel_rfl) (.inl (.inl ⟨rfl, fun w' hS => by go_simp⟩)) (fun _ => hS1) ?_
      try simp only [List.setIfInBounds_toArray, List.set_cons_succ, List.set_cons_zero]
      refine anyL_takeD (i := 6) (d := 34) (v := (.agg #[.int .i64 p1, .int .i64 p2])) rfl rfl (by kernel_rfl) (by kernel_rfl) (by kernel_rfl) (fun _ _ _ h => h) hSd (by kernel_rfl) (.inl (.inl ⟨rfl, fun w' hS => by have hc1 := hS.2.1; have hc2 := hS.2.2.1; go_simp⟩)) hS1 ?_
      try simp only [List.setIfInBounds_toArray, List.set_cons_succ, List.set_cons_zero]
      refine anyL_takeF (i := 7) (d := 35) (v := (.int .i64 a)) rfl rfl (by kernel_rfl) (by kernel_rfl) (by kernel_rfl) (fun _ _ _ h => h) hSd (by kernel_rfl) (.inl (.inl ⟨rfl, fun w' hS => rfl⟩)) (fun _ => hS1) ?_
      try simp only [List.setIfInBounds_toArray, List.set_cons_succ, List.set_cons_zero]
      refine anyL_takeF (i := 8) (d := 36) (v := (.int .i64 b)) rfl rfl (by kernel_rfl) (by kernel_rfl) (by kernel_rfl) (fun _ _ _ h => h) hSd (by kernel_rfl) (.inl (.inl ⟨rfl, fun w' hS => rfl⟩)) (fun _ => hS1) ?_
      try simp only [List.setIfInBounds_toArray, List.set_cons_succ, List.set_cons_zero]
      refine anyL_all (rs := [9]) (by kernel_rfl) (by simp) ?_
      intro n9 i hi
      simp only [List.mem_cons, List.not_mem_nil, or_false] at hi
      obtain rfl := hi
      refine wpOp_of rfl rfl ?_
      go_simp
      refine (CL.out _).mono ?_
      rintro e w5 ⟨rfl, k5⟩
      have k15 : Kp (fun _ => False) wr w5 := ((Kp.refl _ wr).drewN _).trans k5
      try dsimp only
      refine ⟨fun _ => ⟨k15.cell c1 (fun h => h), k15.cell o1 (fun h => h), k15.cell o2 (fun h => h), k15⟩, ?_⟩
      try simp only [List.setIfInBounds_toArray, List.set_cons_succ, List.set_cons_zero]
      refine anyL_all (rs := [10]) (by kernel_rfl) (by simp) ?_
      intro n10 i hi
      simp only [List.mem_cons, List.not_mem_nil, or_false] at hi
      obtain rfl := hi
      refine wpOp_of rfl rfl ?_
      go_simp
      rw [run_eq2]
      go_simp
      refine ⟨fun _ => ⟨k15.cell c1 (fun h => h), k15.cell o1 (fun h => h), k15.cell o2 (fun h => h), k15.drewN _⟩, anyL_done (by kernel_rfl) (fun nn => ?_) _⟩
      have K2 := Lib.hid ((k15.drewN n10).drewN nn)
      generalize (w5.drewN n10).drewN nn = w6 at *
      have e1 : prOf a b = pr os k ↔ (p1 == q1 && p2 == q2) = true := by rw [HQ.out, HP.out.2.1, HP.out.2.2.1]; simp only [Bool.and_eq_true, beq_iff_eq]; exact ⟨fun h => by rw [← h]; exact ⟨rfl, rfl⟩, fun h => Prod.ext h.1.symm h.2.symm⟩
      have c1 := K2.out.cell c1 (fun h => h)
      have o1 := K2.out.cell o1 (fun h => h)
      have o2 := K2.out.cell o2 (fun h => h)
      clear hS1 hSd k15 k5
      rw [← Bool.not_and]
      cases hb : (p1 == q1 && p2 == q2)
      · have HE := Lib.hid (show pr os k ≠ prOf a b from fun e => by rw [e1.1 e.symm] at hb; cases hb)
        have ka := (Kp.refl (fun _ => False) w6).alloc (.cells #[.int .i64 p1, .int .i64 p2] 74)
        obtain ⟨v7, w7, hr7, ho7, hk7, hb7, _⟩ := run_append_at (P := Try.prog) (t := 48) (tx := 48) (ty := 48) (w6.alloc (.cells #[.int .i64 p1, .int .i64 p2] 74)) Try.underlying48 elem_pair Try.underlying48
          ((HP.out.2.2.2.2.1.kp K2.out (fun _ _ h => h)).kp ka (fun _ _ h => h)) (a := some ⟨w6.heap.size, 0, none⟩) (m := 1) (c := 1) (news := [.int .i64 p1, .int .i64 p2]) (by simp) (Rd.new w6 [.int .i64 p1, .int .i64 p2] 74) (fun u hu => by simp at hu; rcases hu with rfl | rfl <;> rfl) (by unfold maxLen; omega) (by omega)
        obtain ⟨a7, c7, rfl, _, _⟩ := ho7.form
        have HR7 := Lib.hid hr7
        have H7 := Lib.hid (And.intro ho7 (And.intro ((ka.mono (S' := fun j => w.heap.size ≤ j) (fun _ _ h => h.elim)).then hk7 (fun j hj e => HP.out.2.2.2.2.2 j e)) hb7))
        clear e1 hb hr7 ho7 hk7 hb7 ka
        go_wp2_with (at_builtin; refine wpList_append_run _ HR7.out rfl rfl rfl rfl ?_)
        go_roundw
        case rel =>
          have hk1 : Kp (fun _ => False) w w7 := (HP.out.2.2.2.1.trans K2.out).then H7.out.2.1 (fun j hj e => by omega)
          have e7 : wo (os.take (k + 1)) (prOf a b) = wo (os.take k) (prOf a b) ++ [pr os k] := by
            rw [wo_step HP.out.1, if_neg HE.out]
          refine ⟨k + 1, by omega, by go_num, hk1, ?_, fun g hg => ?_⟩
          · rw [e7, List.length_append, List.length_singleton, offC_app, HWL.out]
            have h9 := H7.out.1
            rw [HP.out.2.1, HP.out.2.2.1] at h9
            exact h9
          · rcases H7.out.2.2 with e | e <;> rw [e] at hg
            · exact HP.out.2.2.2.2.2 g hg
            · simp only [Option.some.injEq] at hg
              have := (HP.out.2.2.2.1.trans K2.out).size
              simp at hg; omega
        case measure => simp [intOf]; omega
      · have HE := Lib.hid (e1.2 hb).symm
        clear e1 hb
        go_wp2
        go_roundw
        case rel =>
          have e7 : wo (os.take (k + 1)) (prOf a b) = wo (os.take k) (prOf a b) := by
            rw [wo_step HP.out.1, if_pos HE.out, List.append_nil]
          refine ⟨k + 1, by omega, by go_num, HP.out.2.2.2.1.trans K2.out, ?_, HP.out.2.2.2.2.2⟩
          rw [e7, HWL.out]
          exact HP.out.2.2.2.2.1.kp K2.out (fun _ _ h => h)
        case measure => simp [intOf]; omega
    · obtain rfl : k = n := by omega
      have e0 : os.take k = os := by rw [H.out.2.2.1]; exact List.take_length
      rw [e0] at ho hg hwl ⊢
      obtain ⟨wl, hwlen⟩ : ∃ wl, wl = (wo os (prOf a b)).length := ⟨_, rfl⟩
      rw [← hwlen] at ho hg hwl ⊢
      have f1 := (hkp.at H.out.2.2.2.hat (fun h => h)).frozen 1
      have HP := Lib.hid (And.intro hwlen (And.intro hkp (And.intro ho hg)))
      clear hwlen hkp ho hg hlt e0
      cases is
      · go_wp2
        go_ret
        have hfin := H.out.2.2.2.setO HP.out.2.1 (os' := wo os (prOf a b)) (by rw [← HP.out.1]; exact HP.out.2.2.1) HP.out.2.2.2
        exact ⟨rfl, _, by simpa using hfin.1, hfin.2⟩
      · have HRG := Lib.hid (fun w6 (k6 : Kp (fun _ => False) wr w6) => (by
          have ka := (Kp.refl (fun _ => False) w6).alloc (.cells #[.int .i64 q1, .int .i64 q2] 74)
          obtain ⟨v7, w7, hr7, ho7, hk7, hb7, _⟩ := run_append_at (P := Try.prog) (t := 48) (tx := 48) (ty := 48) (w6.alloc (.cells #[.int .i64 q1, .int .i64 q2] 74)) Try.underlying48 elem_pair Try.underlying48
            ((HP.out.2.2.1.kp k6 (fun _ _ h => h)).kp ka (fun _ _ h => h)) (a := some ⟨w6.heap.size, 0, none⟩) (m := 1) (c := 1) (news := [.int .i64 q1, .int .i64 q2]) (by simp) (Rd.new w6 [.int .i64 q1, .int .i64 q2] 74) (fun u hu => by simp at hu; rcases hu with rfl | rfl <;> rfl) (by unfold maxLen; omega) (by omega)
          obtain ⟨a7, c7, rfl, _, _⟩ := ho7.form
          have hk1 : Kp (fun _ => False) w w7 := (((HP.out.2.1.trans k6).trans ka).then hk7 (fun j hj e => by have := HP.out.2.2.2 j e; omega))
          refine ⟨a7, c7, w7, hr7, hk1, (hk1.at H.out.2.2.2.hat (fun h => h)).frozen 1, hk1.cell H.out.2.1 (fun h => h), ho7, fun g hg => ?_⟩
          rcases hb7 with e | e <;> rw [e] at hg
          · exact HP.out.2.2.2 g hg
          · simp only [Option.some.injEq] at hg
            have := (HP.out.2.1.trans k6).size
            simp at hg; omega : ∃ a7 c7 w7, (Builtin.append_ #[48, 48] 48 #[.slice va wl vc, .slice (some ⟨w6.heap.size, 0, none⟩) 1 1]).run Try.prog (w6.alloc (.cells #[.int .i64 q1, .int .i64 q2] 74)) = .ok (.slice a7 (wl + 1) c7) w7 ∧ Kp (fun _ => False) w w7 ∧ w7.frozen? ⟨db, 1, none⟩ = false ∧
              w7.cell? ⟨db, 1, none⟩ = some (.slice ao k co) ∧ Own w7 (.slice a7 (wl + 1) c7) (wl + 1) 2 (offC (wo os (prOf a b)) ++ [.int .i64 q1, .int .i64 q2]) ∧ ∀ g, (Value.slice a7 (wl + 1) c7).ownBlock = some g → w.heap.size ≤ g))
        go_wp2_with (first | (go_at_call 53; (with_reducible refine (CL.out _).mono ?_); rintro e w6 ⟨rfl, k6⟩; obtain ⟨a7, c7, w7, hr7, hk7, f7, d7, ho7, hg7⟩ := HRG.out w6 k6; have HR7 := Lib.hid hr7; have H7 := Lib.hid (And.intro hk7 (And.intro ho7 hg7)); clear hr7 hk7 ho7 hg7 k6) | (at_builtin; refine wpList_append_run _ HR7.out rfl rfl rfl rfl ?_))
        go_ret
        have e9 : offC (wo os (prOf a b) ++ [prOf a b]) = offC (wo os (prOf a b)) ++ [.int .i64 q1, .int .i64 q2] := by rw [offC_app]; congr 1; rw [HQ.out]; rfl
        have hfin := H.out.2.2.2.setO H7.out.1 (os' := wo os (prOf a b) ++ [prOf a b]) (by rw [e9, List.length_append, List.length_singleton, ← HP.out.1]; exact H7.out.2.1) H7.out.2.2
        exact ⟨rfl, _, by simpa using hfin.1, hfin.2⟩
end
end Go.Proofs.Ytgcgcdgjooaipaa
