/- Chapter 15: the frames of a daemon's end. (Written by wip/lnl.py.) -/
import Derived.Test.YtokembhfebnjpaaQLnK
namespace Go.Proofs.Ytokembhfebnjpaa
set_option maxRecDepth 20000
open Go.RowKit Flt
set_option linter.unusedVariables false
set_option linter.unusedSimpArgs false
def welF (se bo : Nat) : Fr := ⟨2, se, bo, 0, 0, []⟩
def rstF (bo s : Nat) : Fr := ⟨5, s, bo, 0, 0, []⟩
def rstL (bo : Nat) (ls : List (List Int)) (rs : List Nat) : List (List Int) := rs.foldl (fun ls s => layP ls (rstF bo s)) ls
theorem rstL_len (bo : Nat) : ∀ (ls : List (List Int)) (rs : List Nat), (rstL bo ls rs).length ≤ ls.length + rs.length
  | ls, [] => Nat.le_refl _
  | ls, s :: r => by
    have h1 := rstL_len bo (layP ls (rstF bo s)) r
    have h2 := layP_len ls (rstF bo s)
    have e : rstL bo ls (s :: r) = rstL bo (layP ls (rstF bo s)) r := rfl
    rw [e, List.length_cons]; omega
set_option maxHeartbeats 2000000 in
theorem dtells_any {W : World} {o I : Nat} {t : Tk} {rv : Value} {rs : List Nat} (wel : Bool) (h : DmC W o t wel rv rs I) (hrb : ∀ s ∈ rs, s ≤ 2147483647) (now : Int) (P0 : List (List Int)) (hP0 : P0 = if wel then layP [] (welF t.se t.bo) else []) {Q : Value → World → Prop}
    (C : ∀ w' v vs, LLs W.heap.size w' v (rstL t.bo P0 rs) vs → DmC w' o t false (.slice none 0 0) [] I → Kp (fun k => k = o) W w' → Calls Try.prog 75 #[.pointer (some ⟨o, 0, none⟩), v, .int .i64 now] w' fun e w'' => ∃ v', e = .returned v' ∧ Q v' w'') :
    Calls Try.prog 113 #[.pointer (some ⟨o, 0, none⟩), .int .i64 now] W fun e w' => ∃ v', e = .returned v' ∧ Q v' w' := by
  obtain ⟨ra, rc, hrv, _⟩ := h.own.form
  obtain ⟨n, hn⟩ : ∃ n, n = rs.length := ⟨_, rfl⟩
  rw [← hn] at hrv
  have hlen := h.len
  rw [← hn] at hlen
  have c1 := h.tk.c.2.1
  have c2 := h.tk.c.2.2.1
  have c7 : W.cell? ⟨o, 7, none⟩ = some (.bool wel) := h.tk.hat.cell 7
  have c8 : W.cell? ⟨o, 8, none⟩ = some rv := h.tk.hat.cell 8
  rw [hrv] at c8
  obtain ⟨se, hse⟩ : ∃ x, x = t.se := ⟨_, rfl⟩
  obtain ⟨bo, hbo⟩ : ∃ x, x = t.bo := ⟨_, rfl⟩
  have hseb := h.tk.se
  have hbob := h.tk.bo
  rw [← hse] at c1 hseb
  rw [← hbo] at c2 hbob
  have H := Lib.hid (And.intro h (And.intro hrv (And.intro hn (And.intro hse (And.intro hbo (And.intro hrb hP0))))))
  have HC := Lib.hid C
  clear h hrv hn hse hbo hrb hP0 C
  go_enter Try.func113, Try.ntmps113
  go_upto_if 11 with fail
  go_cut [5] (fun ov wx => ∃ vs, LLs W.heap.size wx ov P0 vs ∧ (∃ x y z, ov = .slice x y z) ∧ Kp (fun _ => False) W wx)
  case first =>
    cases wel
    · go_wp2_with fail
      go_meet
      refine ⟨[], ?_, ⟨_, _, _, rfl⟩, Kp.refl _ _⟩
      rw [H.out.2.2.2.2.2.2]
      exact LLs.nil _ _
    · have CL := fun w' (k : Kp (fun _ => False) W w') => lay_any (LLs.nil W.heap.size w') (welF se bo) none 0 ⟨by show (-9223372036854775808 ≤ (se : Int)) ∧ ((se : Int) ≤ 9223372036854775807); omega, by show (-9223372036854775808 ≤ (bo : Int)) ∧ ((bo : Int) ≤ 9223372036854775807); omega, by show (-9223372036854775808 ≤ (0 : Int)) ∧ ((0 : Int) ≤ 9223372036854775807); omega, by show (-9223372036854775808 ≤ (0 : Int)) ∧ ((0 : Int) ≤ 9223372036854775807); omega⟩ (RdB.nil w' none) (Nat.le_refl 0) k.size (by simp) (by show 0 ≤ _; omega)
      dsimp only [frA, welF, List.length_nil] at CL
      have CL := Lib.hid CL
      go_upto_region 3 with fail
      refine region_L (S := fun w' => Kp (fun _ => False) W w') [11] rfl ?_
      have hSd : ∀ (w' : World) (n' : Nat), Kp (fun _ => False) W w' → Kp (fun _ => False) W (w'.drewN n') := fun w' n' h => h.drewN n'
      have hS0 : Kp (fun _ => False) W W.drew := (Kp.refl _ W).drew
      refine anyL_world (fun w' => Kp (fun _ => False) W w') hS0 ?_
      clear hS0
      intro z0 kz0
      refine anyL_takeF (i := 0) (d := 12) (v := (.slice none 0 0)) rfl rfl (by kernel_rfl) (by kernel_rfl) (by kernel_rfl) (fun _ _ _ h => h) hSd (by kernel_rfl) (.inl (.inl ⟨rfl, fun w' hS => by first | rfl | go_simp⟩)) (fun _ => kz0) ?_
      try simp only [List.setIfInBounds_toArray, List.set_cons_succ, List.set_cons_zero]
      refine anyL_takeF (i := 1) (d := 13) (v := (.pointer (some ⟨o, 0, none⟩))) rfl rfl (by kernel_rfl) (by kernel_rfl) (by kernel_rfl) (fun _ _ _ h => h) hSd (by kernel_rfl) (.inl (.inl ⟨rfl, fun w' hS => by first | rfl | go_simp⟩)) (fun _ => kz0) ?_
      try simp only [List.setIfInBounds_toArray, List.set_cons_succ, List.set_cons_zero]
      refine anyL_takeF (i := 2) (d := 14) (v := (.pointer (some ⟨o, 0, none⟩))) rfl rfl (by kernel_rfl) (by kernel_rfl) (by kernel_rfl) (fun _ _ _ h => h) hSd (by kernel_rfl) (.inl (.inl ⟨rfl, fun w' hS => by first | rfl | go_simp⟩)) (fun _ => kz0) ?_
      try simp only [List.setIfInBounds_toArray, List.set_cons_succ, List.set_cons_zero]
      refine anyL_takeF (i := 3) (d := 15) (v := (.pointer (some ⟨o, 0, none⟩))) rfl rfl (by kernel_rfl) (by kernel_rfl) (by kernel_rfl) (fun _ _ _ h => h) hSd (by kernel_rfl) (.inl (.inl ⟨rfl, fun w' hS => by first | rfl | go_simp⟩)) (fun _ => kz0) ?_
      try simp only [List.setIfInBounds_toArray, List.set_cons_succ, List.set_cons_zero]
      refine anyL_takeF (i := 4) (d := 16) (v := (.pointer (some ⟨o, 1, none⟩))) rfl rfl (by kernel_rfl) (by kernel_rfl) (by kernel_rfl) (fun _ _ _ h => h) hSd (by kernel_rfl) (.inl (.inl ⟨rfl, fun w' hS => by first | rfl | go_simp⟩)) (fun _ => kz0) ?_
      try simp only [List.setIfInBounds_toArray, List.set_cons_succ, List.set_cons_zero]
      refine anyL_takeD (i := 5) (d := 17) (v := (.int .i64 (se : Nat))) rfl rfl (by kernel_rfl) (by kernel_rfl) (by kernel_rfl) (fun _ _ _ h => h) hSd (by kernel_rfl) (.inl (.inl ⟨rfl, fun w' hS => by have h := hS.cell c1 (fun h => h); go_simp⟩)) kz0 ?_
      try simp only [List.setIfInBounds_toArray, List.set_cons_succ, List.set_cons_zero]
      refine anyL_takeF (i := 6) (d := 18) (v := (.pointer (some ⟨o, 0, none⟩))) rfl rfl (by kernel_rfl) (by kernel_rfl) (by kernel_rfl) (fun _ _ _ h => h) hSd (by kernel_rfl) (.inl (.inl ⟨rfl, fun w' hS => by first | rfl | go_simp⟩)) (fun _ => kz0) ?_
      try simp only [List.setIfInBounds_toArray, List.set_cons_succ, List.set_cons_zero]
      refine anyL_takeF (i := 7) (d := 19) (v := (.pointer (some ⟨o, 0, none⟩))) rfl rfl (by kernel_rfl) (by kernel_rfl) (by kernel_rfl) (fun _ _ _ h => h) hSd (by kernel_rfl) (.inl (.inl ⟨rfl, fun w' hS => by first | rfl | go_simp⟩)) (fun _ => kz0) ?_
      try simp only [List.setIfInBounds_toArray, List.set_cons_succ, List.set_cons_zero]
      refine anyL_takeF (i := 8) (d := 20) (v := (.pointer (some ⟨o, 0, none⟩))) rfl rfl (by kernel_rfl) (by kernel_rfl) (by kernel_rfl) (fun _ _ _ h => h) hSd (by kernel_rfl) (.inl (.inl ⟨rfl, fun w' hS => by first | rfl | go_simp⟩)) (fun _ => kz0) ?_
      try simp only [List.setIfInBounds_toArray, List.set_cons_succ, List.set_cons_zero]
      refine anyL_takeF (i := 9) (d := 21) (v := (.pointer (some ⟨o, 2, none⟩))) rfl rfl (by kernel_rfl) (by kernel_rfl) (by kernel_rfl) (fun _ _ _ h => h) hSd (by kernel_rfl) (.inl (.inl ⟨rfl, fun w' hS => by first | rfl | go_simp⟩)) (fun _ => kz0) ?_
      try simp only [List.setIfInBounds_toArray, List.set_cons_succ, List.set_cons_zero]
      refine anyL_takeD (i := 10) (d := 22) (v := (.int .i64 (bo : Nat))) rfl rfl (by kernel_rfl) (by kernel_rfl) (by kernel_rfl) (fun _ _ _ h => h) hSd (by kernel_rfl) (.inl (.inl ⟨rfl, fun w' hS => by have h := hS.cell c2 (fun h => h); go_simp⟩)) kz0 ?_
      try simp only [List.setIfInBounds_toArray, List.set_cons_succ, List.set_cons_zero]
      refine anyL_all (rs := [11]) (by kernel_rfl) (by simp) ?_
      intro n10 i' hi'
      simp only [List.mem_cons, List.not_mem_nil, or_false] at hi'
      obtain rfl := hi'
      refine wpOp_of rfl rfl ?_
      go_simp
      try dsimp only
      try refine ⟨fun h => Bool.noConfusion (show false = true from h), ?_⟩
      try simp only [List.setIfInBounds_toArray, List.set_cons_succ, List.set_cons_zero]
      refine anyL_all (rs := [12]) (by kernel_rfl) (by simp) ?_
      intro n11 i' hi'
      simp only [List.mem_cons, List.not_mem_nil, or_false] at hi'
      obtain rfl := hi'
      have kzz := (kz0.drewN n10).drewN n11
      generalize (z0.drewN n10).drewN n11 = zz at *
      refine wpOp_of rfl rfl ?_
      go_simp
      refine Calls.mono (CL.out zz kzz) ?_
      rintro e w5p ⟨v5, vs5, rfl, hll5, _, k5⟩
      have kk5 : Kp (fun _ => False) W w5p := kzz.trans (k5.mono (fun k _ e => by cases e))
      clear k5
      try dsimp only
      refine ⟨fun h => Bool.noConfusion (show false = true from h), ?_⟩
      try simp only [List.setIfInBounds_toArray, List.set_cons_succ, List.set_cons_zero]
      refine anyL_takeF (i := 13) (d := 5) (v := v5) rfl rfl (by kernel_rfl) (by kernel_rfl) (by kernel_rfl) (fun _ _ _ h => h) hSd (by kernel_rfl) (.inl (.inl ⟨rfl, fun w' hS => by first | rfl | go_simp⟩)) (fun h => Bool.noConfusion (show false = true from h)) ?_
      try simp only [List.setIfInBounds_toArray, List.set_cons_succ, List.set_cons_zero]
      refine anyL_done (by kernel_rfl) (fun nn => ?_) _
      have kw5 : Kp (fun _ => False) w5p (w5p.drewN nn) := (Kp.refl _ w5p).drewN nn
      generalize w5p.drewN nn = w5 at *
      have hll5 := hll5.kp0 kw5
      clear hSd kz0 kzz
      go_wp2_with fail
      go_meet
      obtain ⟨a5, c5, e5, _⟩ := hll5.form
      refine ⟨vs5, ?_, ⟨_, _, _, e5⟩, kk5.trans kw5⟩
      rw [H.out.2.2.2.2.2.2, ← H.out.2.2.2.1, ← H.out.2.2.2.2.1]
      simp only [if_true]
      exact hll5
  case rest =>
    obtain ⟨vs0, hll0, ⟨x0, y0, z0, rfl⟩, k1⟩ := hcut
    obtain ⟨w1, hw1⟩ : ∃ w1, w1 = wc := ⟨_, rfl⟩
    rw [← hw1] at hll0 k1 ⊢
    have h1 := H.out.1.kp0 k1
    have d2 := h1.tk.c.2.2.1
    rw [← H.out.2.2.2.2.1] at d2
    have d8 : w1.cell? ⟨o, 8, none⟩ = some (.slice ra n rc) := by rw [← H.out.2.1]; exact h1.tk.hat.cell 8
    have H1 := Lib.hid (And.intro h1 (And.intro k1 hll0))
    have hP0l : P0.length ≤ 1 := by
      rw [H.out.2.2.2.2.2.2]
      split
      · exact layP_len [] _
      · simp
    clear hw1 h1 k1 hll0 c1 c2 c7 c8
    go_wp2_with fail
    go_loopw [5, 30] (fun ov iv wr => ∃ (i : Nat) (vs' : List Value), i ≤ n ∧ iv = .int .i64 i ∧ LLs W.heap.size wr ov (rstL bo P0 (rs.take i)) vs' ∧ (∃ x y z, ov = .slice x y z) ∧ Kp (fun k => W.heap.size ≤ k) w1 wr) (fun _ iv _ => n - (intOf iv).toNat)
    case atStart => exact ⟨0, vs0, by omega, rfl, H1.out.2.2, ⟨_, _, _, rfl⟩, Kp.refl _ _⟩
    case round =>
      obtain ⟨i, vs', hi, rfl, hll, ⟨x1, y1, z1, rfl⟩, hk⟩ := hrel
      have hd := H1.out.1.kp hk (fun j hj e => by
        have h2 : j < W.heap.size := by
          rcases hj with hj | hj
          · exact H.out.1.tk.lt hj
          · exact H.out.1.own.lt j hj
        omega)
      by_cases hlt : i < n
      · have j1 : (i : Int) < n := by omega
        have hil : i < rs.length := by have := H.out.2.2.1; omega
        have hown := hd.own
        rw [H.out.2.1, ← H.out.2.2.1] at hown
        obtain ⟨b, off, ha, hc0⟩ := hown.rd i (by unfold intsV; simpa using hil)
        have hc : wr.cell? ⟨b, off + i, none⟩ = some (.int .i64 ((rs.getD i 0 : Nat) : Int)) := by
          rw [hc0]
          unfold intsV
          simp [List.getD_eq_getElem?_getD, hil]
        have e2 := hd.tk.c.2.2.1
        rw [← H.out.2.2.2.2.1] at e2
        have hsb : rs.getD i 0 ≤ 2147483647 := H.out.2.2.2.2.2.1 _ (by rw [List.getD_eq_getElem?_getD, List.getElem?_eq_getElem hil]; exact List.getElem_mem _)
        have htk : rs.take (i + 1) = rs.take i ++ [rs.getD i 0] := take_snoc rs 0 i hil
        obtain ⟨s, hs⟩ : ∃ s, s = rs.getD i 0 := ⟨_, rfl⟩
        rw [← hs] at hc hsb htk
        have hrl := rstL_len bo P0 (rs.take i)
        rw [List.length_take] at hrl
        have CL := lay_any hll (rstF bo s) none 0 ⟨by show (-9223372036854775808 ≤ (s : Int)) ∧ ((s : Int) ≤ 9223372036854775807); omega, by show (-9223372036854775808 ≤ (bo : Int)) ∧ ((bo : Int) ≤ 9223372036854775807); omega, by show (-9223372036854775808 ≤ (0 : Int)) ∧ ((0 : Int) ≤ 9223372036854775807); omega, by show (-9223372036854775808 ≤ (0 : Int)) ∧ ((0 : Int) ≤ 9223372036854775807); omega⟩ (RdB.nil wr none) (Nat.le_refl 0) (by have := hk.size; have := H1.out.2.1.size; omega) (by omega) (by show 0 ≤ _; omega)
        dsimp only [frA, rstF, List.length_nil] at CL
        have CL := Lib.hid CL
        have HX := Lib.hid (And.intro hll (And.intro hk htk))
        have HI := Lib.hid (show i + 1 ≤ n from hlt)
        subst ha
        clear hll hk htk hd hown hc0 hrl hs hil
        go_wp2_with fail
        go_at_call 76
        refine CL.out.mono ?_
        rintro e w5 ⟨v5, vs5, rfl, hll5, _, k5⟩
        obtain ⟨a5, c5, e5, _⟩ := hll5.form
        obtain ⟨n5, hn5⟩ : ∃ n, n = (layP (rstL bo P0 (rs.take i)) ⟨5, s, bo, 0, 0, []⟩).length := ⟨_, rfl⟩
        rw [← hn5] at e5
        subst e5
        have H5 := Lib.hid (And.intro hll5 k5)
        clear hn5 hll5 k5 CL
        go_wp2_with fail
        go_roundw
        case rel =>
          refine ⟨i + 1, vs5, HI.out, by go_num, ?_, ⟨_, _, _, rfl⟩, HX.out.2.1.trans (H5.out.2.mono (fun k _ e => HX.out.1.ge k e))⟩
          have e : rstL bo P0 (rs.take (i + 1)) = layP (rstL bo P0 (rs.take i)) ⟨5, s, bo, 0, 0, []⟩ := by
            rw [HX.out.2.2]
            unfold rstL
            rw [List.foldl_append]
            rfl
          rw [e]
          exact H5.out.1
        case measure =>
          have := HI.out
          simp [intOf]
          omega
      · obtain rfl : i = n := by omega
        have htk : rs.take i = rs := by rw [H.out.2.2.1, List.take_length]
        rw [htk] at hll
        have f7 := hd.tk.hat.frozen 7
        have f8 := hd.tk.hat.frozen 8
        have e7 : wr.cell? ⟨o, 7, none⟩ = some (.bool wel) := hd.tk.hat.cell 7
        have e8 : wr.cell? ⟨o, 8, none⟩ = some (.slice ra i rc) := by rw [← H.out.2.1]; exact hd.tk.hat.cell 8
        have HE := Lib.hid (And.intro hd (And.intro hll hk))
        clear hd hll hk htk hP0l d2 d8
        go_upto_region 10 with fail
        have hat2 : At ((wr.setCell ⟨o, 7, none⟩ (.bool false)).setCell ⟨o, 8, none⟩ (.slice none 0 0)) o (talkC t ++ [.bool false, .slice none 0 0]) := (HE.out.1.tk.hat.set 7 (.bool false)).set 8 (.slice none 0 0)
        have k2 : Kp (fun k => k = o) wr ((wr.setCell ⟨o, 7, none⟩ (.bool false)).setCell ⟨o, 8, none⟩ (.slice none 0 0)) := Kp.setCell (S := fun k => k = o) (Kp.setCell (S := fun k => k = o) (Kp.refl _ wr) (p := ⟨o, 7, none⟩) (fun _ => rfl) _) (p := ⟨o, 8, none⟩) (fun _ => rfl) _
        obtain ⟨w6, hw6⟩ : ∃ w6, w6 = (wr.setCell ⟨o, 7, none⟩ (.bool false)).setCell ⟨o, 8, none⟩ (.slice none 0 0) := ⟨_, rfl⟩
        rw [← hw6] at hat2 k2 ⊢
        have hol := H.out.1.tk.hat.lt
        have ht6 := HE.out.1.tk.extS hat2 k2
        have hll6 := HE.out.2.1.kpB k2 (fun k e => by have e : k = o := e; omega)
        have kW6 : Kp (fun k => k = o) W w6 := ((H1.out.2.1.mono (fun _ _ h => h.elim)).then HE.out.2.2 (fun k hk e => by omega)).trans k2
        have CD := Lib.hid (HC.out w6 _ _ (by rw [← H.out.2.2.2.2.1]; exact hll6) ⟨ht6, Own.nil w6 1, fun g hg => (by cases hg), Nat.zero_le _⟩ kW6)
        clear hw6 hat2 k2 ht6 hll6 kW6 e7 e8 f7 f8
        go_wp2_with fail
        go_at_call 75
        refine CD.out.mono ?_
        rintro e w7 ⟨v7, rfl, hq⟩
        have HQ := Lib.hid hq
        clear hq
        go_wp2_with fail
        go_ret
        exact ⟨v7, rfl, HQ.out⟩
end Go.Proofs.Ytokembhfebnjpaa
