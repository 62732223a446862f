/- WindowWhen: the walk. (Written by wip/winwhen.py.) -/
import Derived.Deep.CutBlock
import Derived.Test.YtnapokdipelmiaaWnS
namespace Go.Proofs.Ytnapokdipelmiaa
open Go.RowKit Flt
set_option linter.unusedVariables false
set_option linter.unusedSimpArgs false
theorem leastT_mem (now : Nat) : ∀ (l : List Pk) (t : Nat), leastT now l t = t ∨ ∃ j, j < l.length ∧ leastT now l t = dueA (pk l j) now
  | [], t => .inl rfl
  | p :: r, t => by
    have e : leastT now (p :: r) t = leastT now r (min t (dueA p now)) := rfl
    rw [e]
    rcases leastT_mem now r (min t (dueA p now)) with h | ⟨j, hj, h⟩
    · by_cases h2 : t ≤ dueA p now
      · left; rw [h]; omega
      · right; exact ⟨0, by simp, by rw [h]; show min t (dueA p now) = dueA p now; omega⟩
    · right; exact ⟨j + 1, by simp; omega, by rw [h]; rfl⟩
theorem leastT_all (now : Nat) : ∀ (l : List Pk) (t j : Nat), j < l.length → leastT now l t ≤ dueA (pk l j) now
  | [], t, j, hj => absurd hj (Nat.not_lt_zero _)
  | p :: r, t, j, hj => by
    have e : leastT now (p :: r) t = leastT now r (min t (dueA p now)) := rfl
    rw [e]
    cases j with
    | zero =>
      have := leastT_le now r (min t (dueA p now))
      show _ ≤ dueA p now
      omega
    | succ j => exact leastT_all now r _ j (by simpa using hj)
theorem when_mem (x : Wn) (h0 : 0 < x.l.length) : ∃ j, j < x.l.length ∧ whenN x = dueA (pk x.l j) x.now := by
  rcases leastT_mem x.now x.l (dueA (pk x.l 0) x.now) with h | h
  · exact ⟨0, h0, h⟩
  · exact h
/-- Something is due then. -/
theorem when_due (x : Wn) (h0 : 0 < x.l.length) : ∃ j, j < x.l.length ∧ ∀ t, whenN x ≤ t → dueB (pk x.l j) t = true := by
  obtain ⟨j, hj, e⟩ := when_mem x h0
  refine ⟨j, hj, fun t ht => ?_⟩
  unfold dueB
  rw [decide_eq_true_eq]
  unfold dueA at e ⊢
  split
  · exact Nat.le_refl _
  · rename_i h; rw [if_neg h] at e; omega
theorem due_some (x x' : Wn) (h0 : 0 < x.l.length) (hl : x'.l = x.l) (t : Nat) (ht : whenN x ≤ t) : dueI (atW x' t) ≠ [] := fun e => by
  obtain ⟨j, hj, h⟩ := when_due x h0
  have h2 : j ∈ dueI (atW x' t) := by
    unfold dueI
    rw [List.mem_filter, List.mem_range]
    refine ⟨by show j < x'.l.length; rw [hl]; exact hj, ?_⟩
    show dueB (pk x'.l j) (max x'.now t) = true
    rw [hl]
    exact h _ (by omega)
  rw [e] at h2
  cases h2
/-- Nothing is due ahead of it. -/
theorem when_none (x : Wn) (nw : Nat) (hn : x.now ≤ nw) (h : nw < whenN x) : dueI (atW x (whenN x - 1)) = [] := by
  unfold dueI
  rw [List.filter_eq_nil_iff]
  intro j hj
  rw [List.mem_range] at hj
  have hj : j < x.l.length := hj
  have h1 := leastT_all x.now x.l (dueA (pk x.l 0) x.now) j hj
  have h2 : whenN x ≤ dueA (pk x.l j) x.now := h1
  show ¬ dueB (pk x.l j) (max x.now (whenN x - 1)) = true
  unfold dueB
  rw [decide_eq_true_eq]
  unfold dueA at h2 ⊢
  by_cases h3 : (pk x.l j).times = 0
  · rw [if_pos h3] at h2; omega
  · rw [if_neg h3] at h2 ⊢; omega
theorem when_bd {w : World} {g : Nat} {x : Wn} (h : WinC w g x) (h0 : 0 < x.l.length) : whenN x ≤ x.now + 60 := by
  obtain ⟨j, hj, e⟩ := when_mem x h0
  have := h.bd j hj
  rw [e]
  unfold dueA
  split <;> omega
theorem dueW_none (x : Wn) (t : Nat) (h : dueI (atW x t) = []) : (dueW (atW x t)).l = x.l := by
  unfold dueW
  rw [h, stW_nil]; rfl
theorem dueW_now (x : Wn) (t : Nat) : (dueW (atW x t)).now = max x.now t := rfl
set_option maxHeartbeats 4000000 in
set_option maxRecDepth 20000 in
theorem when_main (sz : Nat) (hs : 1 ≤ sz ∧ sz ≤ 64) (a1 : Option Addr) (n c : Nat) (l : List Ac) (hn : n = l.length) (w : World) (hr : RdA w a1 l) (hlo : longB l = false) (hc : n ≤ 140737488351232) :
    Calls Try.prog 5 #[.int .i64 (sz : Nat), .slice a1 n c] w fun e w' => e = .returned (.bool true) ∧ Below w.heap.size w w' := by
  have hn150 : n ≤ 150 := by have := (longB_no hlo).1; omega
  have HR := Lib.hid hr
  have HLB := Lib.hid hlo
  have HNL := Lib.hid hn
  clear hr hlo hn
  go_enter Try.func5, Try.ntmps5
  go_wp2_with fail
  go_at_call 8
  refine (awake_any _).mono ?_
  rintro e w1 ⟨rfl, k1⟩
  have CN := Lib.hid (new_st w1 w1 (Kp.refl _ _) sz hs)
  have HR1 := Lib.hid (HR.out.kp0 k1)
  have K1 := Lib.hid k1
  clear k1 HR
  go_wp2_with fail
  go_at_call 10
  refine CN.out.mono ?_
  rintro e w2 ⟨g, rfl, h2⟩
  have CLO := Lib.hid (long_any a1 n c l HNL.out w2 (h2.acts HR1.out) hc)
  have H2 := Lib.hid h2
  clear h2 CN
  go_wp2_with fail
  go_at_call 16
  refine CLO.out.mono ?_
  rw [HLB.out]
  rintro e w3 ⟨rfl, k3⟩
  have H3 := Lib.hid (H2.out.kp0 k3)
  clear k3 CLO H2
  go_wp2_with fail
  go_loopw [8, 9] (fun nv iv wr => ∃ (i now : Nat) (x : Wn), i ≤ n ∧ iv = .int .i64 i ∧ nv = .int .i64 now ∧ now ≤ 1048576 + 60 * i ∧ x.now ≤ now ∧ St w1 g sz (3 * i) x wr) (fun _ iv _ => n - (intOf iv).toNat)
  case atStart => exact ⟨0, 0, _, by omega, rfl, rfl, by omega, Nat.le_refl _, H3.out⟩
  case round =>
    obtain ⟨i, now, x, hi, rfl, rfl, hnow, hx0, hst⟩ := hrel
    have HST := Lib.hid hst
    by_cases hlt : i < n
    · have j1 : (i : Int) < n := by omega
      have hil : i < l.length := by have := HNL.out; omega
      have hbl := (longB_no HLB.out).2 i hil
      obtain ⟨hr, b, off, ha, c0, c1, c2, c3⟩ := hst.acts HR1.out i hil
      obtain ⟨P, hP⟩ : ∃ P, P = ac l i := ⟨_, rfl⟩
      rw [← hP] at hr c0 c1 c2 c3 hbl
      obtain ⟨k, N, T, pa, pcap, body⟩ := P
      have hr : AcR wr ⟨k, N, T, pa, pcap, body⟩ := hr
      obtain ⟨m, hm⟩ : ∃ m, m = body.length := ⟨_, rfl⟩
      dsimp only at c0 c1 c2 c3 hbl
      rw [← hm] at c3 hbl
      have HBD := Lib.hid (show RdB wr pa body from hr.2.2.2.1)
      obtain ⟨hl1, hl2, hl3, hl4⟩ := hst.len
      obtain ⟨L, hL⟩ : ∃ L, L = x.l.length := ⟨_, rfl⟩
      rw [← hL] at hl1 hl4
      have HL := Lib.hid hL
      have HM := Lib.hid hm
      clear hL hm
      subst ha
      have HK := Lib.hid (K1.out.trans hst.kp)
      clear hst hr hP
      by_cases ht0 : T < 0
      · go_wp2_with fail
        go_ret
        exact ⟨rfl, HK.out.below (fun _ _ h => h)⟩
      · by_cases ht1 : T > 1048576
        · go_wp2_with fail
          go_ret
          exact ⟨rfl, HK.out.below (fun _ _ h => h)⟩
        · obtain ⟨T, rfl⟩ := Int.eq_ofNat_of_zero_le (Int.not_lt.1 ht0)
          obtain ⟨nw, hnw⟩ : ∃ nw, nw = max now T := ⟨_, rfl⟩
          have jnw : max (now : Int) (T : Int) = (nw : Int) := by omega
          have hxn : x.now ≤ nw := by omega
          have hTB : timeB (T : Int) = true := by simp [timeB]; omega
          have hnwb : nw ≤ 1048576 + 60 * i := by omega
          have hTnw : T ≤ nw := by omega
          have hnn0 : now ≤ nw := by omega
          have HNW := Lib.hid hnw
          clear hnw jnw
          go_upto_region 13 with fail
          go_cut [8] (fun nv wx => nv = .int .i64 (nw : Nat) ∧ wr = wx)
          case first =>
            go_wp2_with fail
            all_goals go_meet
            all_goals exact ⟨congrArg (Value.int .i64) (by have := HNW.out; omega), rfl⟩
          case rest =>
          obtain ⟨rfl, rfl⟩ := hcut
          go_upto_block 2 with fail
          go_cut [8] (fun nv wx => nv = .int .i64 (nw : Nat) ∧ ∃ x', St w1 g sz (3 * i + 1) x' wx ∧ x'.now ≤ nw)
          case first =>
            by_cases k0 : k = 0
            · subst k0
              by_cases hf : L < sz
              · have C := Lib.hid (push_st HST.out (by omega) pa m pcap body HM.out HBD.out (by omega) (by rw [← HL.out]; exact hf))
                go_wp2_with fail
                go_at_call 11
                refine C.out.mono ?_
                rintro e w8 ⟨rfl, p, V', _, _, _, h8⟩
                have HS := Lib.hid (And.intro h8 (show _ ≤ nw from hxn))
                clear h8 C
                go_wp2_with fail
                go_meet
                exact ⟨rfl, _, HS.out.1, HS.out.2⟩
              · have C := Lib.hid (pushfull_st HST.out pa m pcap (by rw [← HL.out]; exact hf))
                go_wp2_with fail
                go_at_call 11
                refine C.out.mono ?_
                rintro e w8 ⟨rfl, h8⟩
                have HS := Lib.hid (And.intro (h8.mono (show 3 * i ≤ 3 * i + 1 by omega)) hxn)
                clear h8 C
                go_wp2_with fail
                go_meet
                exact ⟨rfl, _, HS.out.1, HS.out.2⟩
            · by_cases k1 : k = 1
              · subst k1
                by_cases hf : L < sz
                · have C := Lib.hid (push_st HST.out (by omega) pa m pcap body HM.out HBD.out (by omega) (by rw [← HL.out]; exact hf))
                  go_wp2_with fail
                  go_at_call 11
                  refine C.out.mono ?_
                  rintro e w8 ⟨rfl, p, V', _, _, _, h8⟩
                  have HS := Lib.hid (And.intro h8 (show _ ≤ nw from hxn))
                  clear h8 C
                  go_wp2_with fail
                  go_meet
                  exact ⟨rfl, _, HS.out.1, HS.out.2⟩
                · have C := Lib.hid (pushfull_st HST.out pa m pcap (by rw [← HL.out]; exact hf))
                  go_wp2_with fail
                  go_at_call 11
                  refine C.out.mono ?_
                  rintro e w8 ⟨rfl, h8⟩
                  have HS := Lib.hid (And.intro (h8.mono (show 3 * i ≤ 3 * i + 1 by omega)) hxn)
                  clear h8 C
                  go_wp2_with fail
                  go_meet
                  exact ⟨rfl, _, HS.out.1, HS.out.2⟩
              · by_cases k2 : k = 2
                · subst k2
                  cases hB : ackB x N T
                  · have C := Lib.hid (ackbad_st (HST.out.kp0 ((Kp.refl _ wr).drew)) N T hB)
                    go_upto_region 20 with fail
                    go_still_tail 11, (by kernel_rfl)
                    change wpList _ _ _ _ _ wr.drew
                    go_wp2_with fail
                    go_at_call 12
                    refine C.out.mono ?_
                    rintro e w8 ⟨rfl, h8⟩
                    have HS := Lib.hid (And.intro (h8.mono (show 3 * i ≤ 3 * i + 1 by omega)) hxn)
                    clear h8 C
                    go_wp2_with fail
                    go_meet
                    exact ⟨rfl, _, HS.out.1, HS.out.2⟩
                  · have C := Lib.hid (ack_st (HST.out.kp0 ((Kp.refl _ wr).drew)) (by omega) N T hB)
                    go_upto_region 20 with fail
                    go_still_tail 11, (by kernel_rfl)
                    change wpList _ _ _ _ _ wr.drew
                    go_wp2_with fail
                    go_at_call 12
                    refine C.out.mono ?_
                    rintro e w8 ⟨rfl, V', h8⟩
                    have HS := Lib.hid (And.intro (h8.mono (show 3 * i ≤ 3 * i + 1 by omega)) (show max x.now (Int.toNat (T : Int)) ≤ nw by omega))
                    clear h8 C
                    go_wp2_with fail
                    go_meet
                    exact ⟨rfl, _, HS.out.1, HS.out.2⟩
                · by_cases k3 : k = 3
                  · subst k3
                    cases hB : ackB x N T
                    · have C := Lib.hid (ackbad_st (HST.out.kp0 ((Kp.refl _ wr).drew)) N T hB)
                      go_upto_region 20 with fail
                      go_still_tail 11, (by kernel_rfl)
                      change wpList _ _ _ _ _ wr.drew
                      go_wp2_with fail
                      go_at_call 12
                      refine C.out.mono ?_
                      rintro e w8 ⟨rfl, h8⟩
                      have HS := Lib.hid (And.intro (h8.mono (show 3 * i ≤ 3 * i + 1 by omega)) hxn)
                      clear h8 C
                      go_wp2_with fail
                      go_meet
                      exact ⟨rfl, _, HS.out.1, HS.out.2⟩
                    · have C := Lib.hid (ack_st (HST.out.kp0 ((Kp.refl _ wr).drew)) (by omega) N T hB)
                      go_upto_region 20 with fail
                      go_still_tail 11, (by kernel_rfl)
                      change wpList _ _ _ _ _ wr.drew
                      go_wp2_with fail
                      go_at_call 12
                      refine C.out.mono ?_
                      rintro e w8 ⟨rfl, V', h8⟩
                      have HS := Lib.hid (And.intro (h8.mono (show 3 * i ≤ 3 * i + 1 by omega)) (show max x.now (Int.toNat (T : Int)) ≤ nw by omega))
                      clear h8 C
                      go_wp2_with fail
                      go_meet
                      exact ⟨rfl, _, HS.out.1, HS.out.2⟩
                  · by_cases k4 : k = 4
                    · subst k4
                      have C := Lib.hid (due_st HST.out (by omega) T hTB)
                      go_wp2_with fail
                      go_at_call 13
                      refine C.out.mono ?_
                      rintro e w8 ⟨v, l8, rfl, _, _, h8⟩
                      have HS := Lib.hid (And.intro h8 (show max x.now (Int.toNat (T : Int)) ≤ nw by omega))
                      clear h8 C
                      go_wp2_with fail
                      go_meet
                      exact ⟨rfl, _, HS.out.1, HS.out.2⟩
                    · skip
                      have HS := Lib.hid (And.intro (HST.out.mono (show 3 * i ≤ 3 * i + 1 by omega)) hxn)
                      go_wp2_with fail
                      go_meet
                      exact ⟨rfl, _, HS.out.1, HS.out.2⟩
          case rest =>
            clear HST HBD
            obtain ⟨rfl, x', hst', hxn'⟩ := hcut
            have hl' := hst'.len
            obtain ⟨L', hL'⟩ : ∃ L', L' = x'.l.length := ⟨_, rfl⟩
            have CO := open_st hst'
            rw [← hL'] at CO hl'
            have HL' := Lib.hid hL'
            clear hL'
            rcases Nat.eq_zero_or_pos L' with h0 | h0
            · subst h0
              have CW := Lib.hid (when_zero hst'.win HL'.out.symm)
              have CO := Lib.hid CO
              have HS := Lib.hid hst'
              clear hst'
              go_wp2_with fail
              go_at_call 18
              refine CW.out.mono ?_
              rintro e w9 ⟨rfl, rfl⟩
              clear CW
              by_cases h3 : i % 4 = 3
              · have hrem : Int.tmod (i : Int) 4 = 3 := by rw [Int.tmod_eq_emod_of_nonneg (by omega)]; omega
                go_wp2_with (go_at_call 15; refine CO.out.mono ?_; rintro e w' ⟨rfl, rfl⟩)
                go_roundw
                case rel => exact ⟨i + 1, nw, _, by omega, by go_num, rfl, by omega, hxn', HS.out.mono (by omega)⟩
                case measure => simp [intOf]; omega
              · have hrem : ¬ Int.tmod (i : Int) 4 = 3 := by rw [Int.tmod_eq_emod_of_nonneg (by omega)]; omega
                have hremb : (Int.tmod (i : Int) 4 != 3) = true := by simpa using hrem
                go_wp2_with (go_at_call 15; refine CO.out.mono ?_; rintro e w' ⟨rfl, rfl⟩)
                go_roundw
                case rel => exact ⟨i + 1, nw, _, by omega, by go_num, rfl, by omega, hxn', HS.out.mono (by omega)⟩
                case measure => simp [intOf]; omega
            · have CW := Lib.hid (when_some hst'.win (by rw [← HL'.out]; exact h0))
              have q1 : (L' : Int) > 0 := by omega
              have hwb := when_bd hst'.win (by rw [← HL'.out]; exact h0)
              have hds := due_some x' x' (by rw [← HL'.out]; exact h0) rfl
              have hds2 := fun t => due_some x' (dueW (atW x' t)) (by rw [← HL'.out]; exact h0)
              have hnn := when_none x' nw hxn'
              have hdn := dueW_none x'
              have HS := Lib.hid hst'
              obtain ⟨at_, hat⟩ : ∃ a, a = whenN x' := ⟨_, rfl⟩
              rw [← hat] at CW hwb hds hnn
              simp only [← hat] at hds2
              clear hst' hat
              go_wp2_with fail
              go_at_call 18
              refine CW.out.mono ?_
              rintro e w9 ⟨rfl, k9⟩
              have hst9 := HS.out.kp0 k9
              have CO := open_st hst9
              rw [← HL'.out] at CO
              have CO := Lib.hid CO
              have HS := Lib.hid hst9
              clear CW k9 hst9
              by_cases h3 : i % 4 = 3
              · have hrem : Int.tmod (i : Int) 4 = 3 := by rw [Int.tmod_eq_emod_of_nonneg (by omega)]; omega
                rcases Nat.lt_trichotomy nw at_ with hgt | hgt | hgt
                · have q2 : (at_ : Int) > (nw : Int) := by omega
                  have q3 : ¬ (at_ : Int) ≤ (nw : Int) := by omega
                  have q4 : (nw : Int) ≤ (at_ : Int) := by omega
                  have hnil := hnn hgt
                  have e1 : Int.toNat ((at_ : Int) - 1) = at_ - 1 := by omega
                  have C1 := due_st HS.out (by omega) ((at_ : Int) - 1) (by simp [timeB]; omega)
                  rw [e1] at C1
                  have C1 := Lib.hid C1
                  clear hnn hds e1
                  go_wp2_with (go_at_call 15; refine CO.out.mono ?_; rintro e w' ⟨rfl, rfl⟩)
                  go_at_call 13
                  refine C1.out.mono ?_
                  rintro e w10 ⟨v1, l1, rfl, ho1, ht1, h10⟩
                  have hz1 : l1.length = 0 := by rw [ht1.1, hnil]; rfl
                  obtain ⟨va1, vc1, rfl, _⟩ := ho1.form
                  rw [hz1]
                  have hne := hds2 (at_ - 1) (hdn _ hnil) at_ (by omega)
                  have C2 := due_st h10 (by omega) (at_ : Int) (by simp [timeB]; omega)
                  rw [Int.toNat_natCast] at C2
                  have C2 := Lib.hid C2
                  have hnb : max (max x'.now (at_ - 1)) at_ ≤ at_ := by omega
                  have HNE := Lib.hid (And.intro hne hnb)
                  clear ho1 ht1 h10 hz1 C1 hnil hne hnb hds2 hdn
                  go_wp2_with fail
                  go_at_call 13
                  refine C2.out.mono ?_
                  rintro e w11 ⟨v2, l2, rfl, ho2, ht2, h11⟩
                  have hz2 : 0 < l2.length := by rw [ht2.1]; exact List.length_pos_iff.2 HNE.out.1
                  obtain ⟨va2, vc2, rfl, _⟩ := ho2.form
                  obtain ⟨m2, hm2⟩ : ∃ m, m = l2.length := ⟨_, rfl⟩
                  rw [← hm2] at hz2 ⊢
                  have z2 : ¬ (m2 : Int) = 0 := by omega
                  have z3 : ((m2 : Int) == 0) = false := by simpa using z2
                  have H11 := Lib.hid h11
                  clear ho2 ht2 h11 C2 hm2
                  go_wp2_with fail
                  go_roundw
                  case rel => exact ⟨i + 1, at_, _, by omega, by go_num, rfl, by omega, HNE.out.2, H11.out.mono (by omega)⟩
                  case measure => simp [intOf]; omega
                · subst hgt
                  have q2 : ¬ (nw : Int) > (nw : Int) := by omega
                  have hne := hds nw (by omega)
                  have C2 := due_st HS.out (by omega) (nw : Int) (by simp [timeB]; omega)
                  rw [Int.toNat_natCast] at C2
                  have C2 := Lib.hid C2
                  have HNE := Lib.hid hne
                  clear hnn hds hds2 hdn hne
                  go_wp2_with (go_at_call 15; refine CO.out.mono ?_; rintro e w' ⟨rfl, rfl⟩)
                  go_at_call 13
                  refine C2.out.mono ?_
                  rintro e w11 ⟨v2, l2, rfl, ho2, ht2, h11⟩
                  have hz2 : 0 < l2.length := by rw [ht2.1]; exact List.length_pos_iff.2 HNE.out
                  obtain ⟨va2, vc2, rfl, _⟩ := ho2.form
                  obtain ⟨m2, hm2⟩ : ∃ m, m = l2.length := ⟨_, rfl⟩
                  rw [← hm2] at hz2 ⊢
                  have z2 : ¬ (m2 : Int) = 0 := by omega
                  have z3 : ((m2 : Int) == 0) = false := by simpa using z2
                  have H11 := Lib.hid h11
                  clear ho2 ht2 h11 C2 hm2
                  go_wp2_with fail
                  go_roundw
                  case rel => exact ⟨i + 1, nw, _, by omega, by go_num, rfl, by omega, (show max x'.now nw ≤ nw by omega), H11.out.mono (by omega)⟩
                  case measure => simp [intOf]; omega
                · have q3 : (at_ : Int) ≤ (nw : Int) := by omega
                  have q4 : ¬ (nw : Int) ≤ (at_ : Int) := by omega
                  have q2 : ¬ (at_ : Int) > (nw : Int) := by omega
                  have hne := hds nw (by omega)
                  have C2 := due_st HS.out (by omega) (nw : Int) (by simp [timeB]; omega)
                  rw [Int.toNat_natCast] at C2
                  have C2 := Lib.hid C2
                  have HNE := Lib.hid hne
                  clear hnn hds hds2 hdn hne
                  go_wp2_with (go_at_call 15; refine CO.out.mono ?_; rintro e w' ⟨rfl, rfl⟩)
                  go_at_call 13
                  refine C2.out.mono ?_
                  rintro e w11 ⟨v2, l2, rfl, ho2, ht2, h11⟩
                  have hz2 : 0 < l2.length := by rw [ht2.1]; exact List.length_pos_iff.2 HNE.out
                  obtain ⟨va2, vc2, rfl, _⟩ := ho2.form
                  obtain ⟨m2, hm2⟩ : ∃ m, m = l2.length := ⟨_, rfl⟩
                  rw [← hm2] at hz2 ⊢
                  have z2 : ¬ (m2 : Int) = 0 := by omega
                  have z3 : ((m2 : Int) == 0) = false := by simpa using z2
                  have H11 := Lib.hid h11
                  clear ho2 ht2 h11 C2 hm2
                  go_wp2_with fail
                  go_roundw
                  case rel => exact ⟨i + 1, nw, _, by omega, by go_num, rfl, by omega, (show max x'.now nw ≤ nw by omega), H11.out.mono (by omega)⟩
                  case measure => simp [intOf]; omega
              · have hrem : ¬ Int.tmod (i : Int) 4 = 3 := by rw [Int.tmod_eq_emod_of_nonneg (by omega)]; omega
                have hremb : (Int.tmod (i : Int) 4 != 3) = true := by simpa using hrem
                go_wp2_with (go_at_call 15; refine CO.out.mono ?_; rintro e w' ⟨rfl, rfl⟩)
                go_roundw
                case rel => exact ⟨i + 1, nw, _, by omega, by go_num, rfl, by omega, hxn', HS.out.mono (by omega)⟩
                case measure => simp [intOf]; omega
    · obtain rfl : i = n := by omega
      go_wp2_with fail
      go_ret
      exact ⟨rfl, (K1.out.trans hst.kp).below (fun _ _ h => h)⟩
set_option maxHeartbeats 2000000 in
set_option maxRecDepth 20000 in
theorem when_early (z : Int) (a1 : Option Addr) (n c : Nat) (l : List Ac) (hn : n = l.length) (w : World) (hr : RdA w a1 l) (hc : n ≤ 140737488351232) (hz : (z < 1 ∨ 64 < z) ∨ (1 ≤ z ∧ z ≤ 64 ∧ longB l = true)) :
    Calls Try.prog 5 #[.int .i64 z, .slice a1 n c] w fun e w' => e = .returned (.bool true) ∧ Below w.heap.size w w' := by
  have HR := Lib.hid (And.intro hr hn)
  clear hr hn
  go_enter Try.func5, Try.ntmps5
  go_wp2_with fail
  go_at_call 8
  refine (awake_any _).mono ?_
  rintro e w1 ⟨rfl, k1⟩
  have K1 := Lib.hid k1
  clear k1
  go_wp2_with fail
  go_at_call 10
  rcases hz with hz | ⟨z1, z2, hz⟩
  · refine (wnew_bad z _ hz).mono ?_
    rintro e w2 ⟨rfl, rfl⟩
    have CLO := Lib.hid (long_any a1 n c l HR.out.2 w1 (HR.out.1.kp0 K1.out) hc)
    go_wp2_with fail
    go_at_call 16
    refine CLO.out.mono ?_
    rintro e w3 ⟨rfl, k3⟩
    have K3 := Lib.hid k3
    clear k3 CLO
    cases hB : longB l
    · go_wp2_with fail
      go_ret
      exact ⟨rfl, (K1.out.trans K3.out).below (fun _ _ h => h)⟩
    · go_wp2_with fail
      go_ret
      exact ⟨rfl, (K1.out.trans K3.out).below (fun _ _ h => h)⟩
  · obtain ⟨s, rfl⟩ := Int.eq_ofNat_of_zero_le (show 0 ≤ z by omega)
    refine (new_st w1 w1 (Kp.refl _ _) s (by omega)).mono ?_
    rintro e w2 ⟨g, rfl, h2⟩
    have CLO := Lib.hid (long_any a1 n c l HR.out.2 w2 (h2.acts (HR.out.1.kp0 K1.out)) hc)
    have K2 := Lib.hid h2.kp
    clear h2
    go_wp2_with fail
    go_at_call 16
    refine CLO.out.mono ?_
    rw [hz]
    rintro e w3 ⟨rfl, k3⟩
    have K3 := Lib.hid k3
    clear k3 CLO
    go_wp2_with fail
    go_ret
    exact ⟨rfl, ((K1.out.trans K2.out).trans K3.out).below (fun _ _ h => h)⟩
theorem windowWhen_walk (n0 : Int) (a1 : Option Addr) (len1 cap1 : Nat) (w : World) (r0 : Rdg Try.prog w 3 [.int .i64 n0]) (r1 : Rdg Try.prog w 40 [.slice a1 len1 cap1]) :
    Calls Try.prog 5 #[.int .i64 n0, .slice a1 len1 cap1] w fun e w' => e = .returned (.bool true) ∧ Below w.heap.size w w' := by
  obtain ⟨a, l, cap, e, hr, hc, hc2⟩ := open_acs r1
  simp only [List.cons.injEq, Value.slice.injEq, and_true] at e
  obtain ⟨rfl, rfl, rfl⟩ := e
  by_cases h1 : 1 ≤ n0 ∧ n0 ≤ 64
  · cases hB : longB l
    · obtain ⟨s, rfl⟩ := Int.eq_ofNat_of_zero_le (show 0 ≤ n0 by omega)
      exact when_main s (by omega) _ _ _ l rfl w hr hB (by omega)
    · exact when_early n0 _ _ _ l rfl w hr (by omega) (.inr ⟨h1.1, h1.2, hB⟩)
  · exact when_early n0 _ _ _ l rfl w hr (by omega) (.inl (by omega))
end Go.Proofs.Ytnapokdipelmiaa
