/- The library's symMerge, where the second part has one element. -/
import Derived.Test.YtaibdkdmilhloaaQSrtS
namespace Go.Proofs.Ytaibdkdmilhloaa
open Go.RowKit Flt
set_option linter.unusedVariables false
set_option maxRecDepth 20000 in
theorem sym_last (D cap p N : Nat) (P : List Nat) (x : Nat) (U Q : List Nat) (pad : List Value) (w : World) (cm : Nat → Nat → Int) (hat : At w D (nums (P ++ U ++ x :: Q) ++ pad)) (L : Nat) (hL : L = P.length + U.length + 1 + Q.length) (hd : L ≤ 1000000) (hx : x < N) (hV : ∀ v ∈ U, v < N) (hU2 : U.length ≠ 1)
    (CM : Hid (CmOk D p N cm w)) (lt : Nat → Nat → Bool) (hlt : ∀ x y, lt x y = decide (cm x y < 0)) (hw : Wk lt) (hs : U.Pairwise (Rr lt)) (hi : ∀ u ∈ U, u < x) :
    Calls Try.prog 55 #[.slice (some ⟨D, 0, none⟩) L cap, .int .i64 (P.length : Nat), .int .i64 ((P.length + U.length : Nat) : Int), .int .i64 ((P.length + U.length + 1 : Nat) : Int), .func (.func 49) #[] #[.pointer (some ⟨p, 0, none⟩)]] w fun e w' => e = .returned (.tuple #[]) ∧ (∃ W, W.Pairwise (Rr lt) ∧ W.Perm (U ++ [x]) ∧ At w' D (nums (P ++ W ++ Q) ++ pad)) ∧ Kp (· = D) w w' := by
  obtain ⟨a, ha⟩ : ∃ a, a = P.length := ⟨_, rfl⟩
  obtain ⟨n, hn⟩ : ∃ n, n = U.length := ⟨_, rfl⟩
  obtain ⟨m, hm⟩ : ∃ m, m = a + n := ⟨_, rfl⟩
  rw [← ha, ← hn] at hL ⊢
  rw [← hn] at hU2
  rw [← hm]
  have HA := Lib.hid (And.intro ha (And.intro hn (And.intro hw (And.intro hs (And.intro hi hm)))))
  have HLT := Lib.hid hlt
  have HV := Lib.hid hV
  have HAT := Lib.hid hat
  have haL : m + 1 ≤ L := by omega
  have HL := Lib.hid hL
  have i0 : ¬ (m : Int) - (a : Int) = 1 := by omega
  have i00 : (m : Int) + 1 - (m : Int) = 1 := by omega
  have i000 : a ≤ m := by omega
  clear hat ha hn hw hs hi hlt hV hL hm hU2
  go_enter Try.func55, Try.ntmps55
  go_wp2
  go_loopw [14, 15] (fun iv jv wr => ∃ s t : Nat, s ≤ t ∧ t ≤ n ∧ iv = .int .i64 ((a + s : Nat) : Int) ∧ jv = .int .i64 ((a + t : Nat) : Int) ∧ (s = 0 ∨ lt x (U.getD (s - 1) 0) = false) ∧ (t = n ∨ lt x (U.getD t 0) = true) ∧ At wr D (nums (P ++ U ++ x :: Q) ++ pad) ∧ Kp (· = D) w wr) (fun iv jv _ => (intOf jv).toNat - (intOf iv).toNat)
  case atStart => exact ⟨0, n, by omega, Nat.le_refl _, by simp, by rw [HA.out.2.2.2.2.2], .inl rfl, .inl rfl, HAT.out, Kp.refl _ _⟩
  case round =>
    obtain ⟨s, t, hst, htn, rfl, rfl, h1, h2, hat, hk⟩ := hrel
    by_cases hlt : s < t
    · obtain ⟨c, hc⟩ : ∃ c, c = (s + t) / 2 := ⟨_, rfl⟩
      have hcn : c < n := by omega
      have hcV : c < U.length := by have := HA.out.2.1; omega
      obtain ⟨v, hv⟩ : ∃ v, v = U[c] := ⟨_, rfl⟩
      have hvN : v < N := by rw [hv]; exact HV.out _ (List.getElem_mem hcV)
      have hvd : U.getD c 0 = v := by rw [hv]; simp [List.getD_eq_getElem?_getD, hcV]
      obtain ⟨iN, hiN⟩ : ∃ iN, iN = a + s := ⟨_, rfl⟩
      obtain ⟨jN, hjN⟩ : ∃ jN, jN = a + t := ⟨_, rfl⟩
      obtain ⟨hN, hhN⟩ : ∃ hN, hN = a + c := ⟨_, rfl⟩
      have cv : wr.cell? ⟨D, hN, none⟩ = some (.int .i64 (v : Int)) := by
        rw [hat.cell, show P ++ U ++ x :: Q = (P ++ U.take c) ++ v :: (U.drop (c + 1) ++ x :: Q) by
          have e : U = U.take c ++ v :: U.drop (c + 1) := by rw [hv, ← List.drop_eq_getElem_cons hcV, List.take_append_drop]
          conv => lhs; rw [e]
          simp]
        exact nums_at _ _ _ _ _ (by rw [List.length_append, List.length_take]; have := HA.out; omega)
      have cx : wr.cell? ⟨D, m, none⟩ = some (.int .i64 (x : Int)) := by
        rw [hat.cell]
        exact nums_at (P ++ U) Q x pad m (by rw [List.length_append]; have := HA.out; omega)
      have CQ := fun n => Calls.quiet_of (n := n) (CM.out (wr.drewN n) x v (hk.drewN n) hx hvN)
      have HX := HLT.out x v
      have hma : m = a + n := HA.out.2.2.2.2.2
      have H1 := Lib.hid (And.intro hat (And.intro hk (And.intro h1 (And.intro h2 (And.intro hc hvd)))))
      have HE := Lib.hid (And.intro hiN (And.intro hjN hhN))
      have e1 : ((iN : Int) + (jN : Int)) / 2 = (hN : Int) := by omega
      have i1 : (iN : Int) < (jN : Int) := by omega
      have i2 : (hN : Int) < (L : Int) := by omega
      have i3 : (m : Int) < (L : Int) := by omega
      have i4 : iN ≤ 1000000 := by omega
      have i5 : jN ≤ 1000000 := by omega
      rw [← hiN, ← hjN]
      clear hat hk h1 h2 hvd hv hiN hjN hhN hcV hma
      generalize cm x v = z at *
      by_cases hz : z < 0
      · rw [decide_eq_true hz] at HX
        have HX' := Lib.hid HX
        clear HX
        go_upto_region 17 with fail
        go_quiet (exact CQ _)
        go_wp2
        go_roundw
        case rel =>
          obtain ⟨a1, a2, a3, a4, a5, a6⟩ := H1.out
          obtain ⟨b1, b2, b3⟩ := HE.out
          exact ⟨s, c, by omega, by omega, by rw [b1], by rw [b3], a3, .inr (by rw [a6]; exact HX'.out), a1.drewN _, a2.drewN _⟩
        case measure =>
          obtain ⟨b1, b2, b3⟩ := HE.out
          have := H1.out.2.2.2.2.1
          simp [intOf]; omega
      · rw [decide_eq_false hz] at HX
        have HX' := Lib.hid HX
        clear HX
        go_upto_region 17 with fail
        go_quiet (exact CQ _)
        go_wp2
        go_roundw
        case rel =>
          obtain ⟨a1, a2, a3, a4, a5, a6⟩ := H1.out
          obtain ⟨b1, b2, b3⟩ := HE.out
          exact ⟨c + 1, t, by omega, htn, by rw [show a + (c + 1) = hN + 1 by omega]; go_num, by rw [b2], .inr (by rw [Nat.add_sub_cancel, a6]; exact HX'.out), a4, a1.drewN _, a2.drewN _⟩
        case measure =>
          obtain ⟨b1, b2, b3⟩ := HE.out
          have := H1.out.2.2.2.2.1
          simp [intOf]; omega
    · obtain rfl : s = t := by omega
      have H1 := Lib.hid (And.intro hat (And.intro hk (And.intro h1 h2)))
      obtain ⟨iN, hiN⟩ : ∃ iN, iN = a + s := ⟨_, rfl⟩
      rw [← hiN]
      have HE := Lib.hid hiN
      have hi4 : iN ≤ 1000000 := by have := HA.out.2.2.2.2.2; omega
      clear hat hk h1 h2 hiN
      go_wp2
      go_loopw [17] (fun kv wr => ∃ r : Nat, s ≤ r ∧ r ≤ n ∧ kv = .int .i64 ((a + r : Nat) : Int) ∧ At wr D (nums (P ++ (U.take r ++ x :: U.drop r) ++ Q) ++ pad) ∧ Kp (· = D) w wr) (fun kv _ => (intOf kv).toNat)
      case atStart =>
        have h5 := HA.out
        refine ⟨n, htn, Nat.le_refl _, by rw [h5.2.2.2.2.2], ?_, H1.out.2.1⟩
        rw [List.take_of_length_le (by omega), List.drop_eq_nil_of_le (by omega)]
        have := H1.out.1
        rw [show P ++ (U ++ [x]) ++ Q = P ++ U ++ x :: Q by simp]
        exact this
      case round =>
        obtain ⟨r, hsr, hrn, rfl, hat, hk⟩ := hrel
        by_cases hlr : s < r
        · obtain ⟨r', rfl⟩ : ∃ r', r = r' + 1 := ⟨r - 1, by omega⟩
          have hrV : r' < U.length := by have := HA.out.2.1; omega
          obtain ⟨y, hy⟩ : ∃ y, y = U[r'] := ⟨_, rfl⟩
          have eV : U.drop r' = y :: U.drop (r' + 1) := by rw [hy]; exact List.drop_eq_getElem_cons hrV
          have tV : U.take (r' + 1) = U.take r' ++ [y] := by rw [hy]; exact List.take_succ_eq_append_getElem hrV
          have lV : (U.take r').length = r' := by rw [List.length_take]; omega
          rw [tV] at hat
          have eL : nums (P ++ (U.take r' ++ [y] ++ x :: U.drop (r' + 1)) ++ Q) ++ pad = nums ((P ++ U.take r') ++ y :: x :: (U.drop (r' + 1) ++ Q)) ++ pad := by simp
          rw [eL] at hat
          obtain ⟨kN, hkN⟩ : ∃ kN, kN = a + r' := ⟨_, rfl⟩
          have u1 : kN = (P ++ U.take r').length := by rw [List.length_append, lV]; have := HA.out.1; omega
          have cy : wr.cell? ⟨D, kN, none⟩ = some (.int .i64 (y : Int)) := by
            rw [hat.cell]
            exact nums_at _ _ _ _ _ u1
          have cx : wr.cell? ⟨D, kN + 1, none⟩ = some (.int .i64 (x : Int)) := by
            rw [hat.cell, show (P ++ U.take r') ++ y :: x :: (U.drop (r' + 1) ++ Q) = ((P ++ U.take r') ++ [y]) ++ x :: (U.drop (r' + 1) ++ Q) by simp]
            exact nums_at _ _ _ _ _ (by rw [List.length_append, ← u1]; rfl)
          have hf := fun i => hat.frozen i
          have HS := Lib.hid (And.intro hat (And.intro hk (And.intro u1 (And.intro eV hkN))))
          have hma : m = a + n := HA.out.2.2.2.2.2
          have i1 : (iN : Int) < (kN : Int) + 1 := by have := HE.out; omega
          have i2 : (kN : Int) + 1 < (L : Int) := by have := HE.out; omega
          have i3 : (kN : Int) < (L : Int) := by omega
          rw [show a + (r' + 1) = kN + 1 by omega]
          clear hat hk eV tV lV eL u1 hy hrV hkN hma
          go_upto_region 23 with fail
          go_region
          go_wp2
          go_roundw
          case rel =>
            have hk5 := HS.out.2.2.2.2
            refine ⟨r', by omega, by omega, by rw [hk5], ?_, ?_⟩
            · have h5 := ((HS.out.1.set (kN + 1) (.int .i64 (y : Int))).set kN (.int .i64 (x : Int))).drew
              rw [nums_swap _ _ y x pad kN HS.out.2.2.1] at h5
              rw [HS.out.2.2.2.1]
              have e6 : P ++ (U.take r' ++ x :: y :: U.drop (r' + 1)) ++ Q = (P ++ U.take r') ++ x :: y :: (U.drop (r' + 1) ++ Q) := by simp
              rw [e6]
              exact h5
            · exact ((HS.out.2.1.setCell (fun _ => rfl) _).setCell (fun _ => rfl) _).drew
          case measure => simp [intOf]
        · obtain rfl : s = r := by omega
          have q1 := Lib.hid hat
          have q2 := Lib.hid hk
          clear hat hk
          rw [show a + s = iN from HE.out.symm]
          go_wp2
          refine bodyPost_ret (results_none rfl _ _ _) rfl ?_
          obtain ⟨b1, b2, b3, b4, b5, b6⟩ := HA.out
          have hVs : U.take s ++ U.drop s = U := List.take_append_drop _ _
          have hone := one_in' b3 (x := x) (U1 := U.take s) (U2 := U.drop s) (by rw [hVs]; exact b4) (by rw [hVs]; exact b5) (by
            rcases H1.out.2.2.1 with h | h
            · subst h; exact .inl rfl
            · rcases Nat.eq_zero_or_pos s with g | g
              · subst g; exact .inl rfl
              · obtain ⟨r', rfl⟩ : ∃ r', s = r' + 1 := ⟨s - 1, by omega⟩
                have hr' : r' < U.length := by omega
                refine .inr ⟨U.take r', U[r'], List.take_succ_eq_append_getElem hr', ?_⟩
                simpa [List.getD_eq_getElem?_getD, hr'] using h) (by
            rcases H1.out.2.2.2 with h | h
            · exact .inl (List.drop_eq_nil_of_le (by omega))
            · rcases Nat.lt_or_ge s U.length with g | g
              · refine .inr ⟨U[s], U.drop (s + 1), List.drop_eq_getElem_cons g, ?_⟩
                simpa [List.getD_eq_getElem?_getD, g] using h
              · exact .inl (List.drop_eq_nil_of_le g))
          refine ⟨rfl, ⟨_, hone.1, ?_, q1.out⟩, q2.out⟩
          have := hone.2
          rwa [hVs] at this
end Go.Proofs.Ytaibdkdmilhloaa
