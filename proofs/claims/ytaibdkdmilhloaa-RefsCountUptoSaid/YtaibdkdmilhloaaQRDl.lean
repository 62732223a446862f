/- The document's Dead and Lost. (Written by wip/ref20m.py.) -/
import Derived.Test.YtaibdkdmilhloaaQIdW
import Derived.Test.YtaibdkdmilhloaaQRAl
import Derived.Test.YtaibdkdmilhloaaQRunL
namespace Go.Proofs.Ytaibdkdmilhloaa
open Go.RowKit
set_option linter.unusedVariables false
set_option linter.unusedSimpArgs false
set_option maxHeartbeats 4000000 in
set_option maxRecDepth 20000 in
theorem rlost_any (am ai : Option Addr) (nm cm ni ci : Nat) (ms : List (List (List Id))) (BS : List Id) (w : World) (hnm : nm = ms.length) (hni : ni = BS.length) (hm : RdM w am ms) (hl : RdI w ai BS) (hb : nm + ni + (allI ms).length ≤ 100000) :
    Calls Try.prog 28 #[.slice am nm cm, .slice ai ni ci] w fun e w' => ∃ v, e = .returned v ∧ OwnI w' v (newL BS (allI ms)) ∧ (∀ g, v.ownBlock = some g → w.heap.size ≤ g) ∧ Kp (fun _ => False) w w' := by
  have call := fun w' (k : Kp (fun _ => False) w w') => rall_any am nm cm ms w' hnm (hm.kp0 k) (by omega)
  obtain ⟨LS, hLS⟩ : ∃ LS, LS = allI ms := ⟨_, rfl⟩
  rw [← hLS] at call hb ⊢
  have CALL := Lib.hid call
  have H := Lib.hid (And.intro hl (And.intro hni hb))
  clear hm hnm hl hni hLS call
  go_enter Try.func28, Try.ntmps28
  go_wp2_with fail
  go_at_call 45
  refine (CALL.out _ (Kp.refl _ _)).mono ?_
  rintro e w1 ⟨v1, rfl, ho1, hg1, k1⟩
  obtain ⟨laA, laC, rfl, hrd, hcA⟩ := ho1.form
  obtain ⟨NL, hNL⟩ : ∃ NL, NL = LS.length := ⟨_, rfl⟩
  rw [← hNL] at hcA hb ⊢
  obtain ⟨NB, hNB⟩ : ∃ NB, NB = ni := ⟨_, rfl⟩
  obtain ⟨baA, hbaA⟩ : ∃ baA, baA = ai := ⟨_, rfl⟩
  obtain ⟨baC, hbaC⟩ : ∃ baC, baC = ci := ⟨_, rfl⟩
  have HR1 := Lib.hid (show RdI w1 laA LS ∧ RdI w1 baA BS from ⟨hrd, by rw [hbaA]; exact H.out.1.kp0 k1⟩)
  have HN := Lib.hid (show NL = LS.length ∧ NB = BS.length from ⟨hNL, by rw [hNB]; exact H.out.2.1⟩)
  have K1 := Lib.hid k1
  have hnb : NB ≤ 100000 := by omega
  rw [← hNB, ← hbaA, ← hbaC]
  clear hNL hrd hg1 k1 ho1 hNB hbaA hbaC
  go_wp2_with fail
  go_loopw [6, 7] (fun ov iv wr => ∃ i : Nat, i ≤ NL ∧ iv = .int .i64 i ∧ OwnI wr ov (newL BS (LS.take i)) ∧ (∀ g, ov.ownBlock = some g → w1.heap.size ≤ g) ∧ Kp (fun _ => False) w1 wr) (fun _ iv _ => NL - (intOf iv).toNat)
  case atStart => exact ⟨0, by omega, rfl, by simpa [newL] using OwnI.nil w1, fun g hg => by simp [Value.ownBlock] at hg, Kp.refl _ _⟩
  case round =>
    obtain ⟨i, hi, rfl, ho, hg, hk⟩ := hrel
    have HP := Lib.hid (And.intro ho (And.intro hg hk))
    have hln : (newL BS (LS.take i)).length ≤ 100000 := by
      have := newL_len BS (LS.take i)
      rw [List.length_take] at this
      omega
    obtain ⟨oa, oc, rfl, hro, hoc⟩ := ho.form
    have HRO := Lib.hid hro
    clear ho hg hk hro
    by_cases hlt : i < NL
    · have j1 : (i : Int) < NL := by omega
      have hii : i < LS.length := by rw [← HN.out.1]; exact hlt
      obtain ⟨b, o, e1, hr⟩ := (HR1.out.1.kp0 HP.out.2.2).at' i hii
      subst e1
      have hx16 := HR1.out.1.ids.idn hii
      have hone : newL BS (LS.take (i + 1)) = if idn LS i ∈ BS ∨ idn LS i ∈ newL BS (LS.take i) then newL BS (LS.take i) else newL BS (LS.take i) ++ [idn LS i] := by
        rw [show LS.take (i + 1) = LS.take i ++ [idn LS i] from take_snoc LS [] i hii, newL_snoc]
      obtain ⟨x, hx⟩ : ∃ x, x = idn LS i := ⟨_, rfl⟩
      rw [← hx] at hr hx16 hone
      obtain ⟨OL, hOL⟩ : ∃ OL, OL = newL BS (LS.take i) := ⟨_, rfl⟩
      rw [← hOL] at HP HRO hone hln hoc ⊢
      obtain ⟨M, hM⟩ : ∃ M, M = OL.length := ⟨_, rfl⟩
      rw [← hM] at hln hoc HP ⊢
      have HL0 := fun w' (k : Kp (fun _ => False) wr w') => load_id (rangeAt_kp hr k (fun h => h)) hx16
      have INB := Lib.hid (And.intro (fun hm w' (k : Kp (fun _ => False) wr w') => in_yes baA NB baC BS HN.out.2 x hx16 hm w' ((HR1.out.2.kp0 HP.out.2.2).kp0 k) (by omega)) (fun hm w' (k : Kp (fun _ => False) wr w') => in_no baA NB baC BS HN.out.2 x hx16 hm w' ((HR1.out.2.kp0 HP.out.2.2).kp0 k) (by omega)))
      have INO := Lib.hid (And.intro (fun hm w' (k : Kp (fun _ => False) wr w') => in_yes oa M oc OL hM x hx16 hm w' (HRO.out.kp0 k) (by omega)) (fun hm w' (k : Kp (fun _ => False) wr w') => in_no oa M oc OL hM x hx16 hm w' (HRO.out.kp0 k) (by omega)))
      have hv := idV_B x
      rw [hv] at HL0 INB INO
      have HX := Lib.hid (And.intro hone (And.intro hx16 hM))
      obtain ⟨VA, hVA⟩ : ∃ VA, VA = idB x := ⟨_, rfl⟩
      rw [← hVA] at HL0 INB INO
      have HL := Lib.hid HL0
      have HL1 := Lib.hid (HL0 wr (Kp.refl _ _))
      have HVA := Lib.hid hVA
      clear hii hr hx16 hone hx hOL hM HL0 hv hVA
      by_cases hin : x ∈ BS
      · have IN := Lib.hid hin
        clear hin
        go_wp2_with (refine wpList_load_run HL1.out rfl rfl rfl ?_)
        go_at_call 46
        refine (INB.out.1 IN.out wr (Kp.refl _ _)).mono ?_
        rintro e w5 ⟨rfl, k5⟩
        have K5 := Lib.hid k5
        clear k5
        go_wp2_with fail
        go_roundw
        case rel =>
          have h1 := HX.out.1
          rw [if_pos (.inl IN.out)] at h1
          exact ⟨i + 1, by omega, by go_num, by rw [h1]; exact HP.out.1.kp0 K5.out, HP.out.2.1, HP.out.2.2.trans K5.out⟩
        case measure => simp [intOf]; omega
      · have IN := Lib.hid hin
        clear hin
        by_cases hio : x ∈ OL
        · have IO := Lib.hid hio
          clear hio
          go_wp2_with (refine wpList_load_run HL1.out rfl rfl rfl ?_)
          go_at_call 46
          refine (INB.out.2 IN.out wr (Kp.refl _ _)).mono ?_
          rintro e w5 ⟨rfl, k5⟩
          have K5 := Lib.hid k5
          have HL5 := Lib.hid (HL.out _ k5)
          clear k5
          go_wp2_with (refine wpList_wanted rfl (wp_load_run HL5.out rfl rfl ?_))
          go_at_call 46
          refine (INO.out.1 IO.out w5 K5.out).mono ?_
          rintro e w6 ⟨rfl, k6⟩
          have K6 := Lib.hid k6
          clear k6
          go_wp2_with fail
          go_roundw
          case rel =>
            have h1 := HX.out.1
            rw [if_pos (.inr IO.out)] at h1
            exact ⟨i + 1, by omega, by go_num, by rw [h1]; exact (HP.out.1.kp0 K5.out).kp0 K6.out, HP.out.2.1, (HP.out.2.2.trans K5.out).trans K6.out⟩
          case measure => simp [intOf]; omega
        · have IO := Lib.hid hio
          clear hio
          go_wp2_with (refine wpList_load_run HL1.out rfl rfl rfl ?_)
          go_at_call 46
          refine (INB.out.2 IN.out wr (Kp.refl _ _)).mono ?_
          rintro e w5 ⟨rfl, k5⟩
          have K5 := Lib.hid k5
          have HL5 := Lib.hid (HL.out _ k5)
          clear k5
          go_wp2_with (refine wpList_wanted rfl (wp_load_run HL5.out rfl rfl ?_))
          go_at_call 46
          refine (INO.out.2 IO.out w5 K5.out).mono ?_
          rintro e w6 ⟨rfl, k6⟩
          have K6 := Lib.hid k6
          have HL6 := Lib.hid (HL.out _ (K5.out.trans k6))
          have HB6 := Lib.hid (bs_one HX.out.2.1 w6)
          have ka := (Kp.refl (fun _ => False) w6).alloc (.cells (idB x) 41)
          have hat : At (w6.alloc (.cells (idB x) 41)) w6.heap.size (idW x) := At.new w6 (idW x) _
          have hop := ((HP.out.1.kp0 K5.out).kp0 k6).kp0 ka
          rw [HX.out.2.2] at hop
          obtain ⟨v10, w10, hr10, ho10, k10, hb10⟩ := hop.app (by rw [← HX.out.2.2]; omega) HX.out.2.1 hat
          rw [← HX.out.2.2] at hr10
          rw [← HVA.out] at hr10
          rw [idV_B, ← HVA.out] at HB6
          have HR10 := Lib.hid hr10
          have kq := (K5.out.trans k6).trans ka
          rw [← HX.out.2.2] at k10 hb10
          have HZ := Lib.hid (And.intro ho10 (And.intro k10 (And.intro hb10 kq)))
          clear hr10 ho10 k10 hb10 kq ka hat hop k6
          go_wp2_with (first | (refine wpList_load_run HL6.out rfl rfl rfl ?_) | (refine wpList_buildSlice_run (ps := #[(0, .agg VA)]) rfl rfl rfl (HB6.out) ?_) | (at_builtin; refine wpList_append_run _ HR10.out rfl rfl rfl rfl ?_))
          go_roundw
          case rel =>
            have h1 := HX.out.1
            rw [if_neg (fun h => h.elim IN.out IO.out)] at h1
            have hws := HP.out.2.2.size
            have hsz := HZ.out.2.2.2.size
            rw [World.size_alloc] at hsz
            refine ⟨i + 1, by omega, by go_num, by rw [h1]; exact HZ.out.1, fun g hg => ?_, ?_⟩
            · rcases HZ.out.2.2.1 with e | e
              · exact HP.out.2.1 g (e ▸ hg)
              · rw [hg, World.size_alloc] at e
                have := Option.some.inj e
                have := (K5.out.trans K6.out).size
                omega
            · exact (HP.out.2.2.trans HZ.out.2.2.2).then HZ.out.2.1 (fun j hj e => by have := HP.out.2.1 j e; omega)
          case measure => simp [intOf]; omega
    · obtain rfl : i = NL := by omega
      clear hlt hoc
      go_wp2_with fail
      go_ret
      have h1 := HP.out.1
      rw [HN.out.1, List.take_length] at h1 ⊢
      exact ⟨_, rfl, h1, fun g hg => by rw [HN.out.1, List.take_length] at HP; have := HP.out.2.1 g hg; have := K1.out.size; omega, K1.out.trans HP.out.2.2⟩
set_option maxHeartbeats 4000000 in
set_option maxRecDepth 20000 in
theorem rdead_any (ah am ai : Option Addr) (nh ch nm cm ni ci : Nat) (LS : List Id) (ms : List (List (List Id))) (l : List Id) (w : World) (hnh : nh = LS.length) (hnm : nm = ms.length) (hni : ni = l.length) (hh : RdI w ah LS) (hm : RdM w am ms) (hl : RdI w ai l) (hb : nh + nm + ni + (allI ms).length ≤ 100000) :
    Calls Try.prog 27 #[.slice ah nh ch, .slice am nm cm, .slice ai ni ci] w fun e w' => ∃ v, e = .returned v ∧ OwnI w' v (newL (allI ms ++ l) LS) ∧ (∀ g, v.ownBlock = some g → w.heap.size ≤ g) ∧ Kp (fun _ => False) w w' := by
  have CALL := Lib.hid (fun w' (k : Kp (fun _ => False) w w') => rall_any am nm cm ms w' hnm (hm.kp0 k) (by omega))
  have H := Lib.hid (And.intro hl (And.intro hni (And.intro hb (And.intro hh hnh))))
  obtain ⟨BS, hBS⟩ : ∃ BS, BS = allI ms ++ l := ⟨_, rfl⟩
  rw [← hBS]
  have HBS := Lib.hid hBS
  clear hBS
  clear hm hnm hl hni hh hnh
  go_enter Try.func27, Try.ntmps27
  go_wp2_with fail
  go_at_call 45
  refine (CALL.out _ (Kp.refl _ _)).mono ?_
  rintro e w0 ⟨v0, rfl, ho0, hg0, k0⟩
  obtain ⟨v9, w1, hr9, ho9, k9, hb9⟩ := ho0.apps (by have := H.out.2.1; omega) ci (H.out.1.kp0 k0)
  rw [← H.out.2.1] at hr9
  have HR9 := Lib.hid hr9
  have kk9 := k0.then k9 (S := fun _ => False) (fun i hi e => by have := hg0 i e; omega)
  have hbl : BS.length ≤ 100000 := by rw [HBS.out, List.length_append]; have := H.out.2.1; omega
  rw [← HBS.out] at ho9
  clear ho0 hg0 k0 hr9 k9 hb9
  obtain ⟨baA, baC, rfl, hrd, hcA⟩ := ho9.form
  obtain ⟨NB, hNB⟩ : ∃ NB, NB = BS.length := ⟨_, rfl⟩
  rw [← hNB] at hcA hbl HR9
  obtain ⟨NL, hNL⟩ : ∃ NL, NL = nh := ⟨_, rfl⟩
  obtain ⟨laA, hlaA⟩ : ∃ laA, laA = ah := ⟨_, rfl⟩
  obtain ⟨laC, hlaC⟩ : ∃ laC, laC = ch := ⟨_, rfl⟩
  have HR1 := Lib.hid (show RdI w1 laA LS ∧ RdI w1 baA BS from ⟨by rw [hlaA]; exact H.out.2.2.2.1.kp0 kk9, hrd⟩)
  have HN := Lib.hid (show NL = LS.length ∧ NB = BS.length from ⟨by rw [hNL]; exact H.out.2.2.2.2, hNB⟩)
  have K1 := Lib.hid kk9
  have hnb : NB ≤ 100000 := by omega
  have hnl : NL ≤ 100000 := by omega
  rw [← hNL, ← hlaA, ← hlaC]
  clear hNL hrd kk9 ho9 hNB hlaA hlaC hb
  go_wp2_with (at_builtin; refine wpList_append_run _ HR9.out rfl rfl rfl rfl ?_)
  clear HR9
  go_loopw [8, 9] (fun ov iv wr => ∃ i : Nat, i ≤ NL ∧ iv = .int .i64 i ∧ OwnI wr ov (newL BS (LS.take i)) ∧ (∀ g, ov.ownBlock = some g → w1.heap.size ≤ g) ∧ Kp (fun _ => False) w1 wr) (fun _ iv _ => NL - (intOf iv).toNat)
  case atStart => exact ⟨0, by omega, rfl, by simpa [newL] using OwnI.nil w1, fun g hg => by simp [Value.ownBlock] at hg, Kp.refl _ _⟩
  case round =>
    obtain ⟨i, hi, rfl, ho, hg, hk⟩ := hrel
    have HP := Lib.hid (And.intro ho (And.intro hg hk))
    have hln : (newL BS (LS.take i)).length ≤ 100000 := by
      have := newL_len BS (LS.take i)
      rw [List.length_take] at this
      omega
    obtain ⟨oa, oc, rfl, hro, hoc⟩ := ho.form
    have HRO := Lib.hid hro
    clear ho hg hk hro
    by_cases hlt : i < NL
    · have j1 : (i : Int) < NL := by omega
      have hii : i < LS.length := by rw [← HN.out.1]; exact hlt
      obtain ⟨b, o, e1, hr⟩ := (HR1.out.1.kp0 HP.out.2.2).at' i hii
      subst e1
      have hx16 := HR1.out.1.ids.idn hii
      have hone : newL BS (LS.take (i + 1)) = if idn LS i ∈ BS ∨ idn LS i ∈ newL BS (LS.take i) then newL BS (LS.take i) else newL BS (LS.take i) ++ [idn LS i] := by
        rw [show LS.take (i + 1) = LS.take i ++ [idn LS i] from take_snoc LS [] i hii, newL_snoc]
      obtain ⟨x, hx⟩ : ∃ x, x = idn LS i := ⟨_, rfl⟩
      rw [← hx] at hr hx16 hone
      obtain ⟨OL, hOL⟩ : ∃ OL, OL = newL BS (LS.take i) := ⟨_, rfl⟩
      rw [← hOL] at HP HRO hone hln hoc ⊢
      obtain ⟨M, hM⟩ : ∃ M, M = OL.length := ⟨_, rfl⟩
      rw [← hM] at hln hoc HP ⊢
      have HL0 := fun w' (k : Kp (fun _ => False) wr w') => load_id (rangeAt_kp hr k (fun h => h)) hx16
      have INB := Lib.hid (And.intro (fun hm w' (k : Kp (fun _ => False) wr w') => in_yes baA NB baC BS HN.out.2 x hx16 hm w' ((HR1.out.2.kp0 HP.out.2.2).kp0 k) (by omega)) (fun hm w' (k : Kp (fun _ => False) wr w') => in_no baA NB baC BS HN.out.2 x hx16 hm w' ((HR1.out.2.kp0 HP.out.2.2).kp0 k) (by omega)))
      have INO := Lib.hid (And.intro (fun hm w' (k : Kp (fun _ => False) wr w') => in_yes oa M oc OL hM x hx16 hm w' (HRO.out.kp0 k) (by omega)) (fun hm w' (k : Kp (fun _ => False) wr w') => in_no oa M oc OL hM x hx16 hm w' (HRO.out.kp0 k) (by omega)))
      have hv := idV_B x
      rw [hv] at HL0 INB INO
      have HX := Lib.hid (And.intro hone (And.intro hx16 hM))
      obtain ⟨VA, hVA⟩ : ∃ VA, VA = idB x := ⟨_, rfl⟩
      rw [← hVA] at HL0 INB INO
      have HL := Lib.hid HL0
      have HL1 := Lib.hid (HL0 wr (Kp.refl _ _))
      have HVA := Lib.hid hVA
      clear hii hr hx16 hone hx hOL hM HL0 hv hVA
      by_cases hin : x ∈ BS
      · have IN := Lib.hid hin
        clear hin
        go_wp2_with (refine wpList_load_run HL1.out rfl rfl rfl ?_)
        go_at_call 46
        refine (INB.out.1 IN.out wr (Kp.refl _ _)).mono ?_
        rintro e w5 ⟨rfl, k5⟩
        have K5 := Lib.hid k5
        clear k5
        go_wp2_with fail
        go_roundw
        case rel =>
          have h1 := HX.out.1
          rw [if_pos (.inl IN.out)] at h1
          exact ⟨i + 1, by omega, by go_num, by rw [h1]; exact HP.out.1.kp0 K5.out, HP.out.2.1, HP.out.2.2.trans K5.out⟩
        case measure => simp [intOf]; omega
      · have IN := Lib.hid hin
        clear hin
        by_cases hio : x ∈ OL
        · have IO := Lib.hid hio
          clear hio
          go_wp2_with (refine wpList_load_run HL1.out rfl rfl rfl ?_)
          go_at_call 46
          refine (INB.out.2 IN.out wr (Kp.refl _ _)).mono ?_
          rintro e w5 ⟨rfl, k5⟩
          have K5 := Lib.hid k5
          have HL5 := Lib.hid (HL.out _ k5)
          clear k5
          go_wp2_with (refine wpList_wanted rfl (wp_load_run HL5.out rfl rfl ?_))
          go_at_call 46
          refine (INO.out.1 IO.out w5 K5.out).mono ?_
          rintro e w6 ⟨rfl, k6⟩
          have K6 := Lib.hid k6
          clear k6
          go_wp2_with fail
          go_roundw
          case rel =>
            have h1 := HX.out.1
            rw [if_pos (.inr IO.out)] at h1
            exact ⟨i + 1, by omega, by go_num, by rw [h1]; exact (HP.out.1.kp0 K5.out).kp0 K6.out, HP.out.2.1, (HP.out.2.2.trans K5.out).trans K6.out⟩
          case measure => simp [intOf]; omega
        · have IO := Lib.hid hio
          clear hio
          go_wp2_with (refine wpList_load_run HL1.out rfl rfl rfl ?_)
          go_at_call 46
          refine (INB.out.2 IN.out wr (Kp.refl _ _)).mono ?_
          rintro e w5 ⟨rfl, k5⟩
          have K5 := Lib.hid k5
          have HL5 := Lib.hid (HL.out _ k5)
          clear k5
          go_wp2_with (refine wpList_wanted rfl (wp_load_run HL5.out rfl rfl ?_))
          go_at_call 46
          refine (INO.out.2 IO.out w5 K5.out).mono ?_
          rintro e w6 ⟨rfl, k6⟩
          have K6 := Lib.hid k6
          have HL6 := Lib.hid (HL.out _ (K5.out.trans k6))
          have HB6 := Lib.hid (bs_one HX.out.2.1 w6)
          have ka := (Kp.refl (fun _ => False) w6).alloc (.cells (idB x) 41)
          have hat : At (w6.alloc (.cells (idB x) 41)) w6.heap.size (idW x) := At.new w6 (idW x) _
          have hop := ((HP.out.1.kp0 K5.out).kp0 k6).kp0 ka
          rw [HX.out.2.2] at hop
          obtain ⟨v10, w10, hr10, ho10, k10, hb10⟩ := hop.app (by rw [← HX.out.2.2]; omega) HX.out.2.1 hat
          rw [← HX.out.2.2] at hr10
          rw [← HVA.out] at hr10
          rw [idV_B, ← HVA.out] at HB6
          have HR10 := Lib.hid hr10
          have kq := (K5.out.trans k6).trans ka
          rw [← HX.out.2.2] at k10 hb10
          have HZ := Lib.hid (And.intro ho10 (And.intro k10 (And.intro hb10 kq)))
          clear hr10 ho10 k10 hb10 kq ka hat hop k6
          go_wp2_with (first | (refine wpList_load_run HL6.out rfl rfl rfl ?_) | (refine wpList_buildSlice_run (ps := #[(0, .agg VA)]) rfl rfl rfl (HB6.out) ?_) | (at_builtin; refine wpList_append_run _ HR10.out rfl rfl rfl rfl ?_))
          go_roundw
          case rel =>
            have h1 := HX.out.1
            rw [if_neg (fun h => h.elim IN.out IO.out)] at h1
            have hws := HP.out.2.2.size
            have hsz := HZ.out.2.2.2.size
            rw [World.size_alloc] at hsz
            refine ⟨i + 1, by omega, by go_num, by rw [h1]; exact HZ.out.1, fun g hg => ?_, ?_⟩
            · rcases HZ.out.2.2.1 with e | e
              · exact HP.out.2.1 g (e ▸ hg)
              · rw [hg, World.size_alloc] at e
                have := Option.some.inj e
                have := (K5.out.trans K6.out).size
                omega
            · exact (HP.out.2.2.trans HZ.out.2.2.2).then HZ.out.2.1 (fun j hj e => by have := HP.out.2.1 j e; omega)
          case measure => simp [intOf]; omega
    · obtain rfl : i = NL := by omega
      clear hlt hoc
      go_wp2_with fail
      go_ret
      have h1 := HP.out.1
      rw [HN.out.1, List.take_length] at h1 ⊢
      exact ⟨_, rfl, h1, fun g hg => by rw [HN.out.1, List.take_length] at HP; have := HP.out.2.1 g hg; have := K1.out.size; omega, K1.out.trans HP.out.2.2⟩
end Go.Proofs.Ytaibdkdmilhloaa
