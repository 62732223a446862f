/- Package refs: Count. (Written by wip/ref20i.py.) -/
import Derived.Test.YtaibdkdmilhloaaQCntA
import Derived.Test.YtaibdkdmilhloaaQRegL
namespace Go.Proofs.Ytaibdkdmilhloaa
open Go.RowKit Go.Maps
set_option linter.unusedVariables false
set_option linter.unusedSimpArgs false
attribute [local go_sem] Oper.semAt_some
set_option maxHeartbeats 4000000 in
set_option maxRecDepth 20000 in
theorem count_any (a : Option Addr) (n c : Nat) (ms : List (List (List Id))) (w : World) (hn : n = ms.length) (hm : RdM w a ms) (hb : n + (allI ms).length ≤ 100000) :
    Calls Try.prog 18 #[.slice a n c] w fun e w' => ∃ v, e = .returned v ∧ OwnN w' v (cntL (allI ms)) ∧ (∀ g, v.ownBlock = some g → w.heap.size ≤ g) ∧ Kp (fun _ => False) w w' := by
  have hmm := @run_makeMap Try.prog
  obtain ⟨ZA, hz16, hZ⟩ := id_zero
  have HM := Lib.hid (And.intro hm (And.intro hn hb))
  have HZ := Lib.hid hz16
  clear hm hn hb hz16
  refine (callsIn_wide (n := 5)).1 ?_
  refine callsIn_of_wp_marks Try.func18 rfl trivial ?_ rfl
  simp only [Try.ntmps18, List.size_toArray, List.length_cons, List.length_nil, Nat.reduceAdd, Nat.reduceSub, Array.replicate_succ, Array.replicate_zero, List.push_toArray, List.append_toArray, List.nil_append, List.cons_append]
  refine wpIn_wide.2 ?_
  go_upto_region 3 with fail
  refine wp_world (fun wx => CntI wx w.heap.size 0 [] ∧ At wx (w.heap.size + 1) [.map (some w.heap.size)] ∧ At wx (w.heap.size + 2) [.slice none 0 0] ∧ Kp (fun _ => False) w wx) ?_ ?_
  · have k1 := (Kp.refl (fun _ => False) w).alloc (.map #[] 0)
    have h2 := At.new (w.alloc (.map #[] 0)) [.map (some w.heap.size)] 72
    rw [World.size_alloc] at h2
    have h3 := At.new ((w.alloc (.map #[] 0)).alloc (.cells #[.map (some w.heap.size)] 72)) [.slice none 0 0] 34
    rw [World.size_alloc, World.size_alloc] at h3
    exact ⟨((CntI.made w).kp ((Kp.refl (fun _ => False) _).alloc _) (fun h => h)).kp ((Kp.refl (fun _ => False) _).alloc _) (fun h => h), h2.alloc _, h3, (k1.alloc _).alloc _⟩
  rintro w2 ⟨s2, v2, o2, k2⟩
  obtain ⟨mb, hmb⟩ : ∃ mb, mb = w.heap.size := ⟨_, rfl⟩
  rw [← hmb] at s2 v2 o2 ⊢
  obtain ⟨mv, hmv⟩ : ∃ mv, mv = mb + 1 := ⟨_, rfl⟩
  rw [← hmv] at v2 ⊢
  have o2 : At w2 (mv + 1) [.slice none 0 0] := by rw [hmv]; exact o2
  obtain ⟨ov, hov⟩ : ∃ ov, ov = mv + 1 := ⟨_, rfl⟩
  rw [← hov] at o2 ⊢
  have H2 := Lib.hid (And.intro s2 (And.intro v2 (And.intro o2 (And.intro k2 (show mb = w.heap.size ∧ mv = mb + 1 ∧ ov = mv + 1 from ⟨hmb, hmv, hov⟩)))))
  have hne1 : mb ≠ mv := by omega
  have hne2 : mb ≠ ov := by omega
  have hne3 : mv ≠ ov := by omega
  clear s2 v2 o2 k2 hmb hmv hov hmm
  go_wp2_with fail
  go_at_call 42
  refine (named_any' w a n c ms HM.out.2.1 (by have := HM.out.2.2; omega) w2 HM.out.1).mono ?_
  rintro e w3 ⟨gf1, lb1, rfl, en1, gv1, hat1, k3⟩
  obtain ⟨bN, hbN⟩ : ∃ bN, bN = w2.heap.size := ⟨_, rfl⟩
  rw [← hbN] at gv1 hat1
  have HI1 := Lib.hid (And.intro HM.out.1.ids (And.intro en1 (And.intro gv1 (And.intro hat1 (show bN = w2.heap.size from hbN)))))
  have H3 := Lib.hid (show CntI w3 mb 0 [] ∧ At w3 mv [.map (some mb)] ∧ At w3 ov [.slice none 0 0] ∧ Kp (fun _ => False) w2 w3 from ⟨H2.out.1.kp k3 (fun h => h), k3.at H2.out.2.1 (fun h => h), k3.at H2.out.2.2.1 (fun h => h), k3⟩)
  clear en1 gv1 k3 hat1 hbN
  go_wp2
  refine (wpIn_wide (n := 5)).1 ?_
  refine wpIn_rngA (S := fun _ => False) rfl (by omega) (gf := gf1) (lb := lb1) rfl trivial HI1.out.2.1
    (HI1.out.2.2.1 4 (by omega)) (fun h => h) (fun i hi => hi.elim) (fun _ => rfl)
    (fun pre W => CoR w3 mb mv ov pre W) (fun c pre W => False)
    ?hI (fun _ _ _ _ h _ => h) ?hT (fun _ _ _ h _ => h) (fun s A A' h k => h.kp k (fun h => h) (fun _ _ _ h => h) (fun _ _ h => h)) (fun c s A A' h k => h) ?h0 ?hT0
    (fun x W a' W2 => a' = { tmps := #[.slice a n c, undef, .slice none 0 0, .pointer (some ⟨mv, 0, none⟩), .pointer (some ⟨ov, 0, none⟩), .pointer (some ⟨W.heap.size, 0, none⟩), undef, undef, undef, .map (some mb), .slice a n c, .func (.func gf1) #[] lb1, idV x, undef, undef, undef, undef, undef, undef, undef, undef, undef, undef, undef, undef, undef, undef, undef, undef, undef, undef, undef, undef, undef, undef, undef, undef, undef, undef, undef, undef, undef, undef], defers := [] } ∧ x.length = 16 ∧ W2 = W.alloc (.cells (idB x) 41)) ?hBk ?hIK ?hTK ?assign ?body ?done ?stop
  case hI =>
    rintro pre A A' h k
    exact h.kp k (fun e => by have := e.1; have := H3.out.1.lt; omega) (fun b cs h => NC.not h) (fun i hi e => by have := e.1; omega)
  case hT =>
    rintro pre A A' h k
    have hbn := HI1.out.2.2.2.1.lt
    have hws := H2.out.2.2.2.1.size
    have hw3 := H3.out.2.2.2.size
    exact ⟨ge_kp h.1 k (fun i e => by have := e.1; omega), k.cell h.2 (fun e => by have h1 : w3.heap.size ≤ bN := e.1; omega)⟩
  case h0 => exact ⟨H3.out.1, H3.out.2.1, _, OwnI.nil _, H3.out.2.2.1, fun g hg => by simp [Value.ownBlock] at hg, Kp.refl _ _⟩
  case hT0 => exact ⟨(H2.out.2.2.2.1.trans H3.out.2.2.2).mono (fun _ _ h => h.elim), HI1.out.2.2.2.1.cell 0⟩
  case hBk =>
    rintro x A A' a' ⟨_, _, rfl⟩
    exact (Kp.refl _ A).alloc _
  case hIK => exact fun s A A' h k => h.kp k (fun h => h) (fun _ _ _ h => h) (fun _ _ h => h)
  case hTK => exact fun s A A' h k => h.kp0 k
  case assign =>
    intro yl x W K hx hK
    have hx16 := HI1.out.1 x hx
    have HS2 := Lib.hid (store_new hx16 HZ.out W)
    have hv := idV_B x
    have HK := Lib.hid hK
    rw [hv] at HS2 ⊢
    clear hK
    gi_wp2_with (refine wpListIn_store_run HS2.out rfl rfl rfl rfl ?_)
    exact HK.out _ _ ⟨by rw [hv], hx16, rfl⟩
  case stop =>
    rintro D c pre W hD hpre h
    exact h.elim
  case done =>
    rintro D W hD ⟨hs, hm, vo, ho, ha, hg, hk⟩ ht hd
    have co := (ha.cell 0).trans (show _ = some vo from rfl)
    have HR := Lib.hid (And.intro hs (And.intro hm (And.intro ho (And.intro hg (And.intro hk hd)))))
    have hln : (newL [] (allI ms)).length ≤ 100000 := by have := newL_len [] (allI ms); have := HM.out.2.2; omega
    obtain ⟨A, c', rfl, hrd, _⟩ := ho.form
    clear hs hm ho ha hg hk ht hd
    have HA := Lib.hid hrd
    clear hrd
    obtain ⟨AL, hAL⟩ : ∃ AL, AL = newL [] (allI ms) := ⟨_, rfl⟩
    rw [← hAL] at co HR HA hln
    have HAL := Lib.hid hAL
    clear hAL
    obtain ⟨LN, hLN⟩ : ∃ LN, LN = AL.length := ⟨_, rfl⟩
    rw [← hLN] at co HR hln
    have HLN := Lib.hid hLN
    clear hLN
    go_wp2
    go_loopw [6, 29] (fun ov iv wr => ∃ i : Nat, i ≤ LN ∧ iv = .int .i64 i ∧ OwnN wr ov ((AL.take i).map (fun x => (x, (allI ms).count x))) ∧ (∀ g, ov.ownBlock = some g → W.heap.size ≤ g) ∧ Kp (fun _ => False) W wr ∧ wr.heap[D]? = some (.deferred (some []))) (fun _ iv _ => LN - (intOf iv).toNat)
    case atStart => exact ⟨0, by omega, rfl, by rw [List.take_zero]; exact OwnN.nil _, fun g hg => by simp [Value.ownBlock] at hg, Kp.refl _ _, HR.out.2.2.2.2.2⟩
    case round =>
      obtain ⟨i, hi, rfl, hon, hgn, hk, hdw⟩ := hrel
      by_cases hlt : i < LN
      · have j1 : (i : Int) < LN := by omega
        have hki : i < AL.length := by rw [← HLN.out]; exact hlt
        obtain ⟨b, off, rfl, hr⟩ := (HA.out.kp0 hk).at' i hki
        have hx16 := HA.out.ids.idn hki
        have htk : AL.take (i + 1) = AL.take i ++ [idn AL i] := take_snoc AL [] i hki
        obtain ⟨x, hx⟩ : ∃ x, x = idn AL i := ⟨_, rfl⟩
        rw [← hx] at hr hx16 htk
        have HL1 := Lib.hid (load_id hr hx16)
        have HS2 := Lib.hid (store_new hx16 HZ.out wr)
        have HP := Lib.hid (And.intro htk (And.intro hx16 (And.intro hon (And.intro hgn hk))))
        have HDW := Lib.hid hdw
        clear hki hx hr htk hon hk hgn hdw
        have hv := idV_B x
        rw [hv] at HL1 HS2
        have HV := Lib.hid hv
        clear hv
        obtain ⟨VA, hVA⟩ : ∃ VA, VA = idB x := ⟨_, rfl⟩
        rw [← hVA] at HL1 HS2
        have HVA := Lib.hid hVA
        clear hVA
        go_upto_region 12 with (first | (refine wpList_load_run HL1.out rfl rfl rfl ?_) | (refine wpList_store_run HS2.out rfl rfl rfl rfl ?_))
        refine wp_world (fun wx => At wx wr.heap.size (idW x) ∧ Kp (fun _ => False) wr wx) ?_ ?_
        · rw [HVA.out]
          exact ⟨At.new wr (idW x) _, (Kp.refl _ wr).alloc _⟩
        rintro w8 ⟨hat8, k8⟩
        obtain ⟨bq, hbq⟩ : ∃ bq, bq = wr.heap.size := ⟨_, rfl⟩
        rw [← hbq] at hat8 ⊢
        have kW8 := HP.out.2.2.2.2.trans k8
        have HS8 := Lib.hid (show At w8.drew bq (idW x) ∧ At w8.drew mv [.map (some mb)] ∧ CntI w8.drew mb (allI ms).length (allI ms) from ⟨(Kp.refl (fun _ => False) w8).drew.at hat8 (fun h => h), (kW8.drew).at HR.out.2.1 (fun h => h), HR.out.1.kp kW8.drew (fun h => h)⟩)
        have K8 := Lib.hid (And.intro hbq k8)
        clear hat8 k8 hbq kW8
        have hx16 := HP.out.2.1
        have HLD := Lib.hid (fun (w' : World) (k : At w' bq (idW x)) => load_id (o := 0) (at_range (pre := []) (post := []) (by simpa using k)) hx16)
        have HLK := Lib.hid (fun (w' : World) (h : CntI w' mb (allI ms).length (allI ms)) => h.look hx16)
        obtain ⟨cnt, hcnt⟩ : ∃ cnt, cnt = (allI ms).count x := ⟨_, rfl⟩
        rw [← hcnt] at HLK
        have HCT := Lib.hid hcnt
        have HBD := Lib.hid (fun (w' : World) => build_nmd hx16 cnt w')
        have HBS := Lib.hid (fun (w' : World) => bs_nmd (x := (x, cnt)) hx16 w')
        have HNB0 : ∃ NB, NB = (nmW (x, cnt)).toArray := ⟨_, rfl⟩
        obtain ⟨NB, hNB⟩ := HNB0
        have hnv : nmV (x, cnt) = .agg NB := by rw [hNB]; rfl
        rw [hnv] at HBD HBS
        rw [← hNB] at HBS
        have HNB := Lib.hid (show (nmW (x, cnt)).toArray = NB from hNB.symm)
        rw [HV.out, ← HVA.out] at HLD HLK HBD
        clear hcnt hNB hnv hx16
        refine region_N (S := fun w' => At w' bq (idW x) ∧ At w' mv [.map (some mb)] ∧ CntI w' mb (allI ms).length (allI ms)) [] rfl ?_
        have hSd : ∀ (w' : World) (n' : Nat), (At w' bq (idW x) ∧ At w' mv [.map (some mb)] ∧ CntI w' mb (allI ms).length (allI ms)) → (At (w'.drewN n') bq (idW x) ∧ At (w'.drewN n') mv [.map (some mb)] ∧ CntI (w'.drewN n') mb (allI ms).length (allI ms)) := fun w' n' h => by
          have kd := (Kp.refl (fun _ => False) w').drewN n'
          exact ⟨kd.at h.1 (fun h => h), kd.at h.2.1 (fun h => h), h.2.2.kp kd (fun h => h)⟩
        have hS1 : At w8.drew bq (idW x) ∧ At w8.drew mv [.map (some mb)] ∧ CntI w8.drew mb (allI ms).length (allI ms) := HS8.out
        refine anyL_takeF (i := 0) (d := 33) (v := u6) rfl rfl (by kernel_rfl) (by kernel_rfl) (by kernel_rfl) (fun _ _ _ h => h) hSd (by kernel_rfl) (.inl (.inl ⟨rfl, fun w' hS => rfl⟩)) (fun _ => hS1) ?_
        try simp only [List.setIfInBounds_toArray, List.set_cons_succ, List.set_cons_zero]
        refine anyL_takeD (i := 1) (d := 34) (v := (.agg VA)) rfl rfl (by kernel_rfl) (by kernel_rfl) (by kernel_rfl) (fun _ _ _ h => h) hSd (by kernel_rfl) (.inl (.inl ⟨rfl, fun w' hS => exec_load rfl rfl (HLD.out w' hS.1)⟩)) hS1 ?_
        try simp only [List.setIfInBounds_toArray, List.set_cons_succ, List.set_cons_zero]
        refine anyL_takeD (i := 2) (d := 35) (v := (.map (some mb))) rfl rfl (by kernel_rfl) (by kernel_rfl) (by kernel_rfl) (fun _ _ _ h => h) hSd (by kernel_rfl) (.inl (.inl ⟨rfl, fun w' hS => by have hc := (hS.2.1.cell 0).trans (show _ = some (.map (some mb)) from rfl); go_simp⟩)) hS1 ?_
        try simp only [List.setIfInBounds_toArray, List.set_cons_succ, List.set_cons_zero]
        refine anyL_takeD (i := 3) (d := 36) (v := (.agg VA)) rfl rfl (by kernel_rfl) (by kernel_rfl) (by kernel_rfl) (fun _ _ _ h => h) hSd (by kernel_rfl) (.inl (.inl ⟨rfl, fun w' hS => exec_load rfl rfl (HLD.out w' hS.1)⟩)) hS1 ?_
        try simp only [List.setIfInBounds_toArray, List.set_cons_succ, List.set_cons_zero]
        refine anyL_takeD (i := 4) (d := 37) (v := (.int .i64 (cnt : Nat))) rfl rfl (by kernel_rfl) (by kernel_rfl) (by kernel_rfl) (fun _ _ _ h => h) hSd (by kernel_rfl) (.inl (.inl ⟨rfl, fun w' hS => exec_lookup rfl rfl rfl (HLK.out w' hS.2.2)⟩)) hS1 ?_
        try simp only [List.setIfInBounds_toArray, List.set_cons_succ, List.set_cons_zero]
        refine anyL_takeF (i := 5) (d := 38) (v := (.agg NB)) rfl rfl (by kernel_rfl) (by kernel_rfl) (by kernel_rfl) (fun _ _ _ h => h) hSd (by kernel_rfl) (.inl (.inl ⟨rfl, fun w' hS => exec_build rfl rfl (HBD.out w')⟩)) (fun _ => hS1) ?_
        try simp only [List.setIfInBounds_toArray, List.set_cons_succ, List.set_cons_zero]
        refine anyL_all (rs := [6]) (by kernel_rfl) (by simp) ?_
        intro m6 i hi
        simp only [List.mem_cons, List.not_mem_nil, or_false] at hi
        obtain rfl := hi
        refine wpOp_of rfl rfl ?_
        have k9 : Kp (fun _ => False) w8.drew ((w8.drew.drewN m6).alloc (.cells NB 43)) := ((Kp.refl (fun _ => False) w8.drew).drewN m6).alloc _
        have hS9 := (show At ((w8.drew.drewN m6).alloc (.cells NB 43)) bq (idW x) ∧ At ((w8.drew.drewN m6).alloc (.cells NB 43)) mv [.map (some mb)] ∧ CntI ((w8.drew.drewN m6).alloc (.cells NB 43)) mb (allI ms).length (allI ms) from ⟨k9.at hS1.1 (fun h => h), k9.at hS1.2.1 (fun h => h), hS1.2.2.kp k9 (fun h => h)⟩)
        refine wp_buildSlice_run (ps := #[(0, .agg NB)]) rfl rfl (HBS.out (w8.drew.drewN m6)) ?_
        refine ⟨fun _ => hS9, ?_⟩
        dsimp only [Act.put, List.getElem_toArray, List.getElem_cons_succ, List.getElem_cons_zero]
        try simp only [List.setIfInBounds_toArray, List.set_cons_succ, List.set_cons_zero]
        replace k9 := (Kp.refl (fun _ => False) w8).drew.trans k9
        have hat9 : At ((w8.drew.drewN m6).alloc (.cells NB 43)) (w8.drew.drewN m6).heap.size (nmW (x, cnt)) := by rw [← HNB.out]; exact At.new (w8.drew.drewN m6) (nmW (x, cnt)) _
        have hb9 : w8.heap.size ≤ (w8.drew.drewN m6).heap.size := ((Kp.refl (fun _ => False) w8).drew.drewN m6).size
        generalize (w8.drew.drewN m6).heap.size = b9 at *
        generalize (w8.drew.drewN m6).alloc (.cells NB 43) = w9 at *
        refine anyL_all (rs := [7]) (by kernel_rfl) (by simp) ?_
        intro m7 i hi
        simp only [List.mem_cons, List.not_mem_nil, or_false] at hi
        obtain rfl := hi
        refine wpOp_of rfl rfl ?_
        have kd7 := (Kp.refl (fun _ => False) w9).drewN m7
        obtain ⟨v10, w10, hr10, ho10, k10, hb10⟩ := (((HP.out.2.2.1.kp0 K8.out.2).kp0 k9).kp0 kd7).app (by rw [List.length_map, List.length_take]; omega) HP.out.2.1 (bx := b9) (x := (x, cnt)) (kd7.at hat9 (fun h => h))
        have hS10 : At w10 bq (idW x) ∧ At w10 mv [.map (some mb)] ∧ CntI w10 mb (allI ms).length (allI ms) := by
          have hd9 := hSd _ m7 hS9
          have hvb : ∀ g, u6.ownBlock = some g → W.heap.size ≤ g ∧ g < bq := fun g hg => by
            have h1 := HP.out.2.2.2.1 g hg
            obtain ⟨cs, hc⟩ := HP.out.2.2.1.own.at' hg
            have h2 := hc.lt
            have h3 := K8.out.1
            omega
          have hmvW := HR.out.2.1.lt
          have hmbW := HR.out.1.lt
          exact ⟨k10.at hd9.1 (fun e => by have := (hvb _ e).2; omega), k10.at hd9.2.1 (fun e => by have := (hvb _ e).1; omega), hd9.2.2.kp k10 (fun e => by have := (hvb _ e).1; omega)⟩
        refine wp_append_run hr10 rfl rfl rfl ?_
        refine ⟨fun _ => hS10, ?_⟩
        dsimp only [Act.put, List.getElem_toArray, List.getElem_cons_succ, List.getElem_cons_zero]
        try simp only [List.setIfInBounds_toArray, List.set_cons_succ, List.set_cons_zero]
        refine anyL_takeF (i := 8) (d := 6) (v := v10) rfl rfl (by kernel_rfl) (by kernel_rfl) (by kernel_rfl) (fun _ _ _ h => h) hSd (by kernel_rfl) (.inl (.inl ⟨rfl, fun w' hS => rfl⟩)) (fun _ => hS10) ?_
        try simp only [List.setIfInBounds_toArray, List.set_cons_succ, List.set_cons_zero]
        refine anyL_done (by kernel_rfl) (fun nn => ?_) _
        have kE := ((((K8.out.2.trans k9).trans kd7).mono (fun _ _ h => h.elim)).then k10 (S := fun j => u6.ownBlock = some j) (fun j hj e => e)).drewN nn
        have ho11 := ho10.kp0 ((Kp.refl (fun _ => False) w10).drewN nn)
        have hw8 := K8.out.2.size
        have hw9 := k9.size
        have hWr := HP.out.2.2.2.2.size
        have hgB : ∀ g, v10.ownBlock = some g → W.heap.size ≤ g := fun g hg => by
          rcases hb10 with h | h
          · exact HP.out.2.2.2.1 g (h ▸ hg)
          · rw [hg] at h
            have h := Option.some.inj h
            have := kd7.size
            omega
        have hd11 : (w10.drewN nn).heap[D]? = some (.deferred (some [])) := (kE.block D (Array.getElem?_eq_some_iff.1 HDW.out).1 (fun e => by
          obtain ⟨cs, T, hc⟩ := HP.out.2.2.1.own.at' e
          rw [HDW.out] at hc; cases hc)).trans HDW.out
        have hk11 := HP.out.2.2.2.2.then kE (fun j hj e => by have := HP.out.2.2.2.1 j e; omega)
        generalize w10.drewN nn = w11 at *
        have HE := Lib.hid (And.intro ho11 (And.intro hgB (And.intro hk11 hd11)))
        clear ho11 hgB hk11 hd11 kE hr10 ho10 k10 hb10 kd7 k9 hat9 hS1 hSd hS9 hS10
        dsimp only [onlyN]
        go_wp2
        go_roundw
        case rel =>
          refine ⟨i + 1, by omega, by go_num, ?_, HE.out.2.1, HE.out.2.2.1, HE.out.2.2.2⟩
          rw [HP.out.1, List.map_append, List.map_singleton, ← HCT.out]
          exact HE.out.1
        case measure => simp [intOf]; omega
      · obtain rfl : i = LN := by omega
        have HZ2 := Lib.hid (And.intro hon (And.intro hgn hk))
        clear hon hgn hk
        go_wp2
        have kx := Kp.putNC hD hdw rfl (.deferred none)
        refine ⟨by simp, .inl ⟨_, _, rfl, run_takeDeferred hdw, ?_⟩⟩
        have hws3 := H2.out.2.2.2.1.size
        have hw23 := H3.out.2.2.2.size
        have hw3W := HR.out.2.2.2.2.1.size
        have hWr := HZ2.out.2.2.size
        have e7 := H2.out.2.2.2.2
        refine ⟨_, results_tmp rfl _ _ _, u6, rfl, ?_, fun g hg => by have := HZ2.out.2.1 g hg; omega, ?_⟩
        · have h := HZ2.out.1.kp kx (fun g hg => HZ2.out.1.own.notNC g hg)
          rw [HLN.out, List.take_length, HAL.out] at h
          exact h
        · have h1 := (H2.out.2.2.2.1.trans H3.out.2.2.2).then HR.out.2.2.2.2.1 (fun i hi e => by omega)
          exact (h1.trans (HZ2.out.2.2)).thenNC kx (by omega)
  case body =>
    rintro yl pre x W W2 W' a' hpre ⟨rfl, hx16, rfl⟩ k2 hr ht
    obtain ⟨hs, hm, vo, ho, ha, hg, hk⟩ := hr
    have hat2 : At (W.alloc (.cells (idB x) 41)) W.heap.size (idW x) := At.new W (idW x) 41
    have hat := k2.at hat2 (NC.not hat2)
    have hbx2 : W.heap.size < W'.heap.size := hat.lt
    obtain ⟨bx, hbx⟩ : ∃ bx, bx = W.heap.size := ⟨_, rfl⟩
    rw [← hbx] at hat hbx2 ⊢
    clear hbx
    have HLD := Lib.hid (fun (w' : World) (k : At w' bx (idW x)) => load_id (o := 0) (at_range (pre := []) (post := []) (by simpa using k)) hx16)
    have hplen : pre.length + 1 ≤ (allI ms).length := by
      have := hpre.length_le
      simpa using this
    have hpb : pre.length < 200000 := by have := HM.out.2.2; omega
    have HLK := Lib.hid (fun (w' : World) (h : CntI w' mb (pre.length + 1) pre) => h.look hx16)
    have HEN := Lib.hid (fun (w' : World) (h : CntI w' mb pre.length pre) => h.entry (by omega) (by omega) hx16)
    have hcl := List.count_le_length (a := x) (l := pre)
    obtain ⟨cnt, hcnt⟩ : ∃ cnt, cnt = pre.count x := ⟨_, rfl⟩
    rw [← hcnt] at HLK HEN hcl
    have HCT := Lib.hid hcnt
    have HWR := Lib.hid (show IntKind.i64.wrap ((cnt : Int) + 1) = (cnt : Int) + 1 from IntWalk.i64_in _ (by omega))
    have HS1 := Lib.hid (show At W'.drew mv [.map (some mb)] ∧ At W'.drew bx (idW x) ∧ CntI W'.drew mb (pre.length + 1) pre from ⟨(Kp.refl (fun _ => False) W').drew.at hm (fun h => h), (Kp.refl (fun _ => False) W').drew.at hat (fun h => h), (hs.mono (Nat.le_succ _)).kp (Kp.refl (fun _ => False) W').drew (fun h => h)⟩)
    have hv := idV_B x
    have hsW' := hk.size
    have hmlt := hm.lt
    have hovW := ha.lt
    have hbm : bx ≠ mb := hs.not hat
    have KX := Lib.hid (And.intro hs (And.intro hm (And.intro ho (And.intro ha (And.intro hg (And.intro hk (And.intro ht (And.intro hat hsW'))))))))
    have KP := Lib.hid (And.intro hplen (And.intro hx16 hpre))
    rw [hv] at HLD HLK HEN
    clear hs hm ho ha hg hk ht hat hsW' hat2 k2 hplen hpb hcl hcnt hpre
    have HVB0 : ∃ VA, VA = idB x := ⟨_, rfl⟩
    obtain ⟨VA, hVA⟩ := HVB0
    rw [← hVA] at HLD HLK HEN hv
    have HV := Lib.hid hv
    have HVB := Lib.hid (show idB x = VA from hVA.symm)
    clear hVA hv
    gi_wp2_with fail
    refine region_L_in (S := fun w' => At w' mv [.map (some mb)] ∧ At w' bx (idW x) ∧ CntI w' mb (pre.length + 1) pre) [6] rfl (by kernel_rfl) (fun ⟨_, _, h⟩ => h) ?_
    have hSd : ∀ (w' : World) (n' : Nat), (At w' mv [.map (some mb)] ∧ At w' bx (idW x) ∧ CntI w' mb (pre.length + 1) pre) → (At (w'.drewN n') mv [.map (some mb)] ∧ At (w'.drewN n') bx (idW x) ∧ CntI (w'.drewN n') mb (pre.length + 1) pre) := fun w' n' h => by
      have kd := (Kp.refl (fun _ => False) w').drewN n'
      exact ⟨kd.at h.1 (fun h => h), kd.at h.2.1 (fun h => h), h.2.2.kp kd (fun h => h)⟩
    have hS1 : At W'.drew mv [.map (some mb)] ∧ At W'.drew bx (idW x) ∧ CntI W'.drew mb (pre.length + 1) pre := HS1.out
    refine anyL_takeD (i := 0) (d := 13) (v := (.map (some mb))) rfl rfl (by kernel_rfl) (by kernel_rfl) (by kernel_rfl) (fun _ _ _ h => h) hSd (by kernel_rfl) (.inl (.inl ⟨rfl, fun w' hS => by have hc := (hS.1.cell 0).trans (show _ = some (.map (some mb)) from rfl); go_simp⟩)) hS1 ?_
    try simp only [List.setIfInBounds_toArray, List.set_cons_succ, List.set_cons_zero]
    refine anyL_takeD (i := 1) (d := 14) (v := (.agg VA)) rfl rfl (by kernel_rfl) (by kernel_rfl) (by kernel_rfl) (fun _ _ _ h => h) hSd (by kernel_rfl) (.inl (.inl ⟨rfl, fun w' hS => exec_load rfl rfl (HLD.out w' hS.2.1)⟩)) hS1 ?_
    try simp only [List.setIfInBounds_toArray, List.set_cons_succ, List.set_cons_zero]
    refine anyL_takeD (i := 2) (d := 15) (v := (.int .i64 (cnt : Nat))) rfl rfl (by kernel_rfl) (by kernel_rfl) (by kernel_rfl) (fun _ _ _ h => h) hSd (by kernel_rfl) (.inl (.inl ⟨rfl, fun w' hS => exec_lookup rfl rfl rfl (HLK.out w' hS.2.2)⟩)) hS1 ?_
    try simp only [List.setIfInBounds_toArray, List.set_cons_succ, List.set_cons_zero]
    refine anyL_takeF (i := 3) (d := 16) (v := (.int .i64 ((cnt : Nat) + 1))) rfl rfl (by kernel_rfl) (by kernel_rfl) (by kernel_rfl) (fun _ _ _ h => h) hSd (by kernel_rfl) (.inl (.inl ⟨rfl, fun w' hS => by have hc := HWR.out; go_simp⟩)) (fun _ => hS1) ?_
    try simp only [List.setIfInBounds_toArray, List.set_cons_succ, List.set_cons_zero]
    refine anyL_all (rs := [4]) (by kernel_rfl) (by simp) ?_
    intro m4 i hi
    simp only [List.mem_cons, List.not_mem_nil, or_false] at hi
    obtain rfl := hi
    refine wpOp_of rfl rfl ?_
    obtain ⟨v0, st, w1, hme, k1, hc1, hst⟩ := HEN.out (W'.drew.drewN m4) (KX.out.1.kp ((Kp.refl (fun _ => False) W').drew.drewN m4) (fun h => h))
    refine wp_mapEntry_run hme rfl rfl rfl ?_
    have kd4 := (Kp.refl (fun _ => False) W'.drew).drewN m4
    have hS2 : At w1 mv [.map (some mb)] ∧ At w1 bx (idW x) ∧ CntI w1 mb (pre.length + 1) pre := ⟨k1.at (kd4.at HS1.out.1 (fun h => h)) (fun e => hne1 e.symm), k1.at (kd4.at HS1.out.2.1 (fun h => h)) hbm, hc1⟩
    refine ⟨fun _ => hS2, ?_⟩
    dsimp only [Act.put, List.getElem_toArray, List.getElem_cons_succ, List.getElem_cons_zero]
    try simp only [List.setIfInBounds_toArray, List.set_cons_succ, List.set_cons_zero]
    refine anyL_takeF (i := 5) (d := 18) (v := (goInt st)) rfl rfl (by kernel_rfl) (by kernel_rfl) (by kernel_rfl) (fun _ _ _ h => h) hSd (by kernel_rfl) (.inl (.inl ⟨rfl, fun w' hS => rfl⟩)) (fun _ => hS2) ?_
    try simp only [List.setIfInBounds_toArray, List.set_cons_succ, List.set_cons_zero]
    refine anyL_all (rs := [6]) (by kernel_rfl) (by simp) ?_
    intro m6 i hi
    simp only [List.mem_cons, List.not_mem_nil, or_false] at hi
    obtain rfl := hi
    refine wpOp_of rfl rfl ?_
    obtain ⟨w6, hes, hc6, k6⟩ := hst m6
    refine wp_entryStore_run hes rfl rfl rfl rfl ?_
    refine ⟨fun h => Bool.noConfusion (show false = true from h), ?_⟩
    dsimp only [Act.put, List.getElem_toArray, List.getElem_cons_succ, List.getElem_cons_zero]
    try simp only [List.setIfInBounds_toArray, List.set_cons_succ, List.set_cons_zero]
    refine anyL_done (by kernel_rfl) (fun nn => ?_) _
    have kD := ((((Kp.refl (fun _ => False) W').drew.drewN m4).mono (fun _ _ h => h.elim)).trans k1).trans (k6.drewN nn)
    have hc7 := hc6.kp ((Kp.refl (fun _ => False) w6).drewN nn) (fun h => h)
    generalize w6.drewN nn = w7 at *
    have HL7 := Lib.hid (hc7.look KP.out.2.1)
    rw [HV.out, List.count_append, List.count_singleton_self, ← HCT.out] at HL7
    have hm7 := kD.at KX.out.2.1 (fun e => hne1 e.symm)
    have cm := (hm7.cell 0).trans (show _ = some (.map (some mb)) from rfl)
    have hat7 := kD.at KX.out.2.2.2.2.2.2.2.1 hbm
    have HLD7 := Lib.hid (HLD.out w7 hat7)
    have ha7 := kD.at KX.out.2.2.2.1 (fun e => hne2 e.symm)
    have hmbW := KX.out.1.lt
    have ho7 := KX.out.2.2.1.kp kD (fun g hg e => by have := KX.out.2.2.2.2.1 g hg; have := H3.out.1.lt; omega)
    have K7 := Lib.hid (And.intro hc7 (And.intro hm7 (And.intro ho7 (And.intro ha7 kD))))
    clear hc7 hm7 hat7 ho7 kD hc1 hS2 hS1 hSd kd4 k1 k6 hc6
    have hmb2 := H2.out.1.lt
    have hov2 := H2.out.2.2.1.lt
    have hmv2 := H2.out.2.1.lt
    have hbn3 := HI1.out.2.2.2.1.lt
    have hw23 := H3.out.2.2.2.size
    have hmw : w.heap.size ≤ mb := by have := H2.out.2.2.2.2; omega
    have hmo : w.heap.size ≤ ov := by have := H2.out.2.2.2.2; omega
    have hb1 : mb < bN := by have := HI1.out.2.2.2.2; omega
    have hb2 : ov < bN := by have := HI1.out.2.2.2.2; omega
    have hg0 := KX.out.2.2.2.2.1
    by_cases hin : x ∈ pre
    · have e1 : newL [] (pre ++ [x]) = newL [] pre := by
        rw [newL_snoc, if_pos (.inr ((newL_mem [] pre x).2 ⟨hin, by simp⟩))]
      have hp : (cnt : Int) + 1 ≠ 1 := by have := List.count_pos_iff.2 hin; rw [← HCT.out] at this; omega
      have E1 := Lib.hid e1
      clear hin e1 ha7
      have hp' : ((cnt + 1 : Nat) : Int) ≠ 1 := by omega
      gi_wp2_with (first | (refine wpListIn_load_run HLD7.out rfl rfl rfl ?_) | (refine wpListIn_lookup_run HL7.out rfl rfl rfl rfl ?_))
      have hC7 := K7.out.1
      refine ⟨KeepsFrom.of_kp K7.out.2.2.2.2 (fun j e => .inl (by omega)), ⟨by rw [List.length_append]; exact hC7, K7.out.2.1, vo, by rw [E1.out]; exact K7.out.2.2.1, K7.out.2.2.2.1, hg0, KX.out.2.2.2.2.2.1.then K7.out.2.2.2.2 (fun i hi e => .inl e)⟩, ⟨ge_kp KX.out.2.2.2.2.2.2.1.1 K7.out.2.2.2.2 (fun i e => by omega), K7.out.2.2.2.2.cell KX.out.2.2.2.2.2.2.1.2 (fun e => by have e : bN = mb := e; omega)⟩⟩
    · have e1 : newL [] (pre ++ [x]) = newL [] pre ++ [x] := by
        rw [newL_snoc, if_neg (fun h => h.elim (fun h => by cases h) (fun h => hin ((newL_mem [] pre x).1 h).1))]
      have hp : cnt = 0 := by rw [HCT.out]; exact List.count_eq_zero.2 hin
      subst hp
      have ho7 := K7.out.2.2.1
      have ka := (Kp.refl (fun _ => False) w7).alloc (.cells (idB x) 41)
      have hbl : (newL [] pre).length ≤ 1000000 := by have := newL_len [] pre; have := KP.out.1; have := HM.out.2.2; omega
      obtain ⟨v10, w10, hr10, ho10, k10, hb10⟩ := (ho7.kp0 ka).app hbl KP.out.2.1 (bx := w7.heap.size) (At.new w7 (idW x) 41)
      obtain ⟨A0, c0', rfl, _, _⟩ := ho7.form
      obtain ⟨A1, c1', rfl, _, _⟩ := ho10.form
      have co7 := (ha7.cell 0).trans (show _ = some (Value.slice A0 (newL [] pre).length c0') from rfl)
      have hnov : ∀ g, (Value.slice A0 (newL [] pre).length c0').ownBlock = some g → g ≠ ov := fun g hg' e => by have := hg0 g hg'; omega
      have f10 := ((k10.at (ka.at ha7 (fun h => h)) (fun e => hnov _ e rfl))).frozen 0
      have hat10 := (k10.at (ka.at ha7 (fun h => h)) (fun e => hnov _ e rfl))
      have co10 := (hat10.cell 0).trans (show _ = some (Value.slice A0 (newL [] pre).length c0') from rfl)
      have HB7 := Lib.hid (bs_one KP.out.2.1 w7)
      have HR10 := Lib.hid hr10
      have K10 := Lib.hid (And.intro ka (And.intro k10 (And.intro ho10 (And.intro hb10 (And.intro hat10 hnov)))))
      have E1 := Lib.hid e1
      clear ho7 ka hr10 ho10 k10 hb10 hat10 hbl hnov hin e1 ha7
      have hlen1 : (newL [] pre ++ [x]).length = (newL [] pre).length + 1 := by simp
      rw [hlen1] at HR10 K10
      rw [HV.out] at HB7
      rw [HVB.out] at HR10 K10 HB7
      clear hlen1
      generalize hLN : (newL [] pre).length = LN at *
      gi_wp2_with (first | (refine wpListIn_load_run HLD7.out rfl rfl rfl ?_) | (refine wpListIn_lookup_run HL7.out rfl rfl rfl rfl ?_) | (simp only [Act.put, List.setIfInBounds_toArray, List.set_cons_succ, List.set_cons_zero]; refine wpListIn_buildSlice_run (ps := #[(0, .agg VA)]) rfl rfl rfl HB7.out ?_) | (simp only [Act.put, List.setIfInBounds_toArray, List.set_cons_succ, List.set_cons_zero]; refine wpListIn_append_run HR10.out rfl rfl rfl rfl ?_))
      have kT : Kp (fun j => j = mb ∨ j = ov ∨ (Value.slice A0 LN c0').ownBlock = some j) W' (w10.setCell ⟨ov, 0, none⟩ (.slice A1 (LN + 1) c1')) :=
        (((K7.out.2.2.2.2.mono (fun _ _ h => .inl h)).trans (K10.out.1.mono (fun _ _ h => h.elim))).trans (K10.out.2.1.mono (fun _ _ h => .inr (.inr h)))).setCell (fun _ => .inr (.inl rfl)) _
      have k10' : Kp (fun j => j = ov ∨ (Value.slice A0 LN c0').ownBlock = some j) w7 (w10.setCell ⟨ov, 0, none⟩ (.slice A1 (LN + 1) c1')) :=
        ((K10.out.1.mono (fun _ _ h => h.elim)).trans (K10.out.2.1.mono (fun _ _ h => .inr h))).setCell (fun _ => .inl rfl) _
      have ks10 : Kp (fun j => j = ov) w10 (w10.setCell ⟨ov, 0, none⟩ (.slice A1 (LN + 1) c1')) := (Kp.refl (fun j => j = ov) w10).setCell (p := ⟨ov, 0, none⟩) (fun _ => rfl) _
      have hw7 := K7.out.2.2.2.2.size
      have hW3 := KX.out.2.2.2.2.2.2.2.2
      have hgA : ∀ g, (Value.slice A1 (LN + 1) c1').ownBlock = some g → w3.heap.size ≤ g := fun g hg => by
        rcases K10.out.2.2.2.1 with h | h
        · exact hg0 g (h ▸ hg)
        · rw [hg, World.size_alloc] at h
          have := Option.some.inj h
          omega
      have e1 := E1.out
      refine ⟨KeepsFrom.of_kp kT (fun j hj => ?_), ⟨?_, kT.at KX.out.2.1 (fun e => ?_), _, ?_, K10.out.2.2.2.2.1.set 0 _, fun g hg => hgA g hg, KX.out.2.2.2.2.2.1.then kT (fun i hi e => ?_)⟩, ⟨ge_kp KX.out.2.2.2.2.2.2.1.1 kT (fun i e => ?_), kT.cell KX.out.2.2.2.2.2.2.1.2 (fun e => ?_)⟩⟩
      · rcases hj with h | h | h
        · exact .inl (by omega)
        · exact .inl (by omega)
        · exact .inr (KX.out.2.2.1.own.at' h)
      · have hC7 := K7.out.1
        rw [List.length_append, List.length_singleton]
        exact hC7.kp k10' (fun e => e.elim (fun e => by omega) (fun e => by have := hg0 _ e; omega))
      · exact e.elim (fun e => by omega) (fun e => e.elim (fun e => by omega) (fun e => by have := hg0 _ e; omega))
      · rw [e1]
        exact K10.out.2.2.1.kp ks10 (fun g hg e => by have := hgA g hg; omega)
      · exact e.elim (fun e => .inl e) (fun e => e.elim (fun e => .inr e) (fun e => by have := hg0 _ e; omega))
      · exact e.elim (fun e => by omega) (fun e => e.elim (fun e => by omega) (fun e => by have := hg0 _ e; omega))
      · have e : bN = mb ∨ bN = ov ∨ (Value.slice A0 LN c0').ownBlock = some bN := e
        exact e.elim (fun e => by omega) (fun e => e.elim (fun e => by omega) (fun e => by have := hg0 _ e; omega))
end Go.Proofs.Ytaibdkdmilhloaa
