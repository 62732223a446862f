/- The document's Part and Choose. (Written by wip/ref20k.py.) -/
import Derived.Test.YtaibdkdmilhloaaChs
import Derived.Test.YtaibdkdmilhloaaRatO
namespace Go.Proofs.Ytaibdkdmilhloaa
open Go.RowKit Flt
set_option linter.unusedVariables false
set_option linter.unusedSimpArgs false
theorem chosenL_snoc (l : List Pk) (least : Nat) (most : Int) (V : List Nat) (x : Nat) : chosenL l least most (V ++ [x]) = if most ≤ (chosenL l least most V).length ∨ bef least (canP (pkn l x)) = true then chosenL l least most V else chosenL l least most V ++ [(pkn l x).num] := by
  unfold chosenL
  rw [List.filter_append, List.length_map]
  generalize hF : V.filter (fun i => !bef least (canP (pkn l i))) = F
  cases hb : bef least (canP (pkn l x))
  · by_cases hm : most ≤ ((F.take most.toNat).length : Nat)
    · rw [if_pos (.inl hm)]
      rw [List.length_take] at hm
      have h1 : most.toNat ≤ F.length := by omega
      rw [List.take_append_of_le_length h1]
    · rw [if_neg (fun h => h.elim hm (fun h => by cases h))]
      rw [List.length_take] at hm
      have h1 : F.length < most.toNat := by omega
      rw [List.take_of_length_le (by simp [hb]; omega), List.take_of_length_le (by omega : F.length ≤ most.toNat)]
      simp [hb]
  · rw [if_pos (.inr rfl)]
    simp [hb]
theorem rpart2_any (n m : Int) (w : World) : Calls Try.prog 38 #[.int .i64 n, .int .i64 m] w fun e w' => ∃ r k, e = .returned (.float .f64 r) ∧ w' = w.drewN k ∧ (∀ q, partF n m = some q → r = q ∧ k = 0) ∧ (partF n m = none → nanb r = true) := by
  obtain ⟨r, k, h1, h2, h3⟩ := bits_arith .quo 23 (floatOfInt .f64 n) (floatOfInt .f64 m) w (by simp)
  go_enter Try.func38, Try.ntmps38
  go_wp2
  go_ret
  exact ⟨r, k, rfl, rfl, h2, h3⟩
theorem rupart_any (p : Pk) (w : World) : Calls Try.prog 12 #[.agg #[.int .i64 p.num, .int .i64 p.bytes, .int .i64 p.dead]] w fun e w' => ∃ r, e = .returned (.float .f64 r) ∧ Like r (canP p) ∧ Kp (fun _ => False) w w' := by
  go_enter Try.func12, Try.ntmps12
  go_wp2_with (go_at_call 38; refine (rpart2_any p.dead p.bytes _).mono ?_; rintro e w' ⟨r, k, rfl, rfl, h1, h2⟩)
  go_ret
  exact ⟨r, rfl, like_canP (fun q hq => (h1 q hq).1) h2, ((Kp.refl (fun _ => False) w).alloc _).drewN k⟩
set_option maxHeartbeats 4000000 in
set_option maxRecDepth 20000 in
theorem rchoose_any (a : Option Addr) (n c : Nat) (l : List Pk) (least : Nat) (most : Int) (w : World) (hn : n = l.length) (hb : n ≤ 1000) (h : RdP w a l) (W : List Nat) (hW : ∀ P, Prts P l → W.Pairwise (Rr (ltF P))) (hWp : W.Perm (List.range l.length)) :
    Calls Try.prog 14 #[.slice a n c, .float .f64 least, .int .i64 most] w fun e w' => ∃ v, e = .returned v ∧ Own w' v (chosenL l least most W).length 1 (intsZ (chosenL l least most W)) ∧ (∀ g, v.ownBlock = some g → w.heap.size ≤ g) ∧ Kp (fun _ => False) w w' := by
  have H := Lib.hid (And.intro h (And.intro hn hb))
  have HWW := Lib.hid (And.intro hW hWp)
  clear h hn hW hWp
  go_enter Try.func14, Try.ntmps14
  go_wp2
  go_loopw [7, 8] (fun pv iv wr => ∃ i P, i ≤ n ∧ iv = .int .i64 (i : Nat) ∧ P.length = i ∧ (∀ j, j < i → Like (P.getD j 0) (canP (pkn l j))) ∧ Own wr pv i 1 (fls P) ∧ (∀ g, pv.ownBlock = some g → w.heap.size ≤ g) ∧ Kp (fun _ => False) w wr) (fun _ iv _ => n - (intOf iv).toNat)
  case atStart => exact ⟨0, [], by omega, rfl, rfl, fun j hj => absurd hj (Nat.not_lt_zero _), Own.nil w 1, fun g hg => by simp [Value.ownBlock] at hg, Kp.refl _ _⟩
  case round =>
    obtain ⟨i, P, hi, rfl, hP, hL, ho, hg, hk⟩ := hrel
    by_cases hlt : i < n
    · have j1 : (i : Int) < n := by omega
      obtain ⟨b, off, rfl, c0, c1, c2⟩ := (H.out.1.kp0 hk) i (by rw [← H.out.2.1]; exact hlt)
      have HP := Lib.hid (And.intro hP (And.intro hL (And.intro ho (And.intro hg hk))))
      clear hP hL ho hg hk
      go_wp2_with fail
      go_at_call 12
      refine (rupart_any (pkn l i) _).mono ?_
      rintro e w1 ⟨r, rfl, hlk, k1⟩
      have k1' := k1
      have ka := (Kp.refl (fun _ => False) w1).alloc (.cells #[.float .f64 r] 23)
      obtain ⟨v2, w2, hr2, ho2, k2, hb2⟩ := app_one Try.underlying62 elem_f64 ((HP.out.2.2.1.kp k1' (fun _ _ h => h)).kp ka (fun _ _ h => h)) (x := .float .f64 r) rfl (by omega) w1.heap.size (At.new w1 [.float .f64 r] 23)
      have HR := Lib.hid hr2
      have K2 := Lib.hid (And.intro ho2 (And.intro k2 (And.intro hb2 (And.intro (k1'.trans ka) hlk))))
      have hs1 := k1'.size
      have HS1 := Lib.hid hs1
      clear hr2 ho2 k2 hb2 ka k1' k1 hlk hs1 c0 c1 c2
      go_wp2_with (at_builtin; refine wpList_append_run _ HR.out rfl rfl rfl rfl ?_)
      go_roundw
      case rel =>
        have hws := HP.out.2.2.2.2.size
        have hs1 := HS1.out
        refine ⟨i + 1, P ++ [r], by omega, by go_num, by rw [List.length_append, HP.out.1]; rfl, fun j hj => ?_, by unfold fls at *; rw [List.map_append]; exact K2.out.1, fun g hg => ?_, ?_⟩
        · by_cases hji : j < i
          · have e : (P ++ [r]).getD j 0 = P.getD j 0 := by rw [List.getD_eq_getElem?_getD, List.getElem?_append_left (by rw [HP.out.1]; exact hji), List.getD_eq_getElem?_getD]
            rw [e]
            exact HP.out.2.1 j hji
          · obtain rfl : j = i := by omega
            have e : (P ++ [r]).getD j 0 = r := by rw [List.getD_eq_getElem?_getD, List.getElem?_append_right (by rw [HP.out.1]; exact Nat.le_refl _), HP.out.1, Nat.sub_self]; rfl
            rw [e]
            exact K2.out.2.2.2.2
        · rcases K2.out.2.2.1 with e | e
          · exact HP.out.2.2.2.1 g (e ▸ hg)
          · rw [hg, World.size_alloc] at e
            have := Option.some.inj e
            omega
        · exact (HP.out.2.2.2.2.trans K2.out.2.2.2.1).then K2.out.2.1 (fun j hj e => by have := HP.out.2.2.2.1 j e; omega)
      case measure => simp [intOf]; omega
    · obtain rfl : i = n := by omega
      have HP := Lib.hid (And.intro hP (And.intro hL (And.intro ho (And.intro hg hk))))
      clear hP hL ho hg hk
      obtain ⟨pa, pc, rfl, _, _⟩ := HP.out.2.2.1.form
      have hprt : Prts P l := ⟨by rw [HP.out.1, H.out.2.1], fun j hj => HP.out.2.1 j (by rw [H.out.2.1]; exact hj)⟩
      have hor := rorder_any pa pc P wr (rdf_own HP.out.2.2.1) (by rw [HP.out.1]; have := H.out.2.2; omega) W (HWW.out.1 P hprt) (by rw [hprt.1]; exact HWW.out.2)
      rw [HP.out.1] at hor
      have HO := Lib.hid hor
      clear hor hprt
      go_wp2_with fail
      go_at_call 39
      refine HO.out.mono ?_
      rintro e w3 ⟨va, vc, rfl, hrd, k3⟩
      have hWp : W.Perm (List.range i) := by rw [H.out.2.1]; exact HWW.out.2
      have hWl : W.length = i := by rw [hWp.length_eq, List.length_range]
      have hWm : ∀ j, j < W.length → W.getD j 0 < i := fun j hj => by
        rw [List.getD_eq_getElem?_getD, List.getElem?_eq_getElem hj]
        exact List.mem_range.1 (hWp.mem_iff.1 (List.getElem_mem hj))
      have hrf := (rdf_own HP.out.2.2.1).kp0 k3 (fun _ _ h => h)
      have hrp := (H.out.1.kp0 HP.out.2.2.2.2).kp0 k3
      have HW := Lib.hid (And.intro trivial (And.intro trivial (And.intro hrd (And.intro k3 (And.intro hWl (And.intro hWm (And.intro hrf hrp)))))))
      have HB := Lib.hid hb
      clear hrd k3 hWl hWm hrf hrp hb hWp
      go_wp2_with fail
      go_loopw [10, 11] (fun ov iv wr2 => ∃ k, k ≤ i ∧ iv = .int .i64 (k : Nat) ∧ Own wr2 ov (chosenL l least most (W.take k)).length 1 (intsZ (chosenL l least most (W.take k))) ∧ (∀ g, ov.ownBlock = some g → w3.heap.size ≤ g) ∧ Kp (fun _ => False) w3 wr2) (fun _ iv _ => i - (intOf iv).toNat)
      case atStart => exact ⟨0, by omega, rfl, by simpa [chosenL, intsZ] using Own.nil _ 1, fun g hg => by simp [Value.ownBlock] at hg, Kp.refl _ _⟩
      case round =>
        obtain ⟨k, hk, rfl, hon, hgn, hkp⟩ := hrel
        have hlk : (chosenL l least most (W.take k)).length ≤ k := by
          unfold chosenL
          rw [List.length_map, List.length_take]
          have := List.length_filter_le (fun i => !bef least (canP (pkn l i))) (W.take k)
          rw [List.length_take] at this
          omega
        have HQ := Lib.hid (And.intro hon (And.intro trivial (And.intro hgn (And.intro hkp hlk))))
        obtain ⟨oa, oc, rfl, _, _⟩ := hon.form
        by_cases hlt : k < i
        · have j1 : (k : Int) < i := by omega
          obtain ⟨b1, o1, rfl, hc1⟩ := (HW.out.2.2.1.kp hkp (fun _ _ h => h)) k (by simp [nums, HW.out.2.2.2.2.1]; exact hlt)
          have HKI := Lib.hid hlt
          have hxi : W.getD k 0 < i := HW.out.2.2.2.2.2.1 k (by rw [HW.out.2.2.2.2.1]; exact hlt)
          have hx1 : (nums W).getD k undef = .int .i64 ((W.getD k 0 : Nat) : Int) := by
            have hkW : k < W.length := by rw [HW.out.2.2.2.2.1]; exact hlt
            simp [nums, List.getD_eq_getElem?_getD, List.getElem?_eq_getElem hkW]
          rw [hx1] at hc1
          have htk : W.take (k + 1) = W.take k ++ [W.getD k 0] := take_snoc W 0 k (by rw [HW.out.2.2.2.2.1]; exact hlt)
          obtain ⟨x, hx⟩ : ∃ x, x = W.getD k 0 := ⟨_, rfl⟩
          rw [← hx] at hc1 htk hxi
          have hsn := chosenL_snoc l least most (W.take k) x
          rw [← htk] at hsn
          obtain ⟨b2, o2, rfl, hc2⟩ := (HW.out.2.2.2.2.2.2.1.kp0 hkp (fun _ _ h => h)) x (by rw [HP.out.1]; exact hxi)
          obtain ⟨b3, o3, rfl, hc3, _, _⟩ := (HW.out.2.2.2.2.2.2.2.kp0 hkp) x (by rw [← H.out.2.1]; exact hxi)
          have hbe : bef least (P.getD x 0) = bef least (canP (pkn l x)) := (Like.bef (.inl rfl) (HP.out.2.1 x hxi))
          have hxi' : (x : Int) < i := by omega
          obtain ⟨LN, hLN⟩ : ∃ LN, LN = (chosenL l least most (W.take k)).length := ⟨_, rfl⟩
          rw [← hLN] at HQ hsn ⊢
          have HLN := Lib.hid hLN
          have HX := Lib.hid hsn
          clear hLN hsn hx htk hx1 hon hgn hkp hlk
          obtain ⟨F, hF⟩ : ∃ F, F = P.getD x 0 := ⟨_, rfl⟩
          rw [← hF] at hc2 hbe
          clear hF
          have HBE := Lib.hid hbe
          clear hbe
          have hib := HB.out
          have hki2 : (k : Int) < 1000 := by omega
          by_cases hge : most ≤ (LN : Int)
          · have hge2 : ¬ (LN : Int) < most := by omega
            have HGE := Lib.hid hge
            go_wp2_with fail
            go_roundw
            case rel =>
              have hki := HKI.out
              have e1 := HX.out
              rw [if_pos (.inl HGE.out)] at e1
              exact ⟨k + 1, by omega, by go_num, by rw [e1, ← HLN.out]; exact HQ.out.1, HQ.out.2.2.1, HQ.out.2.2.2.1⟩
            case measure => have hki := HKI.out; simp [intOf]; omega
          · have hge2 : (LN : Int) < most := by omega
            have HGE := Lib.hid hge
            cases hbb : bef least F
            · have hbf := rbefore_any least F
              rw [hbb] at hbf
              have HCF := Lib.hid hbf
              have HBB := Lib.hid hbb
              clear hbf hbb
              have hln := HQ.out.2.2.2.2
              have ka := (Kp.refl (fun _ => False) wr).alloc (.cells #[.int .i64 (pkn l x).num] 3)
              obtain ⟨v2, w2, hr2, ho2, k2, hb2⟩ := app_one Try.underlying24 elem_i64 (HQ.out.1.kp ka (fun _ _ h => h)) (x := .int .i64 (pkn l x).num) rfl (by omega) wr.heap.size (At.new wr [.int .i64 (pkn l x).num] 3)
              have HR := Lib.hid hr2
              have K2 := Lib.hid (And.intro ho2 (And.intro k2 (And.intro hb2 ka)))
              clear hr2 ho2 k2 hb2 ka hln
              go_wp2_with (first | (go_at_call 40; (with_reducible refine (HCF.out _).mono ?_); rintro e w9 ⟨rfl, rfl⟩) | (at_builtin; refine wpList_append_run _ HR.out rfl rfl rfl rfl ?_))
              go_roundw
              case rel =>
                have hki := HKI.out
                have e1 := HX.out
                rw [if_neg (by rw [← HBE.out, HBB.out]; exact fun h => h.elim (fun h => by have := HGE.out; omega) (by simp))] at e1
                have el : (chosenL l least most (W.take (k + 1))).length = LN + 1 := by rw [e1, List.length_append, ← HLN.out]; rfl
                have hw3 := HQ.out.2.2.2.1.size
                refine ⟨k + 1, by omega, by go_num, ?_, fun g hg => ?_, (HQ.out.2.2.2.1.trans K2.out.2.2.2).then K2.out.2.1 (fun j hj e => by have := HQ.out.2.2.1 j e; omega)⟩
                · rw [el, e1]
                  unfold intsZ at *
                  rw [List.map_append]
                  exact K2.out.1
                · rcases K2.out.2.2.1 with e | e
                  · exact HQ.out.2.2.1 g (e ▸ hg)
                  · rw [hg, World.size_alloc] at e
                    have := Option.some.inj e
                    omega
              case measure => have hki := HKI.out; simp [intOf]; omega
            · have hbf := rbefore_any least F
              rw [hbb] at hbf
              have HCF := Lib.hid hbf
              have HBB := Lib.hid hbb
              clear hbf hbb
              go_wp2_with (go_at_call 40; (with_reducible refine (HCF.out _).mono ?_); rintro e w9 ⟨rfl, rfl⟩)
              go_roundw
              case rel =>
                have hki := HKI.out
                have e1 := HX.out
                rw [if_pos (.inr (by rw [← HBE.out, HBB.out]))] at e1
                refine ⟨k + 1, by omega, by go_num, ?_, HQ.out.2.2.1, HQ.out.2.2.2.1⟩
                rw [e1, ← HLN.out]
                exact HQ.out.1
              case measure => have hki := HKI.out; simp [intOf]; omega
        · obtain rfl : k = i := by omega
          clear hon hgn hkp hlk
          go_wp2_with fail
          go_ret
          have ed : W.take k = W := by rw [← HW.out.2.2.2.2.1]; exact List.take_length
          have h3 := HP.out.2.2.2.2.size
          have h4 := HW.out.2.2.2.1.size
          have h5 := HQ.out.1
          rw [ed] at h5 ⊢
          exact ⟨_, rfl, h5, fun g hg => by rw [← ed] at hg; have := HQ.out.2.2.1 g hg; omega, (HP.out.2.2.2.2.trans HW.out.2.2.2.1).trans HQ.out.2.2.2.1⟩
end Go.Proofs.Ytaibdkdmilhloaa
