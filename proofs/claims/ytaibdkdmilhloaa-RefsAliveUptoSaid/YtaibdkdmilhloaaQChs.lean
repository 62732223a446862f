/- Package refs: Choose. (Written by wip/ref20j.py.) -/
import Derived.Test.YtaibdkdmilhloaaQOrd0
import Derived.Test.YtaibdkdmilhloaaQPrt
import Derived.WalkMore
namespace Go.Proofs.Ytaibdkdmilhloaa
open Go.RowKit Flt
set_option linter.unusedVariables false
set_option linter.unusedSimpArgs false
theorem elem_f64 : Elem Try.prog 23 (.float .f64 0) 1 8 := Elem.mk' (by kernel_rfl) rfl (by omega) (by simp [Value.cells, Value.oneCell'])
def fls (P : List Nat) : List Value := P.map (Value.float .f64)
def intsZ (l : List Int) : List Value := l.map (Value.int .i64)
theorem rdf_own {w : World} {a : Option Addr} {n c : Nat} {P : List Nat} (h : Own w (.slice a n c) n 1 (fls P)) : RdF w a P := fun i hi => by
  obtain ⟨b, off, e, hc⟩ := h.rd i (by simpa [fls] using hi)
  refine ⟨b, off, e, ?_⟩
  rw [hc]
  simp [fls, List.getD_eq_getElem?_getD, List.getElem?_eq_getElem hi]
/-- What is chosen of the first so many places. -/
def selL (l : List Pk) (least : Nat) (V : List Nat) : List Int := (V.filter (fun i => !bef least (canP (pkn l i)))).map (fun i => (pkn l i).num)
theorem selL_snoc (l : List Pk) (least : Nat) (V : List Nat) (x : Nat) : selL l least (V ++ [x]) = if bef least (canP (pkn l x)) = true then selL l least V else selL l least V ++ [(pkn l x).num] := by
  unfold selL
  rw [List.filter_append, List.map_append]
  cases h : bef least (canP (pkn l x)) <;> simp [h]
theorem selL_done {l : List Pk} {least : Nat} {most : Int} {W : List Nat} {k : Nat} (h1 : (selL l least (W.take k)).length ≤ most.toNat) (h2 : W.length ≤ k ∨ most ≤ (selL l least (W.take k)).length) : chosenL l least most W = selL l least (W.take k) := by
  unfold chosenL
  unfold selL at *
  rw [List.length_map] at h1 h2
  congr 1
  rcases h2 with h2 | h2
  · rw [List.take_of_length_le h2] at h1 ⊢
    exact List.take_of_length_le h1
  · have hp : (W.take k).filter (fun i => !bef least (canP (pkn l i))) <+: W.filter (fun i => !bef least (canP (pkn l i))) := (List.take_prefix k W).filter _
    have hl : ((W.take k).filter (fun i => !bef least (canP (pkn l i)))).length = most.toNat := by omega
    rw [← hl]
    exact (List.prefix_iff_eq_take.1 hp).symm
theorem app_one {t e : TypeId} {z : Value} (ht : Try.prog.underlying t = some (.slice e)) (he : Elem Try.prog e z 1 8) {w : World} {v x : Value} {n : Nat} {vs : List Value} (ho : Own w v n 1 vs) (hx : x.oneCell' = true) (hn : n ≤ 1000000) (bx : Nat) (hat : At w bx [x]) :
    ∃ v' w', (Builtin.append_ #[t, t] t #[v, .slice (some ⟨bx, 0, none⟩) 1 1]).run Try.prog w = .ok v' w' ∧ Own w' v' (n + 1) 1 (vs ++ [x]) ∧ Kp (fun k => v.ownBlock = some k) w w' ∧ (v'.ownBlock = v.ownBlock ∨ v'.ownBlock = some w.heap.size) := by
  obtain ⟨v', w', h1, h2, h3, h4, _⟩ := run_append_at (P := Try.prog) (t := t) (tx := t) (ty := t) w ht he ht ho (a := some ⟨bx, 0, none⟩) (m := 1) (c := 1) (news := [x]) rfl
    (fun i hi => ⟨bx, 0, rfl, by rw [hat.cell, Nat.zero_add, List.getD_eq_getElem?_getD, List.getElem?_eq_getElem hi]; rfl⟩) (fun u hu => by rw [List.mem_singleton.1 hu]; exact hx) (by unfold maxLen; omega) (by omega)
  exact ⟨v', w', h1, h2, h3, h4⟩
set_option maxHeartbeats 4000000 in
set_option maxRecDepth 20000 in
theorem choose_any (a : Option Addr) (n c : Nat) (l : List Pk) (least : Nat) (most : Int) (w : World) (hn : n = l.length) (hb : n ≤ 1000) (h : RdP w a l) :
    Calls Try.prog 9 #[.slice a n c, .float .f64 least, .int .i64 most] w fun e w' => ∃ v W, e = .returned v ∧ (∀ P, Prts P l → W.Pairwise (Rr (ltF P))) ∧ W.Perm (List.range l.length) ∧ Own w' v (chosenL l least most W).length 1 (intsZ (chosenL l least most W)) ∧ (∀ g, v.ownBlock = some g → w.heap.size ≤ g) ∧ Kp (fun _ => False) w w' := by
  have H := Lib.hid (And.intro h (And.intro hn hb))
  clear h hn
  go_enter Try.func9, Try.ntmps9
  go_wp2
  go_step3
  go_wp2
  go_loopw [7, 15] (fun pv iv wr => ∃ i P, i ≤ n ∧ iv = .int .i64 (i : Nat) ∧ P.length = i ∧ (∀ j, j < i → Like (P.getD j 0) (canP (pkn l j))) ∧ Own wr pv i 1 (fls P) ∧ (∀ g, pv.ownBlock = some g → w.heap.size ≤ g) ∧ Kp (fun _ => False) w wr) (fun _ iv _ => n - (intOf iv).toNat)
  case atStart => exact ⟨0, [], by omega, rfl, rfl, fun j hj => absurd hj (Nat.not_lt_zero _), Own.nil w 1, fun g hg => by simp [Value.ownBlock] at hg, Kp.refl _ _⟩
  case round =>
    obtain ⟨i, P, hi, rfl, hP, hL, ho, hg, hk⟩ := hrel
    by_cases hlt : i < n
    · have j1 : (i : Int) < n := by omega
      obtain ⟨b, off, rfl, c0, c1, c2⟩ := (H.out.1.kp0 hk) i (by rw [← H.out.2.1]; exact hlt)
      have HP := Lib.hid (And.intro hP (And.intro hL (And.intro ho (And.intro hg hk))))
      clear hP hL ho hg hk
      go_wp2_with fail
      go_at_call 11
      refine (upart_any (pkn l i) _).mono ?_
      rintro e w1 ⟨r, rfl, hlk, k1⟩
      have k1' := ((Kp.refl (fun _ => False) wr).alloc (.cells #[.int .i64 (pkn l i).num, .int .i64 (pkn l i).bytes, .int .i64 (pkn l i).dead] 27)).trans k1
      have ka := (Kp.refl (fun _ => False) w1).alloc (.cells #[.float .f64 r] 23)
      obtain ⟨v2, w2, hr2, ho2, k2, hb2⟩ := app_one Try.underlying62 elem_f64 ((HP.out.2.2.1.kp k1' (fun _ _ h => h)).kp ka (fun _ _ h => h)) (x := .float .f64 r) rfl (by omega) w1.heap.size (At.new w1 [.float .f64 r] 23)
      have HR := Lib.hid hr2
      have K2 := Lib.hid (And.intro ho2 (And.intro k2 (And.intro hb2 (And.intro (k1'.trans ka) hlk))))
      have hs1 := k1'.size
      have HS1 := Lib.hid hs1
      clear hr2 ho2 k2 hb2 ka k1' k1 hlk hs1 c0 c1 c2
      go_wp2_with (at_builtin; refine wpList_append_run _ HR.out rfl rfl rfl rfl ?_)
      go_roundw
      case rel =>
        have hws := HP.out.2.2.2.2.size
        have hs1 := HS1.out
        refine ⟨i + 1, P ++ [r], by omega, by go_num, by rw [List.length_append, HP.out.1]; rfl, fun j hj => ?_, by unfold fls at *; rw [List.map_append]; exact K2.out.1, fun g hg => ?_, ?_⟩
        · by_cases hji : j < i
          · have e : (P ++ [r]).getD j 0 = P.getD j 0 := by rw [List.getD_eq_getElem?_getD, List.getElem?_append_left (by rw [HP.out.1]; exact hji), List.getD_eq_getElem?_getD]
            rw [e]
            exact HP.out.2.1 j hji
          · obtain rfl : j = i := by omega
            have e : (P ++ [r]).getD j 0 = r := by rw [List.getD_eq_getElem?_getD, List.getElem?_append_right (by rw [HP.out.1]; exact Nat.le_refl _), HP.out.1, Nat.sub_self]; rfl
            rw [e]
            exact K2.out.2.2.2.2
        · rcases K2.out.2.2.1 with e | e
          · exact HP.out.2.2.2.1 g (e ▸ hg)
          · rw [hg, World.size_alloc] at e
            have := Option.some.inj e
            omega
        · exact (HP.out.2.2.2.2.trans K2.out.2.2.2.1).then K2.out.2.1 (fun j hj e => by have := HP.out.2.2.2.1 j e; omega)
      case measure => simp [intOf]; omega
    · obtain rfl : i = n := by omega
      have HP := Lib.hid (And.intro hP (And.intro hL (And.intro ho (And.intro hg hk))))
      clear hP hL ho hg hk
      obtain ⟨pa, pc, rfl, _, _⟩ := HP.out.2.2.1.form
      have hor := order_any pa pc P wr (rdf_own HP.out.2.2.1) (by rw [HP.out.1]; have := H.out.2.2; omega)
      rw [HP.out.1] at hor
      have HO := Lib.hid hor
      clear hor
      go_wp2_with fail
      go_step3
      go_wp2_with fail
      go_at_call 36
      refine HO.out.mono ?_
      rintro e w3 ⟨va, vc, W, rfl, p1, p2, hrd, k3⟩
      have hWl : W.length = i := by rw [p2.length_eq, List.length_range]
      have hWm : ∀ j, j < W.length → W.getD j 0 < i := fun j hj => by
        rw [List.getD_eq_getElem?_getD, List.getElem?_eq_getElem hj]
        exact List.mem_range.1 (p2.mem_iff.1 (List.getElem_mem hj))
      have hrf := (rdf_own HP.out.2.2.1).kp0 k3 (fun _ _ h => h)
      have hrp := (H.out.1.kp0 HP.out.2.2.2.2).kp0 k3
      have HW := Lib.hid (And.intro p1 (And.intro p2 (And.intro hrd (And.intro k3 (And.intro hWl (And.intro hWm (And.intro hrf hrp)))))))
      have HB := Lib.hid hb
      clear p1 p2 hrd k3 hWl hWm hrf hrp hb
      have HC := Lib.hid (fun x w' => before_any least x w')
      go_wp2_with fail
      go_loopw [10, 28] (fun ov iv wr2 => ∃ k, k ≤ i ∧ iv = .int .i64 (k : Nat) ∧ Own wr2 ov (selL l least (W.take k)).length 1 (intsZ (selL l least (W.take k))) ∧ (selL l least (W.take k)).length ≤ most.toNat ∧ (∀ g, ov.ownBlock = some g → w3.heap.size ≤ g) ∧ Kp (fun _ => False) w3 wr2) (fun _ iv _ => i - (intOf iv).toNat)
      case atStart => exact ⟨0, by omega, rfl, Own.nil _ 1, Nat.zero_le _, fun g hg => by simp [Value.ownBlock] at hg, Kp.refl _ _⟩
      case round =>
        obtain ⟨k, hk, rfl, hon, hlm, hgn, hkp⟩ := hrel
        have hlk : (selL l least (W.take k)).length ≤ k := by
          unfold selL
          rw [List.length_map]
          exact Nat.le_trans (List.length_filter_le _ _) (by rw [List.length_take]; omega)
        have HQ := Lib.hid (And.intro hon (And.intro hlm (And.intro hgn (And.intro hkp hlk))))
        obtain ⟨oa, oc, rfl, _, _⟩ := hon.form
        by_cases hlt : k < i
        · have j1 : (k : Int) < i := by omega
          obtain ⟨b1, o1, rfl, hc1⟩ := (HW.out.2.2.1.kp hkp (fun _ _ h => h)) k (by simp [nums, HW.out.2.2.2.2.1]; exact hlt)
          have HKI := Lib.hid hlt
          have hxi : W.getD k 0 < i := HW.out.2.2.2.2.2.1 k (by rw [HW.out.2.2.2.2.1]; exact hlt)
          have hx1 : (nums W).getD k undef = .int .i64 ((W.getD k 0 : Nat) : Int) := by
            have hkW : k < W.length := by rw [HW.out.2.2.2.2.1]; exact hlt
            simp [nums, List.getD_eq_getElem?_getD, List.getElem?_eq_getElem hkW]
          rw [hx1] at hc1
          have htk : W.take (k + 1) = W.take k ++ [W.getD k 0] := take_snoc W 0 k (by rw [HW.out.2.2.2.2.1]; exact hlt)
          obtain ⟨x, hx⟩ : ∃ x, x = W.getD k 0 := ⟨_, rfl⟩
          rw [← hx] at hc1 htk hxi
          have hsn := selL_snoc l least (W.take k) x
          rw [← htk] at hsn
          have HX := Lib.hid (And.intro hsn (And.intro hx htk))
          obtain ⟨b2, o2, rfl, hc2⟩ := (HW.out.2.2.2.2.2.2.1.kp0 hkp (fun _ _ h => h)) x (by rw [HP.out.1]; exact hxi)
          obtain ⟨b3, o3, rfl, hc3, _, _⟩ := (HW.out.2.2.2.2.2.2.2.kp0 hkp) x (by rw [← H.out.2.1]; exact hxi)
          have hbe : bef least (P.getD x 0) = bef least (canP (pkn l x)) := (Like.bef (.inl rfl) (HP.out.2.1 x hxi))
          have hxi' : (x : Int) < i := by omega
          clear hsn hx htk hx1 hon hlm hgn hkp hlk
          obtain ⟨F, hF⟩ : ∃ F, F = P.getD x 0 := ⟨_, rfl⟩
          rw [← hF] at hc2 hbe
          clear hF
          have HBE := Lib.hid hbe
          clear hbe
          obtain ⟨LN, hLN⟩ : ∃ LN, LN = (selL l least (W.take k)).length := ⟨_, rfl⟩
          rw [← hLN] at HQ ⊢
          have HLN := Lib.hid hLN
          clear hLN
          by_cases hge : most ≤ (LN : Int)
          · have hge2 := hge
            go_wp2_with fail
            rw [Exit.noGoto_ret]
            go_ret
            have ed := selL_done (l := l) (least := least) (most := most) (W := W) (k := k) (by rw [← HLN.out]; exact HQ.out.2.1) (.inr (by rw [← HLN.out]; exact hge2))
            have h3 := HP.out.2.2.2.2.size
            have h4 := HW.out.2.2.2.1.size
            refine ⟨_, W, rfl, fun Q hQ => Prts.order ⟨by rw [HP.out.1, H.out.2.1], fun j hj => HP.out.2.1 j (by rw [H.out.2.1]; exact hj)⟩ hQ HW.out.1 (by rw [← H.out.2.1]; exact HW.out.2.1), by rw [← H.out.2.1]; exact HW.out.2.1, by rw [ed, ← HLN.out]; exact HQ.out.1, fun g hg => by have := HQ.out.2.2.1 g hg; omega, (HP.out.2.2.2.2.trans HW.out.2.2.2.1).trans HQ.out.2.2.2.1⟩
          · have hge2 : (LN : Int) < most := by omega
            have hib := HB.out
            have hki2 : (k : Int) < 1000 := by omega
            cases hbb : bef least F
            · have hbf := before_any least F
              rw [hbb] at hbf
              have HCF := Lib.hid hbf
              have HBB := Lib.hid hbb
              clear hbf hbb
              have hln := HQ.out.2.2.2.2
              have ka := (Kp.refl (fun _ => False) wr).alloc (.cells #[.int .i64 (pkn l x).num] 3)
              obtain ⟨v2, w2, hr2, ho2, k2, hb2⟩ := app_one Try.underlying24 elem_i64 (HQ.out.1.kp ka (fun _ _ h => h)) (x := .int .i64 (pkn l x).num) rfl (by have := HB.out; omega) wr.heap.size (At.new wr [.int .i64 (pkn l x).num] 3)
              have HR := Lib.hid hr2
              have K2 := Lib.hid (And.intro ho2 (And.intro k2 (And.intro hb2 ka)))
              clear hr2 ho2 k2 hb2 ka hln
              go_wp2_with (first | (go_at_call 20; (with_reducible refine (HCF.out _).mono ?_); rintro e w9 ⟨rfl, rfl⟩) | (at_builtin; refine wpList_append_run _ HR.out rfl rfl rfl rfl ?_))
              go_roundw
              case rel =>
                have hki := HKI.out
                have e1 := HX.out.1
                rw [← HBE.out, HBB.out, if_neg (by simp)] at e1
                have el : (selL l least (W.take (k + 1))).length = LN + 1 := by rw [e1, List.length_append, ← HLN.out]; rfl
                have hw3 := HQ.out.2.2.2.1.size
                refine ⟨k + 1, by omega, by go_num, ?_, by rw [el]; omega, fun g hg => ?_, (HQ.out.2.2.2.1.trans K2.out.2.2.2).then K2.out.2.1 (fun j hj e => by have := HQ.out.2.2.1 j e; omega)⟩
                · rw [el, e1]
                  unfold intsZ at *
                  rw [List.map_append]
                  exact K2.out.1
                · rcases K2.out.2.2.1 with e | e
                  · exact HQ.out.2.2.1 g (e ▸ hg)
                  · rw [hg, World.size_alloc] at e
                    have := Option.some.inj e
                    omega
              case measure => have hki := HKI.out; simp [intOf]; omega
            · have hbf := before_any least F
              rw [hbb] at hbf
              have HCF := Lib.hid hbf
              have HBB := Lib.hid hbb
              clear hbf hbb
              go_wp2_with (go_at_call 20; (with_reducible refine (HCF.out _).mono ?_); rintro e w9 ⟨rfl, rfl⟩)
              go_roundw
              case rel =>
                have hki := HKI.out
                have e1 := HX.out.1
                rw [← HBE.out, HBB.out, if_pos rfl] at e1
                refine ⟨k + 1, by omega, by go_num, ?_, by rw [e1, ← HLN.out]; exact HQ.out.2.1, HQ.out.2.2.1, HQ.out.2.2.2.1⟩
                rw [e1, ← HLN.out]
                exact HQ.out.1
              case measure => have hki := HKI.out; simp [intOf]; omega
        · obtain rfl : k = i := by omega
          clear hon hlm hgn hkp hlk
          go_wp2_with fail
          rw [Exit.noGoto_ret]
          go_ret
          have ed := selL_done (l := l) (least := least) (most := most) (W := W) (k := k) HQ.out.2.1 (.inl (by rw [HW.out.2.2.2.2.1]; exact Nat.le_refl _))
          have h3 := HP.out.2.2.2.2.size
          have h4 := HW.out.2.2.2.1.size
          refine ⟨_, W, rfl, fun Q hQ => Prts.order ⟨by rw [HP.out.1, H.out.2.1], fun j hj => HP.out.2.1 j (by rw [H.out.2.1]; exact hj)⟩ hQ HW.out.1 (by rw [← H.out.2.1]; exact HW.out.2.1), by rw [← H.out.2.1]; exact HW.out.2.1, by rw [ed]; exact HQ.out.1, fun g hg => by have := HQ.out.2.2.1 g hg; omega, (HP.out.2.2.2.2.trans HW.out.2.2.2.1).trans HQ.out.2.2.2.1⟩
end Go.Proofs.Ytaibdkdmilhloaa
