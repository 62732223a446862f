/- The library's symMerge. -/
import Derived.Test.YtaibdkdmilhloaaQSrtT
namespace Go.Proofs.Ytaibdkdmilhloaa
open Go.RowKit Flt
set_option linter.unusedVariables false
set_option linter.unusedSimpArgs false
/-- what symMerge is asked for -/
def SymOk (D cap p N L : Nat) (pad : List Value) (cm : Nat → Nat → Int) (lt : Nat → Nat → Bool) (w0 : World) (P U V Q : List Nat) (w : World) (a m b : Nat) : Prop :=
  Calls Try.prog 55 #[.slice (some ⟨D, 0, none⟩) L cap, .int .i64 (a : Nat), .int .i64 (m : Nat), .int .i64 (b : Nat), .func (.func 49) #[] #[.pointer (some ⟨p, 0, none⟩)]] w fun e w' => e = .returned (.tuple #[]) ∧ (∃ W, W.Pairwise (Rr lt) ∧ W.Perm (U ++ V) ∧ At w' D (nums (P ++ W ++ Q) ++ pad)) ∧ Kp (· = D) w w'
theorem sym_fin {lt : Nat → Nat → Bool} {D : Nat} {pad : List Value} {P U V Q U1 U2 V1 V2 W1 W2 : List Nat} {w : World} (hw : Wk lt) (hU : U.Pairwise (Rr lt)) (hV : V.Pairwise (Rr lt)) (hi : ∀ u ∈ U, ∀ v ∈ V, u < v) (eU : U1 ++ U2 = U) (eV : V1 ++ V2 = V)
    (c1 : U1 = [] ∨ V2 = [] ∨ ∃ U' u v V', U1 = U' ++ [u] ∧ V2 = v :: V' ∧ lt v u = false)
    (c2 : U2 = [] ∨ V1 = [] ∨ ∃ u U' V' v, U2 = u :: U' ∧ V1 = V' ++ [v] ∧ lt v u = true)
    (h1 : W1.Pairwise (Rr lt)) (h2 : W2.Pairwise (Rr lt)) (p1 : W1.Perm (U1 ++ V1)) (p2 : W2.Perm (U2 ++ V2)) (h : At w D (nums (P ++ W1 ++ W2 ++ Q) ++ pad)) :
    ∃ W, W.Pairwise (Rr lt) ∧ W.Perm (U ++ V) ∧ At w D (nums (P ++ W ++ Q) ++ pad) := by
  subst eU; subst eV
  obtain ⟨r1, r2⟩ := merge_law hw hU hV hi c1 c2 h1 h2 p1 p2
  exact ⟨W1 ++ W2, r1, r2, by rw [← List.append_assoc P]; exact h⟩
set_option maxRecDepth 20000 in
set_option maxHeartbeats 4000000 in
theorem sym_step (D cap p N L : Nat) (pad : List Value) (cm : Nat → Nat → Int) (lt : Nat → Nat → Bool) (hlt : ∀ x y, lt x y = decide (cm x y < 0)) (hw : Wk lt) (hd : L ≤ 1000000) (K : Nat)
    (IH : ∀ (P U V Q : List Nat) (w : World), U.length + V.length < K → At w D (nums (P ++ U ++ V ++ Q) ++ pad) → L = P.length + U.length + V.length + Q.length → 0 < U.length → 0 < V.length → (∀ v ∈ U ++ V, v < N) → CmOk D p N cm w → U.Pairwise (Rr lt) → V.Pairwise (Rr lt) → (∀ u ∈ U, ∀ v ∈ V, u < v) →
      SymOk D cap p N L pad cm lt w P U V Q w P.length (P.length + U.length) (P.length + U.length + V.length))
    (P U V Q : List Nat) (w : World) (hK : U.length + V.length = K) (hat : At w D (nums (P ++ U ++ V ++ Q) ++ pad)) (hL : L = P.length + U.length + V.length + Q.length) (hU2 : 2 ≤ U.length) (hV2 : 2 ≤ V.length) (hN : ∀ v ∈ U ++ V, v < N) (CM : CmOk D p N cm w) (hU : U.Pairwise (Rr lt)) (hV : V.Pairwise (Rr lt)) (hi : ∀ u ∈ U, ∀ v ∈ V, u < v) :
    SymOk D cap p N L pad cm lt w P U V Q w P.length (P.length + U.length) (P.length + U.length + V.length) := by
  obtain ⟨a, ha⟩ : ∃ a, a = P.length := ⟨_, rfl⟩
  obtain ⟨nu, hnu⟩ : ∃ nu, nu = U.length := ⟨_, rfl⟩
  obtain ⟨nv, hnv⟩ : ∃ nv, nv = V.length := ⟨_, rfl⟩
  obtain ⟨m, hm⟩ : ∃ m, m = a + nu := ⟨_, rfl⟩
  obtain ⟨b, hb⟩ : ∃ b, b = m + nv := ⟨_, rfl⟩
  obtain ⟨hf, hhf⟩ : ∃ hf, hf = (nu + nv) / 2 := ⟨_, rfl⟩
  obtain ⟨mid, hmid⟩ : ∃ mid, mid = a + hf := ⟨_, rfl⟩
  rw [← ha, ← hnu, ← hm, ← hnv, ← hb]
  rw [← ha, ← hnu, ← hnv] at hL
  rw [← hnu, ← hnv] at hK
  rw [← hnu] at hU2
  rw [← hnv] at hV2
  unfold SymOk
  have HP := Lib.hid (And.intro ha (And.intro hnu (And.intro hnv (And.intro hm (And.intro hb (And.intro hhf (And.intro hmid (And.intro hL (And.intro hK (And.intro hU2 hV2))))))))))
  have HU := Lib.hid (And.intro hU (And.intro hV (And.intro hi (And.intro hN hw))))
  have HI := Lib.hid IH
  have HC := Lib.hid CM
  have HLT := Lib.hid hlt
  have HAT := Lib.hid hat
  have i0 : ¬ (m : Int) - (a : Int) = 1 := by omega
  have i00 : ¬ (b : Int) - (m : Int) = 1 := by omega
  have e0 : ((a : Int) + (b : Int)) / 2 = (mid : Int) := by omega
  have b1 : a ≤ m := by omega
  have b2 : m ≤ b := by omega
  have b3 : b ≤ L := by omega
  have b4 : mid ≤ b := by omega
  obtain ⟨s0, hs0⟩ : ∃ s0, s0 = hf - nv := ⟨_, rfl⟩
  obtain ⟨r0, hr0⟩ : ∃ r0, r0 = min hf nu := ⟨_, rfl⟩
  have HS0 := Lib.hid (And.intro hs0 hr0)
  obtain ⟨nN, hnN⟩ : ∃ nN, nN = mid + m := ⟨_, rfl⟩
  have HNN := Lib.hid hnN
  have hcase : ((mid : Int) < (m : Int) ∧ (mid : Int) + (m : Int) - (b : Int) = ((a + s0 : Nat) : Int) ∧ mid = a + r0) ∨ (¬ (mid : Int) < (m : Int) ∧ a = a + s0 ∧ m = a + r0) := by omega
  clear hat hL hU2 hV2 hN CM hU hV hi hK IH hlt hw ha hnu hnv hm hb hhf hmid hs0 hr0 hnN
  have hcase2 := Lib.hid hcase
  rcases hcase with ⟨g1, g2, g3⟩ | ⟨g1, g2, g3⟩
  all_goals
    clear g3
    try (have g1' : ¬ (mid : Int) < (m : Int) := g1; clear g2)
    go_enter Try.func55, Try.ntmps55
    go_wp2
    go_loopw [20, 21] (fun iv jv wr => ∃ s t : Nat, s0 ≤ s ∧ s ≤ t ∧ t ≤ r0 ∧ iv = .int .i64 ((a + s : Nat) : Int) ∧ jv = .int .i64 ((a + t : Nat) : Int) ∧ (s = s0 ∨ lt (V.getD (hf - 1 - (s - 1)) 0) (U.getD (s - 1) 0) = false) ∧ (t = r0 ∨ lt (V.getD (hf - 1 - t) 0) (U.getD t 0) = true) ∧ At wr D (nums (P ++ U ++ V ++ Q) ++ pad) ∧ Kp (· = D) w wr) (fun iv jv _ => (intOf jv).toNat - (intOf iv).toNat)
    case atStart =>
      have h1 := HP.out
      have h2 := HS0.out
      refine ⟨s0, r0, Nat.le_refl _, by omega, Nat.le_refl _, ?_, ?_, .inl rfl, .inl rfl, HAT.out, Kp.refl _ _⟩
      · rcases hcase2.out with ⟨q1, q2, q3⟩ | ⟨q1, q2, q3⟩ <;> first | (exfalso; omega) | (simp; done) | (rw [← q2])
      · rcases hcase2.out with ⟨q1, q2, q3⟩ | ⟨q1, q2, q3⟩ <;> first | (exfalso; omega) | (rw [← q3])
    case round =>
      obtain ⟨s, t, hss, hst, htr, rfl, rfl, h1, h2, hat, hk⟩ := hrel
      have hp := HP.out
      have hz := HS0.out
      by_cases hlt : s < t
      · obtain ⟨c, hc⟩ : ∃ c, c = (s + t) / 2 := ⟨_, rfl⟩
        obtain ⟨d, hd'⟩ : ∃ d, d = hf - 1 - c := ⟨_, rfl⟩
        have hcU : c < U.length := by omega
        have hdV : d < V.length := by omega
        obtain ⟨u, hu⟩ : ∃ u, u = U[c] := ⟨_, rfl⟩
        obtain ⟨v, hv⟩ : ∃ v, v = V[d] := ⟨_, rfl⟩
        have huN : u < N := by rw [hu]; exact HU.out.2.2.2.1 _ (List.mem_append_left _ (List.getElem_mem hcU))
        have hvN : v < N := by rw [hv]; exact HU.out.2.2.2.1 _ (List.mem_append_right _ (List.getElem_mem hdV))
        have hud : U.getD c 0 = u := by rw [hu]; simp [List.getD_eq_getElem?_getD, hcU]
        have hvd : V.getD d 0 = v := by rw [hv]; simp [List.getD_eq_getElem?_getD, hdV]
        obtain ⟨iN, hiN⟩ : ∃ iN, iN = a + s := ⟨_, rfl⟩
        obtain ⟨jN, hjN⟩ : ∃ jN, jN = a + t := ⟨_, rfl⟩
        obtain ⟨hN, hhN⟩ : ∃ hN, hN = a + c := ⟨_, rfl⟩
        obtain ⟨vN, hvvN⟩ : ∃ vN, vN = m + d := ⟨_, rfl⟩
        have cu : wr.cell? ⟨D, hN, none⟩ = some (.int .i64 (u : Int)) := by
          rw [hat.cell, show P ++ U ++ V ++ Q = (P ++ U.take c) ++ u :: (U.drop (c + 1) ++ V ++ Q) by
            have e : U = U.take c ++ u :: U.drop (c + 1) := by rw [hu, ← List.drop_eq_getElem_cons hcU, List.take_append_drop]
            conv => lhs; rw [e]
            simp]
          exact nums_at _ _ _ _ _ (by rw [List.length_append, List.length_take]; omega)
        have cv : wr.cell? ⟨D, vN, none⟩ = some (.int .i64 (v : Int)) := by
          rw [hat.cell, show P ++ U ++ V ++ Q = (P ++ U ++ V.take d) ++ v :: (V.drop (d + 1) ++ Q) by
            have e : V = V.take d ++ v :: V.drop (d + 1) := by rw [hv, ← List.drop_eq_getElem_cons hdV, List.take_append_drop]
            conv => lhs; rw [e]
            simp]
          exact nums_at _ _ _ _ _ (by rw [List.length_append, List.length_append, List.length_take]; omega)
        have CQ := fun n => Calls.quiet_of (n := n) (HC.out (wr.drewN n) v u (hk.drewN n) hvN huN)
        have HX := HLT.out v u
        have H1 := Lib.hid (And.intro hat (And.intro hk (And.intro h1 (And.intro h2 (And.intro hc (And.intro hd' (And.intro hud hvd)))))))
        have HE := Lib.hid (And.intro hiN (And.intro hjN hhN))
        have e1 : ((iN : Int) + (jN : Int)) / 2 = (hN : Int) := by omega
        have e2 : (mid : Int) + (m : Int) - 1 - (hN : Int) = (vN : Int) := by omega
        have i1 : (iN : Int) < (jN : Int) := by omega
        have i2 : (hN : Int) < (L : Int) := by omega
        have i3 : (vN : Int) < (L : Int) := by omega
        have i4 : iN ≤ 1000000 := by omega
        have i5 : jN ≤ 1000000 := by omega
        rw [← hiN, ← hjN]
        clear hat hk h1 h2 hvd hud hv hu hiN hjN hhN hcU hdV hp hz hvvN
        generalize cm v u = z at *
        by_cases hz : z < 0
        · rw [decide_eq_true hz] at HX
          have HX' := Lib.hid HX
          clear HX
          go_upto_region 35 with fail
          go_quiet (exact CQ _)
          go_wp2
          go_roundw
          case rel =>
            obtain ⟨a1, a2, a3, a4, a5, a6, a7, a8⟩ := H1.out
            obtain ⟨b1, b2, b3⟩ := HE.out
            exact ⟨s, c, hss, by omega, by omega, by rw [b1], by rw [b3], a3, .inr (by rw [← a6, a7, a8]; exact HX'.out), a1.drewN _, a2.drewN _⟩
          case measure =>
            obtain ⟨b1, b2, b3⟩ := HE.out
            have := H1.out.2.2.2.2.1
            simp [intOf]; omega
        · rw [decide_eq_false hz] at HX
          have HX' := Lib.hid HX
          clear HX
          go_upto_region 35 with fail
          go_quiet (exact CQ _)
          go_wp2
          go_roundw
          case rel =>
            obtain ⟨a1, a2, a3, a4, a5, a6, a7, a8⟩ := H1.out
            obtain ⟨b1, b2, b3⟩ := HE.out
            exact ⟨c + 1, t, by omega, by omega, htr, by rw [show a + (c + 1) = hN + 1 by omega]; go_num, by rw [b2], .inr (by rw [Nat.add_sub_cancel, ← a6, a7, a8]; exact HX'.out), a4, a1.drewN _, a2.drewN _⟩
          case measure =>
            obtain ⟨b1, b2, b3⟩ := HE.out
            have := H1.out.2.2.2.2.1
            simp [intOf]; omega
      · obtain rfl : s = t := by omega
        obtain ⟨f, hff⟩ : ∃ f, f = hf - s := ⟨_, rfl⟩
        have hsnu : s ≤ nu := by omega
        have hfnv : f ≤ nv := by omega
        obtain ⟨U1, hU1⟩ : ∃ U1, U1 = U.take s := ⟨_, rfl⟩
        obtain ⟨U2, hU2⟩ : ∃ U2, U2 = U.drop s := ⟨_, rfl⟩
        obtain ⟨V1, hV1⟩ : ∃ V1, V1 = V.take f := ⟨_, rfl⟩
        obtain ⟨V2, hV2⟩ : ∃ V2, V2 = V.drop f := ⟨_, rfl⟩
        have l1 : U1.length = s := by rw [hU1, List.length_take]; omega
        have l2 : U2.length = nu - s := by rw [hU2, List.length_drop]; omega
        have l3 : V1.length = f := by rw [hV1, List.length_take]; omega
        have l4 : V2.length = nv - f := by rw [hV2, List.length_drop]; omega
        have eU : U1 ++ U2 = U := by rw [hU1, hU2, List.take_append_drop]
        have eV : V1 ++ V2 = V := by rw [hV1, hV2, List.take_append_drop]
        have c1 : U1 = [] ∨ V2 = [] ∨ ∃ U' u v V', U1 = U' ++ [u] ∧ V2 = v :: V' ∧ lt v u = false := by
          rcases Nat.eq_zero_or_pos s with g | g
          · exact .inl (List.eq_nil_of_length_eq_zero (by omega))
          · rcases Nat.lt_or_ge f nv with g' | g'
            · right; right
              rcases h1 with h | h
              · omega
              · obtain ⟨s', rfl⟩ : ∃ s', s = s' + 1 := ⟨s - 1, by omega⟩
                have hs' : s' < U.length := by omega
                have hf' : f < V.length := by omega
                refine ⟨U.take s', U[s'], V[f], V.drop (f + 1), by rw [hU1]; exact List.take_succ_eq_append_getElem hs', by rw [hV2]; exact List.drop_eq_getElem_cons hf', ?_⟩
                rw [Nat.add_sub_cancel, show hf - 1 - s' = f by omega] at h
                simpa [List.getD_eq_getElem?_getD, hs', hf'] using h
            · exact .inr (.inl (List.eq_nil_of_length_eq_zero (by omega)))
        have c2 : U2 = [] ∨ V1 = [] ∨ ∃ u U' V' v, U2 = u :: U' ∧ V1 = V' ++ [v] ∧ lt v u = true := by
          rcases Nat.lt_or_ge s nu with g | g
          · rcases Nat.eq_zero_or_pos f with g' | g'
            · exact .inr (.inl (List.eq_nil_of_length_eq_zero (by omega)))
            · right; right
              rcases h2 with h | h
              · omega
              · obtain ⟨f', rfl⟩ : ∃ f', f = f' + 1 := ⟨f - 1, by omega⟩
                have hs' : s < U.length := by omega
                have hf' : f' < V.length := by omega
                refine ⟨U[s], U.drop (s + 1), V.take f', V[f'], by rw [hU2]; exact List.drop_eq_getElem_cons hs', by rw [hV1]; exact List.take_succ_eq_append_getElem hf', ?_⟩
                rw [show hf - 1 - s = f' by omega] at h
                simpa [List.getD_eq_getElem?_getD, hs', hf'] using h
          · exact .inl (List.eq_nil_of_length_eq_zero (by omega))
        have HCC := Lib.hid (And.intro c1 (And.intro c2 (And.intro eU eV)))
        have HT0 : Hid (At wr D (nums (P ++ U1 ++ U2 ++ V1 ++ V2 ++ Q) ++ pad)) := by
          show At _ _ _
          rw [← eU, ← eV] at hat
          simpa using hat
        have HK0 := Lib.hid hk
        obtain ⟨us, vs, ui, un, hw⟩ := HU.out
        have us' := us
        have vs' := vs
        rw [← eU] at us'
        rw [← eV] at vs'
        obtain ⟨u1s, u2s, _⟩ := List.pairwise_append.1 us'
        obtain ⟨v1s, v2s, _⟩ := List.pairwise_append.1 vs'
        have HSS := Lib.hid (And.intro u1s (And.intro u2s (And.intro v1s v2s)))
        have m1 : ∀ x ∈ U1, x ∈ U := fun x hx => by rw [← eU]; exact List.mem_append_left _ hx
        have m2 : ∀ x ∈ U2, x ∈ U := fun x hx => by rw [← eU]; exact List.mem_append_right _ hx
        have m3 : ∀ x ∈ V1, x ∈ V := fun x hx => by rw [← eV]; exact List.mem_append_left _ hx
        have m4 : ∀ x ∈ V2, x ∈ V := fun x hx => by rw [← eV]; exact List.mem_append_right _ hx
        obtain ⟨st, hst'⟩ : ∃ st, st = a + s := ⟨_, rfl⟩
        obtain ⟨en, hen⟩ : ∃ en, en = m + f := ⟨_, rfl⟩
        have RCg : s < nu → 0 < f → Calls Try.prog 56 #[.slice (some ⟨D, 0, none⟩) L cap, .int .i64 (st : Nat), .int .i64 (m : Nat), .int .i64 (en : Nat), .func (.func 49) #[] #[.pointer (some ⟨p, 0, none⟩)]] wr fun e w' => e = .returned (.tuple #[]) ∧ At w' D (nums (P ++ U1 ++ V1 ++ (U2 ++ V2 ++ Q)) ++ pad) ∧ Kp (· = D) w w' := fun g1 g2 => by
          have R := rotate_any D cap (P ++ U1) U2 V1 (V2 ++ Q) pad (.func (.func 49) #[] #[.pointer (some ⟨p, 0, none⟩)]) wr (by have := HT0.out; simpa using this) (by omega) (by omega) L (by simp only [List.length_append]; omega) hd
          rw [show (P ++ U1).length = st by rw [List.length_append]; omega, show st + U2.length = m by omega, show m + V1.length = en by omega] at R
          refine R.mono ?_
          rintro e w' ⟨rfl, h, k⟩
          exact ⟨rfl, by simpa using h, HK0.out.trans k⟩
        have S1g : ∀ w2, At w2 D (nums (P ++ U1 ++ V1 ++ (U2 ++ V2 ++ Q)) ++ pad) → Kp (· = D) w w2 → 0 < s → 0 < f → SymOk D cap p N L pad cm lt w P U1 V1 (U2 ++ V2 ++ Q) w2 a st mid := fun w2 h k g1 g2 => by
          have R := HI.out P U1 V1 (U2 ++ V2 ++ Q) w2 (by omega) h (by simp only [List.length_append]; omega) (by omega) (by omega) (fun v hv => un v (by
            rcases List.mem_append.1 hv with g | g
            · exact List.mem_append_left _ (m1 v g)
            · exact List.mem_append_right _ (m3 v g))) (HC.out.later k) u1s v1s (fun u hu v hv => ui u (m1 u hu) v (m3 v hv))
          rw [show P.length = a by omega, show a + U1.length = st by omega, show st + V1.length = mid by omega] at R
          exact R
        have S2g : ∀ W1 w3, W1.Perm (U1 ++ V1) → At w3 D (nums (P ++ W1 ++ (U2 ++ V2 ++ Q)) ++ pad) → Kp (· = D) w w3 → s < nu → f < nv → SymOk D cap p N L pad cm lt w (P ++ W1) U2 V2 Q w3 mid en b := fun W1 w3 hp3 h k g1 g2 => by
          have lw : W1.length = s + f := by rw [hp3.length_eq, List.length_append, l1, l3]
          have R := HI.out (P ++ W1) U2 V2 Q w3 (by omega) (by simpa using h) (by simp only [List.length_append]; omega) (by omega) (by omega) (fun v hv => un v (by
            rcases List.mem_append.1 hv with g | g
            · exact List.mem_append_left _ (m2 v g)
            · exact List.mem_append_right _ (m4 v g))) (HC.out.later k) u2s v2s (fun u hu v hv => ui u (m2 u hu) v (m4 v hv))
          rw [show (P ++ W1).length = mid by rw [List.length_append]; omega, show mid + U2.length = en by omega, show en + V2.length = b by omega] at R
          exact R
        unfold SymOk at S1g S2g
        have e3 : (mid : Int) + (m : Int) - (st : Int) = (en : Int) := by omega
        have e4 : mid = st + f := by omega
        have HE4 := Lib.hid e4
        rw [← hst']
        have hmL : m ≤ 1000000 := by omega
        have hmidL : mid ≤ 1000000 := by omega
        have hstL : st ≤ 1000000 := by omega
        clear hat hk h1 h2 c1 c2 eU eV hU1 hU2 hV1 hV2 us vs ui un hw us' vs' u1s u2s v1s v2s m1 m2 m3 m4 hp hz e4 hlt
        have HB := Lib.hid (And.intro hst' (And.intro hen (And.intro hff (And.intro hss (And.intro htr (And.intro hsnu hfnv))))))
        clear hst' hen hff hss htr hsnu hfnv
        rcases Nat.eq_zero_or_pos f with hf0 | hf0
        · by_cases hsn : s < nu
          · skip
            have hp := HP.out
            have hb := HB.out
            have j1 : (st : Int) < (m : Int) := by omega
            have j2 : ¬ (m : Int) < (en : Int) := by omega
            have j3 : (a : Int) < (st : Int) := by omega
            have j4 : ¬ (st : Int) < (mid : Int) := by omega
            have j5 : (mid : Int) < (en : Int) := by omega
            have j6 : (en : Int) < (b : Int) := by omega
            have H2 : Hid (At wr D (nums (P ++ U1 ++ V1 ++ (U2 ++ V2 ++ Q)) ++ pad) ∧ Kp (· = D) w wr) := by
              refine ⟨?_, HK0.out⟩
              have h9 := HT0.out
              have hn : V1 = [] := List.eq_nil_of_length_eq_zero (by omega)
              rw [hn] at h9 ⊢
              simpa using h9
            clear RCg
            have hs1 : (U1 ++ V1).Pairwise (Rr lt) := by
              rw [show V1 = [] from List.eq_nil_of_length_eq_zero (by omega), List.append_nil]; exact HSS.out.1
            have HS1 := Lib.hid hs1
            clear hs1
            have S2 := Lib.hid (fun W1 w3 hp3 h k => S2g W1 w3 hp3 h k (by have := HP.out; omega) (by have := HP.out; omega))
            clear S1g S2g l1 l2 l3 l4 hp hb
            go_wp2_with (first | (go_at_call 55; have H3 : Hid ((U1 ++ V1).Pairwise (Rr lt) ∧ (U1 ++ V1).Perm (U1 ++ V1) ∧ At wr D (nums (P ++ (U1 ++ V1) ++ (U2 ++ V2 ++ Q)) ++ pad) ∧ Kp (· = D) w wr) := ⟨HS1.out, List.Perm.refl _, by have := H2.out.1; rwa [List.append_assoc P] at this, H2.out.2⟩; (with_reducible refine (S2.out _ _ H3.out.2.1 H3.out.2.2.1 H3.out.2.2.2).mono ?_); rintro e w4 ⟨rfl, ⟨W2, q1, q2, q3⟩, k4⟩; have H4 := Lib.hid (And.intro q1 (And.intro q2 (And.intro q3 (H3.out.2.2.2.trans k4)))); clear q1 q2 q3 k4))
            all_goals
              go_end0
              obtain ⟨W, z1, z2, z3⟩ := sym_fin HU.out.2.2.2.2 HU.out.1 HU.out.2.1 HU.out.2.2.1 HCC.out.2.2.1 HCC.out.2.2.2 HCC.out.1 HCC.out.2.1 H3.out.1 H4.out.1 H3.out.2.1 H4.out.2.1 H4.out.2.2.1
              exact ⟨rfl, ⟨W, z1, z2, by simpa only [List.append_assoc] using z3⟩, H4.out.2.2.2⟩
          · skip
            have hp := HP.out
            have hb := HB.out
            have j1 : ¬ (st : Int) < (m : Int) := by omega
            have j2 : ¬ (m : Int) < (en : Int) := by omega
            have j3 : (a : Int) < (st : Int) := by omega
            have j4 : ¬ (st : Int) < (mid : Int) := by omega
            have j5 : ¬ (mid : Int) < (en : Int) := by omega
            have j6 : (en : Int) < (b : Int) := by omega
            have H2 : Hid (At wr D (nums (P ++ U1 ++ V1 ++ (U2 ++ V2 ++ Q)) ++ pad) ∧ Kp (· = D) w wr) := by
              refine ⟨?_, HK0.out⟩
              have h9 := HT0.out
              have hn : V1 = [] := List.eq_nil_of_length_eq_zero (by omega)
              rw [hn] at h9 ⊢
              simpa using h9
            clear RCg
            have hs1 : (U1 ++ V1).Pairwise (Rr lt) := by
              rw [show V1 = [] from List.eq_nil_of_length_eq_zero (by omega), List.append_nil]; exact HSS.out.1
            have HS1 := Lib.hid hs1
            clear hs1
            have hs2 : (U2 ++ V2).Pairwise (Rr lt) := by
              rw [show U2 = [] from List.eq_nil_of_length_eq_zero (by have := HP.out; omega), List.nil_append]; exact HSS.out.2.2.2
            have HS2 := Lib.hid hs2
            clear hs2
            clear S1g S2g l1 l2 l3 l4 hp hb
            go_wp2
            all_goals
              go_end0
              have H3 : Hid ((U1 ++ V1).Pairwise (Rr lt) ∧ (U1 ++ V1).Perm (U1 ++ V1) ∧ At wr D (nums (P ++ (U1 ++ V1) ++ (U2 ++ V2 ++ Q)) ++ pad) ∧ Kp (· = D) w wr) := ⟨HS1.out, List.Perm.refl _, by have := H2.out.1; rwa [List.append_assoc P] at this, H2.out.2⟩
              have H4 : Hid ((U2 ++ V2).Pairwise (Rr lt) ∧ (U2 ++ V2).Perm (U2 ++ V2) ∧ At wr D (nums (P ++ (U1 ++ V1) ++ (U2 ++ V2) ++ Q) ++ pad) ∧ Kp (· = D) w wr) := ⟨HS2.out, List.Perm.refl _, by have := H3.out.2.2.1; rw [← List.append_assoc (P ++ (U1 ++ V1))] at this; exact this, H3.out.2.2.2⟩
              obtain ⟨W, z1, z2, z3⟩ := sym_fin HU.out.2.2.2.2 HU.out.1 HU.out.2.1 HU.out.2.2.1 HCC.out.2.2.1 HCC.out.2.2.2 HCC.out.1 HCC.out.2.1 H3.out.1 H4.out.1 H3.out.2.1 H4.out.2.1 H4.out.2.2.1
              exact ⟨rfl, ⟨W, z1, z2, by simpa only [List.append_assoc] using z3⟩, H4.out.2.2.2⟩
        · by_cases hsn : s < nu
          · rcases Nat.eq_zero_or_pos s with hs0 | hs0
            · by_cases hfn : f < nv
              · skip
                have hp := HP.out
                have hb := HB.out
                have j1 : (st : Int) < (m : Int) := by omega
                have j2 : (m : Int) < (en : Int) := by omega
                have j3 : ¬ (a : Int) < (st : Int) := by omega
                have j4 : (st : Int) < (mid : Int) := by omega
                have j5 : (mid : Int) < (en : Int) := by omega
                have j6 : (en : Int) < (b : Int) := by omega
                have RC := Lib.hid (RCg (by omega) (by omega))
                clear RCg
                have hs1 : (U1 ++ V1).Pairwise (Rr lt) := by
                  rw [show U1 = [] from List.eq_nil_of_length_eq_zero (by omega), List.nil_append]; exact HSS.out.2.2.1
                have HS1 := Lib.hid hs1
                clear hs1
                have S2 := Lib.hid (fun W1 w3 hp3 h k => S2g W1 w3 hp3 h k (by have := HP.out; omega) (by have := HP.out; omega))
                clear S1g S2g l1 l2 l3 l4 hp hb
                go_wp2_with (first | (go_at_call 56; (with_reducible refine RC.out.mono ?_); rintro e w2 ⟨rfl, h2, k2⟩; have H2 := Lib.hid (And.intro h2 k2); clear h2 k2) | (go_at_call 55; have H3 : Hid ((U1 ++ V1).Pairwise (Rr lt) ∧ (U1 ++ V1).Perm (U1 ++ V1) ∧ At w2 D (nums (P ++ (U1 ++ V1) ++ (U2 ++ V2 ++ Q)) ++ pad) ∧ Kp (· = D) w w2) := ⟨HS1.out, List.Perm.refl _, by have := H2.out.1; rwa [List.append_assoc P] at this, H2.out.2⟩; (with_reducible refine (S2.out _ _ H3.out.2.1 H3.out.2.2.1 H3.out.2.2.2).mono ?_); rintro e w4 ⟨rfl, ⟨W2, q1, q2, q3⟩, k4⟩; have H4 := Lib.hid (And.intro q1 (And.intro q2 (And.intro q3 (H3.out.2.2.2.trans k4)))); clear q1 q2 q3 k4))
                all_goals
                  go_end0
                  obtain ⟨W, z1, z2, z3⟩ := sym_fin HU.out.2.2.2.2 HU.out.1 HU.out.2.1 HU.out.2.2.1 HCC.out.2.2.1 HCC.out.2.2.2 HCC.out.1 HCC.out.2.1 H3.out.1 H4.out.1 H3.out.2.1 H4.out.2.1 H4.out.2.2.1
                  exact ⟨rfl, ⟨W, z1, z2, by simpa only [List.append_assoc] using z3⟩, H4.out.2.2.2⟩
              · skip
                have hp := HP.out
                have hb := HB.out
                have j1 : (st : Int) < (m : Int) := by omega
                have j2 : (m : Int) < (en : Int) := by omega
                have j3 : ¬ (a : Int) < (st : Int) := by omega
                have j4 : (st : Int) < (mid : Int) := by omega
                have j5 : (mid : Int) < (en : Int) := by omega
                have j6 : ¬ (en : Int) < (b : Int) := by omega
                have RC := Lib.hid (RCg (by omega) (by omega))
                clear RCg
                have hs1 : (U1 ++ V1).Pairwise (Rr lt) := by
                  rw [show U1 = [] from List.eq_nil_of_length_eq_zero (by omega), List.nil_append]; exact HSS.out.2.2.1
                have HS1 := Lib.hid hs1
                clear hs1
                have hs2 : (U2 ++ V2).Pairwise (Rr lt) := by
                  rw [show V2 = [] from List.eq_nil_of_length_eq_zero (by have := HP.out; omega), List.append_nil]; exact HSS.out.2.1
                have HS2 := Lib.hid hs2
                clear hs2
                clear S1g S2g l1 l2 l3 l4 hp hb
                go_wp2_with (first | (go_at_call 56; (with_reducible refine RC.out.mono ?_); rintro e w2 ⟨rfl, h2, k2⟩; have H2 := Lib.hid (And.intro h2 k2); clear h2 k2))
                all_goals
                  go_end0
                  have H3 : Hid ((U1 ++ V1).Pairwise (Rr lt) ∧ (U1 ++ V1).Perm (U1 ++ V1) ∧ At w2 D (nums (P ++ (U1 ++ V1) ++ (U2 ++ V2 ++ Q)) ++ pad) ∧ Kp (· = D) w w2) := ⟨HS1.out, List.Perm.refl _, by have := H2.out.1; rwa [List.append_assoc P] at this, H2.out.2⟩
                  have H4 : Hid ((U2 ++ V2).Pairwise (Rr lt) ∧ (U2 ++ V2).Perm (U2 ++ V2) ∧ At w2 D (nums (P ++ (U1 ++ V1) ++ (U2 ++ V2) ++ Q) ++ pad) ∧ Kp (· = D) w w2) := ⟨HS2.out, List.Perm.refl _, by have := H3.out.2.2.1; rw [← List.append_assoc (P ++ (U1 ++ V1))] at this; exact this, H3.out.2.2.2⟩
                  obtain ⟨W, z1, z2, z3⟩ := sym_fin HU.out.2.2.2.2 HU.out.1 HU.out.2.1 HU.out.2.2.1 HCC.out.2.2.1 HCC.out.2.2.2 HCC.out.1 HCC.out.2.1 H3.out.1 H4.out.1 H3.out.2.1 H4.out.2.1 H4.out.2.2.1
                  exact ⟨rfl, ⟨W, z1, z2, by simpa only [List.append_assoc] using z3⟩, H4.out.2.2.2⟩
            · by_cases hfn : f < nv
              · skip
                have hp := HP.out
                have hb := HB.out
                have j1 : (st : Int) < (m : Int) := by omega
                have j2 : (m : Int) < (en : Int) := by omega
                have j3 : (a : Int) < (st : Int) := by omega
                have j4 : (st : Int) < (mid : Int) := by omega
                have j5 : (mid : Int) < (en : Int) := by omega
                have j6 : (en : Int) < (b : Int) := by omega
                have RC := Lib.hid (RCg (by omega) (by omega))
                clear RCg
                have S1 := Lib.hid (fun w2 h k => S1g w2 h k (by omega) (by omega))
                have S2 := Lib.hid (fun W1 w3 hp3 h k => S2g W1 w3 hp3 h k (by have := HP.out; omega) (by have := HP.out; omega))
                clear S1g S2g l1 l2 l3 l4 hp hb
                go_wp2_with (first | (go_at_call 56; (with_reducible refine RC.out.mono ?_); rintro e w2 ⟨rfl, h2, k2⟩; have H2 := Lib.hid (And.intro h2 k2); clear h2 k2) | (go_at_call 55; (with_reducible refine (S1.out _ H2.out.1 H2.out.2).mono ?_); rintro e w3 ⟨rfl, ⟨W1, q1, q2, q3⟩, k3⟩; have H3 := Lib.hid (And.intro q1 (And.intro q2 (And.intro q3 (H2.out.2.trans k3)))); clear q1 q2 q3 k3) | (go_at_call 55; (with_reducible refine (S2.out _ _ H3.out.2.1 H3.out.2.2.1 H3.out.2.2.2).mono ?_); rintro e w4 ⟨rfl, ⟨W2, q1, q2, q3⟩, k4⟩; have H4 := Lib.hid (And.intro q1 (And.intro q2 (And.intro q3 (H3.out.2.2.2.trans k4)))); clear q1 q2 q3 k4))
                all_goals
                  go_end0
                  obtain ⟨W, z1, z2, z3⟩ := sym_fin HU.out.2.2.2.2 HU.out.1 HU.out.2.1 HU.out.2.2.1 HCC.out.2.2.1 HCC.out.2.2.2 HCC.out.1 HCC.out.2.1 H3.out.1 H4.out.1 H3.out.2.1 H4.out.2.1 H4.out.2.2.1
                  exact ⟨rfl, ⟨W, z1, z2, by simpa only [List.append_assoc] using z3⟩, H4.out.2.2.2⟩
              · skip
                have hp := HP.out
                have hb := HB.out
                have j1 : (st : Int) < (m : Int) := by omega
                have j2 : (m : Int) < (en : Int) := by omega
                have j3 : (a : Int) < (st : Int) := by omega
                have j4 : (st : Int) < (mid : Int) := by omega
                have j5 : (mid : Int) < (en : Int) := by omega
                have j6 : ¬ (en : Int) < (b : Int) := by omega
                have RC := Lib.hid (RCg (by omega) (by omega))
                clear RCg
                have S1 := Lib.hid (fun w2 h k => S1g w2 h k (by omega) (by omega))
                have hs2 : (U2 ++ V2).Pairwise (Rr lt) := by
                  rw [show V2 = [] from List.eq_nil_of_length_eq_zero (by have := HP.out; omega), List.append_nil]; exact HSS.out.2.1
                have HS2 := Lib.hid hs2
                clear hs2
                clear S1g S2g l1 l2 l3 l4 hp hb
                go_wp2_with (first | (go_at_call 56; (with_reducible refine RC.out.mono ?_); rintro e w2 ⟨rfl, h2, k2⟩; have H2 := Lib.hid (And.intro h2 k2); clear h2 k2) | (go_at_call 55; (with_reducible refine (S1.out _ H2.out.1 H2.out.2).mono ?_); rintro e w3 ⟨rfl, ⟨W1, q1, q2, q3⟩, k3⟩; have H3 := Lib.hid (And.intro q1 (And.intro q2 (And.intro q3 (H2.out.2.trans k3)))); clear q1 q2 q3 k3))
                all_goals
                  go_end0
                  have H4 : Hid ((U2 ++ V2).Pairwise (Rr lt) ∧ (U2 ++ V2).Perm (U2 ++ V2) ∧ At w3 D (nums (P ++ W1 ++ (U2 ++ V2) ++ Q) ++ pad) ∧ Kp (· = D) w w3) := ⟨HS2.out, List.Perm.refl _, by have := H3.out.2.2.1; rw [← List.append_assoc (P ++ W1)] at this; exact this, H3.out.2.2.2⟩
                  obtain ⟨W, z1, z2, z3⟩ := sym_fin HU.out.2.2.2.2 HU.out.1 HU.out.2.1 HU.out.2.2.1 HCC.out.2.2.1 HCC.out.2.2.2 HCC.out.1 HCC.out.2.1 H3.out.1 H4.out.1 H3.out.2.1 H4.out.2.1 H4.out.2.2.1
                  exact ⟨rfl, ⟨W, z1, z2, by simpa only [List.append_assoc] using z3⟩, H4.out.2.2.2⟩
          · skip
            have hp := HP.out
            have hb := HB.out
            have j1 : ¬ (st : Int) < (m : Int) := by omega
            have j2 : (m : Int) < (en : Int) := by omega
            have j3 : (a : Int) < (st : Int) := by omega
            have j4 : (st : Int) < (mid : Int) := by omega
            have j5 : ¬ (mid : Int) < (en : Int) := by omega
            have j6 : (en : Int) < (b : Int) := by omega
            have H2 : Hid (At wr D (nums (P ++ U1 ++ V1 ++ (U2 ++ V2 ++ Q)) ++ pad) ∧ Kp (· = D) w wr) := by
              refine ⟨?_, HK0.out⟩
              have h9 := HT0.out
              have hn : U2 = [] := List.eq_nil_of_length_eq_zero (by have := HP.out; omega)
              rw [hn] at h9 ⊢
              simpa using h9
            clear RCg
            have S1 := Lib.hid (fun w2 h k => S1g w2 h k (by omega) (by omega))
            have hs2 : (U2 ++ V2).Pairwise (Rr lt) := by
              rw [show U2 = [] from List.eq_nil_of_length_eq_zero (by have := HP.out; omega), List.nil_append]; exact HSS.out.2.2.2
            have HS2 := Lib.hid hs2
            clear hs2
            clear S1g S2g l1 l2 l3 l4 hp hb
            go_wp2_with (first | (go_at_call 55; (with_reducible refine (S1.out _ H2.out.1 H2.out.2).mono ?_); rintro e w3 ⟨rfl, ⟨W1, q1, q2, q3⟩, k3⟩; have H3 := Lib.hid (And.intro q1 (And.intro q2 (And.intro q3 (H2.out.2.trans k3)))); clear q1 q2 q3 k3))
            all_goals
              go_end0
              have H4 : Hid ((U2 ++ V2).Pairwise (Rr lt) ∧ (U2 ++ V2).Perm (U2 ++ V2) ∧ At w3 D (nums (P ++ W1 ++ (U2 ++ V2) ++ Q) ++ pad) ∧ Kp (· = D) w w3) := ⟨HS2.out, List.Perm.refl _, by have := H3.out.2.2.1; rw [← List.append_assoc (P ++ W1)] at this; exact this, H3.out.2.2.2⟩
              obtain ⟨W, z1, z2, z3⟩ := sym_fin HU.out.2.2.2.2 HU.out.1 HU.out.2.1 HU.out.2.2.1 HCC.out.2.2.1 HCC.out.2.2.2 HCC.out.1 HCC.out.2.1 H3.out.1 H4.out.1 H3.out.2.1 H4.out.2.1 H4.out.2.2.1
              exact ⟨rfl, ⟨W, z1, z2, by simpa only [List.append_assoc] using z3⟩, H4.out.2.2.2⟩
end Go.Proofs.Ytaibdkdmilhloaa
