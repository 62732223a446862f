/- The library's symMerge, where the first part has one element. -/
import Derived.Test.YtaibdkdmilhloaaQSrtM
namespace Go.Proofs.Ytaibdkdmilhloaa
open Go.RowKit Flt
set_option linter.unusedVariables false
def CmOk (D p N : Nat) (cm : Nat → Nat → Int) (w : World) : Prop :=
  ∀ w' x y, Kp (· = D) w w' → x < N → y < N → Calls Try.prog 49 #[.int .i64 (x : Nat), .int .i64 (y : Nat), .pointer (some ⟨p, 0, none⟩)] w' fun e w'' => e = .returned (.int .i64 (cm x y)) ∧ ∃ n, w'' = w'.drewN n
theorem CmOk.later {D p N : Nat} {cm : Nat → Nat → Int} {w w' : World} (h : CmOk D p N cm w) (k : Kp (· = D) w w') : CmOk D p N cm w' := fun w2 x y k2 => h w2 x y (k.trans k2)
theorem nums_get (l : List Nat) (pad : List Value) (k : Nat) (h : k < l.length) : (nums l ++ pad)[k]? = some (.int .i64 ((l[k] : Nat) : Int)) := by
  rw [List.getElem?_append_left (by simpa [nums] using h)]
  simp [nums, h]
set_option maxRecDepth 20000 in
theorem sym_one (D cap p N : Nat) (P : List Nat) (x : Nat) (V Q : List Nat) (pad : List Value) (w : World) (cm : Nat → Nat → Int) (hat : At w D (nums (P ++ x :: V ++ Q) ++ pad)) (L : Nat) (hL : L = P.length + 1 + V.length + Q.length) (hd : L ≤ 1000000) (hx : x < N) (hV : ∀ v ∈ V, v < N)
    (CM : Hid (CmOk D p N cm w)) (lt : Nat → Nat → Bool) (hlt : ∀ x y, lt x y = decide (cm x y < 0)) (hw : Wk lt) (hs : V.Pairwise (Rr lt)) (hi : ∀ v ∈ V, x < v) :
    Calls Try.prog 55 #[.slice (some ⟨D, 0, none⟩) L cap, .int .i64 (P.length : Nat), .int .i64 ((P.length + 1 : Nat) : Int), .int .i64 ((P.length + 1 + V.length : Nat) : Int), .func (.func 49) #[] #[.pointer (some ⟨p, 0, none⟩)]] w fun e w' => e = .returned (.tuple #[]) ∧ (∃ W, W.Pairwise (Rr lt) ∧ W.Perm (x :: V) ∧ At w' D (nums (P ++ W ++ Q) ++ pad)) ∧ Kp (· = D) w w' := by
  obtain ⟨a, ha⟩ : ∃ a, a = P.length := ⟨_, rfl⟩
  obtain ⟨n, hn⟩ : ∃ n, n = V.length := ⟨_, rfl⟩
  rw [← ha, ← hn] at hL ⊢
  have HA := Lib.hid (And.intro ha (And.intro hn (And.intro hw (And.intro hs hi))))
  have HLT := Lib.hid hlt
  have HV := Lib.hid hV
  have HAT := Lib.hid hat
  have haL : a + 1 + n ≤ L := by omega
  have HL := Lib.hid hL
  clear hat ha hn hw hs hi hlt hV hL
  have i0 : ((a + 1 : Nat) : Int) - (a : Int) = 1 := by omega
  go_enter Try.func55, Try.ntmps55
  go_wp2
  go_loopw [10, 11] (fun iv jv wr => ∃ s t : Nat, s ≤ t ∧ t ≤ n ∧ iv = .int .i64 ((a + 1 + s : Nat) : Int) ∧ jv = .int .i64 ((a + 1 + t : Nat) : Int) ∧ (s = 0 ∨ lt (V.getD (s - 1) 0) x = true) ∧ (t = n ∨ lt (V.getD t 0) x = false) ∧ At wr D (nums (P ++ x :: V ++ Q) ++ pad) ∧ Kp (· = D) w wr) (fun iv jv _ => (intOf jv).toNat - (intOf iv).toNat)
  case atStart => exact ⟨0, n, by omega, Nat.le_refl _, by simp, by simp, .inl rfl, .inl rfl, HAT.out, Kp.refl _ _⟩
  case round =>
    obtain ⟨s, t, hst, htn, rfl, rfl, h1, h2, hat, hk⟩ := hrel
    by_cases hlt : s < t
    · obtain ⟨c, hc⟩ : ∃ c, c = (s + t) / 2 := ⟨_, rfl⟩
      have hcn : c < n := by omega
      have hcV : c < V.length := by have := HA.out.2.1; omega
      obtain ⟨v, hv⟩ : ∃ v, v = V[c] := ⟨_, rfl⟩
      have hvN : v < N := by rw [hv]; exact HV.out _ (List.getElem_mem hcV)
      have hvd : V.getD c 0 = v := by rw [hv]; simp [List.getD_eq_getElem?_getD, hcV]
      have hdl : (P ++ x :: V ++ Q).length = L := by have := HL.out; have := HA.out; simp only [List.length_append, List.length_cons]; omega
      obtain ⟨iN, hiN⟩ : ∃ iN, iN = a + 1 + s := ⟨_, rfl⟩
      obtain ⟨jN, hjN⟩ : ∃ jN, jN = a + 1 + t := ⟨_, rfl⟩
      obtain ⟨hN, hhN⟩ : ∃ hN, hN = a + 1 + c := ⟨_, rfl⟩
      have cv : wr.cell? ⟨D, hN, none⟩ = some (.int .i64 (v : Int)) := by
        rw [hat.cell, nums_get _ _ _ (by omega)]
        have e : (P ++ x :: V ++ Q)[hN]'(by omega) = v := by
          rw [hv, List.getElem_append_left (by have := HA.out; simp only [List.length_append, List.length_cons]; omega), List.getElem_append_right (by have := HA.out; omega)]
          have : hN - P.length = c + 1 := by have := HA.out; omega
          simp only [this, List.getElem_cons_succ]
        rw [e]
      have cx : wr.cell? ⟨D, a, none⟩ = some (.int .i64 (x : Int)) := by
        rw [hat.cell, List.append_assoc]
        exact nums_at P (V ++ Q) x pad a HA.out.1
      have CQ := fun n => Calls.quiet_of (n := n) (CM.out (wr.drewN n) v x (hk.drewN n) hvN hx)
      have HX := HLT.out v x
      have H1 := Lib.hid (And.intro hat (And.intro hk (And.intro h1 (And.intro h2 (And.intro hc hvd)))))
      have HE := Lib.hid (And.intro hiN (And.intro hjN hhN))
      have e1 : ((iN : Int) + (jN : Int)) / 2 = (hN : Int) := by omega
      have i1 : (iN : Int) < (jN : Int) := by omega
      have i2 : (hN : Int) < (L : Int) := by omega
      have i3 : (a : Int) < (L : Int) := by omega
      have i4 : iN ≤ 1000000 := by omega
      have i5 : jN ≤ 1000000 := by omega
      rw [← hiN, ← hjN]
      clear hat hk h1 h2 hvd hv hdl hiN hjN hhN hcV
      generalize cm v x = z at *
      by_cases hz : z < 0
      · rw [decide_eq_true hz] at HX
        have HX' := Lib.hid HX
        clear HX
        go_upto_region 5 with fail
        go_quiet (exact CQ _)
        go_wp2
        go_roundw
        case rel =>
          obtain ⟨a1, a2, a3, a4, a5, a6⟩ := H1.out
          obtain ⟨b1, b2, b3⟩ := HE.out
          exact ⟨c + 1, t, by omega, htn, by rw [show a + 1 + (c + 1) = hN + 1 by omega]; go_num, by rw [b2], .inr (by rw [Nat.add_sub_cancel, a6]; exact HX'.out), a4, a1.drewN _, a2.drewN _⟩
        case measure =>
          obtain ⟨b1, b2, b3⟩ := HE.out
          have := H1.out.2.2.2.2.1
          simp [intOf]; omega
      · rw [decide_eq_false hz] at HX
        have HX' := Lib.hid HX
        clear HX
        go_upto_region 5 with fail
        go_quiet (exact CQ _)
        go_wp2
        go_roundw
        case rel =>
          obtain ⟨a1, a2, a3, a4, a5, a6⟩ := H1.out
          obtain ⟨b1, b2, b3⟩ := HE.out
          exact ⟨s, c, by omega, by omega, by rw [b1], by rw [b3], a3, .inr (by rw [a6]; exact HX'.out), a1.drewN _, a2.drewN _⟩
        case measure =>
          obtain ⟨b1, b2, b3⟩ := HE.out
          have := H1.out.2.2.2.2.1
          simp [intOf]; omega
    · obtain rfl : s = t := by omega
      have H1 := Lib.hid (And.intro hat (And.intro hk (And.intro h1 h2)))
      have e1 : ((a + 1 + s : Nat) : Int) - 1 = ((a + s : Nat) : Int) := by omega
      obtain ⟨iN, hiN⟩ : ∃ iN, iN = a + 1 + s := ⟨_, rfl⟩
      obtain ⟨eN, heN⟩ : ∃ eN, eN = a + s := ⟨_, rfl⟩
      rw [← hiN, ← heN] at e1
      rw [← hiN]
      have HE := Lib.hid (And.intro hiN heN)
      have hi4 : iN ≤ 1000000 := by omega
      have hi5 : a ≤ eN := by omega
      have hi6 : 1 ≤ iN := by omega
      clear hat hk h1 h2 hiN heN
      go_wp2
      go_loopw [13] (fun kv wr => ∃ r : Nat, r ≤ s ∧ kv = .int .i64 ((a + r : Nat) : Int) ∧ At wr D (nums (P ++ (V.take r ++ x :: V.drop r) ++ Q) ++ pad) ∧ Kp (· = D) w wr) (fun kv _ => a + s - (intOf kv).toNat)
      case atStart => exact ⟨0, by omega, by simp, by simpa using H1.out.1, H1.out.2.1⟩
      case round =>
        obtain ⟨r, hrs, rfl, hat, hk⟩ := hrel
        have hsn : s ≤ V.length := by have := HA.out.2.1; omega
        by_cases hlr : r < s
        · have hrV : r < V.length := by omega
          obtain ⟨y, hy⟩ : ∃ y, y = V[r] := ⟨_, rfl⟩
          have eV : V.drop r = y :: V.drop (r + 1) := by rw [hy]; exact List.drop_eq_getElem_cons hrV
          have tV : V.take (r + 1) = V.take r ++ [y] := by rw [hy]; exact List.take_succ_eq_append_getElem hrV
          have lV : (V.take r).length = r := by rw [List.length_take]; omega
          rw [eV] at hat
          have eL : nums (P ++ (V.take r ++ x :: y :: V.drop (r + 1)) ++ Q) ++ pad = nums ((P ++ V.take r) ++ x :: [] ++ y :: (V.drop (r + 1) ++ Q)) ++ pad := by simp
          rw [eL] at hat
          obtain ⟨kN, hkN⟩ : ∃ kN, kN = a + r := ⟨_, rfl⟩
          have u1 : kN = (P ++ V.take r).length := by rw [List.length_append, lV]; have := HA.out.1; omega
          have u2 : kN + 1 = (P ++ V.take r).length + 1 + ([] : List Nat).length := by rw [← u1]; rfl
          have cx : wr.cell? ⟨D, kN, none⟩ = some (.int .i64 (x : Int)) := by
            rw [hat.cell, List.append_assoc (P ++ V.take r)]
            exact nums_at _ _ _ _ _ u1
          have cy : wr.cell? ⟨D, kN + 1, none⟩ = some (.int .i64 (y : Int)) := by
            rw [hat.cell]
            exact nums_at ((P ++ V.take r) ++ x :: []) _ _ _ _ (by rw [u2]; simp; omega)
          have hf := fun i => hat.frozen i
          have HS := Lib.hid (And.intro hat (And.intro hk (And.intro u1 (And.intro u2 (And.intro tV hkN)))))
          have i1 : (kN : Int) < (eN : Int) := by have := HE.out; omega
          have i2 : (kN : Int) + 1 < (L : Int) := by have := HE.out; omega
          have i3 : (kN : Int) < (L : Int) := by omega
          rw [← hkN]
          clear hat hk eV tV lV eL u1 u2 hy hrV hsn hkN
          go_upto_region 11 with fail
          go_region
          go_wp2
          go_roundw
          case rel =>
            have hk5 := HS.out.2.2.2.2.2
            refine ⟨r + 1, by omega, by rw [show a + (r + 1) = kN + 1 by omega]; go_num, ?_, ?_⟩
            · have h5 := ((HS.out.1.set kN (.int .i64 (y : Int))).set (kN + 1) (.int .i64 (x : Int))).drew
              rw [nums_swap2 _ _ _ x y pad kN (kN + 1) HS.out.2.2.1 HS.out.2.2.2.1] at h5
              rw [HS.out.2.2.2.2.1]
              have e6 : P ++ (V.take r ++ [y] ++ x :: V.drop (r + 1)) ++ Q = (P ++ V.take r) ++ y :: [] ++ x :: (V.drop (r + 1) ++ Q) := by simp
              rw [e6]
              exact h5
            · exact ((HS.out.2.1.setCell (fun _ => rfl) _).setCell (fun _ => rfl) _).drew
          case measure =>
            have hk5 := HS.out.2.2.2.2.2
            simp [intOf]; omega
        · obtain rfl : r = s := by omega
          have q1 := Lib.hid hat
          have q2 := Lib.hid hk
          have i1 : ((a + r : Nat) : Int) = (eN : Int) := by have := HE.out; omega
          clear hat hk
          rw [show a + r = eN by omega]
          go_wp2
          refine bodyPost_ret (results_none rfl _ _ _) rfl ?_
          obtain ⟨b1, b2, b3, b4, b5⟩ := HA.out
          have hVs : V.take r ++ V.drop r = V := List.take_append_drop _ _
          have hone := one_in b3 (x := x) (V1 := V.take r) (V2 := V.drop r) (by rw [hVs]; exact b4) (by rw [hVs]; exact b5) (by
            rcases H1.out.2.2.2 with h | h
            · exact .inl (List.drop_eq_nil_of_le (by omega))
            · rcases Nat.lt_or_ge r V.length with g | g
              · refine .inr ⟨V[r], V.drop (r + 1), List.drop_eq_getElem_cons g, ?_⟩
                simpa [List.getD_eq_getElem?_getD, g] using h
              · exact .inl (List.drop_eq_nil_of_le g)) (by
            rcases H1.out.2.2.1 with h | h
            · subst h; exact .inl rfl
            · rcases Nat.eq_zero_or_pos r with g | g
              · subst g; exact .inl rfl
              · obtain ⟨r', rfl⟩ : ∃ r', r = r' + 1 := ⟨r - 1, by omega⟩
                have hr' : r' < V.length := by omega
                refine .inr ⟨V.take r', V[r'], List.take_succ_eq_append_getElem hr', ?_⟩
                simpa [List.getD_eq_getElem?_getD, hr'] using h)
          refine ⟨rfl, ⟨_, hone.1, ?_, q1.out⟩, q2.out⟩
          have := hone.2
          rwa [hVs] at this
end Go.Proofs.Ytaibdkdmilhloaa
