/- The document's ratio: Order. -/
import Derived.Test.YtaibdkdmilhloaaRtQ
namespace Go.Proofs.Ytaibdkdmilhloaa
open Go.RowKit Flt
set_option linter.unusedVariables false
set_option maxRecDepth 20000 in
set_option maxHeartbeats 1000000 in
theorem rorder_any (a : Option Addr) (c : Nat) (l : List Nat) (w : World) (hr : RdF w a l) (hl : l.length ≤ 1000000) (W : List Nat) (hW : W.Pairwise (Rr (ltF l))) (hp : W.Perm (List.range l.length)) :
    Calls Try.prog 39 #[.slice a l.length c] w fun e w' => ∃ va vc, e = .returned (.slice va l.length vc) ∧ Rd w' va (nums W) ∧ Kp (fun _ => False) w w' := by
  obtain ⟨n, hn⟩ : ∃ n, n = l.length := ⟨_, rfl⟩
  rw [← hn] at hl ⊢
  have HN := Lib.hid hn
  have HR := Lib.hid hr
  have HP := Lib.hid (And.intro hW hp)
  obtain ⟨w1, hr1, hat1, k1⟩ := run_make_at (P := Try.prog) w Try.underlying24 elem_i64 .i64 .i64 n n n rfl rfl (by omega) (by unfold maxLen; omega)
  rw [zeros_one _ rfl] at hat1
  have hWn : W.length = n := by rw [hp.length_eq, List.length_range, hn]
  have hz : List.replicate n (Value.int .i64 0) = outs W 0 := by
    apply List.ext_getElem?
    intro i
    unfold outs
    by_cases hi : i < n
    · simp [hi, hWn]
    · simp [hi, hWn]
  rw [hz] at hat1
  obtain ⟨H, hH⟩ : ∃ H, H = w.heap.size := ⟨_, rfl⟩
  rw [← hH] at hr1 hat1
  have HX := Lib.hid (And.intro hat1 (And.intro k1 (And.intro hH hWn)))
  clear hn hr hW hp hat1 k1 hWn hz hH
  go_enter Try.func39, Try.ntmps39
  go_wp2
  go_loopw [4] (fun iv wr => ∃ I : Nat, I ≤ n ∧ iv = .int .i64 (I : Nat) ∧ At wr H (outs W I) ∧ Kp (· = H) w1 wr) (fun iv _ => n - (intOf iv).toNat)
  case atStart => exact ⟨0, by omega, rfl, HX.out.1, Kp.refl _ _⟩
  case round =>
    obtain ⟨I, hIn, rfl, hat, hk⟩ := hrel
    have hkw : Kp (fun _ => False) w wr := HX.out.2.1.then hk (fun i hi e => by have := HX.out.2.2.1; omega)
    by_cases hlt : I < n
    · have i1 : (I : Int) < (n : Int) := by omega
      have hr' := HR.out.kp0 hkw (fun _ _ h => h)
      obtain ⟨b, off, rfl, ci⟩ := hr' I (by rw [← HN.out]; exact hlt)
      have H1 := Lib.hid (And.intro hat (And.intro hk hr'))
      obtain ⟨x, hx⟩ : ∃ x, x = l.getD I 0 := ⟨_, rfl⟩
      rw [← hx] at ci
      have HXX := Lib.hid hx
      have hrI : rank l I n < n := by
        have h9 := rank_at HP.out.1 HP.out.2 I (by rw [← HN.out]; exact hlt)
        rw [← HN.out] at h9
        rcases Nat.lt_or_ge (rank l I n) n with g | g
        · exact g
        · rw [List.getElem?_eq_none (by rw [HX.out.2.2.2]; exact g)] at h9
          cases h9
      have HRI := Lib.hid hrI
      clear hat hk hkw hr' hx hrI
      obtain ⟨wo, hwo⟩ : ∃ wo : World, wo = wr := ⟨_, rfl⟩
      have HWO := Lib.hid hwo
      clear hwo
      go_wp2
      go_loopw [5, 6] (fun nv kv wi => ∃ k : Nat, k ≤ n ∧ kv = .int .i64 (k : Nat) ∧ nv = .int .i64 ((rank l I k : Nat) : Int) ∧ ∃ q, wi = wo.drewN q) (fun _ kv _ => n - (intOf kv).toNat)
      case atStart => exact ⟨0, by omega, rfl, rfl, 0, by rw [HWO.out]; rfl⟩
      case round =>
        obtain ⟨k, hkn, rfl, rfl, q, rfl⟩ := hrel
        by_cases hlk : k < n
        · have i2 : (k : Int) < (n : Int) := by omega
          have hro : RdF wo (some ⟨b, off, none⟩) l := by rw [HWO.out]; exact H1.out.2.2
          obtain ⟨b', off', e', ck⟩ := hro k (by rw [← HN.out]; exact hlk)
          simp only [Option.some.injEq, Addr.mk.injEq, and_true] at e'
          obtain ⟨rfl, rfl⟩ := e'
          have hrk := rank_succ l I k
          have hrle := rank_le l I k
          unfold rb at hrk
          rw [← HXX.out] at hrk
          obtain ⟨y, hy⟩ : ∃ y, y = l.getD k 0 := ⟨_, rfl⟩
          rw [← hy] at ck hrk
          have HW : Hid (∃ q', wo.drewN q = wo.drewN q') := ⟨q, rfl⟩
          have ck1 : (wo.drewN q).cell? ⟨b, off + k, none⟩ = some (.float .f64 y) := ck
          have ci1 : (wo.drewN q).cell? ⟨b, off + I, none⟩ = some (.float .f64 x) := by rw [HWO.out]; exact ci
          have C1 := fun w' nn => Calls.quiet_of_same (n := nn) (Calls.turn (rbefore_any x y (World.drewN w' nn)))
          have C2 := fun w' nn => Calls.quiet_of_same (n := nn) (Calls.turn (rbefore_any y x (World.drewN w' nn)))
          clear ci ck hro hy
          generalize wo.drewN q = w2 at *
          have hrn : rank l I k ≤ 1000000 := by omega
          cases hb1 : bef x y
          · rw [hb1] at C1 hrk
            cases hb2 : bef y x
            · rw [hb2] at C2 hrk
              by_cases hkI : k < I
              · have i3 : (k : Int) < (I : Int) := by omega
                rw [decide_eq_true hkI, if_pos (by rfl)] at hrk
                clear hb1 hb2
                go_upto_region 9 with fail
                go_quiet (first | (go_at_call 40; with_reducible exact C1 _ _) | (go_at_call 40; with_reducible exact C2 _ _))
                have ck2 : (w2.drewN nq).cell? ⟨b, off + k, none⟩ = some (.float .f64 y) := ck1
                have ci2 : (w2.drewN nq).cell? ⟨b, off + I, none⟩ = some (.float .f64 x) := ci1
                have HW2 : Hid (∃ q', w2.drewN nq = wo.drewN q') := by
                  obtain ⟨q1, e1⟩ := HW.out
                  exact ⟨_, by rw [e1]; exact World.drewN_drewN _ _ _⟩
                have HRK := Lib.hid hrk
                clear ck1 ci1 HW hrk
                generalize w2.drewN nq = w4 at *
                go_upto_region 10 with fail
                go_quiet ((go_at_call 40; with_reducible exact C2 _ _))
                go_wp2
                go_roundw
                case rel =>
                  obtain ⟨q1, e1⟩ := HW2.out
                  exact ⟨k + 1, by omega, by go_num, by rw [HRK.out]; go_num, _, by rw [e1]; exact World.drewN_drewN _ _ _⟩
                case measure => simp [intOf]; omega
              · have i3 : ¬ (k : Int) < (I : Int) := by omega
                rw [decide_eq_false hkI, if_neg (by decide)] at hrk
                clear hb1 hb2
                go_upto_region 9 with fail
                go_quiet (first | (go_at_call 40; with_reducible exact C1 _ _) | (go_at_call 40; with_reducible exact C2 _ _))
                have ck2 : (w2.drewN nq).cell? ⟨b, off + k, none⟩ = some (.float .f64 y) := ck1
                have ci2 : (w2.drewN nq).cell? ⟨b, off + I, none⟩ = some (.float .f64 x) := ci1
                have HW2 : Hid (∃ q', w2.drewN nq = wo.drewN q') := by
                  obtain ⟨q1, e1⟩ := HW.out
                  exact ⟨_, by rw [e1]; exact World.drewN_drewN _ _ _⟩
                have HRK := Lib.hid hrk
                clear ck1 ci1 HW hrk
                generalize w2.drewN nq = w4 at *
                go_upto_region 10 with fail
                go_quiet ((go_at_call 40; with_reducible exact C2 _ _))
                go_wp2
                go_roundw
                case rel =>
                  obtain ⟨q1, e1⟩ := HW2.out
                  exact ⟨k + 1, by omega, by go_num, by rw [HRK.out]; go_num, _, by rw [e1]; exact World.drewN_drewN _ _ _⟩
                case measure => simp [intOf]; omega
            · rw [hb2] at C2 hrk
              rw [if_pos (by rfl)] at hrk
              clear hb1 hb2
              go_upto_region 9 with fail
              go_quiet (first | (go_at_call 40; with_reducible exact C1 _ _) | (go_at_call 40; with_reducible exact C2 _ _))
              have ck2 : (w2.drewN nq).cell? ⟨b, off + k, none⟩ = some (.float .f64 y) := ck1
              have ci2 : (w2.drewN nq).cell? ⟨b, off + I, none⟩ = some (.float .f64 x) := ci1
              have HW2 : Hid (∃ q', w2.drewN nq = wo.drewN q') := by
                obtain ⟨q1, e1⟩ := HW.out
                exact ⟨_, by rw [e1]; exact World.drewN_drewN _ _ _⟩
              have HRK := Lib.hid hrk
              clear ck1 ci1 HW hrk
              generalize w2.drewN nq = w4 at *
              go_upto_region 10 with fail
              go_quiet ((go_at_call 40; with_reducible exact C2 _ _))
              go_wp2
              go_roundw
              case rel =>
                obtain ⟨q1, e1⟩ := HW2.out
                exact ⟨k + 1, by omega, by go_num, by rw [HRK.out]; go_num, _, by rw [e1]; exact World.drewN_drewN _ _ _⟩
              case measure => simp [intOf]; omega
          · have hb2 := bef_asy hb1
            rw [hb1] at C1 hrk
            rw [hb2] at C2 hrk
            rw [if_neg (by simp)] at hrk
            clear hb1 hb2
            go_upto_region 9 with fail
            go_quiet (first | (go_at_call 40; with_reducible exact C1 _ _) | (go_at_call 40; with_reducible exact C2 _ _))
            have ck2 : (w2.drewN nq).cell? ⟨b, off + k, none⟩ = some (.float .f64 y) := ck1
            have ci2 : (w2.drewN nq).cell? ⟨b, off + I, none⟩ = some (.float .f64 x) := ci1
            have HW2 : Hid (∃ q', w2.drewN nq = wo.drewN q') := by
              obtain ⟨q1, e1⟩ := HW.out
              exact ⟨_, by rw [e1]; exact World.drewN_drewN _ _ _⟩
            have HRK := Lib.hid hrk
            clear ck1 ci1 HW hrk
            generalize w2.drewN nq = w4 at *
            go_upto_region 10 with fail
            go_quiet ((go_at_call 40; with_reducible exact C2 _ _))
            go_wp2
            go_roundw
            case rel =>
              obtain ⟨q1, e1⟩ := HW2.out
              exact ⟨k + 1, by omega, by go_num, by rw [HRK.out]; go_num, _, by rw [e1]; exact World.drewN_drewN _ _ _⟩
            case measure => simp [intOf]; omega
        · obtain rfl : k = n := by omega
          have hset := (H1.out.1).set (rank l I k) (.int .i64 (I : Int))
          rw [show rank l I k = rank l I l.length by rw [← HN.out], outs_set HP.out.1 HP.out.2 I (by rw [← HN.out]; exact hlt), ← HN.out] at hset
          have HS : Hid (At (wr.setCell ⟨H, rank l I k, none⟩ (.int .i64 (I : Int))) H (outs W (I + 1))) := hset
          have hlen : (outs W I).length = k := by unfold outs; rw [List.length_map, HX.out.2.2.2]
          have cs : ∃ v, (wo.drewN q).cell? ⟨H, rank l I k, none⟩ = some v := by
            refine ⟨(outs W I)[rank l I k]'(by rw [hlen]; exact HRI.out), ?_⟩
            rw [HWO.out]
            show wr.cell? _ = _
            rw [H1.out.1.cell, List.getElem?_eq_getElem]
          obtain ⟨v0, cs⟩ := cs
          have hf := fun i => (show (wo.drewN q).frozen? ⟨H, i, none⟩ = false by rw [HWO.out]; exact H1.out.1.frozen i)
          have HKS : Hid (Kp (· = H) w1 ((wo.drewN q).setCell ⟨H, rank l I k, none⟩ (.int .i64 (I : Int)))) := by
            show Kp _ _ _
            rw [HWO.out]
            exact (H1.out.2.1.drewN q).setCell (fun _ => rfl) _
          have HAS : Hid (At ((wo.drewN q).setCell ⟨H, rank l I k, none⟩ (.int .i64 (I : Int))) H (outs W (I + 1))) := by
            show At _ _ _
            have h9 := (H1.out.1.drewN q).set (rank l I k) (.int .i64 (I : Int))
            rw [show rank l I k = rank l I l.length by rw [← HN.out], outs_set HP.out.1 HP.out.2 I (by rw [← HN.out]; exact hlt), ← HN.out] at h9
            rw [HWO.out]
            exact h9
          have i4 : ((rank l I k : Nat) : Int) < (k : Int) := by have := HRI.out; omega
          clear hset HS hlen ci
          generalize rank l I k = rk at *
          generalize wo.drewN q = w3 at *
          go_wp2
          go_roundw
          case rel => exact ⟨I + 1, by omega, by go_num, HAS.out, HKS.out⟩
          case measure => simp [intOf]; omega
    · obtain rfl : I = n := by omega
      have HK := Lib.hid (And.intro hat hkw)
      clear hat hk hkw
      go_wp2
      go_ret
      refine ⟨some ⟨H, 0, none⟩, _, rfl, fun i hi => ?_, HK.out.2⟩
      have hiW : i < W.length := by simpa [nums] using hi
      refine ⟨H, 0, rfl, ?_⟩
      rw [HK.out.1.cell, Nat.zero_add]
      have hlt2 : W[i] < I := by
        have := HP.out.2.mem_iff.1 (List.getElem_mem hiW)
        rw [← HN.out] at this
        simpa using this
      simp [outs, nums, List.getD_eq_getElem?_getD, hiW, hlt2]
end Go.Proofs.Ytaibdkdmilhloaa
