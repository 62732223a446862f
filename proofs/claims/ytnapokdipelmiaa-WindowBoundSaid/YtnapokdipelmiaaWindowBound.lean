/- WindowBound: the walk. (Written by wip/winbound.py.) -/
import Derived.Test.YtnapokdipelmiaaWnS
import Derived.Test.YtnapokdipelmiaaRegL
namespace Go.Proofs.Ytnapokdipelmiaa
open Go.RowKit Flt
set_option linter.unusedVariables false
set_option linter.unusedSimpArgs false
set_option maxHeartbeats 4000000 in
set_option maxRecDepth 20000 in
theorem bound_main (sz : Nat) (hs : 1 ≤ sz ∧ sz ≤ 64) (a1 : Option Addr) (n c : Nat) (l : List Ac) (hn : n = l.length) (w : World) (hr : RdA w a1 l) (hlo : longB l = false) (hc : n ≤ 140737488351232) :
    Calls Try.prog 4 #[.int .i64 (sz : Nat), .slice a1 n c] w fun e w' => e = .returned (.bool true) ∧ Below w.heap.size w w' := by
  have hn150 : n ≤ 150 := by have := (longB_no hlo).1; omega
  have HR := Lib.hid hr
  have HLB := Lib.hid hlo
  have HNL := Lib.hid hn
  clear hr hlo hn
  go_enter Try.func4, Try.ntmps4
  go_wp2_with fail
  go_at_call 8
  refine (awake_any _).mono ?_
  rintro e w1 ⟨rfl, k1⟩
  have CN := Lib.hid (new_st w1 w1 (Kp.refl _ _) sz hs)
  have HR1 := Lib.hid (HR.out.kp0 k1)
  have K1 := Lib.hid k1
  clear k1 HR
  go_wp2_with fail
  go_at_call 10
  refine CN.out.mono ?_
  rintro e w2 ⟨g, rfl, h2⟩
  have CLO := Lib.hid (long_any a1 n c l HNL.out w2 (h2.acts HR1.out) hc)
  have H2 := Lib.hid h2
  clear h2 CN
  go_wp2_with fail
  go_at_call 16
  refine CLO.out.mono ?_
  rw [HLB.out]
  rintro e w3 ⟨rfl, k3⟩
  have H3 := Lib.hid (H2.out.kp0 k3)
  clear k3 CLO H2
  go_wp2_with fail
  go_loopw [8, 9, 10] (fun lv av iv wr => ∃ (i : Nat) (x : Wn), i ≤ n ∧ iv = .int .i64 i ∧ lv = .int .i64 (x.last : Nat) ∧ av = .int .i64 ((x.last - x.l.length : Nat) : Int) ∧ St w1 g sz i x wr) (fun _ _ iv _ => n - (intOf iv).toNat)
  case atStart => exact ⟨0, _, by omega, rfl, rfl, rfl, H3.out⟩
  case round =>
    obtain ⟨i, x, hi, rfl, rfl, rfl, hst⟩ := hrel
    have HST := Lib.hid hst
    by_cases hlt : i < n
    · have j1 : (i : Int) < n := by omega
      have hil : i < l.length := by have := HNL.out; omega
      have hbl := (longB_no HLB.out).2 i hil
      have HRA := Lib.hid HR1.out
      have HIL := Lib.hid hil
      obtain ⟨hr, b, off, ha, c0, c1, c2, c3⟩ := hst.acts HR1.out i hil
      obtain ⟨P, hP⟩ : ∃ P, P = ac l i := ⟨_, rfl⟩
      rw [← hP] at hr c0 c1 c2 c3 hbl
      obtain ⟨k, N, T, pa, pcap, body⟩ := P
      have hr : AcR wr ⟨k, N, T, pa, pcap, body⟩ := hr
      obtain ⟨m, hm⟩ : ∃ m, m = body.length := ⟨_, rfl⟩
      dsimp only at c0 c1 c2 c3 hbl
      rw [← hm] at c3 hbl
      have HBD := Lib.hid (show RdB wr pa body from hr.2.2.2.1)
      have hN : i64R N := hr.2.1
      obtain ⟨hl1, hl2, hl3, hl4⟩ := hst.len
      have hl5 := hst.last
      obtain ⟨L, hL⟩ : ∃ L, L = x.l.length := ⟨_, rfl⟩
      obtain ⟨la, hla⟩ : ∃ la, la = x.last := ⟨_, rfl⟩
      rw [← hL] at hl1 hl4 ⊢
      rw [← hla] at hl4 hl5 ⊢
      obtain ⟨A, hA⟩ : ∃ A, A = la - L := ⟨_, rfl⟩
      rw [← hA]
      have hA2 : A + L = la := by omega
      have HL := Lib.hid hL
      have HLA := Lib.hid hla
      have HM := Lib.hid hm
      clear hL hla hm hA
      subst ha
      have HP := Lib.hid hP
      clear hst hr hP
      by_cases k0 : k = 0
      · subst k0
        by_cases hf : L < sz
        · have C := push_st HST.out (by omega) pa m pcap body HM.out HBD.out (by omega) (by rw [← HL.out]; exact hf)
          rw [← HLA.out] at C
          have C := Lib.hid C
          have j5 : ((la : Int) - (A : Int)) < (sz : Int) := by omega
          have j6 : max (la : Int) ((la + 1 : Nat) : Int) = ((la + 1 : Nat) : Int) := by omega
          have j7 : ((la + 1 : Nat) : Int) = (la : Int) + 1 := by omega
          go_wp2_with fail
          go_at_call 11
          refine C.out.mono ?_
          rintro e w8 ⟨rfl, p, V', _, _, _, h8⟩
          obtain ⟨x', hx1, hx2, hx3⟩ : ∃ x', St w1 g sz (i + 1) x' w8 ∧ x'.l.length = L + 1 ∧ x'.last = la + 1 := ⟨_, h8, (by simp only [List.length_append, ← HL.out]; rfl), (by simp only [← HLA.out])⟩
          have HS := Lib.hid (And.intro hx1 (And.intro hx2 hx3))
          clear hx1 hx2 hx3
          clear h8 C
          have CO := open_st HS.out.1
          have CL := last_st HS.out.1
          rw [HS.out.2.1] at CO
          rw [HS.out.2.2] at CL
          have CO := Lib.hid CO
          have CL := Lib.hid CL
          have m1 : ¬ (((L + 1 : Nat) : Int) > (sz : Int)) := by omega
          have m2 : (((la + 1 : Nat) : Int) - ((A : Nat) : Int)) = ((L + 1 : Nat) : Int) := by omega
          go_wp2_with (first | (go_at_call 15; refine CO.out.mono ?_; rintro e w' ⟨rfl, rfl⟩) | (go_at_call 17; refine CL.out.mono ?_; rintro e w' ⟨rfl, rfl⟩))
          go_roundw
          case rel => exact ⟨i + 1, _, by omega, by go_num, by rw [HS.out.2.2]; try exact congrArg (Value.int .i64) (by omega), by rw [HS.out.2.1, HS.out.2.2]; try exact congrArg (Value.int .i64) (by omega), HS.out.1⟩
          case measure => simp [intOf]; omega
        · have C := pushfull_st HST.out pa m pcap (by rw [← HL.out]; exact hf)
          have C := Lib.hid C
          have j5 : ¬ ((la : Int) - (A : Int)) < (sz : Int) := by omega
          have j6 : max (la : Int) 0 = (la : Int) := by omega
          go_wp2_with fail
          go_at_call 11
          refine C.out.mono ?_
          rintro e w8 ⟨rfl, h8⟩
          obtain ⟨x', hx1, hx2, hx3⟩ : ∃ x', St w1 g sz (i + 1) x' w8 ∧ x'.l.length = L ∧ x'.last = la := ⟨_, h8.mono (Nat.le_succ i), HL.out.symm, HLA.out.symm⟩
          have HS := Lib.hid (And.intro hx1 (And.intro hx2 hx3))
          clear hx1 hx2 hx3
          clear h8 C
          have CO := open_st HS.out.1
          have CL := last_st HS.out.1
          rw [HS.out.2.1] at CO
          rw [HS.out.2.2] at CL
          have CO := Lib.hid CO
          have CL := Lib.hid CL
          have m1 : ¬ (((L : Nat) : Int) > (sz : Int)) := by omega
          have m2 : (((la : Nat) : Int) - ((A : Nat) : Int)) = ((L : Nat) : Int) := by omega
          go_wp2_with (first | (go_at_call 15; refine CO.out.mono ?_; rintro e w' ⟨rfl, rfl⟩) | (go_at_call 17; refine CL.out.mono ?_; rintro e w' ⟨rfl, rfl⟩))
          go_roundw
          case rel => exact ⟨i + 1, _, by omega, by go_num, by rw [HS.out.2.2]; try exact congrArg (Value.int .i64) (by omega), by rw [HS.out.2.1, HS.out.2.2]; try exact congrArg (Value.int .i64) (by omega), HS.out.1⟩
          case measure => simp [intOf]; omega
      · by_cases k1 : k = 1
        · subst k1
          by_cases hf : L < sz
          · have C := push_st HST.out (by omega) pa m pcap body HM.out HBD.out (by omega) (by rw [← HL.out]; exact hf)
            rw [← HLA.out] at C
            have C := Lib.hid C
            have j5 : ((la : Int) - (A : Int)) < (sz : Int) := by omega
            have j6 : max (la : Int) ((la + 1 : Nat) : Int) = ((la + 1 : Nat) : Int) := by omega
            have j7 : ((la + 1 : Nat) : Int) = (la : Int) + 1 := by omega
            go_wp2_with fail
            go_at_call 11
            refine C.out.mono ?_
            rintro e w8 ⟨rfl, p, V', _, _, _, h8⟩
            obtain ⟨x', hx1, hx2, hx3⟩ : ∃ x', St w1 g sz (i + 1) x' w8 ∧ x'.l.length = L + 1 ∧ x'.last = la + 1 := ⟨_, h8, (by simp only [List.length_append, ← HL.out]; rfl), (by simp only [← HLA.out])⟩
            have HS := Lib.hid (And.intro hx1 (And.intro hx2 hx3))
            clear hx1 hx2 hx3
            clear h8 C
            have CO := open_st HS.out.1
            have CL := last_st HS.out.1
            rw [HS.out.2.1] at CO
            rw [HS.out.2.2] at CL
            have CO := Lib.hid CO
            have CL := Lib.hid CL
            have m1 : ¬ (((L + 1 : Nat) : Int) > (sz : Int)) := by omega
            have m2 : (((la + 1 : Nat) : Int) - ((A : Nat) : Int)) = ((L + 1 : Nat) : Int) := by omega
            go_wp2_with (first | (go_at_call 15; refine CO.out.mono ?_; rintro e w' ⟨rfl, rfl⟩) | (go_at_call 17; refine CL.out.mono ?_; rintro e w' ⟨rfl, rfl⟩))
            go_roundw
            case rel => exact ⟨i + 1, _, by omega, by go_num, by rw [HS.out.2.2]; try exact congrArg (Value.int .i64) (by omega), by rw [HS.out.2.1, HS.out.2.2]; try exact congrArg (Value.int .i64) (by omega), HS.out.1⟩
            case measure => simp [intOf]; omega
          · have C := pushfull_st HST.out pa m pcap (by rw [← HL.out]; exact hf)
            have C := Lib.hid C
            have j5 : ¬ ((la : Int) - (A : Int)) < (sz : Int) := by omega
            have j6 : max (la : Int) 0 = (la : Int) := by omega
            go_wp2_with fail
            go_at_call 11
            refine C.out.mono ?_
            rintro e w8 ⟨rfl, h8⟩
            obtain ⟨x', hx1, hx2, hx3⟩ : ∃ x', St w1 g sz (i + 1) x' w8 ∧ x'.l.length = L ∧ x'.last = la := ⟨_, h8.mono (Nat.le_succ i), HL.out.symm, HLA.out.symm⟩
            have HS := Lib.hid (And.intro hx1 (And.intro hx2 hx3))
            clear hx1 hx2 hx3
            clear h8 C
            have CO := open_st HS.out.1
            have CL := last_st HS.out.1
            rw [HS.out.2.1] at CO
            rw [HS.out.2.2] at CL
            have CO := Lib.hid CO
            have CL := Lib.hid CL
            have m1 : ¬ (((L : Nat) : Int) > (sz : Int)) := by omega
            have m2 : (((la : Nat) : Int) - ((A : Nat) : Int)) = ((L : Nat) : Int) := by omega
            go_wp2_with (first | (go_at_call 15; refine CO.out.mono ?_; rintro e w' ⟨rfl, rfl⟩) | (go_at_call 17; refine CL.out.mono ?_; rintro e w' ⟨rfl, rfl⟩))
            go_roundw
            case rel => exact ⟨i + 1, _, by omega, by go_num, by rw [HS.out.2.2]; try exact congrArg (Value.int .i64) (by omega), by rw [HS.out.2.1, HS.out.2.2]; try exact congrArg (Value.int .i64) (by omega), HS.out.1⟩
            case measure => simp [intOf]; omega
        · by_cases k2 : k = 2
          · subst k2
            cases hB : ackB x N T
            · have C := Lib.hid (fun w' (k : Kp (fun _ => False) wr w') => ackbad_st (HST.out.kp0 k) N T hB)
              go_upto_region 20 with fail
              refine region_L (S := fun w' => Kp (fun _ => False) wr w') [11] rfl ?_
              have hSd : ∀ (w' : World) (n' : Nat), Kp (fun _ => False) wr w' → Kp (fun _ => False) wr (w'.drewN n') := fun w' n' h => h.drewN n'
              have hS0 : Kp (fun _ => False) wr wr.drew := (Kp.refl _ wr).drew
              refine anyL_world (fun w' => Kp (fun _ => False) wr w') hS0 ?_
              clear hS0
              intro z0 kz0
              refine anyL_takeF (i := 0) (d := 87) (v := (.pointer (some ⟨g, 0, none⟩))) rfl rfl (by kernel_rfl) (by kernel_rfl) (by kernel_rfl) (fun _ _ _ h => h) hSd (by kernel_rfl) (.inl (.inl ⟨rfl, fun w' hS => by first | rfl | go_simp⟩)) (fun _ => kz0) ?_
              try simp only [List.setIfInBounds_toArray, List.set_cons_succ, List.set_cons_zero]
              refine anyL_takeF (i := 1) (d := 88) (v := (.slice (some ⟨b, off, none⟩) n c)) rfl rfl (by kernel_rfl) (by kernel_rfl) (by kernel_rfl) (fun _ _ _ h => h) hSd (by kernel_rfl) (.inl (.inl ⟨rfl, fun w' hS => by first | rfl | go_simp⟩)) (fun _ => kz0) ?_
              try simp only [List.setIfInBounds_toArray, List.set_cons_succ, List.set_cons_zero]
              refine anyL_takeF (i := 2) (d := 89) (v := (.int .i64 (i : Nat))) rfl rfl (by kernel_rfl) (by kernel_rfl) (by kernel_rfl) (fun _ _ _ h => h) hSd (by kernel_rfl) (.inl (.inl ⟨rfl, fun w' hS => by first | rfl | go_simp⟩)) (fun _ => kz0) ?_
              try simp only [List.setIfInBounds_toArray, List.set_cons_succ, List.set_cons_zero]
              refine anyL_takeF (i := 3) (d := 90) (v := (.pointer (some ⟨b, off + i * 4, none⟩))) rfl rfl (by kernel_rfl) (by kernel_rfl) (by kernel_rfl) (fun _ _ _ h => h) hSd (by kernel_rfl) (.inl (.inl ⟨rfl, fun w' hS => by first | rfl | go_simp⟩)) (fun _ => kz0) ?_
              try simp only [List.setIfInBounds_toArray, List.set_cons_succ, List.set_cons_zero]
              refine anyL_takeF (i := 4) (d := 91) (v := (.pointer (some ⟨b, off + i * 4 + 1, none⟩))) rfl rfl (by kernel_rfl) (by kernel_rfl) (by kernel_rfl) (fun _ _ _ h => h) hSd (by kernel_rfl) (.inl (.inl ⟨rfl, fun w' hS => by first | rfl | go_simp⟩)) (fun _ => kz0) ?_
              try simp only [List.setIfInBounds_toArray, List.set_cons_succ, List.set_cons_zero]
              refine anyL_takeD (i := 5) (d := 92) (v := (.int .i64 N)) rfl rfl (by kernel_rfl) (by kernel_rfl) (by kernel_rfl) (fun _ _ _ h => h) hSd (by kernel_rfl) (.inl (.inl ⟨rfl, fun w' hS => by have h := hS.cell c1 (fun h => h); go_simp⟩)) kz0 ?_
              try simp only [List.setIfInBounds_toArray, List.set_cons_succ, List.set_cons_zero]
              refine anyL_takeF (i := 6) (d := 93) (v := (.slice (some ⟨b, off, none⟩) n c)) rfl rfl (by kernel_rfl) (by kernel_rfl) (by kernel_rfl) (fun _ _ _ h => h) hSd (by kernel_rfl) (.inl (.inl ⟨rfl, fun w' hS => by first | rfl | go_simp⟩)) (fun _ => kz0) ?_
              try simp only [List.setIfInBounds_toArray, List.set_cons_succ, List.set_cons_zero]
              refine anyL_takeF (i := 7) (d := 94) (v := (.int .i64 (i : Nat))) rfl rfl (by kernel_rfl) (by kernel_rfl) (by kernel_rfl) (fun _ _ _ h => h) hSd (by kernel_rfl) (.inl (.inl ⟨rfl, fun w' hS => by first | rfl | go_simp⟩)) (fun _ => kz0) ?_
              try simp only [List.setIfInBounds_toArray, List.set_cons_succ, List.set_cons_zero]
              refine anyL_takeF (i := 8) (d := 95) (v := (.pointer (some ⟨b, off + i * 4, none⟩))) rfl rfl (by kernel_rfl) (by kernel_rfl) (by kernel_rfl) (fun _ _ _ h => h) hSd (by kernel_rfl) (.inl (.inl ⟨rfl, fun w' hS => by first | rfl | go_simp⟩)) (fun _ => kz0) ?_
              try simp only [List.setIfInBounds_toArray, List.set_cons_succ, List.set_cons_zero]
              refine anyL_takeF (i := 9) (d := 96) (v := (.pointer (some ⟨b, off + i * 4 + 2, none⟩))) rfl rfl (by kernel_rfl) (by kernel_rfl) (by kernel_rfl) (fun _ _ _ h => h) hSd (by kernel_rfl) (.inl (.inl ⟨rfl, fun w' hS => by first | rfl | go_simp⟩)) (fun _ => kz0) ?_
              try simp only [List.setIfInBounds_toArray, List.set_cons_succ, List.set_cons_zero]
              refine anyL_takeD (i := 10) (d := 97) (v := (.int .i64 T)) rfl rfl (by kernel_rfl) (by kernel_rfl) (by kernel_rfl) (fun _ _ _ h => h) hSd (by kernel_rfl) (.inl (.inl ⟨rfl, fun w' hS => by have h := hS.cell c2 (fun h => h); go_simp⟩)) kz0 ?_
              try simp only [List.setIfInBounds_toArray, List.set_cons_succ, List.set_cons_zero]
              refine anyL_all (rs := [11]) (by kernel_rfl) (by simp) ?_
              intro n11 i' hi'
              simp only [List.mem_cons, List.not_mem_nil, or_false] at hi'
              obtain rfl := hi'
              refine wpOp_of rfl rfl ?_
              go_simp
              refine Calls.mono (C.out (z0.drewN n11) (kz0.drewN n11)) ?_
              rintro e w7 ⟨rfl, h7⟩
              try dsimp only
              refine ⟨fun h => Bool.noConfusion (show false = true from h), ?_⟩
              try simp only [List.setIfInBounds_toArray, List.set_cons_succ, List.set_cons_zero]
              refine anyL_takeF (i := 12) (d := 86) (v := (.tuple #[.int .i64 0, .int .i64 5])) rfl rfl (by kernel_rfl) (by kernel_rfl) (by kernel_rfl) (fun _ _ _ h => h) hSd (by kernel_rfl) (.inl (.inl ⟨rfl, fun w' hS => by first | rfl | go_simp⟩)) (fun h => Bool.noConfusion (show false = true from h)) ?_
              try simp only [List.setIfInBounds_toArray, List.set_cons_succ, List.set_cons_zero]
              refine anyL_takeF (i := 13) (d := 99) (v := (.int .i64 0)) rfl rfl (by kernel_rfl) (by kernel_rfl) (by kernel_rfl) (fun _ _ _ h => h) hSd (by kernel_rfl) (.inl (.inl ⟨rfl, fun w' hS => by first | rfl | go_simp⟩)) (fun h => Bool.noConfusion (show false = true from h)) ?_
              try simp only [List.setIfInBounds_toArray, List.set_cons_succ, List.set_cons_zero]
              refine anyL_takeF (i := 14) (d := 100) (v := (.int .i64 5)) rfl rfl (by kernel_rfl) (by kernel_rfl) (by kernel_rfl) (fun _ _ _ h => h) hSd (by kernel_rfl) (.inl (.inl ⟨rfl, fun w' hS => by first | rfl | go_simp⟩)) (fun h => Bool.noConfusion (show false = true from h)) ?_
              try simp only [List.setIfInBounds_toArray, List.set_cons_succ, List.set_cons_zero]
              refine anyL_takeF (i := 15) (d := 13) (v := (.int .i64 0)) rfl rfl (by kernel_rfl) (by kernel_rfl) (by kernel_rfl) (fun _ _ _ h => h) hSd (by kernel_rfl) (.inl (.inl ⟨rfl, fun w' hS => by first | rfl | go_simp⟩)) (fun h => Bool.noConfusion (show false = true from h)) ?_
              try simp only [List.setIfInBounds_toArray, List.set_cons_succ, List.set_cons_zero]
              refine anyL_takeF (i := 16) (d := 14) (v := (.int .i64 5)) rfl rfl (by kernel_rfl) (by kernel_rfl) (by kernel_rfl) (fun _ _ _ h => h) hSd (by kernel_rfl) (.inl (.inl ⟨rfl, fun w' hS => by first | rfl | go_simp⟩)) (fun h => Bool.noConfusion (show false = true from h)) ?_
              try simp only [List.setIfInBounds_toArray, List.set_cons_succ, List.set_cons_zero]
              refine anyL_done (by kernel_rfl) (fun nn => ?_) _
              have h8 := h7.kp0 ((Kp.refl (fun _ => False) w7).drewN nn)
              generalize w7.drewN nn = w8 at *
              clear h7 hSd kz0
              obtain ⟨x', hx1, hx2, hx3⟩ : ∃ x', St w1 g sz (i + 1) x' w8 ∧ x'.l.length = L ∧ x'.last = la := ⟨_, h8.mono (Nat.le_succ i), HL.out.symm, HLA.out.symm⟩
              have HS := Lib.hid (And.intro hx1 (And.intro hx2 hx3))
              clear hx1 hx2 hx3
              clear h8 C
              have CO := open_st HS.out.1
              have CL := last_st HS.out.1
              rw [HS.out.2.1] at CO
              rw [HS.out.2.2] at CL
              have CO := Lib.hid CO
              have CL := Lib.hid CL
              have m1 : ¬ (((L : Nat) : Int) > (sz : Int)) := by omega
              have m2 : (((la : Nat) : Int) - ((A : Nat) : Int)) = ((L : Nat) : Int) := by omega
              go_wp2_with (first | (go_at_call 15; refine CO.out.mono ?_; rintro e w' ⟨rfl, rfl⟩) | (go_at_call 17; refine CL.out.mono ?_; rintro e w' ⟨rfl, rfl⟩))
              go_roundw
              case rel => exact ⟨i + 1, _, by omega, by go_num, by rw [HS.out.2.2]; try exact congrArg (Value.int .i64) (by omega), by rw [HS.out.2.1, HS.out.2.2]; try exact congrArg (Value.int .i64) (by omega), HS.out.1⟩
              case measure => simp [intOf]; omega
            · have C := fun w' (k : Kp (fun _ => False) wr w') => ack_st (HST.out.kp0 k) (by omega) N T hB
              have hb2 : 0 ≤ N ∧ N ≤ x.last := by unfold ackB at hB; simp only [Bool.and_eq_true, decide_eq_true_eq] at hB; exact hB.1
              obtain ⟨Q, rfl⟩ := Int.eq_ofNat_of_zero_le hb2.1
              obtain ⟨G, hG⟩ : ∃ G, G = goneN x (Int.toNat (Q : Int)) := ⟨_, rfl⟩
              simp only [← hG] at C
              have hG2 : G = Q + L - la := by rw [hG, HL.out, HLA.out]; rfl
              have hQ : Q ≤ la := by rw [HLA.out]; omega
              by_cases hAQ : A ≤ Q
              · have hcs : 0 ≤ (Q : Int) - (A : Int) := by omega
                have j5 : (Q : Int) - (A : Int) = (G : Int) := by omega
                have hGQ : A + G = Q := by omega
                have j6 : ¬ (Q : Int) > (la : Int) := by omega
                have hGL : G ≤ L := by omega
                have C := Lib.hid C
                clear hb2 hG hG2
                go_upto_region 20 with fail
                refine region_L (S := fun w' => Kp (fun _ => False) wr w') [11] rfl ?_
                have hSd : ∀ (w' : World) (n' : Nat), Kp (fun _ => False) wr w' → Kp (fun _ => False) wr (w'.drewN n') := fun w' n' h => h.drewN n'
                have hS0 : Kp (fun _ => False) wr wr.drew := (Kp.refl _ wr).drew
                refine anyL_world (fun w' => Kp (fun _ => False) wr w') hS0 ?_
                clear hS0
                intro z0 kz0
                refine anyL_takeF (i := 0) (d := 87) (v := (.pointer (some ⟨g, 0, none⟩))) rfl rfl (by kernel_rfl) (by kernel_rfl) (by kernel_rfl) (fun _ _ _ h => h) hSd (by kernel_rfl) (.inl (.inl ⟨rfl, fun w' hS => by first | rfl | go_simp⟩)) (fun _ => kz0) ?_
                try simp only [List.setIfInBounds_toArray, List.set_cons_succ, List.set_cons_zero]
                refine anyL_takeF (i := 1) (d := 88) (v := (.slice (some ⟨b, off, none⟩) n c)) rfl rfl (by kernel_rfl) (by kernel_rfl) (by kernel_rfl) (fun _ _ _ h => h) hSd (by kernel_rfl) (.inl (.inl ⟨rfl, fun w' hS => by first | rfl | go_simp⟩)) (fun _ => kz0) ?_
                try simp only [List.setIfInBounds_toArray, List.set_cons_succ, List.set_cons_zero]
                refine anyL_takeF (i := 2) (d := 89) (v := (.int .i64 (i : Nat))) rfl rfl (by kernel_rfl) (by kernel_rfl) (by kernel_rfl) (fun _ _ _ h => h) hSd (by kernel_rfl) (.inl (.inl ⟨rfl, fun w' hS => by first | rfl | go_simp⟩)) (fun _ => kz0) ?_
                try simp only [List.setIfInBounds_toArray, List.set_cons_succ, List.set_cons_zero]
                refine anyL_takeF (i := 3) (d := 90) (v := (.pointer (some ⟨b, off + i * 4, none⟩))) rfl rfl (by kernel_rfl) (by kernel_rfl) (by kernel_rfl) (fun _ _ _ h => h) hSd (by kernel_rfl) (.inl (.inl ⟨rfl, fun w' hS => by first | rfl | go_simp⟩)) (fun _ => kz0) ?_
                try simp only [List.setIfInBounds_toArray, List.set_cons_succ, List.set_cons_zero]
                refine anyL_takeF (i := 4) (d := 91) (v := (.pointer (some ⟨b, off + i * 4 + 1, none⟩))) rfl rfl (by kernel_rfl) (by kernel_rfl) (by kernel_rfl) (fun _ _ _ h => h) hSd (by kernel_rfl) (.inl (.inl ⟨rfl, fun w' hS => by first | rfl | go_simp⟩)) (fun _ => kz0) ?_
                try simp only [List.setIfInBounds_toArray, List.set_cons_succ, List.set_cons_zero]
                refine anyL_takeD (i := 5) (d := 92) (v := (.int .i64 (Q : Int))) rfl rfl (by kernel_rfl) (by kernel_rfl) (by kernel_rfl) (fun _ _ _ h => h) hSd (by kernel_rfl) (.inl (.inl ⟨rfl, fun w' hS => by have h := hS.cell c1 (fun h => h); go_simp⟩)) kz0 ?_
                try simp only [List.setIfInBounds_toArray, List.set_cons_succ, List.set_cons_zero]
                refine anyL_takeF (i := 6) (d := 93) (v := (.slice (some ⟨b, off, none⟩) n c)) rfl rfl (by kernel_rfl) (by kernel_rfl) (by kernel_rfl) (fun _ _ _ h => h) hSd (by kernel_rfl) (.inl (.inl ⟨rfl, fun w' hS => by first | rfl | go_simp⟩)) (fun _ => kz0) ?_
                try simp only [List.setIfInBounds_toArray, List.set_cons_succ, List.set_cons_zero]
                refine anyL_takeF (i := 7) (d := 94) (v := (.int .i64 (i : Nat))) rfl rfl (by kernel_rfl) (by kernel_rfl) (by kernel_rfl) (fun _ _ _ h => h) hSd (by kernel_rfl) (.inl (.inl ⟨rfl, fun w' hS => by first | rfl | go_simp⟩)) (fun _ => kz0) ?_
                try simp only [List.setIfInBounds_toArray, List.set_cons_succ, List.set_cons_zero]
                refine anyL_takeF (i := 8) (d := 95) (v := (.pointer (some ⟨b, off + i * 4, none⟩))) rfl rfl (by kernel_rfl) (by kernel_rfl) (by kernel_rfl) (fun _ _ _ h => h) hSd (by kernel_rfl) (.inl (.inl ⟨rfl, fun w' hS => by first | rfl | go_simp⟩)) (fun _ => kz0) ?_
                try simp only [List.setIfInBounds_toArray, List.set_cons_succ, List.set_cons_zero]
                refine anyL_takeF (i := 9) (d := 96) (v := (.pointer (some ⟨b, off + i * 4 + 2, none⟩))) rfl rfl (by kernel_rfl) (by kernel_rfl) (by kernel_rfl) (fun _ _ _ h => h) hSd (by kernel_rfl) (.inl (.inl ⟨rfl, fun w' hS => by first | rfl | go_simp⟩)) (fun _ => kz0) ?_
                try simp only [List.setIfInBounds_toArray, List.set_cons_succ, List.set_cons_zero]
                refine anyL_takeD (i := 10) (d := 97) (v := (.int .i64 T)) rfl rfl (by kernel_rfl) (by kernel_rfl) (by kernel_rfl) (fun _ _ _ h => h) hSd (by kernel_rfl) (.inl (.inl ⟨rfl, fun w' hS => by have h := hS.cell c2 (fun h => h); go_simp⟩)) kz0 ?_
                try simp only [List.setIfInBounds_toArray, List.set_cons_succ, List.set_cons_zero]
                refine anyL_all (rs := [11]) (by kernel_rfl) (by simp) ?_
                intro n11 i' hi'
                simp only [List.mem_cons, List.not_mem_nil, or_false] at hi'
                obtain rfl := hi'
                refine wpOp_of rfl rfl ?_
                go_simp
                refine Calls.mono (C.out (z0.drewN n11) (kz0.drewN n11)) ?_
                rintro e w7 ⟨rfl, V', h7⟩
                try dsimp only
                refine ⟨fun h => Bool.noConfusion (show false = true from h), ?_⟩
                try simp only [List.setIfInBounds_toArray, List.set_cons_succ, List.set_cons_zero]
                refine anyL_takeF (i := 12) (d := 86) (v := (.tuple #[.int .i64 ((G : Nat) : Int), .int .i64 0])) rfl rfl (by kernel_rfl) (by kernel_rfl) (by kernel_rfl) (fun _ _ _ h => h) hSd (by kernel_rfl) (.inl (.inl ⟨rfl, fun w' hS => by first | rfl | go_simp⟩)) (fun h => Bool.noConfusion (show false = true from h)) ?_
                try simp only [List.setIfInBounds_toArray, List.set_cons_succ, List.set_cons_zero]
                refine anyL_takeF (i := 13) (d := 99) (v := (.int .i64 ((G : Nat) : Int))) rfl rfl (by kernel_rfl) (by kernel_rfl) (by kernel_rfl) (fun _ _ _ h => h) hSd (by kernel_rfl) (.inl (.inl ⟨rfl, fun w' hS => by first | rfl | go_simp⟩)) (fun h => Bool.noConfusion (show false = true from h)) ?_
                try simp only [List.setIfInBounds_toArray, List.set_cons_succ, List.set_cons_zero]
                refine anyL_takeF (i := 14) (d := 100) (v := (.int .i64 0)) rfl rfl (by kernel_rfl) (by kernel_rfl) (by kernel_rfl) (fun _ _ _ h => h) hSd (by kernel_rfl) (.inl (.inl ⟨rfl, fun w' hS => by first | rfl | go_simp⟩)) (fun h => Bool.noConfusion (show false = true from h)) ?_
                try simp only [List.setIfInBounds_toArray, List.set_cons_succ, List.set_cons_zero]
                refine anyL_takeF (i := 15) (d := 13) (v := (.int .i64 ((G : Nat) : Int))) rfl rfl (by kernel_rfl) (by kernel_rfl) (by kernel_rfl) (fun _ _ _ h => h) hSd (by kernel_rfl) (.inl (.inl ⟨rfl, fun w' hS => by first | rfl | go_simp⟩)) (fun h => Bool.noConfusion (show false = true from h)) ?_
                try simp only [List.setIfInBounds_toArray, List.set_cons_succ, List.set_cons_zero]
                refine anyL_takeF (i := 16) (d := 14) (v := (.int .i64 0)) rfl rfl (by kernel_rfl) (by kernel_rfl) (by kernel_rfl) (fun _ _ _ h => h) hSd (by kernel_rfl) (.inl (.inl ⟨rfl, fun w' hS => by first | rfl | go_simp⟩)) (fun h => Bool.noConfusion (show false = true from h)) ?_
                try simp only [List.setIfInBounds_toArray, List.set_cons_succ, List.set_cons_zero]
                refine anyL_done (by kernel_rfl) (fun nn => ?_) _
                have h8 := h7.kp0 ((Kp.refl (fun _ => False) w7).drewN nn)
                generalize w7.drewN nn = w8 at *
                clear h7 hSd kz0
                obtain ⟨x', hx1, hx2, hx3⟩ : ∃ x', St w1 g sz (i + 1) x' w8 ∧ x'.l.length = L - G ∧ x'.last = la := ⟨_, h8.mono (Nat.le_succ i), (by show (x.l.drop G).length = _; rw [List.length_drop, HL.out]), HLA.out.symm⟩
                have HS := Lib.hid (And.intro hx1 (And.intro hx2 hx3))
                clear hx1 hx2 hx3
                obtain ⟨_, b', off', ha', d0, d1, d2, d3⟩ := h8.acts HRA.out i HIL.out
                obtain ⟨rfl, rfl⟩ : b' = b ∧ off' = off := by cases ha'; exact ⟨rfl, rfl⟩
                rw [← HP.out] at d1
                dsimp only at d1
                clear h8 C ha' d0 d2 d3
                have CO := open_st HS.out.1
                have CL := last_st HS.out.1
                rw [HS.out.2.1] at CO
                rw [HS.out.2.2] at CL
                have CO := Lib.hid CO
                have CL := Lib.hid CL
                have m1 : ¬ (((L - G : Nat) : Int) > (sz : Int)) := by omega
                have m2 : (((la : Nat) : Int) - ((A + G : Nat) : Int)) = ((L - G : Nat) : Int) := by omega
                go_wp2_with (first | (go_at_call 15; refine CO.out.mono ?_; rintro e w' ⟨rfl, rfl⟩) | (go_at_call 17; refine CL.out.mono ?_; rintro e w' ⟨rfl, rfl⟩))
                go_roundw
                case rel => exact ⟨i + 1, _, by omega, by go_num, by rw [HS.out.2.2]; try exact congrArg (Value.int .i64) (by omega), by rw [HS.out.2.1, HS.out.2.2]; try exact congrArg (Value.int .i64) (by omega), HS.out.1⟩
                case measure => simp [intOf]; omega
              · have hcs : ¬ 0 ≤ (Q : Int) - (A : Int) := by omega
                obtain rfl : G = 0 := by omega
                have hcast : (((0 : Nat) : Int)) = 0 := rfl
                have j6 : ¬ (Q : Int) > (la : Int) := by omega
                have hGL : 0 ≤ L := by omega
                have C := Lib.hid C
                clear hb2 hG hG2
                go_upto_region 20 with fail
                refine region_L (S := fun w' => Kp (fun _ => False) wr w') [11] rfl ?_
                have hSd : ∀ (w' : World) (n' : Nat), Kp (fun _ => False) wr w' → Kp (fun _ => False) wr (w'.drewN n') := fun w' n' h => h.drewN n'
                have hS0 : Kp (fun _ => False) wr wr.drew := (Kp.refl _ wr).drew
                refine anyL_world (fun w' => Kp (fun _ => False) wr w') hS0 ?_
                clear hS0
                intro z0 kz0
                refine anyL_takeF (i := 0) (d := 87) (v := (.pointer (some ⟨g, 0, none⟩))) rfl rfl (by kernel_rfl) (by kernel_rfl) (by kernel_rfl) (fun _ _ _ h => h) hSd (by kernel_rfl) (.inl (.inl ⟨rfl, fun w' hS => by first | rfl | go_simp⟩)) (fun _ => kz0) ?_
                try simp only [List.setIfInBounds_toArray, List.set_cons_succ, List.set_cons_zero]
                refine anyL_takeF (i := 1) (d := 88) (v := (.slice (some ⟨b, off, none⟩) n c)) rfl rfl (by kernel_rfl) (by kernel_rfl) (by kernel_rfl) (fun _ _ _ h => h) hSd (by kernel_rfl) (.inl (.inl ⟨rfl, fun w' hS => by first | rfl | go_simp⟩)) (fun _ => kz0) ?_
                try simp only [List.setIfInBounds_toArray, List.set_cons_succ, List.set_cons_zero]
                refine anyL_takeF (i := 2) (d := 89) (v := (.int .i64 (i : Nat))) rfl rfl (by kernel_rfl) (by kernel_rfl) (by kernel_rfl) (fun _ _ _ h => h) hSd (by kernel_rfl) (.inl (.inl ⟨rfl, fun w' hS => by first | rfl | go_simp⟩)) (fun _ => kz0) ?_
                try simp only [List.setIfInBounds_toArray, List.set_cons_succ, List.set_cons_zero]
                refine anyL_takeF (i := 3) (d := 90) (v := (.pointer (some ⟨b, off + i * 4, none⟩))) rfl rfl (by kernel_rfl) (by kernel_rfl) (by kernel_rfl) (fun _ _ _ h => h) hSd (by kernel_rfl) (.inl (.inl ⟨rfl, fun w' hS => by first | rfl | go_simp⟩)) (fun _ => kz0) ?_
                try simp only [List.setIfInBounds_toArray, List.set_cons_succ, List.set_cons_zero]
                refine anyL_takeF (i := 4) (d := 91) (v := (.pointer (some ⟨b, off + i * 4 + 1, none⟩))) rfl rfl (by kernel_rfl) (by kernel_rfl) (by kernel_rfl) (fun _ _ _ h => h) hSd (by kernel_rfl) (.inl (.inl ⟨rfl, fun w' hS => by first | rfl | go_simp⟩)) (fun _ => kz0) ?_
                try simp only [List.setIfInBounds_toArray, List.set_cons_succ, List.set_cons_zero]
                refine anyL_takeD (i := 5) (d := 92) (v := (.int .i64 (Q : Int))) rfl rfl (by kernel_rfl) (by kernel_rfl) (by kernel_rfl) (fun _ _ _ h => h) hSd (by kernel_rfl) (.inl (.inl ⟨rfl, fun w' hS => by have h := hS.cell c1 (fun h => h); go_simp⟩)) kz0 ?_
                try simp only [List.setIfInBounds_toArray, List.set_cons_succ, List.set_cons_zero]
                refine anyL_takeF (i := 6) (d := 93) (v := (.slice (some ⟨b, off, none⟩) n c)) rfl rfl (by kernel_rfl) (by kernel_rfl) (by kernel_rfl) (fun _ _ _ h => h) hSd (by kernel_rfl) (.inl (.inl ⟨rfl, fun w' hS => by first | rfl | go_simp⟩)) (fun _ => kz0) ?_
                try simp only [List.setIfInBounds_toArray, List.set_cons_succ, List.set_cons_zero]
                refine anyL_takeF (i := 7) (d := 94) (v := (.int .i64 (i : Nat))) rfl rfl (by kernel_rfl) (by kernel_rfl) (by kernel_rfl) (fun _ _ _ h => h) hSd (by kernel_rfl) (.inl (.inl ⟨rfl, fun w' hS => by first | rfl | go_simp⟩)) (fun _ => kz0) ?_
                try simp only [List.setIfInBounds_toArray, List.set_cons_succ, List.set_cons_zero]
                refine anyL_takeF (i := 8) (d := 95) (v := (.pointer (some ⟨b, off + i * 4, none⟩))) rfl rfl (by kernel_rfl) (by kernel_rfl) (by kernel_rfl) (fun _ _ _ h => h) hSd (by kernel_rfl) (.inl (.inl ⟨rfl, fun w' hS => by first | rfl | go_simp⟩)) (fun _ => kz0) ?_
                try simp only [List.setIfInBounds_toArray, List.set_cons_succ, List.set_cons_zero]
                refine anyL_takeF (i := 9) (d := 96) (v := (.pointer (some ⟨b, off + i * 4 + 2, none⟩))) rfl rfl (by kernel_rfl) (by kernel_rfl) (by kernel_rfl) (fun _ _ _ h => h) hSd (by kernel_rfl) (.inl (.inl ⟨rfl, fun w' hS => by first | rfl | go_simp⟩)) (fun _ => kz0) ?_
                try simp only [List.setIfInBounds_toArray, List.set_cons_succ, List.set_cons_zero]
                refine anyL_takeD (i := 10) (d := 97) (v := (.int .i64 T)) rfl rfl (by kernel_rfl) (by kernel_rfl) (by kernel_rfl) (fun _ _ _ h => h) hSd (by kernel_rfl) (.inl (.inl ⟨rfl, fun w' hS => by have h := hS.cell c2 (fun h => h); go_simp⟩)) kz0 ?_
                try simp only [List.setIfInBounds_toArray, List.set_cons_succ, List.set_cons_zero]
                refine anyL_all (rs := [11]) (by kernel_rfl) (by simp) ?_
                intro n11 i' hi'
                simp only [List.mem_cons, List.not_mem_nil, or_false] at hi'
                obtain rfl := hi'
                refine wpOp_of rfl rfl ?_
                go_simp
                refine Calls.mono (C.out (z0.drewN n11) (kz0.drewN n11)) ?_
                rintro e w7 ⟨rfl, V', h7⟩
                try dsimp only
                refine ⟨fun h => Bool.noConfusion (show false = true from h), ?_⟩
                try simp only [List.setIfInBounds_toArray, List.set_cons_succ, List.set_cons_zero]
                refine anyL_takeF (i := 12) (d := 86) (v := (.tuple #[.int .i64 ((0 : Nat) : Int), .int .i64 0])) rfl rfl (by kernel_rfl) (by kernel_rfl) (by kernel_rfl) (fun _ _ _ h => h) hSd (by kernel_rfl) (.inl (.inl ⟨rfl, fun w' hS => by first | rfl | go_simp⟩)) (fun h => Bool.noConfusion (show false = true from h)) ?_
                try simp only [List.setIfInBounds_toArray, List.set_cons_succ, List.set_cons_zero]
                refine anyL_takeF (i := 13) (d := 99) (v := (.int .i64 ((0 : Nat) : Int))) rfl rfl (by kernel_rfl) (by kernel_rfl) (by kernel_rfl) (fun _ _ _ h => h) hSd (by kernel_rfl) (.inl (.inl ⟨rfl, fun w' hS => by first | rfl | go_simp⟩)) (fun h => Bool.noConfusion (show false = true from h)) ?_
                try simp only [List.setIfInBounds_toArray, List.set_cons_succ, List.set_cons_zero]
                refine anyL_takeF (i := 14) (d := 100) (v := (.int .i64 0)) rfl rfl (by kernel_rfl) (by kernel_rfl) (by kernel_rfl) (fun _ _ _ h => h) hSd (by kernel_rfl) (.inl (.inl ⟨rfl, fun w' hS => by first | rfl | go_simp⟩)) (fun h => Bool.noConfusion (show false = true from h)) ?_
                try simp only [List.setIfInBounds_toArray, List.set_cons_succ, List.set_cons_zero]
                refine anyL_takeF (i := 15) (d := 13) (v := (.int .i64 ((0 : Nat) : Int))) rfl rfl (by kernel_rfl) (by kernel_rfl) (by kernel_rfl) (fun _ _ _ h => h) hSd (by kernel_rfl) (.inl (.inl ⟨rfl, fun w' hS => by first | rfl | go_simp⟩)) (fun h => Bool.noConfusion (show false = true from h)) ?_
                try simp only [List.setIfInBounds_toArray, List.set_cons_succ, List.set_cons_zero]
                refine anyL_takeF (i := 16) (d := 14) (v := (.int .i64 0)) rfl rfl (by kernel_rfl) (by kernel_rfl) (by kernel_rfl) (fun _ _ _ h => h) hSd (by kernel_rfl) (.inl (.inl ⟨rfl, fun w' hS => by first | rfl | go_simp⟩)) (fun h => Bool.noConfusion (show false = true from h)) ?_
                try simp only [List.setIfInBounds_toArray, List.set_cons_succ, List.set_cons_zero]
                refine anyL_done (by kernel_rfl) (fun nn => ?_) _
                have h8 := h7.kp0 ((Kp.refl (fun _ => False) w7).drewN nn)
                generalize w7.drewN nn = w8 at *
                clear h7 hSd kz0
                obtain ⟨x', hx1, hx2, hx3⟩ : ∃ x', St w1 g sz (i + 1) x' w8 ∧ x'.l.length = L - 0 ∧ x'.last = la := ⟨_, h8.mono (Nat.le_succ i), (by show (x.l.drop 0).length = _; rw [List.length_drop, HL.out]), HLA.out.symm⟩
                have HS := Lib.hid (And.intro hx1 (And.intro hx2 hx3))
                clear hx1 hx2 hx3
                obtain ⟨_, b', off', ha', d0, d1, d2, d3⟩ := h8.acts HRA.out i HIL.out
                obtain ⟨rfl, rfl⟩ : b' = b ∧ off' = off := by cases ha'; exact ⟨rfl, rfl⟩
                rw [← HP.out] at d1
                dsimp only at d1
                clear h8 C ha' d0 d2 d3
                have CO := open_st HS.out.1
                have CL := last_st HS.out.1
                rw [HS.out.2.1] at CO
                rw [HS.out.2.2] at CL
                have CO := Lib.hid CO
                have CL := Lib.hid CL
                have m1 : ¬ (((L - 0 : Nat) : Int) > (sz : Int)) := by omega
                have m2 : (((la : Nat) : Int) - ((A + 0 : Nat) : Int)) = ((L - 0 : Nat) : Int) := by omega
                go_wp2_with (first | (go_at_call 15; refine CO.out.mono ?_; rintro e w' ⟨rfl, rfl⟩) | (go_at_call 17; refine CL.out.mono ?_; rintro e w' ⟨rfl, rfl⟩))
                go_roundw
                case rel => exact ⟨i + 1, _, by omega, by go_num, by rw [HS.out.2.2]; try exact congrArg (Value.int .i64) (by omega), by rw [HS.out.2.1, HS.out.2.2]; try exact congrArg (Value.int .i64) (by omega), HS.out.1⟩
                case measure => simp [intOf]; omega
          · by_cases k3 : k = 3
            · subst k3
              cases hB : ackB x N T
              · have C := Lib.hid (fun w' (k : Kp (fun _ => False) wr w') => ackbad_st (HST.out.kp0 k) N T hB)
                go_upto_region 20 with fail
                refine region_L (S := fun w' => Kp (fun _ => False) wr w') [11] rfl ?_
                have hSd : ∀ (w' : World) (n' : Nat), Kp (fun _ => False) wr w' → Kp (fun _ => False) wr (w'.drewN n') := fun w' n' h => h.drewN n'
                have hS0 : Kp (fun _ => False) wr wr.drew := (Kp.refl _ wr).drew
                refine anyL_world (fun w' => Kp (fun _ => False) wr w') hS0 ?_
                clear hS0
                intro z0 kz0
                refine anyL_takeF (i := 0) (d := 87) (v := (.pointer (some ⟨g, 0, none⟩))) rfl rfl (by kernel_rfl) (by kernel_rfl) (by kernel_rfl) (fun _ _ _ h => h) hSd (by kernel_rfl) (.inl (.inl ⟨rfl, fun w' hS => by first | rfl | go_simp⟩)) (fun _ => kz0) ?_
                try simp only [List.setIfInBounds_toArray, List.set_cons_succ, List.set_cons_zero]
                refine anyL_takeF (i := 1) (d := 88) (v := (.slice (some ⟨b, off, none⟩) n c)) rfl rfl (by kernel_rfl) (by kernel_rfl) (by kernel_rfl) (fun _ _ _ h => h) hSd (by kernel_rfl) (.inl (.inl ⟨rfl, fun w' hS => by first | rfl | go_simp⟩)) (fun _ => kz0) ?_
                try simp only [List.setIfInBounds_toArray, List.set_cons_succ, List.set_cons_zero]
                refine anyL_takeF (i := 2) (d := 89) (v := (.int .i64 (i : Nat))) rfl rfl (by kernel_rfl) (by kernel_rfl) (by kernel_rfl) (fun _ _ _ h => h) hSd (by kernel_rfl) (.inl (.inl ⟨rfl, fun w' hS => by first | rfl | go_simp⟩)) (fun _ => kz0) ?_
                try simp only [List.setIfInBounds_toArray, List.set_cons_succ, List.set_cons_zero]
                refine anyL_takeF (i := 3) (d := 90) (v := (.pointer (some ⟨b, off + i * 4, none⟩))) rfl rfl (by kernel_rfl) (by kernel_rfl) (by kernel_rfl) (fun _ _ _ h => h) hSd (by kernel_rfl) (.inl (.inl ⟨rfl, fun w' hS => by first | rfl | go_simp⟩)) (fun _ => kz0) ?_
                try simp only [List.setIfInBounds_toArray, List.set_cons_succ, List.set_cons_zero]
                refine anyL_takeF (i := 4) (d := 91) (v := (.pointer (some ⟨b, off + i * 4 + 1, none⟩))) rfl rfl (by kernel_rfl) (by kernel_rfl) (by kernel_rfl) (fun _ _ _ h => h) hSd (by kernel_rfl) (.inl (.inl ⟨rfl, fun w' hS => by first | rfl | go_simp⟩)) (fun _ => kz0) ?_
                try simp only [List.setIfInBounds_toArray, List.set_cons_succ, List.set_cons_zero]
                refine anyL_takeD (i := 5) (d := 92) (v := (.int .i64 N)) rfl rfl (by kernel_rfl) (by kernel_rfl) (by kernel_rfl) (fun _ _ _ h => h) hSd (by kernel_rfl) (.inl (.inl ⟨rfl, fun w' hS => by have h := hS.cell c1 (fun h => h); go_simp⟩)) kz0 ?_
                try simp only [List.setIfInBounds_toArray, List.set_cons_succ, List.set_cons_zero]
                refine anyL_takeF (i := 6) (d := 93) (v := (.slice (some ⟨b, off, none⟩) n c)) rfl rfl (by kernel_rfl) (by kernel_rfl) (by kernel_rfl) (fun _ _ _ h => h) hSd (by kernel_rfl) (.inl (.inl ⟨rfl, fun w' hS => by first | rfl | go_simp⟩)) (fun _ => kz0) ?_
                try simp only [List.setIfInBounds_toArray, List.set_cons_succ, List.set_cons_zero]
                refine anyL_takeF (i := 7) (d := 94) (v := (.int .i64 (i : Nat))) rfl rfl (by kernel_rfl) (by kernel_rfl) (by kernel_rfl) (fun _ _ _ h => h) hSd (by kernel_rfl) (.inl (.inl ⟨rfl, fun w' hS => by first | rfl | go_simp⟩)) (fun _ => kz0) ?_
                try simp only [List.setIfInBounds_toArray, List.set_cons_succ, List.set_cons_zero]
                refine anyL_takeF (i := 8) (d := 95) (v := (.pointer (some ⟨b, off + i * 4, none⟩))) rfl rfl (by kernel_rfl) (by kernel_rfl) (by kernel_rfl) (fun _ _ _ h => h) hSd (by kernel_rfl) (.inl (.inl ⟨rfl, fun w' hS => by first | rfl | go_simp⟩)) (fun _ => kz0) ?_
                try simp only [List.setIfInBounds_toArray, List.set_cons_succ, List.set_cons_zero]
                refine anyL_takeF (i := 9) (d := 96) (v := (.pointer (some ⟨b, off + i * 4 + 2, none⟩))) rfl rfl (by kernel_rfl) (by kernel_rfl) (by kernel_rfl) (fun _ _ _ h => h) hSd (by kernel_rfl) (.inl (.inl ⟨rfl, fun w' hS => by first | rfl | go_simp⟩)) (fun _ => kz0) ?_
                try simp only [List.setIfInBounds_toArray, List.set_cons_succ, List.set_cons_zero]
                refine anyL_takeD (i := 10) (d := 97) (v := (.int .i64 T)) rfl rfl (by kernel_rfl) (by kernel_rfl) (by kernel_rfl) (fun _ _ _ h => h) hSd (by kernel_rfl) (.inl (.inl ⟨rfl, fun w' hS => by have h := hS.cell c2 (fun h => h); go_simp⟩)) kz0 ?_
                try simp only [List.setIfInBounds_toArray, List.set_cons_succ, List.set_cons_zero]
                refine anyL_all (rs := [11]) (by kernel_rfl) (by simp) ?_
                intro n11 i' hi'
                simp only [List.mem_cons, List.not_mem_nil, or_false] at hi'
                obtain rfl := hi'
                refine wpOp_of rfl rfl ?_
                go_simp
                refine Calls.mono (C.out (z0.drewN n11) (kz0.drewN n11)) ?_
                rintro e w7 ⟨rfl, h7⟩
                try dsimp only
                refine ⟨fun h => Bool.noConfusion (show false = true from h), ?_⟩
                try simp only [List.setIfInBounds_toArray, List.set_cons_succ, List.set_cons_zero]
                refine anyL_takeF (i := 12) (d := 86) (v := (.tuple #[.int .i64 0, .int .i64 5])) rfl rfl (by kernel_rfl) (by kernel_rfl) (by kernel_rfl) (fun _ _ _ h => h) hSd (by kernel_rfl) (.inl (.inl ⟨rfl, fun w' hS => by first | rfl | go_simp⟩)) (fun h => Bool.noConfusion (show false = true from h)) ?_
                try simp only [List.setIfInBounds_toArray, List.set_cons_succ, List.set_cons_zero]
                refine anyL_takeF (i := 13) (d := 99) (v := (.int .i64 0)) rfl rfl (by kernel_rfl) (by kernel_rfl) (by kernel_rfl) (fun _ _ _ h => h) hSd (by kernel_rfl) (.inl (.inl ⟨rfl, fun w' hS => by first | rfl | go_simp⟩)) (fun h => Bool.noConfusion (show false = true from h)) ?_
                try simp only [List.setIfInBounds_toArray, List.set_cons_succ, List.set_cons_zero]
                refine anyL_takeF (i := 14) (d := 100) (v := (.int .i64 5)) rfl rfl (by kernel_rfl) (by kernel_rfl) (by kernel_rfl) (fun _ _ _ h => h) hSd (by kernel_rfl) (.inl (.inl ⟨rfl, fun w' hS => by first | rfl | go_simp⟩)) (fun h => Bool.noConfusion (show false = true from h)) ?_
                try simp only [List.setIfInBounds_toArray, List.set_cons_succ, List.set_cons_zero]
                refine anyL_takeF (i := 15) (d := 13) (v := (.int .i64 0)) rfl rfl (by kernel_rfl) (by kernel_rfl) (by kernel_rfl) (fun _ _ _ h => h) hSd (by kernel_rfl) (.inl (.inl ⟨rfl, fun w' hS => by first | rfl | go_simp⟩)) (fun h => Bool.noConfusion (show false = true from h)) ?_
                try simp only [List.setIfInBounds_toArray, List.set_cons_succ, List.set_cons_zero]
                refine anyL_takeF (i := 16) (d := 14) (v := (.int .i64 5)) rfl rfl (by kernel_rfl) (by kernel_rfl) (by kernel_rfl) (fun _ _ _ h => h) hSd (by kernel_rfl) (.inl (.inl ⟨rfl, fun w' hS => by first | rfl | go_simp⟩)) (fun h => Bool.noConfusion (show false = true from h)) ?_
                try simp only [List.setIfInBounds_toArray, List.set_cons_succ, List.set_cons_zero]
                refine anyL_done (by kernel_rfl) (fun nn => ?_) _
                have h8 := h7.kp0 ((Kp.refl (fun _ => False) w7).drewN nn)
                generalize w7.drewN nn = w8 at *
                clear h7 hSd kz0
                obtain ⟨x', hx1, hx2, hx3⟩ : ∃ x', St w1 g sz (i + 1) x' w8 ∧ x'.l.length = L ∧ x'.last = la := ⟨_, h8.mono (Nat.le_succ i), HL.out.symm, HLA.out.symm⟩
                have HS := Lib.hid (And.intro hx1 (And.intro hx2 hx3))
                clear hx1 hx2 hx3
                clear h8 C
                have CO := open_st HS.out.1
                have CL := last_st HS.out.1
                rw [HS.out.2.1] at CO
                rw [HS.out.2.2] at CL
                have CO := Lib.hid CO
                have CL := Lib.hid CL
                have m1 : ¬ (((L : Nat) : Int) > (sz : Int)) := by omega
                have m2 : (((la : Nat) : Int) - ((A : Nat) : Int)) = ((L : Nat) : Int) := by omega
                go_wp2_with (first | (go_at_call 15; refine CO.out.mono ?_; rintro e w' ⟨rfl, rfl⟩) | (go_at_call 17; refine CL.out.mono ?_; rintro e w' ⟨rfl, rfl⟩))
                go_roundw
                case rel => exact ⟨i + 1, _, by omega, by go_num, by rw [HS.out.2.2]; try exact congrArg (Value.int .i64) (by omega), by rw [HS.out.2.1, HS.out.2.2]; try exact congrArg (Value.int .i64) (by omega), HS.out.1⟩
                case measure => simp [intOf]; omega
              · have C := fun w' (k : Kp (fun _ => False) wr w') => ack_st (HST.out.kp0 k) (by omega) N T hB
                have hb2 : 0 ≤ N ∧ N ≤ x.last := by unfold ackB at hB; simp only [Bool.and_eq_true, decide_eq_true_eq] at hB; exact hB.1
                obtain ⟨Q, rfl⟩ := Int.eq_ofNat_of_zero_le hb2.1
                obtain ⟨G, hG⟩ : ∃ G, G = goneN x (Int.toNat (Q : Int)) := ⟨_, rfl⟩
                simp only [← hG] at C
                have hG2 : G = Q + L - la := by rw [hG, HL.out, HLA.out]; rfl
                have hQ : Q ≤ la := by rw [HLA.out]; omega
                by_cases hAQ : A ≤ Q
                · have hcs : 0 ≤ (Q : Int) - (A : Int) := by omega
                  have j5 : (Q : Int) - (A : Int) = (G : Int) := by omega
                  have hGQ : A + G = Q := by omega
                  have j6 : ¬ (Q : Int) > (la : Int) := by omega
                  have hGL : G ≤ L := by omega
                  have C := Lib.hid C
                  clear hb2 hG hG2
                  go_upto_region 20 with fail
                  refine region_L (S := fun w' => Kp (fun _ => False) wr w') [11] rfl ?_
                  have hSd : ∀ (w' : World) (n' : Nat), Kp (fun _ => False) wr w' → Kp (fun _ => False) wr (w'.drewN n') := fun w' n' h => h.drewN n'
                  have hS0 : Kp (fun _ => False) wr wr.drew := (Kp.refl _ wr).drew
                  refine anyL_world (fun w' => Kp (fun _ => False) wr w') hS0 ?_
                  clear hS0
                  intro z0 kz0
                  refine anyL_takeF (i := 0) (d := 87) (v := (.pointer (some ⟨g, 0, none⟩))) rfl rfl (by kernel_rfl) (by kernel_rfl) (by kernel_rfl) (fun _ _ _ h => h) hSd (by kernel_rfl) (.inl (.inl ⟨rfl, fun w' hS => by first | rfl | go_simp⟩)) (fun _ => kz0) ?_
                  try simp only [List.setIfInBounds_toArray, List.set_cons_succ, List.set_cons_zero]
                  refine anyL_takeF (i := 1) (d := 88) (v := (.slice (some ⟨b, off, none⟩) n c)) rfl rfl (by kernel_rfl) (by kernel_rfl) (by kernel_rfl) (fun _ _ _ h => h) hSd (by kernel_rfl) (.inl (.inl ⟨rfl, fun w' hS => by first | rfl | go_simp⟩)) (fun _ => kz0) ?_
                  try simp only [List.setIfInBounds_toArray, List.set_cons_succ, List.set_cons_zero]
                  refine anyL_takeF (i := 2) (d := 89) (v := (.int .i64 (i : Nat))) rfl rfl (by kernel_rfl) (by kernel_rfl) (by kernel_rfl) (fun _ _ _ h => h) hSd (by kernel_rfl) (.inl (.inl ⟨rfl, fun w' hS => by first | rfl | go_simp⟩)) (fun _ => kz0) ?_
                  try simp only [List.setIfInBounds_toArray, List.set_cons_succ, List.set_cons_zero]
                  refine anyL_takeF (i := 3) (d := 90) (v := (.pointer (some ⟨b, off + i * 4, none⟩))) rfl rfl (by kernel_rfl) (by kernel_rfl) (by kernel_rfl) (fun _ _ _ h => h) hSd (by kernel_rfl) (.inl (.inl ⟨rfl, fun w' hS => by first | rfl | go_simp⟩)) (fun _ => kz0) ?_
                  try simp only [List.setIfInBounds_toArray, List.set_cons_succ, List.set_cons_zero]
                  refine anyL_takeF (i := 4) (d := 91) (v := (.pointer (some ⟨b, off + i * 4 + 1, none⟩))) rfl rfl (by kernel_rfl) (by kernel_rfl) (by kernel_rfl) (fun _ _ _ h => h) hSd (by kernel_rfl) (.inl (.inl ⟨rfl, fun w' hS => by first | rfl | go_simp⟩)) (fun _ => kz0) ?_
                  try simp only [List.setIfInBounds_toArray, List.set_cons_succ, List.set_cons_zero]
                  refine anyL_takeD (i := 5) (d := 92) (v := (.int .i64 (Q : Int))) rfl rfl (by kernel_rfl) (by kernel_rfl) (by kernel_rfl) (fun _ _ _ h => h) hSd (by kernel_rfl) (.inl (.inl ⟨rfl, fun w' hS => by have h := hS.cell c1 (fun h => h); go_simp⟩)) kz0 ?_
                  try simp only [List.setIfInBounds_toArray, List.set_cons_succ, List.set_cons_zero]
                  refine anyL_takeF (i := 6) (d := 93) (v := (.slice (some ⟨b, off, none⟩) n c)) rfl rfl (by kernel_rfl) (by kernel_rfl) (by kernel_rfl) (fun _ _ _ h => h) hSd (by kernel_rfl) (.inl (.inl ⟨rfl, fun w' hS => by first | rfl | go_simp⟩)) (fun _ => kz0) ?_
                  try simp only [List.setIfInBounds_toArray, List.set_cons_succ, List.set_cons_zero]
                  refine anyL_takeF (i := 7) (d := 94) (v := (.int .i64 (i : Nat))) rfl rfl (by kernel_rfl) (by kernel_rfl) (by kernel_rfl) (fun _ _ _ h => h) hSd (by kernel_rfl) (.inl (.inl ⟨rfl, fun w' hS => by first | rfl | go_simp⟩)) (fun _ => kz0) ?_
                  try simp only [List.setIfInBounds_toArray, List.set_cons_succ, List.set_cons_zero]
                  refine anyL_takeF (i := 8) (d := 95) (v := (.pointer (some ⟨b, off + i * 4, none⟩))) rfl rfl (by kernel_rfl) (by kernel_rfl) (by kernel_rfl) (fun _ _ _ h => h) hSd (by kernel_rfl) (.inl (.inl ⟨rfl, fun w' hS => by first | rfl | go_simp⟩)) (fun _ => kz0) ?_
                  try simp only [List.setIfInBounds_toArray, List.set_cons_succ, List.set_cons_zero]
                  refine anyL_takeF (i := 9) (d := 96) (v := (.pointer (some ⟨b, off + i * 4 + 2, none⟩))) rfl rfl (by kernel_rfl) (by kernel_rfl) (by kernel_rfl) (fun _ _ _ h => h) hSd (by kernel_rfl) (.inl (.inl ⟨rfl, fun w' hS => by first | rfl | go_simp⟩)) (fun _ => kz0) ?_
                  try simp only [List.setIfInBounds_toArray, List.set_cons_succ, List.set_cons_zero]
                  refine anyL_takeD (i := 10) (d := 97) (v := (.int .i64 T)) rfl rfl (by kernel_rfl) (by kernel_rfl) (by kernel_rfl) (fun _ _ _ h => h) hSd (by kernel_rfl) (.inl (.inl ⟨rfl, fun w' hS => by have h := hS.cell c2 (fun h => h); go_simp⟩)) kz0 ?_
                  try simp only [List.setIfInBounds_toArray, List.set_cons_succ, List.set_cons_zero]
                  refine anyL_all (rs := [11]) (by kernel_rfl) (by simp) ?_
                  intro n11 i' hi'
                  simp only [List.mem_cons, List.not_mem_nil, or_false] at hi'
                  obtain rfl := hi'
                  refine wpOp_of rfl rfl ?_
                  go_simp
                  refine Calls.mono (C.out (z0.drewN n11) (kz0.drewN n11)) ?_
                  rintro e w7 ⟨rfl, V', h7⟩
                  try dsimp only
                  refine ⟨fun h => Bool.noConfusion (show false = true from h), ?_⟩
                  try simp only [List.setIfInBounds_toArray, List.set_cons_succ, List.set_cons_zero]
                  refine anyL_takeF (i := 12) (d := 86) (v := (.tuple #[.int .i64 ((G : Nat) : Int), .int .i64 0])) rfl rfl (by kernel_rfl) (by kernel_rfl) (by kernel_rfl) (fun _ _ _ h => h) hSd (by kernel_rfl) (.inl (.inl ⟨rfl, fun w' hS => by first | rfl | go_simp⟩)) (fun h => Bool.noConfusion (show false = true from h)) ?_
                  try simp only [List.setIfInBounds_toArray, List.set_cons_succ, List.set_cons_zero]
                  refine anyL_takeF (i := 13) (d := 99) (v := (.int .i64 ((G : Nat) : Int))) rfl rfl (by kernel_rfl) (by kernel_rfl) (by kernel_rfl) (fun _ _ _ h => h) hSd (by kernel_rfl) (.inl (.inl ⟨rfl, fun w' hS => by first | rfl | go_simp⟩)) (fun h => Bool.noConfusion (show false = true from h)) ?_
                  try simp only [List.setIfInBounds_toArray, List.set_cons_succ, List.set_cons_zero]
                  refine anyL_takeF (i := 14) (d := 100) (v := (.int .i64 0)) rfl rfl (by kernel_rfl) (by kernel_rfl) (by kernel_rfl) (fun _ _ _ h => h) hSd (by kernel_rfl) (.inl (.inl ⟨rfl, fun w' hS => by first | rfl | go_simp⟩)) (fun h => Bool.noConfusion (show false = true from h)) ?_
                  try simp only [List.setIfInBounds_toArray, List.set_cons_succ, List.set_cons_zero]
                  refine anyL_takeF (i := 15) (d := 13) (v := (.int .i64 ((G : Nat) : Int))) rfl rfl (by kernel_rfl) (by kernel_rfl) (by kernel_rfl) (fun _ _ _ h => h) hSd (by kernel_rfl) (.inl (.inl ⟨rfl, fun w' hS => by first | rfl | go_simp⟩)) (fun h => Bool.noConfusion (show false = true from h)) ?_
                  try simp only [List.setIfInBounds_toArray, List.set_cons_succ, List.set_cons_zero]
                  refine anyL_takeF (i := 16) (d := 14) (v := (.int .i64 0)) rfl rfl (by kernel_rfl) (by kernel_rfl) (by kernel_rfl) (fun _ _ _ h => h) hSd (by kernel_rfl) (.inl (.inl ⟨rfl, fun w' hS => by first | rfl | go_simp⟩)) (fun h => Bool.noConfusion (show false = true from h)) ?_
                  try simp only [List.setIfInBounds_toArray, List.set_cons_succ, List.set_cons_zero]
                  refine anyL_done (by kernel_rfl) (fun nn => ?_) _
                  have h8 := h7.kp0 ((Kp.refl (fun _ => False) w7).drewN nn)
                  generalize w7.drewN nn = w8 at *
                  clear h7 hSd kz0
                  obtain ⟨x', hx1, hx2, hx3⟩ : ∃ x', St w1 g sz (i + 1) x' w8 ∧ x'.l.length = L - G ∧ x'.last = la := ⟨_, h8.mono (Nat.le_succ i), (by show (x.l.drop G).length = _; rw [List.length_drop, HL.out]), HLA.out.symm⟩
                  have HS := Lib.hid (And.intro hx1 (And.intro hx2 hx3))
                  clear hx1 hx2 hx3
                  obtain ⟨_, b', off', ha', d0, d1, d2, d3⟩ := h8.acts HRA.out i HIL.out
                  obtain ⟨rfl, rfl⟩ : b' = b ∧ off' = off := by cases ha'; exact ⟨rfl, rfl⟩
                  rw [← HP.out] at d1
                  dsimp only at d1
                  clear h8 C ha' d0 d2 d3
                  have CO := open_st HS.out.1
                  have CL := last_st HS.out.1
                  rw [HS.out.2.1] at CO
                  rw [HS.out.2.2] at CL
                  have CO := Lib.hid CO
                  have CL := Lib.hid CL
                  have m1 : ¬ (((L - G : Nat) : Int) > (sz : Int)) := by omega
                  have m2 : (((la : Nat) : Int) - ((A + G : Nat) : Int)) = ((L - G : Nat) : Int) := by omega
                  go_wp2_with (first | (go_at_call 15; refine CO.out.mono ?_; rintro e w' ⟨rfl, rfl⟩) | (go_at_call 17; refine CL.out.mono ?_; rintro e w' ⟨rfl, rfl⟩))
                  go_roundw
                  case rel => exact ⟨i + 1, _, by omega, by go_num, by rw [HS.out.2.2]; try exact congrArg (Value.int .i64) (by omega), by rw [HS.out.2.1, HS.out.2.2]; try exact congrArg (Value.int .i64) (by omega), HS.out.1⟩
                  case measure => simp [intOf]; omega
                · have hcs : ¬ 0 ≤ (Q : Int) - (A : Int) := by omega
                  obtain rfl : G = 0 := by omega
                  have hcast : (((0 : Nat) : Int)) = 0 := rfl
                  have j6 : ¬ (Q : Int) > (la : Int) := by omega
                  have hGL : 0 ≤ L := by omega
                  have C := Lib.hid C
                  clear hb2 hG hG2
                  go_upto_region 20 with fail
                  refine region_L (S := fun w' => Kp (fun _ => False) wr w') [11] rfl ?_
                  have hSd : ∀ (w' : World) (n' : Nat), Kp (fun _ => False) wr w' → Kp (fun _ => False) wr (w'.drewN n') := fun w' n' h => h.drewN n'
                  have hS0 : Kp (fun _ => False) wr wr.drew := (Kp.refl _ wr).drew
                  refine anyL_world (fun w' => Kp (fun _ => False) wr w') hS0 ?_
                  clear hS0
                  intro z0 kz0
                  refine anyL_takeF (i := 0) (d := 87) (v := (.pointer (some ⟨g, 0, none⟩))) rfl rfl (by kernel_rfl) (by kernel_rfl) (by kernel_rfl) (fun _ _ _ h => h) hSd (by kernel_rfl) (.inl (.inl ⟨rfl, fun w' hS => by first | rfl | go_simp⟩)) (fun _ => kz0) ?_
                  try simp only [List.setIfInBounds_toArray, List.set_cons_succ, List.set_cons_zero]
                  refine anyL_takeF (i := 1) (d := 88) (v := (.slice (some ⟨b, off, none⟩) n c)) rfl rfl (by kernel_rfl) (by kernel_rfl) (by kernel_rfl) (fun _ _ _ h => h) hSd (by kernel_rfl) (.inl (.inl ⟨rfl, fun w' hS => by first | rfl | go_simp⟩)) (fun _ => kz0) ?_
                  try simp only [List.setIfInBounds_toArray, List.set_cons_succ, List.set_cons_zero]
                  refine anyL_takeF (i := 2) (d := 89) (v := (.int .i64 (i : Nat))) rfl rfl (by kernel_rfl) (by kernel_rfl) (by kernel_rfl) (fun _ _ _ h => h) hSd (by kernel_rfl) (.inl (.inl ⟨rfl, fun w' hS => by first | rfl | go_simp⟩)) (fun _ => kz0) ?_
                  try simp only [List.setIfInBounds_toArray, List.set_cons_succ, List.set_cons_zero]
                  refine anyL_takeF (i := 3) (d := 90) (v := (.pointer (some ⟨b, off + i * 4, none⟩))) rfl rfl (by kernel_rfl) (by kernel_rfl) (by kernel_rfl) (fun _ _ _ h => h) hSd (by kernel_rfl) (.inl (.inl ⟨rfl, fun w' hS => by first | rfl | go_simp⟩)) (fun _ => kz0) ?_
                  try simp only [List.setIfInBounds_toArray, List.set_cons_succ, List.set_cons_zero]
                  refine anyL_takeF (i := 4) (d := 91) (v := (.pointer (some ⟨b, off + i * 4 + 1, none⟩))) rfl rfl (by kernel_rfl) (by kernel_rfl) (by kernel_rfl) (fun _ _ _ h => h) hSd (by kernel_rfl) (.inl (.inl ⟨rfl, fun w' hS => by first | rfl | go_simp⟩)) (fun _ => kz0) ?_
                  try simp only [List.setIfInBounds_toArray, List.set_cons_succ, List.set_cons_zero]
                  refine anyL_takeD (i := 5) (d := 92) (v := (.int .i64 (Q : Int))) rfl rfl (by kernel_rfl) (by kernel_rfl) (by kernel_rfl) (fun _ _ _ h => h) hSd (by kernel_rfl) (.inl (.inl ⟨rfl, fun w' hS => by have h := hS.cell c1 (fun h => h); go_simp⟩)) kz0 ?_
                  try simp only [List.setIfInBounds_toArray, List.set_cons_succ, List.set_cons_zero]
                  refine anyL_takeF (i := 6) (d := 93) (v := (.slice (some ⟨b, off, none⟩) n c)) rfl rfl (by kernel_rfl) (by kernel_rfl) (by kernel_rfl) (fun _ _ _ h => h) hSd (by kernel_rfl) (.inl (.inl ⟨rfl, fun w' hS => by first | rfl | go_simp⟩)) (fun _ => kz0) ?_
                  try simp only [List.setIfInBounds_toArray, List.set_cons_succ, List.set_cons_zero]
                  refine anyL_takeF (i := 7) (d := 94) (v := (.int .i64 (i : Nat))) rfl rfl (by kernel_rfl) (by kernel_rfl) (by kernel_rfl) (fun _ _ _ h => h) hSd (by kernel_rfl) (.inl (.inl ⟨rfl, fun w' hS => by first | rfl | go_simp⟩)) (fun _ => kz0) ?_
                  try simp only [List.setIfInBounds_toArray, List.set_cons_succ, List.set_cons_zero]
                  refine anyL_takeF (i := 8) (d := 95) (v := (.pointer (some ⟨b, off + i * 4, none⟩))) rfl rfl (by kernel_rfl) (by kernel_rfl) (by kernel_rfl) (fun _ _ _ h => h) hSd (by kernel_rfl) (.inl (.inl ⟨rfl, fun w' hS => by first | rfl | go_simp⟩)) (fun _ => kz0) ?_
                  try simp only [List.setIfInBounds_toArray, List.set_cons_succ, List.set_cons_zero]
                  refine anyL_takeF (i := 9) (d := 96) (v := (.pointer (some ⟨b, off + i * 4 + 2, none⟩))) rfl rfl (by kernel_rfl) (by kernel_rfl) (by kernel_rfl) (fun _ _ _ h => h) hSd (by kernel_rfl) (.inl (.inl ⟨rfl, fun w' hS => by first | rfl | go_simp⟩)) (fun _ => kz0) ?_
                  try simp only [List.setIfInBounds_toArray, List.set_cons_succ, List.set_cons_zero]
                  refine anyL_takeD (i := 10) (d := 97) (v := (.int .i64 T)) rfl rfl (by kernel_rfl) (by kernel_rfl) (by kernel_rfl) (fun _ _ _ h => h) hSd (by kernel_rfl) (.inl (.inl ⟨rfl, fun w' hS => by have h := hS.cell c2 (fun h => h); go_simp⟩)) kz0 ?_
                  try simp only [List.setIfInBounds_toArray, List.set_cons_succ, List.set_cons_zero]
                  refine anyL_all (rs := [11]) (by kernel_rfl) (by simp) ?_
                  intro n11 i' hi'
                  simp only [List.mem_cons, List.not_mem_nil, or_false] at hi'
                  obtain rfl := hi'
                  refine wpOp_of rfl rfl ?_
                  go_simp
                  refine Calls.mono (C.out (z0.drewN n11) (kz0.drewN n11)) ?_
                  rintro e w7 ⟨rfl, V', h7⟩
                  try dsimp only
                  refine ⟨fun h => Bool.noConfusion (show false = true from h), ?_⟩
                  try simp only [List.setIfInBounds_toArray, List.set_cons_succ, List.set_cons_zero]
                  refine anyL_takeF (i := 12) (d := 86) (v := (.tuple #[.int .i64 ((0 : Nat) : Int), .int .i64 0])) rfl rfl (by kernel_rfl) (by kernel_rfl) (by kernel_rfl) (fun _ _ _ h => h) hSd (by kernel_rfl) (.inl (.inl ⟨rfl, fun w' hS => by first | rfl | go_simp⟩)) (fun h => Bool.noConfusion (show false = true from h)) ?_
                  try simp only [List.setIfInBounds_toArray, List.set_cons_succ, List.set_cons_zero]
                  refine anyL_takeF (i := 13) (d := 99) (v := (.int .i64 ((0 : Nat) : Int))) rfl rfl (by kernel_rfl) (by kernel_rfl) (by kernel_rfl) (fun _ _ _ h => h) hSd (by kernel_rfl) (.inl (.inl ⟨rfl, fun w' hS => by first | rfl | go_simp⟩)) (fun h => Bool.noConfusion (show false = true from h)) ?_
                  try simp only [List.setIfInBounds_toArray, List.set_cons_succ, List.set_cons_zero]
                  refine anyL_takeF (i := 14) (d := 100) (v := (.int .i64 0)) rfl rfl (by kernel_rfl) (by kernel_rfl) (by kernel_rfl) (fun _ _ _ h => h) hSd (by kernel_rfl) (.inl (.inl ⟨rfl, fun w' hS => by first | rfl | go_simp⟩)) (fun h => Bool.noConfusion (show false = true from h)) ?_
                  try simp only [List.setIfInBounds_toArray, List.set_cons_succ, List.set_cons_zero]
                  refine anyL_takeF (i := 15) (d := 13) (v := (.int .i64 ((0 : Nat) : Int))) rfl rfl (by kernel_rfl) (by kernel_rfl) (by kernel_rfl) (fun _ _ _ h => h) hSd (by kernel_rfl) (.inl (.inl ⟨rfl, fun w' hS => by first | rfl | go_simp⟩)) (fun h => Bool.noConfusion (show false = true from h)) ?_
                  try simp only [List.setIfInBounds_toArray, List.set_cons_succ, List.set_cons_zero]
                  refine anyL_takeF (i := 16) (d := 14) (v := (.int .i64 0)) rfl rfl (by kernel_rfl) (by kernel_rfl) (by kernel_rfl) (fun _ _ _ h => h) hSd (by kernel_rfl) (.inl (.inl ⟨rfl, fun w' hS => by first | rfl | go_simp⟩)) (fun h => Bool.noConfusion (show false = true from h)) ?_
                  try simp only [List.setIfInBounds_toArray, List.set_cons_succ, List.set_cons_zero]
                  refine anyL_done (by kernel_rfl) (fun nn => ?_) _
                  have h8 := h7.kp0 ((Kp.refl (fun _ => False) w7).drewN nn)
                  generalize w7.drewN nn = w8 at *
                  clear h7 hSd kz0
                  obtain ⟨x', hx1, hx2, hx3⟩ : ∃ x', St w1 g sz (i + 1) x' w8 ∧ x'.l.length = L - 0 ∧ x'.last = la := ⟨_, h8.mono (Nat.le_succ i), (by show (x.l.drop 0).length = _; rw [List.length_drop, HL.out]), HLA.out.symm⟩
                  have HS := Lib.hid (And.intro hx1 (And.intro hx2 hx3))
                  clear hx1 hx2 hx3
                  obtain ⟨_, b', off', ha', d0, d1, d2, d3⟩ := h8.acts HRA.out i HIL.out
                  obtain ⟨rfl, rfl⟩ : b' = b ∧ off' = off := by cases ha'; exact ⟨rfl, rfl⟩
                  rw [← HP.out] at d1
                  dsimp only at d1
                  clear h8 C ha' d0 d2 d3
                  have CO := open_st HS.out.1
                  have CL := last_st HS.out.1
                  rw [HS.out.2.1] at CO
                  rw [HS.out.2.2] at CL
                  have CO := Lib.hid CO
                  have CL := Lib.hid CL
                  have m1 : ¬ (((L - 0 : Nat) : Int) > (sz : Int)) := by omega
                  have m2 : (((la : Nat) : Int) - ((A + 0 : Nat) : Int)) = ((L - 0 : Nat) : Int) := by omega
                  go_wp2_with (first | (go_at_call 15; refine CO.out.mono ?_; rintro e w' ⟨rfl, rfl⟩) | (go_at_call 17; refine CL.out.mono ?_; rintro e w' ⟨rfl, rfl⟩))
                  go_roundw
                  case rel => exact ⟨i + 1, _, by omega, by go_num, by rw [HS.out.2.2]; try exact congrArg (Value.int .i64) (by omega), by rw [HS.out.2.1, HS.out.2.2]; try exact congrArg (Value.int .i64) (by omega), HS.out.1⟩
                  case measure => simp [intOf]; omega
            · by_cases k4 : k = 4
              · subst k4
                cases hB : timeB T
                · have C := Lib.hid (duelate_st HST.out T hB)
                  go_wp2_with fail
                  go_at_call 13
                  refine C.out.mono ?_
                  rintro e w8 ⟨rfl, h8⟩
                  obtain ⟨x', hx1, hx2, hx3⟩ : ∃ x', St w1 g sz (i + 1) x' w8 ∧ x'.l.length = L ∧ x'.last = la := ⟨_, h8.mono (Nat.le_succ i), HL.out.symm, HLA.out.symm⟩
                  have HS := Lib.hid (And.intro hx1 (And.intro hx2 hx3))
                  clear hx1 hx2 hx3
                  clear h8 C
                  have CO := open_st HS.out.1
                  have CL := last_st HS.out.1
                  rw [HS.out.2.1] at CO
                  rw [HS.out.2.2] at CL
                  have CO := Lib.hid CO
                  have CL := Lib.hid CL
                  have m1 : ¬ (((L : Nat) : Int) > (sz : Int)) := by omega
                  have m2 : (((la : Nat) : Int) - ((A : Nat) : Int)) = ((L : Nat) : Int) := by omega
                  go_wp2_with (first | (go_at_call 15; refine CO.out.mono ?_; rintro e w' ⟨rfl, rfl⟩) | (go_at_call 17; refine CL.out.mono ?_; rintro e w' ⟨rfl, rfl⟩))
                  go_roundw
                  case rel => exact ⟨i + 1, _, by omega, by go_num, by rw [HS.out.2.2]; try exact congrArg (Value.int .i64) (by omega), by rw [HS.out.2.1, HS.out.2.2]; try exact congrArg (Value.int .i64) (by omega), HS.out.1⟩
                  case measure => simp [intOf]; omega
                · have C := Lib.hid (due_st HST.out (by omega) T hB)
                  go_wp2_with fail
                  go_at_call 13
                  refine C.out.mono ?_
                  rintro e w8 ⟨v, l8, rfl, _, _, h8⟩
                  obtain ⟨x', hx1, hx2, hx3⟩ : ∃ x', St w1 g sz (i + 1) x' w8 ∧ x'.l.length = L ∧ x'.last = la := ⟨_, h8, (by rw [dueW_len]; exact HL.out.symm), HLA.out.symm⟩
                  have HS := Lib.hid (And.intro hx1 (And.intro hx2 hx3))
                  clear hx1 hx2 hx3
                  clear h8 C
                  have CO := open_st HS.out.1
                  have CL := last_st HS.out.1
                  rw [HS.out.2.1] at CO
                  rw [HS.out.2.2] at CL
                  have CO := Lib.hid CO
                  have CL := Lib.hid CL
                  have m1 : ¬ (((L : Nat) : Int) > (sz : Int)) := by omega
                  have m2 : (((la : Nat) : Int) - ((A : Nat) : Int)) = ((L : Nat) : Int) := by omega
                  go_wp2_with (first | (go_at_call 15; refine CO.out.mono ?_; rintro e w' ⟨rfl, rfl⟩) | (go_at_call 17; refine CL.out.mono ?_; rintro e w' ⟨rfl, rfl⟩))
                  go_roundw
                  case rel => exact ⟨i + 1, _, by omega, by go_num, by rw [HS.out.2.2]; try exact congrArg (Value.int .i64) (by omega), by rw [HS.out.2.1, HS.out.2.2]; try exact congrArg (Value.int .i64) (by omega), HS.out.1⟩
                  case measure => simp [intOf]; omega
              · skip
                obtain ⟨x', hx1, hx2, hx3⟩ : ∃ x', St w1 g sz (i + 1) x' wr ∧ x'.l.length = L ∧ x'.last = la := ⟨_, HST.out.mono (Nat.le_succ i), HL.out.symm, HLA.out.symm⟩
                have HS := Lib.hid (And.intro hx1 (And.intro hx2 hx3))
                clear hx1 hx2 hx3
                have CO := open_st HS.out.1
                have CL := last_st HS.out.1
                rw [HS.out.2.1] at CO
                rw [HS.out.2.2] at CL
                have CO := Lib.hid CO
                have CL := Lib.hid CL
                have m1 : ¬ (((L : Nat) : Int) > (sz : Int)) := by omega
                have m2 : (((la : Nat) : Int) - ((A : Nat) : Int)) = ((L : Nat) : Int) := by omega
                go_wp2_with (first | (go_at_call 15; refine CO.out.mono ?_; rintro e w' ⟨rfl, rfl⟩) | (go_at_call 17; refine CL.out.mono ?_; rintro e w' ⟨rfl, rfl⟩))
                go_roundw
                case rel => exact ⟨i + 1, _, by omega, by go_num, by rw [HS.out.2.2]; try exact congrArg (Value.int .i64) (by omega), by rw [HS.out.2.1, HS.out.2.2]; try exact congrArg (Value.int .i64) (by omega), HS.out.1⟩
                case measure => simp [intOf]; omega
    · obtain rfl : i = n := by omega
      go_wp2_with fail
      go_ret
      exact ⟨rfl, (K1.out.trans hst.kp).below (fun _ _ h => h)⟩
set_option maxHeartbeats 2000000 in
set_option maxRecDepth 20000 in
theorem bound_early (z : Int) (a1 : Option Addr) (n c : Nat) (l : List Ac) (hn : n = l.length) (w : World) (hr : RdA w a1 l) (hc : n ≤ 140737488351232) (hz : (z < 1 ∨ 64 < z) ∨ (1 ≤ z ∧ z ≤ 64 ∧ longB l = true)) :
    Calls Try.prog 4 #[.int .i64 z, .slice a1 n c] w fun e w' => e = .returned (.bool true) ∧ Below w.heap.size w w' := by
  have HR := Lib.hid (And.intro hr hn)
  clear hr hn
  go_enter Try.func4, Try.ntmps4
  go_wp2_with fail
  go_at_call 8
  refine (awake_any _).mono ?_
  rintro e w1 ⟨rfl, k1⟩
  have K1 := Lib.hid k1
  clear k1
  go_wp2_with fail
  go_at_call 10
  rcases hz with hz | ⟨z1, z2, hz⟩
  · refine (wnew_bad z _ hz).mono ?_
    rintro e w2 ⟨rfl, rfl⟩
    have CLO := Lib.hid (long_any a1 n c l HR.out.2 w1 (HR.out.1.kp0 K1.out) hc)
    go_wp2_with fail
    go_at_call 16
    refine CLO.out.mono ?_
    rintro e w3 ⟨rfl, k3⟩
    have K3 := Lib.hid k3
    clear k3 CLO
    cases hB : longB l
    · go_wp2_with fail
      go_ret
      exact ⟨rfl, (K1.out.trans K3.out).below (fun _ _ h => h)⟩
    · go_wp2_with fail
      go_ret
      exact ⟨rfl, (K1.out.trans K3.out).below (fun _ _ h => h)⟩
  · obtain ⟨s, rfl⟩ := Int.eq_ofNat_of_zero_le (show 0 ≤ z by omega)
    refine (new_st w1 w1 (Kp.refl _ _) s (by omega)).mono ?_
    rintro e w2 ⟨g, rfl, h2⟩
    have CLO := Lib.hid (long_any a1 n c l HR.out.2 w2 (h2.acts (HR.out.1.kp0 K1.out)) hc)
    have K2 := Lib.hid h2.kp
    clear h2
    go_wp2_with fail
    go_at_call 16
    refine CLO.out.mono ?_
    rw [hz]
    rintro e w3 ⟨rfl, k3⟩
    have K3 := Lib.hid k3
    clear k3 CLO
    go_wp2_with fail
    go_ret
    exact ⟨rfl, ((K1.out.trans K2.out).trans K3.out).below (fun _ _ h => h)⟩
theorem windowBound_walk (n0 : Int) (a1 : Option Addr) (len1 cap1 : Nat) (w : World) (r0 : Rdg Try.prog w 3 [.int .i64 n0]) (r1 : Rdg Try.prog w 40 [.slice a1 len1 cap1]) :
    Calls Try.prog 4 #[.int .i64 n0, .slice a1 len1 cap1] w fun e w' => e = .returned (.bool true) ∧ Below w.heap.size w w' := by
  obtain ⟨a, l, cap, e, hr, hc, hc2⟩ := open_acs r1
  simp only [List.cons.injEq, Value.slice.injEq, and_true] at e
  obtain ⟨rfl, rfl, rfl⟩ := e
  by_cases h1 : 1 ≤ n0 ∧ n0 ≤ 64
  · cases hB : longB l
    · obtain ⟨s, rfl⟩ := Int.eq_ofNat_of_zero_le (show 0 ≤ n0 by omega)
      exact bound_main s (by omega) _ _ _ l rfl w hr hB (by omega)
    · exact bound_early n0 _ _ _ l rfl w hr (by omega) (.inr ⟨h1.1, h1.2, hB⟩)
  · exact bound_early n0 _ _ _ l rfl w hr (by omega) (.inl (by omega))
end Go.Proofs.Ytnapokdipelmiaa
