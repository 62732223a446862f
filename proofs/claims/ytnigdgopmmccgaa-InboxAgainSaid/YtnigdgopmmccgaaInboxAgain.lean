/- The walk of InboxAgain: it returns true, whatever comes in. No condition. -/
import Derived.Test.YtnigdgopmmccgaaInbL
import Derived.Test.YtnigdgopmmccgaaPick
namespace Go.Proofs.Ytnigdgopmmccgaa
open Go.RowKit
set_option linter.unusedVariables false
theorem hasI_cd {w : World} {b size : Nat} {f : Bodies} {n hd : Nat} {F : Nat → Prop} (h : InbAt w b size f n hd F) {seq : Int} (hs : hasI f seq = true) : cd f n size seq = 7 := by
  obtain ⟨⟨c, h⟩, _⟩ := h
  simp only [hasI, Bool.and_eq_true, decide_eq_true_eq] at hs
  have h1 : seq.toNat ≠ 0 := fun e => by rw [e, h.zero] at hs; simp at hs
  have h2 : seq.toNat < 2147483647 := by
    rcases Nat.lt_or_ge seq.toNat 2147483647 with h' | h'
    · exact h'
    · rw [h.top _ h'] at hs; simp at hs
  unfold cd
  rw [if_neg (by omega), if_pos]
  simp only [hasI, Bool.and_eq_true, decide_eq_true_eq]
  exact hs
theorem again_bad (n0 : Int) (a1 : Option Addr) (cap1 : Nat) (n2 : Int) (a3 : Option Addr) (len3 cap3 : Nat) (w : World) (l : List (Int × List Int)) (hl : RdC w a1 l) (hll : l.length ≤ 140737488351232) (hl3 : len3 ≤ 140737488351232) (hs : n0 < 1 ∨ 64 < n0) :
    Calls Try.prog 7 #[.int .i64 n0, .slice a1 l.length cap1, .int .i64 n2, .slice a3 len3 cap3] w fun e w' => e = .returned (.bool true) ∧ Below w.heap.size w w' := by
  go_enter Try.func7, Try.ntmps7
  go_wp2_with fail
  refine (awake_any _).mono ?_
  rintro e w1 ⟨rfl, hk⟩
  go_wp2_with fail
  refine (inew_bad n0 _ hs).mono ?_
  rintro e w' ⟨rfl, rfl⟩
  have D := Lib.hid (long_any a1 l.length cap1 l w1 (hl.kp0 hk (fun _ _ h => h)) rfl hll)
  have H := Lib.hid (hk.below (fun _ _ h => h))
  clear hl hk hs
  generalize lg l = t at *
  cases t
  all_goals
    go_wp2_with (go_at_call 9; refine D.out.mono ?_; rintro e w' ⟨rfl, rfl⟩)
    all_goals go_ret
    all_goals exact ⟨rfl, H.out⟩
theorem again_early (s : Nat) (hs : 1 ≤ s ∧ s ≤ 64) (a1 : Option Addr) (cap1 : Nat) (n2 : Int) (a3 : Option Addr) (len3 cap3 : Nat) (w : World) (l : List (Int × List Int)) (hl : RdC w a1 l) (hll : l.length ≤ 140737488351232) (hl3 : len3 ≤ 140737488351232)
    (he : lg l = true ∨ 100 < l.length ∨ l.length = 0 ∨ 100 < len3) :
    Calls Try.prog 7 #[.int .i64 s, .slice a1 l.length cap1, .int .i64 n2, .slice a3 len3 cap3] w fun e w' => e = .returned (.bool true) ∧ Below w.heap.size w w' := by
  go_enter Try.func7, Try.ntmps7
  go_wp2_with fail
  refine (awake_any _).mono ?_
  rintro e w1 ⟨rfl, hk⟩
  go_wp2_with fail
  refine (inew_ok s _ hs).mono ?_
  rintro e w2 ⟨rfl, _, hk2⟩
  have D := Lib.hid (long_any a1 l.length cap1 l w2 (hl.kp0 (hk.trans hk2) (fun _ _ h => h)) rfl hll)
  have H := Lib.hid ((hk.trans hk2).below (fun _ _ h => h))
  clear hl hk hk2 hs
  by_cases h1 : lg l = true
  · rw [h1] at D
    clear h1 he
    go_wp2_with (go_at_call 9; refine D.out.mono ?_; rintro e w' ⟨rfl, rfl⟩)
    go_ret
    exact ⟨rfl, H.out⟩
  · have h1' : lg l = false := by simpa using h1
    rw [h1'] at D
    by_cases h2 : 100 < l.length
    · clear h1 h1' he
      go_wp2_with (go_at_call 9; refine D.out.mono ?_; rintro e w' ⟨rfl, rfl⟩)
      go_ret
      exact ⟨rfl, H.out⟩
    · by_cases h3 : l.length = 0
      · clear h1 h1' he h2
        rw [h3]
        rw [h3] at D
        clear h3
        go_wp2_with (go_at_call 9; refine D.out.mono ?_; rintro e w' ⟨rfl, rfl⟩)
        go_ret
        exact ⟨rfl, H.out⟩
      · have h4 : 100 < len3 := by rcases he with he | he | he | he <;> first | exact absurd he h1 | omega
        have h5 : ((l.length : Int) == 0) = false := by simp; intro e; exact h3 (by rw [e]; rfl)
        clear h1 h1' he h3
        go_wp2_with (go_at_call 9; refine D.out.mono ?_; rintro e w' ⟨rfl, rfl⟩)
        go_ret
        exact ⟨rfl, H.out⟩
theorem again_main (s : Nat) (hs : 1 ≤ s ∧ s ≤ 64) (a1 : Option Addr) (cap1 : Nat) (n2 : Int) (hn2 : -9223372036854775808 ≤ n2 ∧ n2 ≤ 9223372036854775807) (a3 : Option Addr) (cap3 : Nat) (w : World) (l : List (Int × List Int)) (hl : RdC w a1 l) (m : List Int) (hm : RdB w a3 m)
    (h1 : lg l = false) (h2 : l.length ≤ 100) (h3 : 0 < l.length) (h4 : m.length ≤ 100) :
    Calls Try.prog 7 #[.int .i64 s, .slice a1 l.length cap1, .int .i64 n2, .slice a3 m.length cap3] w fun e w' => e = .returned (.bool true) ∧ Below w.heap.size w w' := by
  obtain ⟨b1, o1, _, _, rfl, _⟩ := hl 0 h3
  obtain ⟨_, _, hbody⟩ := lg_no h1
  have h5 : ((l.length : Int) == 0) = false := by simp; intro e; rw [e] at h3; simp at h3
  have hpk := fun w' => pick_any n2 (l.length : Int) w' hn2 (by omega)
  obtain ⟨p, hpe⟩ : ∃ p : Nat, n2 % (l.length : Int) = p := ⟨(n2 % l.length).toNat, by have := Int.emod_nonneg n2 (show (l.length : Int) ≠ 0 by omega); omega⟩
  have hpl : p < l.length := by have := Int.emod_lt_of_pos n2 (show 0 < (l.length : Int) by omega); omega
  rw [hpe] at hpk
  have HP := Lib.hid hpk
  clear hpk hpe
  go_enter Try.func7, Try.ntmps7
  go_wp2_with fail
  refine (awake_any _).mono ?_
  rintro e w1 ⟨rfl, hk⟩
  go_wp2_with fail
  refine (inew_ok s _ hs).mono ?_
  rintro e w2 ⟨rfl, hin, hk2⟩
  have hb : w.heap.size ≤ w1.heap.size := hk.size
  have hkA := hk.trans hk2
  generalize w1.heap.size = b at *
  have D := Lib.hid (long_any (some ⟨b1, o1, none⟩) l.length cap1 l w2 (hl.kp0 hkA (fun _ _ h => h)) rfl (by omega))
  rw [h1] at D
  have HI := Lib.hid hin
  have HK := Lib.hid hkA
  clear hk hk2 hin hkA h1
  go_wp2_with (go_at_call 9; refine D.out.mono ?_; rintro e w' ⟨rfl, rfl⟩)
  clear D
  go_loopw [12] (fun i wr => ∃ (k : Nat) (f : Bodies) (n hd : Nat) (F : Nat → Prop), k ≤ l.length ∧ i = .int .i64 k ∧ InbAt wr b s f n hd F ∧ (∀ g, F g → w.heap.size ≤ g) ∧ Kp (fun _ => False) w wr) (fun i _ => l.length - (intOf i).toNat)
  case atStart => exact ⟨0, _, _, _, _, by omega, rfl, HI.out, fun g hg => by omega, HK.out⟩
  case round =>
    obtain ⟨k, f, n, hd, F, hkl, rfl, hin, hF, hk⟩ := hrel
    have hlr := hl.kp0 hk (fun _ _ h => h)
    by_cases hlt : k < l.length
    · obtain ⟨_, _, ai, ci, e, q1, q2, q3, q4, q5, q6⟩ := hlr k hlt
      cases e
      have hbl : b1 < w.heap.size := by obtain ⟨_, _, _, _, e, c, _⟩ := hl k hlt; cases e; exact World.block_lt_of_cell? w _ c
      have hbb : ¬ b1 = b := by omega
      have i1 : (k : Int) < l.length := by omega
      have hx4 := hbody k
      generalize l.getD k (0, []) = x at *
      obtain ⟨sq, bd⟩ := x
      dsimp only at *
      have T := take_any (hin.kp (Kp.refl (fun _ => False) wr).drew (fun _ _ h => h)) sq ⟨q5, q6⟩ ai bd.length ci bd (q3.kp (Kp.refl (fun _ => False) wr).drew (fun _ _ h => h)) rfl (by omega)
      have HT := Lib.hid T
      have HF := Lib.hid hF
      clear T hin hF q3 hlr
      go_wp2_with fail
      go_region_held3 (fun w' => w'.cell? ⟨b1, o1 + k * 2, none⟩ = some (.int .i64 sq) ∧ w'.cell? ⟨b1, o1 + k * 2 + 1, none⟩ = some (.slice ai bd.length ci)) (first | (exact ⟨by simpa using q1, by simpa using q2⟩) | (go_split_ands; exact ⟨Kp.cell kk1 ‹_› hbb, Kp.cell kk1 ‹_› hbb⟩)) (first | (go_at_call 13; refine HT.out.mono ?_; rintro e w5 ⟨n', hd', F', v, vs, rfl, kk2, kk3, kk4, kk5, kk6, kk7, kk8, kk9, kk1, kk10⟩))
      have hK := hk.drew.then kk1 (fun i hi e => by omega)
      have hF' : ∀ g, F' g → w.heap.size ≤ g := fun g hg => by
        rcases kk9 g hg with e | e
        · exact HF.out g e
        · have := hk.size; simp at e; omega
      have HH := Lib.hid (And.intro kk2 (And.intro hF' hK))
      clear kk1 kk2 kk3 kk4 kk5 kk6 kk7 kk8 kk9 kk10 hK hF' hk q1 q2 HT
      go_wp2
      go_roundw
      case rel => exact ⟨k + 1, _, _, _, _, by omega, by go_num, HH.out.1, HH.out.2.1, HH.out.2.2⟩
      case measure => simp [intOf]; omega
    · obtain ⟨_, _, ai, ci, e, q1, q2, q3, q4, q5, q6⟩ := hlr p hpl
      cases e
      have i1 : ¬ (k : Int) < l.length := by omega
      have i2 : (p : Int) < l.length := by omega
      generalize l.getD p (0, []) = x at *
      obtain ⟨sq, bd⟩ := x
      dsimp only at *
      have HIn := Lib.hid hin
      obtain ⟨⟨c, hc⟩, hn0⟩ := hin
      have hkd := fun m => (Kp.refl (fun _ => False) wr).drewN m
      have C1 := fun m => Calls.quiet_of_same (n := m) (Calls.turn (HP.out (wr.drewN m)))
      have C2 := fun m => Calls.quiet_of_same (n := m) (Calls.turn (hc.kp (hkd m) (fun _ _ h => h)).next)
      have C3 := fun m => Calls.quiet_of_same (n := m) (Calls.turn (hc.kp (hkd m) (fun _ _ h => h)).held)
      have HS := fun m => ( (hc.kp (hkd m) (fun _ _ h => h)).hasSpec hn0 sq ⟨q5, q6⟩)
      have HS := Lib.hid HS
      have HHK := Lib.hid hk
      have HF := Lib.hid hF
      have hsq := Lib.hid (And.intro q5 q6)
      clear hlr q3 q5 q6 q4 hkd hc hk hF hkl hlt
      go_wp2_with fail
      go_quiet (first | (go_at_call 24; exact C1 _) | (go_at_call 17; exact C2 _) | (go_at_call 18; exact C3 _))
      have D := HS.out nq
      have HIn2 := Lib.hid (HIn.out.kp ((Kp.refl (fun _ => False) wr).drewN nq) (fun _ _ h => h))
      have HK2 := Lib.hid (HHK.out.drewN nq)
      have HM := Lib.hid (hm.kp0 HK2.out (fun _ _ h => h))
      clear HS HIn HHK hn0 C1 C2 C3 HP hl HI HK q1 q2
      generalize wr.drewN nq = w5 at *
      have HD := Lib.hid D
      clear D
      go_wp2_with fail
      refine HD.out.mono ?_
      rintro e w6 ⟨rfl, mm, rfl⟩
      have hk6 : Kp (fun _ => False) w5 (w5.drewN mm) := (Kp.refl _ _).drewN mm
      have HIn3 := Lib.hid (HIn2.out.kp hk6 (fun _ _ h => h))
      have HK3 := Lib.hid (HK2.out.trans hk6)
      have HM3 := Lib.hid (HM.out.kp0 hk6 (fun _ _ h => h))
      clear hk6 HIn2 HK2 HM HD
      generalize w5.drewN mm = w6 at *
      by_cases hhs : hasI f sq = true
      · rw [hhs]
        have hcd := hasI_cd HIn3.out hhs
        have T := take_any HIn3.out sq ⟨hsq.out.1, hsq.out.2⟩ a3 m.length cap3 m HM3.out rfl (by omega)
        rw [hcd] at T
        have HT := Lib.hid T
        clear T hhs
        go_wp2_with fail
        refine HT.out.mono ?_
        rintro e w7 ⟨n', hd', F', v, vs, rfl, k1, k2, k3, k4, k5, k6, k7, k8, k9, k10⟩
        obtain ⟨rfl, rfl⟩ := k10 (by omega)
        rw [Nat.sub_self] at k5
        obtain ⟨⟨c', hc'⟩, hn'⟩ := k1
        have C2 := Lib.hid hc'.next
        have C3 := Lib.hid hc'.held
        obtain ⟨va, vc, rfl, _, _⟩ := k5.form
        have hfin := Lib.hid ((HK3.out.then k9 (fun i hi e => by omega)))
        clear HT HIn3 HK3 HM3 k2 k3 k4 k5 k6 k7 k8 k9 hc' hn'
        go_wp2_with fail
        refine C2.out.mono ?_
        rintro e w8 ⟨rfl, rfl⟩
        go_wp2_with fail
        refine C3.out.mono ?_
        rintro e w8 ⟨rfl, rfl⟩
        go_wp2
        go_ret
        exact ⟨rfl, hfin.out.below (fun _ _ h => h)⟩
      · have hhs' : hasI f sq = false := by simpa using hhs
        rw [hhs']
        clear hhs
        go_wp2
        go_ret
        exact ⟨rfl, HK3.out.below (fun _ _ h => h)⟩
theorem inboxAgain_walk (n0 : Int) (a1 : Option Addr) (len1 cap1 : Nat) (n2 : Int) (a3 : Option Addr) (len3 cap3 : Nat) (w : World) (r0 : Rdg Try.prog w 3 [.int .i64 n0]) (r1 : Rdg Try.prog w 22 [.slice a1 len1 cap1])
    (r2 : Rdg Try.prog w 3 [.int .i64 n2]) (r3 : Rdg Try.prog w 31 [.slice a3 len3 cap3]) :
    Calls Try.prog 7 #[.int .i64 n0, .slice a1 len1 cap1, .int .i64 n2, .slice a3 len3 cap3] w fun e w' => e = .returned (.bool true) ∧ Below w.heap.size w w' := by
  obtain ⟨_, l, _, e1, hl, hll⟩ := rdc_open r1
  simp only [List.cons.injEq, Value.slice.injEq, and_true] at e1
  obtain ⟨rfl, rfl, rfl⟩ := e1
  obtain ⟨_, m, _, e3, hm, hm1, hm2⟩ := r3.bytes Try.underlying31 Try.underlying5 (by kernel_rfl) (by kernel_rfl)
  simp only [List.cons.injEq, Value.slice.injEq, and_true] at e3
  obtain ⟨rfl, rfl, rfl⟩ := e3
  obtain ⟨x, ex, hwf⟩ := r2.int Try.underlying3
  simp only [List.cons.injEq, Value.int.injEq, true_and, and_true] at ex
  subst ex
  have hn2 : -9223372036854775808 ≤ n2 ∧ n2 ≤ 9223372036854775807 := by
    simp [Lit.wf, IntKind.min, IntKind.max, IntKind.signed, IntKind.bits] at hwf; omega
  by_cases hs : n0 < 1 ∨ 64 < n0
  · exact again_bad n0 a1 cap1 n2 a3 m.length cap3 w l hl hll (by omega) hs
  · obtain ⟨s, rfl⟩ := Int.eq_ofNat_of_zero_le (show 0 ≤ n0 by omega)
    by_cases he : lg l = true ∨ 100 < l.length ∨ l.length = 0 ∨ 100 < m.length
    · exact again_early s (by omega) a1 cap1 n2 a3 m.length cap3 w l hl hll (by omega) he
    · have h1 : lg l = false := by
        cases h : lg l with
        | false => rfl
        | true => exact absurd (.inl h) he
      exact again_main s (by omega) a1 cap1 n2 hn2 a3 cap3 w l hl m hm h1 (by omega) (by omega) (by omega)
end Go.Proofs.Ytnigdgopmmccgaa
