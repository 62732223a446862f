/- FrameTurned. (Written by wip/frturned.py.) -/
import Derived.Test.YtjjoancnkjlaeaaFrmY
namespace Go.Proofs.Ytjjoancnkjlaeaa
open Go.RowKit
set_option linter.unusedVariables false
set_option linter.unusedSimpArgs false
set_option maxRecDepth 20000 in
theorem turned_out (f : Fr) (a : Option Addr) (c : Nat) (n1 n2 : Int) (w : World) (h : 300 < f.bd.length ∨ (f.bd.length ≤ 300 ∧ n2 = 0)) :
    Calls Try.prog 7 #[.agg (frA f a c), .int .i64 n1, .int .u32 n2] w fun e w' => e = .returned (.bool true) ∧ Below w.heap.size w w' := by
  have AW := Lib.hid (fun w' => awake_any w')
  obtain ⟨ty, se, bo, sq, ac, bd⟩ := f
  dsimp only [frA] at *
  generalize bd.length = n at *
  rcases h with h | ⟨h, rfl⟩
  all_goals
    go_enter Try.func7, Try.ntmps7
    go_wp2_with (go_at_call 18; refine (AW.out _).mono ?_; rintro e w1 ⟨rfl, k1⟩; have ha1 := k1.at (At.new w [.int .i64 ty, .int .i64 se, .int .i64 bo, .int .i64 sq, .int .i64 ac, .slice a n c] 24) (fun h => h); have x0 := (ha1.cell 0).trans (show _ = some (.int .i64 ty) from rfl); have x1 := (ha1.cell 1).trans (show _ = some (.int .i64 se) from rfl); have x2 := (ha1.cell 2).trans (show _ = some (.int .i64 bo) from rfl); have x3 := (ha1.cell 3).trans (show _ = some (.int .i64 sq) from rfl); have x4 := (ha1.cell 4).trans (show _ = some (.int .i64 ac) from rfl); have x5 := (ha1.cell 5).trans (show _ = some (.slice a n c) from rfl); have K1 := Lib.hid (And.intro (((Kp.refl (fun _ => False) w).alloc _).trans k1) ha1); clear ha1 k1)
    go_ret
    exact ⟨rfl, K1.out.1.below (fun _ _ h => h)⟩
set_option maxRecDepth 20000 in
theorem turned_bad (f : Fr) (a : Option Addr) (c : Nat) (n1 n2 : Int) (w : World) (hI : frI f) (hr : RdB w a f.bd) (hc : f.bd.length ≤ c) (h : f.bd.length ≤ 300) (h0 : n2 ≠ 0) (he : errF f ≠ 0) :
    Calls Try.prog 7 #[.agg (frA f a c), .int .i64 n1, .int .u32 n2] w fun e w' => e = .returned (.bool true) ∧ Below w.heap.size w w' := by
  have AW := Lib.hid (fun w' => awake_any w')
  have CP := Lib.hid (fun w' => fput_bad f a c w' hI (by omega) he)
  have h1 : (n2 == 0) = false := by simpa using h0
  have h2 : (errF f != 0) = true := by simpa using he
  have h3 : (errF f == 0) = false := by simpa using he
  generalize errF f = er at *
  obtain ⟨ty, se, bo, sq, ac, bd⟩ := f
  dsimp only [frA] at *
  clear hI hr
  generalize bd.length = n at *
  go_enter Try.func7, Try.ntmps7
  go_wp2_with (first | (go_at_call 18; refine (AW.out _).mono ?_; rintro e w1 ⟨rfl, k1⟩; have ha1 := k1.at (At.new w [.int .i64 ty, .int .i64 se, .int .i64 bo, .int .i64 sq, .int .i64 ac, .slice a n c] 24) (fun h => h); have x0 := (ha1.cell 0).trans (show _ = some (.int .i64 ty) from rfl); have x1 := (ha1.cell 1).trans (show _ = some (.int .i64 se) from rfl); have x2 := (ha1.cell 2).trans (show _ = some (.int .i64 bo) from rfl); have x3 := (ha1.cell 3).trans (show _ = some (.int .i64 sq) from rfl); have x4 := (ha1.cell 4).trans (show _ = some (.int .i64 ac) from rfl); have x5 := (ha1.cell 5).trans (show _ = some (.slice a n c) from rfl); have K1 := Lib.hid (And.intro (((Kp.refl (fun _ => False) w).alloc _).trans k1) ha1); clear ha1 k1) | (go_at_call 11; (with_reducible refine (CP.out _).mono ?_); rintro e w2 ⟨rfl, k2⟩; have K2 := Lib.hid (K1.out.1.trans k2); clear k2))
  go_ret
  exact ⟨rfl, K2.out.below (fun _ _ h => h)⟩
set_option maxHeartbeats 2000000 in
set_option maxRecDepth 20000 in
theorem turned_main (f : Fr) (a : Option Addr) (c : Nat) (n1 : Int) (mask : Nat) (w : World) (hI : frI f) (hr : RdB w a f.bd) (hc : f.bd.length ≤ c) (hl : f.bd.length ≤ 300) (h1 : -9223372036854775808 ≤ n1 ∧ n1 ≤ 9223372036854775807) (hmask : mask < M32) (h0 : mask ≠ 0) (he : errF f = 0) :
    Calls Try.prog 7 #[.agg (frA f a c), .int .i64 n1, .int .u32 mask] w fun e w' => e = .returned (.bool true) ∧ Below w.heap.size w w' := by
  obtain ⟨p, hp, hpl⟩ : ∃ p : Nat, n1 % (8 * ((f.bd.length : Int) + 26) - 31) = p ∧ p < 8 * (f.bd.length + 26) - 31 := by
    have e1 := Int.emod_nonneg n1 (show 8 * ((f.bd.length : Int) + 26) - 31 ≠ 0 by omega)
    have e2 := Int.emod_lt_of_pos n1 (show 0 < 8 * ((f.bd.length : Int) + 26) - 31 by omega)
    exact ⟨(n1 % (8 * ((f.bd.length : Int) + 26) - 31)).toNat, by omega, by omega⟩
  have P1 := fun w => pick_any n1 (8 * ((f.bd.length : Int) + 26) - 31) w h1 (by omega)
  rw [hp] at P1
  have P1' := Lib.hid P1
  have AW := Lib.hid (fun w' => awake_any w')
  have CP := Lib.hid (fun w' (h : RdB w' a f.bd) => fput_ok f a c w' hI h hc he)
  have HLL := Lib.hid (layF_len f)
  have HLO := Lib.hid (show ok4 (layF f) = true from ok4_put4 _)
  have HLB := Lib.hid (byt_layF hr.bd)
  have HM := Lib.hid hmask
  have HM0 := Lib.hid h0
  have e0 : ((mask : Int) == 0) = false := by simp [h0]
  have hR := Lib.hid (fun w' (k : Kp (fun _ => False) w w') => hr.kp0 k (fun _ _ h => h))
  clear P1 hp h1 hmask h0 he hI hr
  generalize layF f = lf at *
  obtain ⟨ty, se, bo, sq, ac, bd⟩ := f
  dsimp only [frA] at *
  generalize bd.length = n at *
  go_enter Try.func7, Try.ntmps7
  go_upto_region 8 with (first | (go_at_call 18; refine (AW.out _).mono ?_; rintro e w1 ⟨rfl, k1⟩; have ha1 := k1.at (At.new w [.int .i64 ty, .int .i64 se, .int .i64 bo, .int .i64 sq, .int .i64 ac, .slice a n c] 24) (fun h => h); have x0 := (ha1.cell 0).trans (show _ = some (.int .i64 ty) from rfl); have x1 := (ha1.cell 1).trans (show _ = some (.int .i64 se) from rfl); have x2 := (ha1.cell 2).trans (show _ = some (.int .i64 bo) from rfl); have x3 := (ha1.cell 3).trans (show _ = some (.int .i64 sq) from rfl); have x4 := (ha1.cell 4).trans (show _ = some (.int .i64 ac) from rfl); have x5 := (ha1.cell 5).trans (show _ = some (.slice a n c) from rfl); have K1 := Lib.hid (And.intro (((Kp.refl (fun _ => False) w).alloc _).trans k1) ha1); clear ha1 k1) | (go_at_call 11; (with_reducible refine (CP.out _ ?_).mono ?_); exact hR.out _ K1.out.1; rintro e w2 ⟨v, rfl, hv, hvg, k2⟩; obtain ⟨g, vc, e2, hvc, hcm, _, _⟩ := hv.head (by rw [HLL.out]; omega); rw [HLL.out] at e2 hvc; subst e2; have H3 := Lib.hid (show OwnB w2 _ lf ∧ Kp (fun _ => False) w w2 ∧ w1.heap.size ≤ g from And.intro hv (And.intro (K1.out.1.trans k2) (hvg g rfl))); clear hv hvg k2) | (go_at_call 23; refine (P1'.out _).mono ?_; rintro e w' ⟨rfl, rfl⟩))
  have HG1 := Lib.hid (show w.heap.size ≤ g by have := K1.out.1.size; have := H3.out.2.2; omega)
  clear x0 x1 x2 x3 x4 x5 K1 CP AW hR P1'
  have HPL := HLL
  have hL := HPL.out
  have hLb : n + 26 ≤ 326 := by omega
  have hLc : 26 ≤ n + 26 := by omega
  clear HPL
  generalize n + 26 = L at *
  have HPL := Lib.hid hL
  clear hL
  go_wp2_with fail
  go_loopw [10] (fun i wr => ∃ (k : Nat) (y : List Int), k ≤ 32 ∧ i = .int .i64 k ∧ OwnB wr (.slice (some ⟨g, 0, none⟩) L vc) y ∧ y.length = L ∧ gnum y = gnum lf ^^^ 2 ^ p * (mask % 2 ^ k) ∧ Kp (fun _ => False) w wr) (fun i _ => 32 - (intOf i).toNat)
  case atStart => exact ⟨0, lf, by omega, rfl, H3.out.1, HPL.out, by simp [Nat.mod_one], H3.out.2.1⟩
  case round =>
    obtain ⟨k, y, hk, rfl, hy, hyl, hnum, hkp⟩ := hrel
    have hgw := H3.out.2.2
    by_cases hlt : k < 32
    · obtain ⟨hf, hcell⟩ : (∀ i, wr.frozen? ⟨g, i, none⟩ = false) ∧ ∀ i, i < y.length → wr.cell? ⟨g, i, none⟩ = some (.int .u8 (y.getD i 0)) := by
        obtain ⟨g', c', e, _, _, hf, hcell⟩ := hy.head (by omega)
        have eg : g' = g := by injection e with e1 _ _; injection e1 with e1; injection e1 with e1; exact e1.symm
        rw [eg] at hf hcell
        exact ⟨hf, hcell⟩
      obtain ⟨j, hj⟩ : ∃ j, j = (p + k) / 8 := ⟨_, rfl⟩
      obtain ⟨t, ht⟩ : ∃ t, t = (p + k) % 8 := ⟨_, rfl⟩
      have hjl : j < y.length := by omega
      have ht8 : t < 8 := by omega
      obtain ⟨s, hs⟩ : ∃ s, s = p + k := ⟨_, rfl⟩
      obtain ⟨d, hd⟩ : ∃ d, d = mask / 2 ^ k := ⟨_, rfl⟩
      have ed : (mask : Int) / 2 ^ k = (d : Int) := by rw [hd]; simp
      have hcj := hcell j hjl
      have hb := hy.byt.getD j
      by_cases hq : d % 2 = 1
      · have eq1 : ((d : Int) % 2 == 1) = true := by simp; omega
        have hst := num_step hnum hy.byt (by omega) (by rw [← hd]; exact hq)
        rw [← hj, ← ht] at hst
        have i2 : (k : Int) < 32 := by omega
        have ws : IntKind.i64.wrap ((p : Int) + k) = (s : Int) := (IntWalk.i64_in _ (by omega)).trans (by omega)
        have ws1 : (s : Int).tdiv 8 = (j : Int) := by rw [Int.tdiv_eq_ediv_of_nonneg (by omega)]; omega
        have ws2 : (s : Int).tmod 8 = (t : Int) := by rw [Int.tmod_eq_emod_of_nonneg (by omega)]; omega
        have wj : IntKind.i64.wrap (j : Int) = (j : Int) := IntWalk.i64_in _ (by omega)
        have wt : IntKind.i64.wrap (t : Int) = (t : Int) := IntWalk.i64_in _ (by omega)
        have ws3 : (s : Int) / 8 = (j : Int) := by omega
        have ws4 : (s : Int) % 8 = (t : Int) := by omega
        have j1 : (j : Int) < (L : Int) := by omega
        have t1 : (t : Int) < 8 := by omega
        obtain ⟨x, hx⟩ : ∃ x : Nat, y.getD j 0 = x := ⟨(y.getD j 0).toNat, by omega⟩
        rw [hx] at hcj hb
        rw [hx, Int.toNat_natCast] at hst
        obtain ⟨eu, hu⟩ := u8_bit x t (by omega) ht8
        have hset := hy.set hjl (x := ((x ^^^ 2 ^ t : Nat) : Int)) (by omega)
        have HN := Lib.hid (show OwnB (wr.setCell ⟨g, j, none⟩ (.int .u8 ((x ^^^ 2 ^ t : Nat) : Int))) (.slice (some ⟨g, 0, none⟩) L vc) (y.set j ((x ^^^ 2 ^ t : Nat) : Int)) ∧ (y.set j ((x ^^^ 2 ^ t : Nat) : Int)).length = L ∧ gnum (y.set j ((x ^^^ 2 ^ t : Nat) : Int)) = gnum lf ^^^ 2 ^ p * (mask % 2 ^ (k + 1)) ∧ Kp (fun _ => False) w (wr.setCell ⟨g, j, none⟩ (.int .u8 ((x ^^^ 2 ^ t : Nat) : Int))) from
          ⟨hset, by rw [List.length_set]; exact hyl, hst, hkp.setCell (p := ⟨g, j, none⟩) (fun hlt' => by have := H3.out.2.1.size; have h9 := HG1.out; simp at hlt'; omega) _⟩)
        clear hy hkp hyl hjl hs hj ht hd hq hst hnum hcell hx ht8 hset hu
        generalize x ^^^ 2 ^ t = x' at *
        go_wp2_with fail
        go_still_tail 18, (by kernel_rfl)
        change wpList _ _ _ _ _ wr.drew
        go_wp2_with fail
        go_roundw
        case rel => exact ⟨k + 1, _, by omega, by go_num, HN.out.1.kp ((Kp.refl (fun _ => False) _).drew) (fun _ _ h => h), HN.out.2.1, HN.out.2.2.1, HN.out.2.2.2.drew⟩
        case measure => simp [intOf]; omega
      · have eq1 : ((d : Int) % 2 == 1) = false := by simp; omega
        have hst := num_keep hnum (by rw [← hd]; exact hq)
        have HF := Lib.hid (And.intro hy (And.intro hst hkp))
        have i2 : (k : Int) < 32 := by omega
        clear hy hcell hcj hnum hst hkp hf hq hd hs ht hj hb
        go_wp2_with fail
        go_roundw
        case rel => exact ⟨k + 1, y, by omega, by go_num, HF.out.1, hyl, HF.out.2.1, HF.out.2.2⟩
        case measure => simp [intOf]; omega
    · obtain rfl : k = 32 := by omega
      have hok := burst_seen HLB.out hy.byt HLO.out (by rw [hyl, HPL.out]) HM.out HM0.out (by rw [HPL.out]; omega) hnum
      have hckn : ck y ≠ 0 := by unfold ck; rw [hok]; decide
      have C := fread_sum (some ⟨g, 0, none⟩) vc y wr hy.rdb (by omega) hcm (by omega) (by omega) hckn
      rw [hyl, show frA zF none 0 = #[.int .i64 0, .int .i64 0, .int .i64 0, .int .i64 0, .int .i64 0, .slice none 0 0] from rfl] at C
      have C' := Lib.hid C
      have HK := Lib.hid hkp
      have CS := Lib.hid (fun w' => samef_any zF zF none none 0 0 w' (RdB.nil _ _) (RdB.nil _ _))
      rw [show sameF zF zF = true from (sameF_iff _ _).2 rfl, show frA zF none 0 = #[.int .i64 0, .int .i64 0, .int .i64 0, .int .i64 0, .int .i64 0, .slice none 0 0] from rfl] at CS
      clear hy hnum hkp hok C hckn
      go_wp2_with (first | (go_at_call 19; (with_reducible refine C'.out.mono ?_); rintro e w5 ⟨rfl, k5⟩) | (go_at_call 21; (with_reducible refine (CS.out _).mono ?_); rintro e w6 ⟨rfl, k6⟩))
      go_ret
      exact ⟨rfl, ((HK.out.trans (k5.alloc _)).trans k6).below (fun _ _ h => h)⟩
theorem frameTurned_walk (c0 : Array Value) (n1 n2 : Int) (w : World) (r0 : Rdg Try.prog w 24 (Value.agg c0).cells.toList) (r1 : Rdg Try.prog w 3 (Value.int .i64 n1).cells.toList) (r2 : Rdg Try.prog w 43 (Value.int .u32 n2).cells.toList) :
    Calls Try.prog 7 #[.agg c0, .int .i64 n1, .int .u32 n2] w fun e w' => e = .returned (.bool true) ∧ Below w.heap.size w w' := by
  obtain ⟨f, a, c, rfl, hI, _, hr, hc, hm⟩ := open_frame r0
  obtain ⟨k, e1, hk⟩ := Rdg.int Try.underlying3 r1
  have e2 : n1 = k := by have : [Value.int .i64 n1] = [.int .i64 k] := e1; simpa using this
  subst e2
  obtain ⟨k, e1, hk2⟩ := Rdg.int Try.underlying43 r2
  have e2 : n2 = k := by have : [Value.int .u32 n2] = [.int .u32 k] := e1; simpa using this
  subst e2
  have b2 : 0 ≤ n2 ∧ n2 < 4294967296 := by
    simp [Lit.wf, IntKind.min, IntKind.max, IntKind.signed, IntKind.bits] at hk2; omega
  by_cases hl : 300 < f.bd.length
  · exact turned_out f a c n1 n2 w (.inl hl)
  by_cases h0 : n2 = 0
  · exact turned_out f a c n1 n2 w (.inr ⟨by omega, h0⟩)
  by_cases he : errF f = 0
  · obtain ⟨mask, rfl⟩ := Int.eq_ofNat_of_zero_le b2.1
    exact turned_main f a c n1 mask w hI hr hc (by omega) (wf_i64 hk) (by unfold M32; omega) (by omega) he
  · exact turned_bad f a c n1 n2 w hI hr hc (by omega) h0 he
end Go.Proofs.Ytjjoancnkjlaeaa
