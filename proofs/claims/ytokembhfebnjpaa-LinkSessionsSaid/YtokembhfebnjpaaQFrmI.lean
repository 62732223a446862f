/- Package frame: Read past the type. (Written by wip/freadgen2.py.) -/
import Derived.Test.YtokembhfebnjpaaQBsM
import Derived.Test.YtokembhfebnjpaaQFdM
import Derived.Deep.RegionHeld3
import Derived.Deep.DeepCutAuto
namespace Go.Proofs.Ytokembhfebnjpaa
set_option maxRecDepth 20000
open Go.RowKit
set_option linter.unusedVariables false
set_option linter.unusedSimpArgs false
theorem num_at {w : World} {b off : Nat} {x : List Int} (h : RdB w (some ⟨b, off, none⟩) x) (i k : Nat) (hi : i + k ≤ x.length) (hk : k ≤ 4) (cap : Nat) :
    Calls Try.prog 42 #[.slice (some ⟨b, off + i, none⟩) k cap] w fun e w' => e = .returned (.int .i64 ((num ((x.drop i).take k) : Nat) : Int)) ∧ w = w' := by
  have e : ((x.drop i).take k).length = k := by simp; omega
  have := number_any (some ⟨b, off + i, none⟩) cap ((x.drop i).take k) w (h.slice i k) (by omega)
  rwa [e] at this
theorem fr_bad {x : List Int} {er k : Int} {FX : Fr} (hx : errX x = er) (hF : (if errX x = 0 then parse x else zF) = FX) (hk : errX x = k) (h0 : k ≠ 0) {w w' : World} (kk : Kp (fun _ => False) w w') : ∃ A c, Ending.returned (.tuple #[.agg #[.int .i64 0, .int .i64 0, .int .i64 0, .int .i64 0, .int .i64 0, .slice none 0 0], .int .i64 k]) = .returned (.tuple #[.agg (frA FX A c), .int .i64 er]) ∧ RdB w' A FX.bd ∧ (∀ g, (Value.slice A 0 c).ownBlock = some g → w.heap.size ≤ g) ∧ Kp (fun _ => False) w w' := by
  rw [hk, if_neg h0] at hF
  rw [hk] at hx
  subst hx; subst hF
  exact ⟨none, 0, rfl, RdB.nil _ _, fun g hg => by simp [Value.ownBlock] at hg, kk⟩
theorem errX_4 {x : List Int} (h4 : x.getD 0 0 = 83) (h5 : x.getD 1 0 = 75) (h6 : x.getD 2 0 = 1) (h7 : typedP (x.getD 3 0)) :
    errX x = if ¬ rangeP (parse x).se (parse x).bo (parse x).sq (parse x).ac then 5 else if (num ((x.drop 20).take 2) : Int) ≠ ((x.length - 22 : Nat) : Int) then 214 else if says (parse x) = false then 2 else 0 := by
  unfold errX
  rw [if_neg (by rintro (h | h); exact h h4; exact h h5), if_neg (fun h => h h6), if_neg (fun h => h h7)]
  rw [show (parse x).bd.length = x.length - 22 by simp [parse]]
def mx4 (a b c d : Int) : Int := max (max (max a b) c) d
theorem run_max4 (w : World) (ts : Array TypeId) (t : TypeId) (a b c d : Int) : (Builtin.max_ ts t #[.int .i64 a, .int .i64 b, .int .i64 c, .int .i64 d]).run Try.prog w = .ok (.int .i64 (mx4 a b c d)) w := by
  simp [Builtin.max_, Builtin.max2, mx4]
  omega
set_option maxHeartbeats 4000000 in
set_option maxRecDepth 20000 in
theorem fread_rest (a : Option Addr) (cap : Nat) (l : List Int) (w : World) (h : RdB w a l) (hcap : l.length ≤ cap) (hcm : cap ≤ maxLen) (h1 : ¬ (1426 : Int) < l.length) (h2 : ¬ (l.length : Int) < 26) (h3 : ck l = 0) (h4 : (chk l).getD 0 0 = 83) (h5 : (chk l).getD 1 0 = 75) (h6 : (chk l).getD 2 0 = 1) (h7 : typedP ((chk l).getD 3 0)) :
    Calls Try.prog 32 #[.slice a l.length cap] w fun e w' => ∃ A c, e = .returned (.tuple #[.agg (frA (if errX (chk l) = 0 then parse (chk l) else zF) A c), .int .i64 (errX (chk l))]) ∧ RdB w' A (if errX (chk l) = 0 then parse (chk l) else zF).bd ∧ (∀ g, (Value.slice A 0 c).ownBlock = some g → w.heap.size ≤ g) ∧ Kp (fun _ => False) w w' := by
  have C := Lib.hid (fun w' (k : Kp (fun _ => False) w w') => gcheck a cap l w' (h.kp0 k (fun _ _ h => h)) (by omega) hcap hcm)
  rw [h3] at C
  have hxl : (chk l).length + 4 = l.length := by unfold ck at h3; unfold chk; split at h3 <;> simp_all; omega
  have hm : 22 ≤ (chk l).length := by omega
  have hm2 : (chk l).length ≤ 1422 := by omega
  clear h hcm hcap h3 hxl
  generalize chk l = x at *
  obtain ⟨m, hml⟩ : ∃ m, m = x.length := ⟨_, rfl⟩
  rw [← hml] at hm hm2
  have HML := Lib.hid hml
  clear hml
  generalize l.length = n at *
  have CK := Lib.hid (fun w' => known_any (x.getD 3 0) w')
  rw [show decide (typedP (x.getD 3 0)) = true by simpa using h7] at CK
  have i0 : 0 < m := by omega
  have i1 : 1 < m := by omega
  have i2 : 2 < m := by omega
  have i3 : 3 < m := by omega
  obtain ⟨nf, hnf⟩ : ∃ nf : Nat → Nat → Nat, Hid (∀ i k, nf i k = num ((x.drop i).take k)) := ⟨_, fun _ _ => rfl⟩
  have HER := Lib.hid (errX_4 h4 h5 h6 h7)
  obtain ⟨FX, hFX⟩ : ∃ FX, Hid ((if errX x = 0 then parse x else zF) = FX) := ⟨_, rfl⟩
  obtain ⟨er, her⟩ : ∃ er, Hid (errX x = er) := ⟨_, rfl⟩
  rw [hFX.out, her.out]
  have h7' := Lib.hid h7
  generalize hc3 : x.getD 3 0 = c3 at *
  go_enter Try.func32, Try.ntmps32
  go_upto_region 14 with (first | (go_at_call 41; refine (C.out _ ((Kp.refl _ w).alloc _)).mono ?_; rintro e w1 ⟨v, rfl, hv, hg, kq⟩; obtain ⟨xa, xc, rfl, hr, hxc⟩ := hv.form; rw [← HML.out] at hxc hv hg ⊢; have hat := kq.at (At.new w [.int .i64 0, .int .i64 0, .int .i64 0, .int .i64 0, .int .i64 0, .slice none 0 0] 36) (fun h => h); have x0 := (hat.cell 0).trans (show _ = some (.int .i64 0) from rfl); have x1 := (hat.cell 1).trans (show _ = some (.int .i64 0) from rfl); have x2 := (hat.cell 2).trans (show _ = some (.int .i64 0) from rfl); have x3 := (hat.cell 3).trans (show _ = some (.int .i64 0) from rfl); have x4 := (hat.cell 4).trans (show _ = some (.int .i64 0) from rfl); have x5 := (hat.cell 5).trans (show _ = some (.slice none 0 0) from rfl); have hf := fun i => hat.frozen i; obtain ⟨b, off, rfl, g0⟩ := hr.cell 0 (by have := HML.out; omega); obtain ⟨_, _, q1, g1⟩ := hr.cell 1 (by have := HML.out; omega); obtain ⟨_, _, q2, g2⟩ := hr.cell 2 (by have := HML.out; omega); obtain ⟨_, _, q3, g3⟩ := hr.cell 3 (by have := HML.out; omega); cases q1; cases q2; cases q3; rw [Nat.add_zero] at g0; have B3 := hr.bd.getD 3; rw [h4] at g0; rw [h5] at g1; rw [h6] at g2; rw [hc3] at g3 B3; have HA := Lib.hid (And.intro hat (And.intro (((Kp.refl (fun _ => False) w).alloc _).trans kq) (And.intro hv hg))); clear hat kq hv hg; have HR := Lib.hid hr; clear hr) | (go_at_call 37; refine (CK.out _).mono ?_; rintro e w2 ⟨rfl, rfl⟩))
  have NQ := fun (w' : World) (kk : Kp (fun _ => False) w1 w') (i k : Nat) (hi : i + k ≤ m) (hk : k ≤ 4) (cap : Nat) => num_at (HR.out.kp0 kk (fun _ _ h => h)) i k (by rw [← HML.out]; exact hi) hk cap
  simp only [← hnf.out] at NQ
  have HNQ := Lib.hid NQ
  have b4 : nf 4 4 < 4294967296 := by rw [hnf.out]; exact num_lt4 HR.out.bd 4
  have b8 : nf 8 4 < 4294967296 := by rw [hnf.out]; exact num_lt4 HR.out.bd 8
  have b12 : nf 12 4 < 4294967296 := by rw [hnf.out]; exact num_lt4 HR.out.bd 12
  have b16 : nf 16 4 < 4294967296 := by rw [hnf.out]; exact num_lt4 HR.out.bd 16
  have HB4 := Lib.hid (And.intro b4 (And.intro b8 (And.intro b12 b16)))
  clear NQ b4 b8 b12 b16
  have HX := Lib.hid (And.intro x0 (And.intro x1 (And.intro x2 (And.intro x3 (And.intro x4 (And.intro x5 hf))))))
  have HC3 := Lib.hid hc3
  clear x0 x1 x2 x3 x4 x5 hf g0 g1 g2 i0 i1 i2 h1 h2 h4 h5 h6 hc3 h7
  have j22 : 22 ≤ xc := by omega
  have HM2 := Lib.hid hm2
  clear hm2
  have n4 : ¬ xc = 4 := by omega
  have n8 : ¬ xc = 8 := by omega
  have n12 : ¬ xc = 12 := by omega
  have n16 : ¬ xc = 16 := by omega
  have y4 : 4 ≤ xc := by omega
  have z4 : (4 : Int) ≤ (xc : Int) := by omega
  have y8 : 8 ≤ xc := by omega
  have z8 : (8 : Int) ≤ (xc : Int) := by omega
  have y12 : 12 ≤ xc := by omega
  have z12 : (12 : Int) ≤ (xc : Int) := by omega
  have y16 : 16 ≤ xc := by omega
  have z16 : (16 : Int) ≤ (xc : Int) := by omega
  have y20 : 20 ≤ xc := by omega
  have z20 : (20 : Int) ≤ (xc : Int) := by omega
  have z3 : (3 : Int) < (m : Int) := by omega
  have zm : (22 : Int) ≤ (m : Int) := by omega
  have ze : (m : Int) ≤ (xc : Int) := by omega
  have hw3 : IntKind.i64.wrap c3 = c3 := IntWalk.i64_in _ (by omega)
  have g3d : w1.drew.cell? ⟨b, off + 3, none⟩ = some (.int .u8 c3) := g3
  have K0 : Kp (fun _ => False) w1 w1.drew := (Kp.refl _ w1).drew
  obtain ⟨A22, hA22⟩ : ∃ A : Option Addr, Hid ((if xc = 22 then some ⟨b, off, none⟩ else some ⟨b, off + 22, none⟩) = A) := ⟨_, rfl⟩
  obtain ⟨g, hg⟩ : ∃ g, Hid (w1.heap.size = g) := ⟨_, rfl⟩
  go_cut [6] (fun s wx => s = .pointer (some ⟨g, 0, none⟩) ∧ At wx g [.int .i64 c3, .int .i64 (nf 4 4 : Nat), .int .i64 (nf 8 4 : Nat), .int .i64 (nf 12 4 : Nat), .int .i64 (nf 16 4 : Nat), .slice A22 (m - 22) (xc - 22)] ∧ Kp (fun _ => False) w1 wx)
  case first =>
    by_cases e22 : xc = 22
    · have e' := hA22.out
      rw [if_pos e22] at e'
      replace e' := Lib.hid e'
      subst e22
      go_region_held3 (fun w' => Kp (fun _ => False) w1 w' ∧ w'.cell? ⟨b, off + 3, none⟩ = some (.int .u8 c3)) (first | assumption | exact ⟨K0, g3⟩ | exact ⟨((Kp.refl _ w1).alloc _).drew, Kp.cell ((Kp.refl (fun _ => False) w1).alloc _).drew g3 (fun h => h)⟩ | (go_split_ands; exact ⟨Kp.alloc ‹_› _, Kp.cell (Kp.alloc (Kp.refl (fun _ => False) _) _) ‹_› (fun h => h)⟩)) (first | (go_at_call 42; (with_reducible refine (HNQ.out _ ?_ _ _ (by omega) (by omega) _).mono ?_); (go_split_ands; assumption); rintro e w2 ⟨rfl, rfl⟩))
      all_goals (go_wp2_with fail; go_meet; exact ⟨by rw [hg.out], by rw [← e'.out, ← hg.out, show m - 22 = 0 by omega]; exact (At.new w1 _ _).drew, ((Kp.refl _ w1).alloc _).drew⟩)
    · have e' := hA22.out
      rw [if_neg e22] at e'
      replace e' := Lib.hid e'
      go_region_held3 (fun w' => Kp (fun _ => False) w1 w' ∧ w'.cell? ⟨b, off + 3, none⟩ = some (.int .u8 c3)) (first | assumption | exact ⟨K0, g3⟩ | exact ⟨((Kp.refl _ w1).alloc _).drew, Kp.cell ((Kp.refl (fun _ => False) w1).alloc _).drew g3 (fun h => h)⟩ | (go_split_ands; exact ⟨Kp.alloc ‹_› _, Kp.cell (Kp.alloc (Kp.refl (fun _ => False) _) _) ‹_› (fun h => h)⟩)) (first | (go_at_call 42; (with_reducible refine (HNQ.out _ ?_ _ _ (by omega) (by omega) _).mono ?_); (go_split_ands; assumption); rintro e w2 ⟨rfl, rfl⟩))
      all_goals (go_wp2_with fail; go_meet; exact ⟨by rw [hg.out], by rw [← e'.out, ← hg.out]; exact (At.new w1 _ _).drew, ((Kp.refl _ w1).alloc _).drew⟩)
  case rest =>
    obtain ⟨rfl, hatx, kx⟩ := hcut
    obtain ⟨r, hr⟩ : ∃ r, Hid (m - 22 = r) := ⟨_, rfl⟩
    rw [hr.out] at hatx
    have hPX : Hid (frA (parse x) A22 (xc - 22) = #[.int .i64 c3, .int .i64 (nf 4 4 : Nat), .int .i64 (nf 8 4 : Nat), .int .i64 (nf 12 4 : Nat), .int .i64 (nf 16 4 : Nat), .slice A22 r (xc - 22)]) := by
      show _ = _
      simp only [frA, parse, List.length_drop, hnf.out, HC3.out, ← HML.out, hr.out]
    have hrg : Hid (rangeP (parse x).se (parse x).bo (parse x).sq (parse x).ac ↔ ¬ (2147483647 : Int) < mx4 (nf 4 4 : Nat) (nf 8 4 : Nat) (nf 12 4 : Nat) (nf 16 4 : Nat)) := by
      show _ ↔ _
      simp only [parse, rangeP, mx4, hnf.out]
      omega
    have hatx' := Lib.hid hatx
    have q1 : wc.cell? ⟨g, 1, none⟩ = some (.int .i64 (nf 4 4 : Nat)) := (hatx.cell 1).trans rfl
    have q2 : wc.cell? ⟨g, 2, none⟩ = some (.int .i64 (nf 8 4 : Nat)) := (hatx.cell 2).trans rfl
    have q3 : wc.cell? ⟨g, 3, none⟩ = some (.int .i64 (nf 12 4 : Nat)) := (hatx.cell 3).trans rfl
    have q4 : wc.cell? ⟨g, 4, none⟩ = some (.int .i64 (nf 16 4 : Nat)) := (hatx.cell 4).trans rfl
    have hat2 := kx.at HA.out.1 (fun h => h)
    have kw := HA.out.2.1.trans kx
    have H2 := Lib.hid (And.intro hat2 kw)
    have x0 := (hat2.cell 0).trans (show _ = some (.int .i64 0) from rfl)
    have x1 := (hat2.cell 1).trans (show _ = some (.int .i64 0) from rfl)
    have x2 := (hat2.cell 2).trans (show _ = some (.int .i64 0) from rfl)
    have x3 := (hat2.cell 3).trans (show _ = some (.int .i64 0) from rfl)
    have x4 := (hat2.cell 4).trans (show _ = some (.int .i64 0) from rfl)
    have x5 := (hat2.cell 5).trans (show _ = some (.slice none 0 0) from rfl)
    have hf := fun i => hat2.frozen i
    have RM := fun w' => run_max4 w' #[3, 3, 3, 3] 3 (nf 4 4 : Nat) (nf 8 4 : Nat) (nf 12 4 : Nat) (nf 16 4 : Nat)
    obtain ⟨M, hM⟩ : ∃ M : Int, Hid (mx4 (nf 4 4 : Nat) (nf 8 4 : Nat) (nf 12 4 : Nat) (nf 16 4 : Nat) = M) := ⟨_, rfl⟩
    simp only [hM.out] at RM
    have hrg' : Hid (rangeP (parse x).se (parse x).bo (parse x).sq (parse x).ac ↔ ¬ (2147483647 : Int) < M) := by have := hrg.out; rwa [hM.out] at this
    have KX := Lib.hid kx
    clear hrg hatx hat2 kw kx g3 g3d K0 n4 n8 n12 n16 y4 y8 y12 y16 z4 z8 z12 z16 z3 hw3
    by_cases h5 : (2147483647 : Int) < M
    · have e5 : Hid (errX x = 5) := by show _ = _; rw [HER.out, if_pos (fun h => hrg'.out.1 h h5)]
      go_wp2
      exact fr_ret rfl (six H2.out.1 (Nat.le_refl _) H2.out.2 _ _ _ _ _ _).1 rfl rfl rfl (fr_bad her.out hFX.out e5.out (by decide) (six H2.out.1 (Nat.le_refl _) H2.out.2 _ _ _ _ _ _).2)
    · have e5 : Hid (errX x = if (num ((x.drop 20).take 2) : Int) ≠ ((x.length - 22 : Nat) : Int) then 214 else if says (parse x) = false then 2 else 0) := by show _ = _; rw [HER.out, if_neg (fun h => h (hrg'.out.2 h5))]
      have q5 : wc.cell? ⟨g, 5, none⟩ = some (.slice A22 r (xc - 22)) := (hatx'.out.cell 5).trans rfl
      have C17 := fun (cap n : Nat) => Calls.quiet_of_same (n := n) (Calls.turn (HNQ.out (wc.drewN n) (KX.out.drewN n) 20 2 (by omega) (by omega) cap))
      have n20 : ¬ xc = 20 := by omega
      have y22 : 22 ≤ xc := by omega
      have z22 : (22 : Int) ≤ (xc : Int) := by omega
      obtain ⟨q, hq⟩ : ∃ q, Hid (nf 20 2 = q) := ⟨_, rfl⟩
      simp only [hq.out] at C17
      have e6 : Hid (((num ((x.drop 20).take 2) : Nat) : Int) = (q : Int)) := by show _ = _; rw [← hq.out, hnf.out]
      have e7 : Hid (((x.length - 22 : Nat) : Int) = (r : Int)) := by show _ = _; rw [← HML.out, hr.out]
      by_cases h6 : q = r
      · subst h6
        have e8 : Hid (errX x = if says (parse x) = false then 2 else 0) := by show _ = _; rw [e5.out, e6.out, e7.out, if_neg (fun h => h rfl)]
        have CA := Lib.hid (fun w' => as_any (parse x) A22 (xc - 22) w' (by show typedP (x.getD 3 0); rw [HC3.out]; exact h7'.out) (hrg'.out.2 h5) (by rw [show (parse x).bd.length = x.length - 22 by simp [parse], ← HML.out]; have := HM2.out; omega))
        rw [hPX.out] at CA
        obtain ⟨sy, hsy⟩ : ∃ sy, Hid (says (parse x) = sy) := ⟨_, rfl⟩
        rw [hsy.out] at CA e8
        have q0 : wc.cell? ⟨g, 0, none⟩ = some (.int .i64 c3) := (hatx'.out.cell 0).trans rfl
        have h6a : ((q : Int) == (q : Int)) = true := by simp
        have h6b : ((q : Int) != (q : Int)) = false := by simp
        go_wp2_with fail
        go_quiet (exact C17 _ _)
        cases sy with
        | true =>
          have e9 : Hid (errX x = 0) := by show _ = _; rw [e8.out]; rfl
          go_wp2_with (go_at_call 38; refine (CA.out _).mono ?_; rintro e w3 ⟨rfl, k3⟩; have hat3 := k3.at (H2.out.1.drewN _) (fun h => h); have hatx3 := k3.at (hatx'.out.drewN _) (fun h => h); have H3 := Lib.hid (And.intro hat3 ((H2.out.2.drewN _).trans k3)); have k3' := k3; have x0 := (hat3.cell 0).trans (show _ = some (.int .i64 0) from rfl); have x1 := (hat3.cell 1).trans (show _ = some (.int .i64 0) from rfl); have x2 := (hat3.cell 2).trans (show _ = some (.int .i64 0) from rfl); have x3 := (hat3.cell 3).trans (show _ = some (.int .i64 0) from rfl); have x4 := (hat3.cell 4).trans (show _ = some (.int .i64 0) from rfl); have x5 := (hat3.cell 5).trans (show _ = some (.slice none 0 0) from rfl); have hf := fun i => hat3.frozen i; have q0 := (hatx3.cell 0).trans (show _ = some (.int .i64 c3) from rfl); have q1 := (hatx3.cell 1).trans (show _ = some (.int .i64 (nf 4 4 : Nat)) from rfl); have q2 := (hatx3.cell 2).trans (show _ = some (.int .i64 (nf 8 4 : Nat)) from rfl); have q3 := (hatx3.cell 3).trans (show _ = some (.int .i64 (nf 12 4 : Nat)) from rfl); have q4 := (hatx3.cell 4).trans (show _ = some (.int .i64 (nf 16 4 : Nat)) from rfl); have q5 := (hatx3.cell 5).trans (show _ = some (.slice A22 q (xc - 22)) from rfl); clear hat3 hatx3 k3)
          go_wp2
          refine fr_ret rfl (six H3.out.1 (Nat.le_refl _) H3.out.2 _ _ _ _ _ _).1 rfl rfl rfl ⟨A22, xc - 22, ?_, ?_, ?_, (six H3.out.1 (Nat.le_refl _) H3.out.2 _ _ _ _ _ _).2⟩
          · rw [← her.out, ← hFX.out, e9.out, if_pos rfl, hPX.out]
          · rw [← hFX.out, e9.out, if_pos rfl]
            have hrx := HR.out.mid2 (cap := xc) 22 (m - 22) (by rw [← HML.out]; omega) (by rw [← HML.out]; omega)
            rw [hA22.out, List.take_of_length_le (by rw [List.length_drop, ← HML.out]; omega)] at hrx
            have hbw := HA.out.2.2.2 b rfl
            simp at hbw
            refine hrx.kp (S := (· = w.heap.size)) (((((((((KX.out.drewN _).trans k3').mono (S' := (· = w.heap.size)) (fun _ _ h => h.elim)).setCell (fun _ => rfl) _).setCell (fun _ => rfl) _).setCell (fun _ => rfl) _).setCell (fun _ => rfl) _).setCell (fun _ => rfl) _).setCell (fun _ => rfl) _) (fun y hy e => ?_)
            have : y.block = b := by rw [← hA22.out] at hy; split at hy <;> (cases hy; rfl)
            omega
          · intro g' hg'
            have hbw := HA.out.2.2.2 b rfl
            have : g' = b := by rw [← hA22.out] at hg'; split at hg' <;> simpa [Value.ownBlock, eq_comm] using hg'
            simp at hbw
            omega
        | false =>
          have e9 : Hid (errX x = 2) := by show _ = _; rw [e8.out]; rfl
          go_wp2_with (go_at_call 38; refine (CA.out _).mono ?_; rintro e w3 ⟨rfl, k3⟩; have hat3 := k3.at (H2.out.1.drewN _) (fun h => h); have hatx3 := k3.at (hatx'.out.drewN _) (fun h => h); have H3 := Lib.hid (And.intro hat3 ((H2.out.2.drewN _).trans k3)); have k3' := k3; have x0 := (hat3.cell 0).trans (show _ = some (.int .i64 0) from rfl); have x1 := (hat3.cell 1).trans (show _ = some (.int .i64 0) from rfl); have x2 := (hat3.cell 2).trans (show _ = some (.int .i64 0) from rfl); have x3 := (hat3.cell 3).trans (show _ = some (.int .i64 0) from rfl); have x4 := (hat3.cell 4).trans (show _ = some (.int .i64 0) from rfl); have x5 := (hat3.cell 5).trans (show _ = some (.slice none 0 0) from rfl); have hf := fun i => hat3.frozen i; have q0 := (hatx3.cell 0).trans (show _ = some (.int .i64 c3) from rfl); have q1 := (hatx3.cell 1).trans (show _ = some (.int .i64 (nf 4 4 : Nat)) from rfl); have q2 := (hatx3.cell 2).trans (show _ = some (.int .i64 (nf 8 4 : Nat)) from rfl); have q3 := (hatx3.cell 3).trans (show _ = some (.int .i64 (nf 12 4 : Nat)) from rfl); have q4 := (hatx3.cell 4).trans (show _ = some (.int .i64 (nf 16 4 : Nat)) from rfl); have q5 := (hatx3.cell 5).trans (show _ = some (.slice A22 q (xc - 22)) from rfl); clear hat3 hatx3 k3)
          go_wp2
          exact fr_ret rfl (six H3.out.1 (Nat.le_refl _) H3.out.2 _ _ _ _ _ _).1 rfl rfl rfl (fr_bad her.out hFX.out e9.out (by decide) (six H3.out.1 (Nat.le_refl _) H3.out.2 _ _ _ _ _ _).2)
      · have h6' : ¬ (q : Int) = (r : Int) := by omega
        have h6a : ((q : Int) == (r : Int)) = false := by simpa using h6'
        have h6b : ((q : Int) != (r : Int)) = true := by simpa using h6'
        have e8 : Hid (errX x = 214) := by show _ = _; rw [e5.out, e6.out, e7.out, if_pos h6']
        go_wp2_with fail
        go_quiet (exact C17 _ _)
        go_wp2
        exact fr_ret rfl (six (H2.out.1.drewN _) (Nat.le_refl _) (H2.out.2.drewN _) _ _ _ _ _ _).1 rfl rfl rfl (fr_bad her.out hFX.out e8.out (by decide) (six (H2.out.1.drewN _) (Nat.le_refl _) (H2.out.2.drewN _) _ _ _ _ _ _).2)
  done
end Go.Proofs.Ytokembhfebnjpaa
