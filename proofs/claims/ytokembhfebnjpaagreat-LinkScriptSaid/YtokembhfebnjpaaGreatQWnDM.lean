/- Package window: the iterator over the packets that are due, each of which is sent. (Written by wip/win13d.py.) -/
import Derived.Test.YtokembhfebnjpaaGreatQWnAM
import Derived.Test.YtokembhfebnjpaaGreatQRngM
import Derived.Test.YtokembhfebnjpaaGreatQTpk
import Derived.Test.YtokembhfebnjpaaGreatQWnBM
namespace Go.Proofs.YtokembhfebnjpaaGreat
set_option maxRecDepth 20000
open Go.RowKit Flt
set_option linter.unusedVariables false
set_option linter.unusedSimpArgs false
attribute [local go_sem] Oper.semAt_some
def toldV (x : Wn) (i : Nat) : Array Value := #[.agg #[.int .i64 (pk x.l i).seq, (pk x.l i).B]]
set_option maxHeartbeats 4000000 in
set_option maxRecDepth 20000 in
theorem sent_gives (n : Nat) (hn : 1 ≤ n) (b : Nat) (x : Wn) (hts : ∀ i, i < x.l.length → (pk x.l i).times ≤ 4611686018427387900) :
 GivesB Fence.wide n Tryz.prog 131 #[.pointer (some ⟨b, 0, none⟩)] #[] (toldV x) (dueI x) (fun A A' => Kp (Mine b x) A A') (fun pre W => WinC W b (stW x pre)) (fun W => WinC W b (dueW x)) := by
 intro yl J Jx W hJ hJx hY h0 hT
 have hW := hT
 rw [stW_nil] at hW
 obtain ⟨a, c, hV, hc⟩ := hW.form
 have h2 := hW.c2
 rw [hV] at h2
 have hlen := hW.len
 have hsz := hW.size_bd
 have HX := Lib.hid hV
 have HW0 := Lib.hid hW
 obtain ⟨len, hle⟩ : ∃ len, len = x.l.length := ⟨_, rfl⟩
 rw [← hle] at h2
 have hl64 : len ≤ 64 := by omega
 have HL := Lib.hid hle
 have HTS := Lib.hid hts
 clear hW hV hc hlen hsz hle hts
 refine callsIn_of_wp Tryz.func131 rfl trivial ?_ rfl
 simp only [Tryz.ntmps131, List.size_toArray, List.length_cons, List.length_nil, Nat.reduceAdd, Nat.reduceSub, Array.replicate_succ, Array.replicate_zero, List.push_toArray, List.append_toArray, List.nil_append, List.cons_append]
 gi_wp2
 gi_loopw [11] (fun i wr => ∃ k : Nat, k ≤ len ∧ i = .int .i64 k ∧ WinC wr b (stW x (preI x k)) ∧ J (preI x k) wr) (fun i _ => len - (intOf i).toNat)
 case atStart => exact ⟨0, by omega, rfl, hT, h0⟩
 case round =>
  clear hT h0 h2
  obtain ⟨k, hk, rfl, hw, hj⟩ := hrel
  by_cases hlt : k < len
  · have hkl : k < x.l.length := by rw [← HL.out]; exact hlt
    have hs := st_same x (preI x k) hkl
    have hrow : Row wr (.slice a len c) ((stW x (preI x k)).l.map Pk.g) := by have := hw.row; rwa [show (stW x (preI x k)).V = x.V from rfl, HX.out, ← HL.out] at this
    obtain ⟨g0, o0, rfl, en, hc0⟩ := hrow.cell (i := k) (by rw [List.length_map, stW_l, stL_len]; exact hkl)
    clear en
    rw [gs_at (by rw [stW_l, stL_len]; exact hkl), stW_l, hs.1] at hc0
    have hpk := hw.pks k (by rw [stW_l, stL_len]; exact hkl)
    have hst := stL_at (pre := preI x k) hkl
    rw [if_neg (preI_not x k)] at hst
    rw [stW_l, hst] at hpk
    have hbd := hw.bd k (by rw [stW_l, stL_len]; exact hkl)
    rw [stW_l, hst] at hbd
    have hc5 := hw.c5
    rw [show (stW x (preI x k)).now = x.now from rfl] at hc5
    have hnb : x.now ≤ 2147483647 := hw.now_bd
    have i1 : (k : Int) < len := by omega
    have hatt : (pk x.l k).att ≤ x.now := hbd.1
    have hwt : (pk x.l k).wt ≤ 60 := hbd.2.1
    have CD := fun w' (kp : Kp (fun _ => False) wr w') => toKp (pdue_any (pk x.l k) x.now w' (kp.at hpk (fun h => h)) (by omega) hwt)
    obtain ⟨p, hp⟩ : ∃ p, p = pk x.l k := ⟨_, rfl⟩
    obtain ⟨now, hnow⟩ : ∃ now, now = x.now := ⟨_, rfl⟩
    have hdd : dueB p now = decide (dueA p now ≤ now) := rfl
    rw [← hp, ← hnow] at CD
    rw [← hp] at hpk hc0
    rw [← hnow] at hc5 hnb
    obtain ⟨da, hda⟩ : ∃ da, da = dueA p now := ⟨_, rfl⟩
    rw [← hda] at CD hdd
    have hdb : da ≤ 2147483707 := by rw [hda, hp]; unfold dueA; split <;> omega
    have HP := Lib.hid (And.intro hp (And.intro hnow (And.intro hpk (And.intro hw (And.intro hj hkl)))))
    have HD := Lib.hid hdd
    have CD := Lib.hid CD
    have ne1 := (hw.pkNe (i := k) (by rw [stW_l, stL_len]; exact hkl)).1
    rw [stW_l, hs.1, ← hp] at ne1
    clear hp hnow hpk hw hj hdd hrow hs hst hbd hda hkl hatt hwt
    by_cases hdue : da ≤ now
    · have i2 : ¬ (now : Int) < da := by omega
      have d1 : decide (now < da) = false := by simpa using hdue
      have d2 : decide ((now : Int) < da) = false := by simpa using hdue
      gi_wp2
      refine wpIn_wide.2 ?_
      refine region_L (S := fun w' => Kp (fun _ => False) wr w') [] rfl ?_
      have hSd : ∀ (w' : World) (n' : Nat), Kp (fun _ => False) wr w' → Kp (fun _ => False) wr (w'.drewN n') := fun w' n' h => h.drewN n'
      have hS0 : Kp (fun _ => False) wr wr.drew := (Kp.refl _ wr).drew
      refine anyL_world (fun w' => Kp (fun _ => False) wr w') hS0 ?_
      clear hS0
      intro x0 kx0
      refine tF 0 15 (.pointer (some ⟨p.g, 0, none⟩)) rfl rfl hSd (fun _ => kx0) ?_
      try simp only [sC]
      refine tF 1 16 (.pointer (some ⟨b, 0, none⟩)) rfl rfl hSd (fun _ => kx0) ?_
      try simp only [sC]
      refine tF 2 17 (.pointer (some ⟨b, 0, none⟩)) rfl rfl hSd (fun _ => kx0) ?_
      try simp only [sC]
      refine tF 3 18 (.pointer (some ⟨b, 5, none⟩)) rfl rfl hSd (fun _ => kx0) ?_
      try simp only [sC]
      refine tD 4 19 (.int .i64 (now : Nat)) rfl rfl hSd (.inl (.inl ⟨rfl, fun w' hS => by have h0 := hS.cell hc5 (fun h => h); go_simp⟩)) kx0 ?_
      try simp only [sC]
      refine tF 6 21 (.pointer (some ⟨b, 0, none⟩)) rfl rfl hSd (fun _ => kx0) ?_
      try simp only [sC]
      refine tF 7 22 (.pointer (some ⟨b, 0, none⟩)) rfl rfl hSd (fun _ => kx0) ?_
      try simp only [sC]
      refine tF 8 23 (.pointer (some ⟨b, 5, none⟩)) rfl rfl hSd (fun _ => kx0) ?_
      try simp only [sC]
      refine tD 9 24 (.int .i64 (now : Nat)) rfl rfl hSd (.inl (.inl ⟨rfl, fun w' hS => by have h0 := hS.cell hc5 (fun h => h); go_simp⟩)) kx0 ?_
      try simp only [sC]
      refine tA 5 ?_
      intro n5
      refine wpOp_of rfl rfl ?_
      go_simp
      refine Calls.mono (CD.out (x0.drewN n5) (kx0.drewN n5)) ?_
      rintro e x1 ⟨rfl, j⟩
      try dsimp only
      have kx1 : Kp (fun _ => False) wr x1 := (kx0.drewN n5).trans j
      refine ⟨fun _ => kx1, ?_⟩
      try simp only [sC]
      refine anyL_takeF (i := 10) (d := 25) (v := (.bool false)) rfl rfl (by kernel_rfl) (by kernel_rfl) (by kernel_rfl) (fun _ _ _ h => h) hSd (by kernel_rfl) (.inl (.inl ⟨rfl, fun w' hS => by go_simp⟩)) (fun _ => kx1) ?_
      try simp only [sC]
      refine anyL_done (by kernel_rfl) (fun nn => ?_) _
      have kw3 := kx1.drewN nn
      generalize x1.drewN nn = w3 at *
      have K3 := Lib.hid kw3
      have hp3 : At w3 p.g (pkC p) := kw3.at HP.out.2.2.1 (fun h => h)
      have hb3 : WinC w3 b (stW x (preI x k)) := HP.out.2.2.2.1.kp0 kw3
      have c2 := hp3.cell 2
      have f2 := hp3.frozen 2
      simp only [pkC, List.getElem?_cons_zero, List.getElem?_cons_succ] at c2
      obtain ⟨ts, hts⟩ : ∃ ts, ts = p.times := ⟨_, rfl⟩
      have htb : ts ≤ 4611686018427387900 := by rw [hts, HP.out.1]; exact HTS.out k HP.out.2.2.2.2.2
      rw [← hts] at c2
      have HT3 := Lib.hid (And.intro hts (And.intro hp3 hb3))
      clear kw3 hSd hts hp3 hb3 hc5 CD
      gi_wp2
      obtain ⟨w4, hw4⟩ : ∃ w4, w4 = w3.setCell ⟨p.g, 2, none⟩ (.int .i64 ((ts : Int) + 1)) := ⟨_, rfl⟩
      rw [← hw4]
      have a4 := HT3.out.2.1.set 2 (.int .i64 ((ts : Int) + 1))
      have k4 : Kp (· = p.g) w3 w4 := by rw [hw4]; exact (Kp.refl (· = p.g) w3).setCell (p := ⟨p.g, 2, none⟩) (fun _ => rfl) _
      rw [← hw4] at a4
      simp only [pkC, List.set_cons_succ, List.set_cons_zero] at a4
      have bne : ¬ b = p.g := fun e => ne1 e.symm
      have c50 : w4.cell? ⟨b, 5, none⟩ = some (.int .i64 (now : Nat)) := by rw [HP.out.2.1]; exact k4.cell HT3.out.2.2.c5 bne
      have c52 := a4.cell 2
      simp only [List.getElem?_cons_zero, List.getElem?_cons_succ] at c52
      have H4 := Lib.hid (And.intro c50 (And.intro c52 a4))
      obtain ⟨wt, hwt⟩ : ∃ wt, wt = wk (waitN x.m x.s) (ts + 1) := ⟨_, rfl⟩
      have CW := Lib.hid (show ∀ w' (kp : Kp (fun _ => False) w4 w'), Calls Tryz.prog 134 #[.pointer (some ⟨b, 0, none⟩), .int .i64 ((ts : Int) + 1)] w' fun e w'' => e = .returned (.int .i64 (wt : Nat)) ∧ Kp (fun _ => False) w' w'' from fun w' kp => by
       have := toKp (wwait_any b x.m x.s (ts + 1) w' (kp.cell (k4.cell HT3.out.2.2.c3 bne) (fun h => h)) (kp.cell (k4.cell HT3.out.2.2.c4 bne) (fun h => h)) (by omega) (by omega))
       rw [← hwt] at this
       exact this)
      have HWT := Lib.hid (And.intro hwt k4)
      clear hw4 a4 k4 c50 c52 hwt c2 f2
      refine wpIn_wide.2 ?_
      refine region_L (S := fun w' => Kp (fun _ => False) w4 w') [14, 17] rfl ?_
      have hSd : ∀ (w' : World) (n' : Nat), Kp (fun _ => False) w4 w' → Kp (fun _ => False) w4 (w'.drewN n') := fun w' n' h => h.drewN n'
      have hS0 : Kp (fun _ => False) w4 w4.drew := (Kp.refl _ w4).drew
      refine anyL_world (fun w' => Kp (fun _ => False) w4 w') hS0 ?_
      clear hS0
      intro x0 kx0
      refine tF 0 33 (.pointer (some ⟨p.g, 0, none⟩)) rfl rfl hSd (fun _ => kx0) ?_
      try simp only [sC]
      refine tF 1 34 (.pointer (some ⟨p.g, 0, none⟩)) rfl rfl hSd (fun _ => kx0) ?_
      try simp only [sC]
      refine tF 2 35 (.pointer (some ⟨b, 0, none⟩)) rfl rfl hSd (fun _ => kx0) ?_
      try simp only [sC]
      refine tF 3 36 (.pointer (some ⟨b, 0, none⟩)) rfl rfl hSd (fun _ => kx0) ?_
      try simp only [sC]
      refine tF 4 37 (.pointer (some ⟨b, 5, none⟩)) rfl rfl hSd (fun _ => kx0) ?_
      try simp only [sC]
      refine tD 5 38 (.int .i64 (now : Nat)) rfl rfl hSd (.inl (.inl ⟨rfl, fun w' hS => by have h0 := hS.cell H4.out.1 (fun h => h); go_simp⟩)) kx0 ?_
      try simp only [sC]
      refine tF 6 39 (.pointer (some ⟨b, 0, none⟩)) rfl rfl hSd (fun _ => kx0) ?_
      try simp only [sC]
      refine tF 7 40 (.pointer (some ⟨p.g, 0, none⟩)) rfl rfl hSd (fun _ => kx0) ?_
      try simp only [sC]
      refine tF 8 41 (.pointer (some ⟨p.g, 0, none⟩)) rfl rfl hSd (fun _ => kx0) ?_
      try simp only [sC]
      refine tF 9 42 (.pointer (some ⟨p.g, 2, none⟩)) rfl rfl hSd (fun _ => kx0) ?_
      try simp only [sC]
      refine tD 10 43 (.int .i64 ((ts : Int) + 1)) rfl rfl hSd (.inl (.inl ⟨rfl, fun w' hS => by have h0 := hS.cell H4.out.2.1 (fun h => h); go_simp⟩)) kx0 ?_
      try simp only [sC]
      refine tA 11 ?_
      intro n11
      refine wpOp_of rfl rfl ?_
      go_simp
      refine Calls.mono (CW.out (x0.drewN n11) (kx0.drewN n11)) ?_
      rintro e x1 ⟨rfl, j⟩
      try dsimp only
      have kx1 : Kp (fun _ => False) w4 x1 := (kx0.drewN n11).trans j
      refine ⟨fun _ => kx1, ?_⟩
      try simp only [sC]
      refine tF 12 45 (.pointer (some ⟨p.g, 0, none⟩)) rfl rfl hSd (fun _ => kx1) ?_
      try simp only [sC]
      refine tF 13 46 (.pointer (some ⟨p.g, 3, none⟩)) rfl rfl hSd (fun _ => kx1) ?_
      try simp only [sC]
      refine tA 14 ?_
      intro n14
      have a5 := (kx1.drewN n14).at H4.out.2.2 (fun h => h)
      have c5 := a5.cell 3
      have f5 := a5.frozen 3
      simp only [pkC, List.getElem?_cons_zero, List.getElem?_cons_succ] at c5
      have a6 := a5.set 3 (.int .i64 (now : Nat))
      have k6 : Kp (· = p.g) w4 ((x1.drewN n14).setCell ⟨p.g, 3, none⟩ (.int .i64 (now : Nat))) := ((kx1.drewN n14).mono (S' := (· = p.g)) (fun _ _ h => h.elim)).setCell (p := ⟨p.g, 3, none⟩) (fun _ => rfl) _
      refine wpOp_of rfl rfl ?_
      go_simp
      refine ⟨fun h => Bool.noConfusion (show false = true from h), ?_⟩
      try simp only [sC]
      obtain ⟨y1, hy1⟩ : ∃ y1, y1 = (x1.drewN n14).setCell ⟨p.g, 3, none⟩ (.int .i64 (now : Nat)) := ⟨_, rfl⟩
      rw [← hy1] at a6 k6 ⊢
      clear hy1 c5 f5 a5
      refine tF 15 47 (.pointer (some ⟨p.g, 0, none⟩)) rfl rfl hSd (fun h => Bool.noConfusion (show false = true from h)) ?_
      try simp only [sC]
      refine tF 16 48 (.pointer (some ⟨p.g, 4, none⟩)) rfl rfl hSd (fun h => Bool.noConfusion (show false = true from h)) ?_
      try simp only [sC]
      refine tA 17 ?_
      intro n17
      have a7 := a6.drewN n17
      have c7 := a7.cell 4
      have f7 := a7.frozen 4
      simp only [pkC, List.set_cons_succ, List.set_cons_zero, List.getElem?_cons_zero, List.getElem?_cons_succ] at c7
      have a8 := a7.set 4 (.int .i64 (wt : Nat))
      have k8 : Kp (· = p.g) w4 ((y1.drewN n17).setCell ⟨p.g, 4, none⟩ (.int .i64 (wt : Nat))) := (k6.drewN n17).setCell (p := ⟨p.g, 4, none⟩) (fun _ => rfl) _
      refine wpOp_of rfl rfl ?_
      go_simp
      refine ⟨fun h => Bool.noConfusion (show false = true from h), anyL_done (by kernel_rfl) (fun nn => ?_) _⟩
      have a9 := a8.drewN nn
      have k9 := k8.drewN nn
      generalize ((y1.drewN n17).setCell ⟨p.g, 4, none⟩ (.int .i64 (wt : Nat))).drewN nn = w5 at *
      simp only [pkC, List.set_cons_succ, List.set_cons_zero] at a9
      have H9 := Lib.hid (And.intro a9 k9)
      clear a6 a7 a8 a9 k6 k8 k9 c7 f7 kx0 kx1 j hSd
      have c90 := H9.out.1.cell 0
      have c91 := H9.out.1.cell 1
      simp only [List.getElem?_cons_zero, List.getElem?_cons_succ] at c90 c91
      have k35 : Kp (· = p.g) w3 w5 := HWT.out.2.trans H9.out.2
      have hkl : k < x.l.length := HP.out.2.2.2.2.2
      have hs := st_same x (preI x k) hkl
      have hst := stL_at (pre := preI x k) hkl
      rw [if_neg (preI_not x k)] at hst
      have hatP : At w5 (sentP x p).g (pkC (sentP x p)) := by
       have := H9.out.1
       rw [HWT.out.1, HT3.out.1, HP.out.2.1] at this
       exact this
      have hWs := HT3.out.2.2.setPk (i := k) (p := sentP x p) (by rw [stW_l, stL_len]; exact hkl) (by rw [stW_l, hs.1, HP.out.1]; rfl) (by rw [stW_l, hs.2.1, HP.out.1]; rfl) (by rw [stW_l, hs.2.2.1, HP.out.1]; rfl) (by rw [stW_l, hs.2.2.2, HP.out.1]; rfl) hatP k35 ⟨Nat.le_refl _, (wk_bd (waitN_bd x.m x.s).1).2, fun _ => (wk_bd (waitN_bd x.m x.s).1).1⟩
      have e1 : ({ stW x (preI x k) with l := (stW x (preI x k)).l.set k (sentP x p) } : Wn) = stW x (preI x k ++ [k]) := by unfold stW; rw [← stL_snoc hkl, HP.out.1]
      rw [e1] at hWs
      have hdt : dueB (pk x.l k) x.now = true := by rw [← HP.out.1, ← HP.out.2.1, HD.out]; exact decide_eq_true hdue
      have e2 := preI_yes hdt
      have hpre : preI x k ++ [k] <+: dueI x := by rw [← e2]; exact dueI_pre x (by omega)
      have hj5 := hJ _ _ _ HP.out.2.2.2.2.1 ((K3.out.mono (S' := Mine b x) (fun _ _ h => h.elim)).trans (k35.mono (fun i _ e => (st_mine b x (preI x k) i).1 (.inr (.inr ⟨k, by rw [stW_l, stL_len]; exact hkl, .inl (by rw [stW_l, hs.1, ← HP.out.1]; exact e.symm)⟩)))))
      obtain ⟨fn, tmps, assign, body, hy, hR⟩ := hY (preI x k) k w5 hpre hj5 hWs
      unfold toldV at hy
      rw [← HP.out.1] at hy
      have HE := Lib.hid (And.intro e2 hpre)
      clear hs hst hatP hWs e1 hdt e2 hpre hj5 hkl k35 hY
      gi_wp2
      refine hR.mono ?_
      rintro e w6 (⟨rfl, hj6, ht6⟩ | ⟨rfl, hjx6⟩)
      · gi_wp2
        go_roundw
        case rel => exact ⟨k + 1, by omega, by go_num, by rw [HE.out.1]; exact ht6, by rw [HE.out.1]; exact hj6⟩
        case measure => simp [intOf]; omega
      · gi_wp2
        refine bodyPost_ret (results_none rfl _ _ _) rfl ?_
        exact ⟨⟨_, rfl⟩, .inr ⟨preI x k ++ [k], HE.out.2, hjx6⟩⟩
    · have i2 : (now : Int) < da := by omega
      have d1 : decide (now < da) = true := by simpa using hdue
      have d2 : decide ((now : Int) < da) = true := by simpa using hdue
      gi_wp2
      refine wpIn_wide.2 ?_
      refine region_L (S := fun w' => Kp (fun _ => False) wr w') [] rfl ?_
      have hSd : ∀ (w' : World) (n' : Nat), Kp (fun _ => False) wr w' → Kp (fun _ => False) wr (w'.drewN n') := fun w' n' h => h.drewN n'
      have hS0 : Kp (fun _ => False) wr wr.drew := (Kp.refl _ wr).drew
      refine anyL_world (fun w' => Kp (fun _ => False) wr w') hS0 ?_
      clear hS0
      intro x0 kx0
      refine tF 0 15 (.pointer (some ⟨p.g, 0, none⟩)) rfl rfl hSd (fun _ => kx0) ?_
      try simp only [sC]
      refine tF 1 16 (.pointer (some ⟨b, 0, none⟩)) rfl rfl hSd (fun _ => kx0) ?_
      try simp only [sC]
      refine tF 2 17 (.pointer (some ⟨b, 0, none⟩)) rfl rfl hSd (fun _ => kx0) ?_
      try simp only [sC]
      refine tF 3 18 (.pointer (some ⟨b, 5, none⟩)) rfl rfl hSd (fun _ => kx0) ?_
      try simp only [sC]
      refine tD 4 19 (.int .i64 (now : Nat)) rfl rfl hSd (.inl (.inl ⟨rfl, fun w' hS => by have h0 := hS.cell hc5 (fun h => h); go_simp⟩)) kx0 ?_
      try simp only [sC]
      refine tF 6 21 (.pointer (some ⟨b, 0, none⟩)) rfl rfl hSd (fun _ => kx0) ?_
      try simp only [sC]
      refine tF 7 22 (.pointer (some ⟨b, 0, none⟩)) rfl rfl hSd (fun _ => kx0) ?_
      try simp only [sC]
      refine tF 8 23 (.pointer (some ⟨b, 5, none⟩)) rfl rfl hSd (fun _ => kx0) ?_
      try simp only [sC]
      refine tD 9 24 (.int .i64 (now : Nat)) rfl rfl hSd (.inl (.inl ⟨rfl, fun w' hS => by have h0 := hS.cell hc5 (fun h => h); go_simp⟩)) kx0 ?_
      try simp only [sC]
      refine tA 5 ?_
      intro n5
      refine wpOp_of rfl rfl ?_
      go_simp
      refine Calls.mono (CD.out (x0.drewN n5) (kx0.drewN n5)) ?_
      rintro e x1 ⟨rfl, j⟩
      try dsimp only
      have kx1 : Kp (fun _ => False) wr x1 := (kx0.drewN n5).trans j
      refine ⟨fun _ => kx1, ?_⟩
      try simp only [sC]
      refine anyL_takeF (i := 10) (d := 25) (v := (.bool true)) rfl rfl (by kernel_rfl) (by kernel_rfl) (by kernel_rfl) (fun _ _ _ h => h) hSd (by kernel_rfl) (.inl (.inl ⟨rfl, fun w' hS => by go_simp⟩)) (fun _ => kx1) ?_
      try simp only [sC]
      refine anyL_done (by kernel_rfl) (fun nn => ?_) _
      have kw3 := kx1.drewN nn
      generalize x1.drewN nn = w3 at *
      have K3 := Lib.hid kw3
      clear kw3 hSd
      gi_wp2
      go_roundw
      case rel =>
       obtain ⟨q1, q2, q3, q4, q5, q6⟩ := HP.out
       have e : preI x (k + 1) = preI x k := preI_no (by rw [← q1, ← q2, HD.out]; exact decide_eq_false hdue)
       exact ⟨k + 1, by omega, by go_num, by rw [e]; exact q4.kp0 K3.out, by rw [e]; exact hJ _ _ _ q5 (K3.out.mono (fun _ _ h => h.elim))⟩
      case measure => simp [intOf]; omega
  · obtain rfl : k = len := by omega
    have e : preI x k = dueI x := by rw [HL.out, preI_all]
    rw [e] at hw hj
    clear hY e
    gi_wp2
    go_end0
    exact ⟨⟨_, rfl⟩, .inl ⟨hj, hw⟩⟩
end Go.Proofs.YtokembhfebnjpaaGreat
namespace Go.Proofs.YtokembhfebnjpaaGreat
set_option maxRecDepth 20000
open Go.RowKit Flt
set_option linter.unusedVariables false
set_option linter.unusedSimpArgs false
attribute [local go_sem] Oper.semAt_some
variable {w : World} {b : Nat} {x : Wn}
theorem zero_pk (u : World) : (zeroValue 90).run Tryz.prog u = .ok (.agg #[.int .i64 0, .slice none 0 0]) u := by kernel_rfl
def atW (x : Wn) (now : Nat) : Wn := { x with now := max x.now now }
def TelL (x : Wn) (is : List Nat) (l : List Tp) : Prop := l.length = is.length ∧ ∀ j i, is[j]? = some i → (tp l j).seq = (pk x.l i).seq ∧ (tp l j).body = (pk x.l i).body
theorem TelL.snoc {x : Wn} {is : List Nat} {l : List Tp} (h : TelL x is l) (i : Nat) (t : Tp) (h1 : t.seq = (pk x.l i).seq) (h2 : t.body = (pk x.l i).body) : TelL x (is ++ [i]) (l ++ [t]) := by
 refine ⟨by simp [h.1], fun j k hj => ?_⟩
 have hl := h.1
 by_cases hj' : j < is.length
 · rw [List.getElem?_append_left hj'] at hj
   rw [tp_app_lt (by omega)]
   exact h.2 j k hj
 · have : j = is.length := by
    have := (List.getElem?_eq_some_iff.1 hj).1
    simp at this; omega
   subst this
   rw [List.getElem?_append_right (Nat.le_refl _), Nat.sub_self] at hj
   simp only [List.getElem?_cons_zero, Option.some.injEq] at hj
   subst hj
   rw [← hl, tp_app_at]
   exact ⟨h1, h2⟩
def DuR (b : Nat) (x : Wn) (w2 : World) (ov : Nat) (pre : List Nat) (W : World) : Prop :=
 ∃ vo l, OwnT w2.heap.size W vo l ∧ TelL x pre l ∧ At W ov [vo] ∧ Kp (fun j => j = ov ∨ Mine b x j) w2 W
set_option maxHeartbeats 4000000 in
set_option maxRecDepth 20000 in
theorem due_ok (h : WinC w b x) (now : Nat) (ht : now ≤ 2147483647) (hts : ∀ i, i < x.l.length → (pk x.l i).times ≤ 4611686018427387900) : Calls Tryz.prog 121 #[.pointer (some ⟨b, 0, none⟩), .int .i64 now] w fun e w' =>
 ∃ v l, e = .returned v ∧ OwnT w.heap.size w' v l ∧ TelL (atW x now) (dueI (atW x now)) l ∧ WinC w' b (dueW (atW x now)) ∧ Kp (Mine b x) w w' := by
 have h5 := h.c5
 have hf5 := h.hat.frozen 5
 have C := Lib.hid (wnone_no b x.size w h.c0 h.size_bd.1)
 have CT := (fun w' => wtime_any (now : Int) w')
 rw [timeB_of ht] at CT
 have CT := Lib.hid CT
 have hnb := h.now_bd
 have hW0 := h.head (last' := x.last) (m' := x.m) (s' := x.s) (now' := max x.now now) rfl (h.hat.set 5 (.int .i64 (max x.now now : Nat))) ((Kp.refl (· = b) w).setCell (p := ⟨b, 5, none⟩) (fun _ => rfl) _) (by omega) (by omega)
 have k0 : Kp (· = b) w (w.setCell ⟨b, 5, none⟩ (.int .i64 (max x.now now : Nat))) := (Kp.refl (· = b) w).setCell (p := ⟨b, 5, none⟩) (fun _ => rfl) _
 obtain ⟨y, hy⟩ : ∃ y, y = atW x now := ⟨_, rfl⟩
 have hW0 : WinC (w.setCell ⟨b, 5, none⟩ (.int .i64 (max x.now now : Nat))) b y := by rw [hy]; exact hW0
 have hyl : y.l = x.l := by rw [hy]; rfl
 have hym : ∀ k, Mine b y k ↔ Mine b x k := fun k => by rw [hy]; exact Iff.rfl
 rw [← hy]
 have hts' : ∀ i, i < y.l.length → (pk y.l i).times ≤ 4611686018427387900 := by rw [hyl]; exact hts
 obtain ⟨T, hT⟩ : ∃ T, T = max x.now now := ⟨_, rfl⟩
 obtain ⟨xn, hxn⟩ : ∃ xn, xn = x.now := ⟨_, rfl⟩
 have hTb : T ≤ 2147483647 := by omega
 have HT := Lib.hid (show T = max xn now by rw [hT, hxn])
 rw [← hxn] at h5
 rw [← hT] at hW0 k0
 have HW0 := Lib.hid (And.intro hW0 (And.intro k0 (And.intro hym (And.intro hts' hy))))
 have HM := Lib.hid (fun k (hk : Mine b x k) => h.lt hk)
 clear h hW0 k0 hT hxn hnb hyl hym hts' hts hy
 have hbr : (xn < now ∧ T = now) ∨ (¬ xn < now ∧ T = xn) := by have := HT.out; omega
 rcases hbr with ⟨hmx, rfl⟩ | ⟨hmx, rfl⟩
 · refine (callsIn_wide (n := 5)).1 ?_
   refine callsIn_of_wp_marks Tryz.func121 rfl trivial ?_ rfl
   simp only [Tryz.ntmps121, List.size_toArray, List.length_cons, List.length_nil, Nat.reduceAdd, Nat.reduceSub, Array.replicate_succ, Array.replicate_zero, List.push_toArray, List.append_toArray, List.nil_append, List.cons_append]
   refine wpIn_wide.2 ?_
   go_upto_region 5 with (first | (go_at_call 48; refine C.out.mono ?_; rintro e w' ⟨rfl, rfl⟩) | (go_at_call 123; refine (CT.out _).mono ?_; rintro e w' ⟨rfl, rfl⟩))
   obtain ⟨ov, hov⟩ : ∃ ov, ov = w.heap.size := ⟨_, rfl⟩
   obtain ⟨w0, hw0⟩ : ∃ w0, w0 = w.setCell ⟨b, 5, none⟩ (.int .i64 (T : Nat)) := ⟨_, rfl⟩
   have hs0 : w0.heap.size = w.heap.size := by rw [hw0]; simp [World.setCell]
   rw [← hw0] at HW0 ⊢
   obtain ⟨w2, hw2⟩ : ∃ w2, w2 = w0.alloc (.cells #[.slice none 0 0] 87) := ⟨_, rfl⟩
   have o2 : At w2 ov [.slice none 0 0] := by rw [hw2, hov, ← hs0]; exact At.new w0 [.slice none 0 0] _
   have k2 : Kp (fun _ => False) w0 w2 := by rw [hw2]; exact (Kp.refl _ w0).alloc _
   rw [← hw2, ← hov]
   have hb0 := HW0.out.1.hat.lt
   have H2 := Lib.hid (And.intro o2 (And.intro k2 (And.intro (show ov = w.heap.size from hov) (And.intro (HW0.out.1.kp0 k2) hs0))))
   have hbo : b < ov := by omega
   clear o2 k2 hov hw0 hw2 hs0 hb0 h5 hf5 C CT HT
   go_wp2
   refine (wpIn_wide (n := 5)).1 ?_
   refine wpIn_rngB (S := Mine b y) rfl (by omega) (gf := 131) (pb := #[.pointer (some ⟨b, 0, none⟩)]) (lb := #[]) rfl trivial (fun args w => by kernel_rfl)
    (sent_gives 4 (by omega) b y HW0.out.2.2.2.1) (fun h => h) (fun i hi => H2.out.2.2.2.1.lt hi) (fun _ => rfl)
    (fun pre W => DuR b y w2 ov pre W) (fun c pre W => False)
    ?hITZ (fun _ _ _ _ h _ => h) ?hTTZ ?hETZ ?hISTZ (fun c s A A' h k => h) ?h0TZ ?hT0TZ
    (fun i W a' W2 => a' = { tmps := #[.pointer (some ⟨b, 0, none⟩), .int .i64 T, undef, undef, .slice none 0 0, .pointer (some ⟨ov, 0, none⟩), .pointer (some ⟨W.heap.size, 0, none⟩), .pointer (some ⟨b, 0, none⟩), .bool false, .bool false, .int .i64 T, .bool true, .bool false, .bool false, .pointer (some ⟨b, 0, none⟩), .pointer (some ⟨b, 0, none⟩), .pointer (some ⟨b, 0, none⟩), .pointer (some ⟨b, 5, none⟩), .int .i64 xn, .int .i64 T, .int .i64 T, .pointer (some ⟨b, 0, none⟩), .pointer (some ⟨b, 5, none⟩), .pointer (some ⟨b, 0, none⟩), .func (.func 131) #[.pointer (some ⟨b, 0, none⟩)] #[], .agg #[.int .i64 (pk y.l i).seq, (pk y.l i).B], undef, undef, undef, undef, undef, undef, undef, undef, undef], defers := [] } ∧ i < y.l.length ∧ W2 = W.alloc (.cells #[.int .i64 (pk y.l i).seq, (pk y.l i).B] 90)) ?hBkTZ ?hIKTZ ?hTKTZ ?assignTZ ?bodyTZ ?doneTZ ?stopTZ
   case hITZ =>
    rintro pre A A' ⟨vo, l, h1, h2, h3, h4⟩ k
    exact ⟨vo, l, h1.notNC k, h2, k.at h3 (NC.not h3), h4.then k (fun j hj e => by have := e.1; omega)⟩
   case hTTZ => exact fun pre A A' h k => h.kp k (fun j hj e => by have := H2.out.2.2.2.1.lt ((st_mine b y pre j).1 hj); have := e.1; omega)
   case hETZ => exact fun _ A A' h k => h.kp k (fun j hj e => by have := H2.out.2.2.2.1.lt ((st_mine b y (dueI y) j).1 hj); have := e.1; omega)
   case hISTZ =>
    rintro pre A A' ⟨vo, l, h1, h2, h3, h4⟩ k
    have hlt := fun j (hj : Mine b y j) => HW0.out.1.lt hj
    have hs0 := H2.out.2.2.2.2
    have hov := H2.out.2.2.1
    have hw2 := H2.out.1.lt
    exact ⟨vo, l, h1.kpN k (fun g hg => H2.out.2.2.2.1.lt hg), h2, k.at h3 (fun e => by have := hlt _ e; omega), h4.trans (k.mono (fun _ _ e => .inr e))⟩
   case h0TZ => exact ⟨.slice none 0 0, [], OwnT.start _ _, ⟨rfl, fun j i hj => by cases hj⟩, H2.out.1, Kp.refl _ _⟩
   case hT0TZ => rw [stW_nil]; exact H2.out.2.2.2.1
   case hBkTZ =>
    rintro i A A' a' ⟨_, _, rfl⟩
    exact (Kp.refl _ A).alloc _
   case hIKTZ =>
    rintro pre A A' ⟨vo, l, h1, h2, h3, h4⟩ k
    exact ⟨vo, l, h1.kp0 k, h2, k.at h3 (fun h => h), h4.trans (k.mono (fun _ _ h => h.elim))⟩
   case hTKTZ => exact fun s A A' h k => h.kp0 k
   case assignTZ =>
    intro yl i W K hi hK
    have hil : i < y.l.length := (preI_lt (x := y) (k := y.l.length) hi).1
    have HK := Lib.hid hK
    have HB := Lib.hid (HW0.out.1.own i hil)
    clear hK
    unfold toldV
    obtain ⟨aB, cB, eB, _, _⟩ := HB.out.form
    obtain ⟨lb, hlb⟩ : ∃ lb, lb = (pk y.l i).body.length := ⟨_, rfl⟩
    rw [← hlb] at eB
    obtain ⟨sq, hsq⟩ : ∃ sq, sq = (pk y.l i).seq := ⟨_, rfl⟩
    rw [eB, ← hsq]
    have HE := Lib.hid (And.intro eB hsq)
    clear eB hsq hlb
    have hz := zero_pk W
    gi_wp2
    exact HK.out _ _ ⟨by rw [HE.out.1, ← HE.out.2], hil, by rw [HE.out.1, ← HE.out.2]⟩
   case stopTZ =>
    rintro D c pre W hD hpre h
    exact h.elim
   case doneTZ =>
    rintro D W hD ⟨vo, l, h1, hte, ha, hk⟩ hE hd
    have co := (ha.cell 0).trans (show _ = some vo from rfl)
    have HR := Lib.hid (And.intro h1 (And.intro hte (And.intro hk hE)))
    obtain ⟨aO, cO, eO, _⟩ := h1.form
    obtain ⟨nO, hnO⟩ : ∃ nO, nO = l.length := ⟨_, rfl⟩
    rw [← hnO] at eO
    subst eO
    clear h1 hte ha hk hE hnO
    go_wp2
    have kx := Kp.putNC hD hd rfl (.deferred none)
    refine ⟨by simp, .inl ⟨_, _, rfl, run_takeDeferred hd, ?_⟩⟩
    have hs2 := H2.out.2.1.size
    have hs0 := H2.out.2.2.2.2
    have hov := H2.out.2.2.1
    have hw2 := H2.out.1.lt
    obtain ⟨h1, hte, hk, hE⟩ := HR.out
    have h1' : OwnT w.heap.size W (.slice aO nO cO) l := { h1 with lo := fun g hg => by have := h1.lo g hg; omega, loB := fun i g hi hg => by have := h1.loB i g hi hg; omega }
    have kk : Kp (Mine b x) w W := ((HW0.out.2.1.mono (S' := Mine b x) (fun j _ e => .inl e)).then (H2.out.2.1.mono (S' := Mine b x) (fun _ _ h => h.elim)) (fun j _ e => e)).then hk (fun j hj e => by
     rcases e with e | e
     · omega
     · exact (HW0.out.2.2.1 j).1 e)
    refine ⟨_, results_tmp rfl _ _ _, .slice aO nO cO, l, rfl, h1'.notNC kx, hte, hE.kp kx (fun j hj e => by have := HW0.out.1.lt ((st_mine b y (dueI y) j).1 hj); have := e.1; omega), kk.then kx (fun j hj e => by have := e.1; omega)⟩
   case bodyTZ =>
    rintro yl pre i W W2 W' a' hpre ⟨vo0, l0, h10, _, ha0, hk0⟩ ⟨rfl, hil, rfl⟩ k2 ⟨vo, l, h1, hte, ha, hk⟩ ht
    have hat2 : At (W.alloc (.cells #[.int .i64 (pk y.l i).seq, (pk y.l i).B] 90)) W.heap.size [.int .i64 (pk y.l i).seq, (pk y.l i).B] := At.new W _ _
    have hat := k2.at hat2 (NC.not hat2)
    have hbxl : W.heap.size < W'.heap.size := hat.lt
    have ha02 := ((Kp.refl (fun _ => False) W).alloc (.cells #[.int .i64 (pk y.l i).seq, (pk y.l i).B] 90)).at ha0 (fun h => h)
    have hvo : vo0 = vo := by
     have := (k2.at ha02 (NC.not ha02)).inj ha
     simpa using this
    have hvlt : ∀ g, vo.ownBlock = some g → g < W.heap.size := fun g hg => h10.lt (hvo ▸ hg)
    have hWs : w2.heap.size ≤ W.heap.size := hk0.size
    have hwo := H2.out.1.lt
    obtain ⟨bx, hbx⟩ : ∃ bx, bx = W.heap.size := ⟨_, rfl⟩
    rw [← hbx] at hat hbxl hvlt hWs ⊢
    have hob := ht.own i (by rw [stW_l, stL_len]; exact hil)
    rw [stW_l, (st_same y (pre ++ [i]) hil).2.1, (st_same y (pre ++ [i]) hil).2.2.2] at hob
    have hbbx : ∀ j, j < l.length → (tp l j).B.ownBlock ≠ some bx := fun j hj => (h1.each j hj).notC hat (u := .int .i64 (pk y.l i).seq) (by simp) (not_isB_i64 _)
    obtain ⟨body, hbody⟩ : ∃ body, body = (pk y.l i).body := ⟨_, rfl⟩
    rw [← hbody] at hob
    obtain ⟨aB, cB, eB, hrB, _⟩ := hob.form
    obtain ⟨lb, hlb⟩ : ∃ lb, lb = body.length := ⟨_, rfl⟩
    rw [← hlb] at eB
    obtain ⟨sq, hsq⟩ : ∃ sq, sq = (pk y.l i).seq := ⟨_, rfl⟩
    rw [eB, ← hsq] at hat
    rw [eB, ← hsq]
    have hbl : body.length ≤ 1000000000 := hob.len
    obtain ⟨vB, w9, r9, o9, k9', b9⟩ := run_append_b (P := Tryz.prog) (t := 32) (tx := 32) (ty := 32) W' Tryz.underlying32 elem_u8 Tryz.underlying32 (OwnB.nil' _) (a := aB) (c := cB) (m := body) hrB (by simpa using hbl)
    rw [← hlb] at r9
    rw [List.nil_append] at o9
    have k9 : Kp (fun _ => False) W' w9 := k9'.mono (fun _ _ h => by cases h)
    obtain ⟨aV, cV, eV, _, _⟩ := o9.form
    rw [← hlb] at eV
    subst eV
    have hat9 := k9.at hat (fun h => h)
    have c1 := hat.cell 1
    have c91 := hat9.cell 1
    have f91 := hat9.frozen 1
    simp only [List.getElem?_cons_zero, List.getElem?_cons_succ] at c1 c91
    obtain ⟨w10, hw10⟩ : ∃ w10, w10 = w9.setCell ⟨bx, 1, none⟩ (.slice aV lb cV) := ⟨_, rfl⟩
    have hat10 : At w10 bx [.int .i64 sq, .slice aV lb cV] := by rw [hw10]; exact hat9.set 1 _
    have k10 : Kp (· = bx) w9 w10 := by rw [hw10]; exact (Kp.refl (· = bx) w9).setCell (p := ⟨bx, 1, none⟩) (fun _ => rfl) _
    have h19 := (h1.kp0 k9).kp k10 (fun g hg e => by have := hvlt g hg; omega) (fun j g hj hg e => hbbx j hj (by rw [hg, e]))
    have o10 : OwnB w10 (.slice aV lb cV) body := o9.kp k10 (fun g hg e => o9.notC hat9 (u := .int .i64 sq) (by simp) (not_isB_i64 _) (by rw [hg, e]))
    have ha10 := k10.at (k9.at ha (fun h => h)) (fun e => by omega)
    have co9 := ((k9.at ha (fun h => h)).cell 0).trans (show _ = some vo from rfl)
    have c90 := hat9.cell 0
    simp only [List.getElem?_cons_zero, List.getElem?_cons_succ] at c90
    obtain ⟨aO, cO, eO, _⟩ := h1.form
    have hll : l.length ≤ 1000000 := by
     have q1 := hte.1
     have q2 := hpre.length_le
     have q3 : (dueI y).length ≤ y.l.length := by unfold dueI; exact Nat.le_trans (List.length_filter_le _ _) (by simp)
     have q4 := HW0.out.1.len
     have q5 := HW0.out.1.size_bd
     simp at q2
     omega
    obtain ⟨w11, hw11⟩ : ∃ w11, w11 = w10.alloc (.cells #[.int .i64 sq, .slice aV lb cV] 90) := ⟨_, rfl⟩
    have k11 : Kp (fun _ => False) w10 w11 := by rw [hw11]; exact (Kp.refl _ w10).alloc _
    have n11 : At w11 w10.heap.size [.int .i64 sq, .slice aV lb cV] := by rw [hw11]; exact At.new w10 _ _
    have hbN : ∀ g, (Value.slice aV lb cV).ownBlock = some g → w2.heap.size ≤ g := fun g hg => by
     rcases b9 with e | e
     · rw [e] at hg; cases hg
     · rw [e] at hg; simp only [Option.some.injEq] at hg; omega
    have hs9 := k9.size
    have hs10 := k10.size
    have hs11 := k11.size
    obtain ⟨v12, w12, r12, o12, k12, b12⟩ := (h19.kp0 k11).app hll ⟨sq, .slice aV lb cV, body⟩ (o10.kp k11 (fun _ _ h => h)) hbN (by omega) n11
    obtain ⟨a12, c12, e12, _⟩ := o12.form
    obtain ⟨n12, hn12⟩ : ∃ n12, n12 = (l ++ [(⟨sq, .slice aV lb cV, body⟩ : Tp)]).length := ⟨_, rfl⟩
    rw [← hn12] at e12
    subst e12
    have ha12 := k12.at (k11.at ha10 (fun h => h)) (fun e => by have := h1.lo ov e; have := H2.out.2.2.1; omega)
    have co12 := (ha12.cell 0).trans (show _ = some vo from rfl)
    have f12 := ha12.frozen 0
    rw [eO] at co9 co12 r12
    obtain ⟨nO, hnO⟩ : ∃ nO, nO = l.length := ⟨_, rfl⟩
    rw [← hnO] at co9 co12 r12
    have hne : ¬ ov = bx := by omega
    have hne2 : ¬ bx = ov := by omega
    have hz10 : w10.heap.size = w9.heap.size := by rw [hw10]; simp [World.setCell]
    rw [hz10, hw11, hw10] at r12
    rw [hw10] at hw11
    have R9 := Lib.hid r9
    have R12 := Lib.hid r12
    have KX := Lib.hid (And.intro h1 (And.intro hte (And.intro ha (And.intro hk (And.intro ht (And.intro k9 (And.intro k10 (And.intro k11 (And.intro k12 o12)))))))))
    have HWW := Lib.hid (And.intro hw10 hw11)
    have KY := Lib.hid (And.intro ha12 (And.intro hvlt (And.intro (show ov < bx ∧ w2.heap.size ≤ bx from ⟨by omega, by omega⟩) (And.intro hsq (And.intro hbody hat)))))
    clear hat2 hat k2 hbxl ha02 hvo hvlt hWs hwo hbx hob hbbx hbody eB hrB hlb hsq hbl r9 o9 k9' b9 k9 hat9 hat10 k10 h19 o10 ha10 hll k11 n11 hbN hs9 hs10 hs11 r12 o12 k12 b12 ha12 h1 hte ha hk ht h10 ha0 hk0 hn12 hnO eO hw10 hw11 hz10
    gi_wp2_with (first | ((try simp only [Act.put, List.setIfInBounds_toArray, List.set_cons_succ, List.set_cons_zero]); refine wpListIn_append_run R9.out rfl rfl rfl rfl ?_) | ((try simp only [Act.put, List.setIfInBounds_toArray, List.set_cons_succ, List.set_cons_zero]); refine wpListIn_append_run R12.out rfl rfl rfl rfl ?_))
    obtain ⟨h1, hte, ha, hk, ht, k9, k10, k11, k12, o12⟩ := KX.out
    obtain ⟨ha12, hvlt, ⟨q1, q2⟩, hsq, hbody, hat⟩ := KY.out
    have ks : Kp (· = ov) w12 (w12.setCell ⟨ov, 0, none⟩ (.slice a12 n12 c12)) := (Kp.refl (· = ov) w12).setCell (p := ⟨ov, 0, none⟩) (fun _ => rfl) _
    have kT : Kp (fun j => j = bx ∨ j = ov ∨ vo.ownBlock = some j) W' (w12.setCell ⟨ov, 0, none⟩ (.slice a12 n12 c12)) :=
     ((((k9.mono (fun _ _ h => h.elim)).trans (k10.mono (fun _ _ h => .inl h))).trans (k11.mono (fun _ _ h => h.elim))).trans (k12.mono (fun _ _ h => .inr (.inr h)))).trans (ks.mono (fun _ _ h => .inr (.inl h)))
    have hw2 := H2.out.1.lt
    have hlo := h1.lo
    have hov := H2.out.2.2.1
    have hs0 := H2.out.2.2.2.2
    have hml : ∀ j, Mine b y j → j < ov := fun j hj => by have := HW0.out.1.lt hj; omega
    refine ⟨KeepsFrom.of_kp kT (fun j hj => ?_), ⟨_, _, o12.kpN ks (fun g e => by have e : g = ov := e; omega), hte.snoc i _ hsq hbody, ha12.set 0 _, hk.then kT (fun j hj e => ?_)⟩, ht.kp kT (fun j hj e => ?_)⟩
    · rcases hj with h | h | h
      · exact .inr ⟨_, h ▸ hat⟩
      · exact .inl (by omega)
      · exact .inr (h1.own.at' h)
    · rcases e with e | e | e
      · omega
      · exact .inl e
      · have := hlo j e; omega
    · have := hml j ((st_mine b y (pre ++ [i]) j).1 hj)
      rcases e with e | e | e
      · omega
      · omega
      · have := hlo j e; omega
 · refine (callsIn_wide (n := 5)).1 ?_
   refine callsIn_of_wp_marks Tryz.func121 rfl trivial ?_ rfl
   simp only [Tryz.ntmps121, List.size_toArray, List.length_cons, List.length_nil, Nat.reduceAdd, Nat.reduceSub, Array.replicate_succ, Array.replicate_zero, List.push_toArray, List.append_toArray, List.nil_append, List.cons_append]
   refine wpIn_wide.2 ?_
   go_upto_region 5 with (first | (go_at_call 48; refine C.out.mono ?_; rintro e w' ⟨rfl, rfl⟩) | (go_at_call 123; refine (CT.out _).mono ?_; rintro e w' ⟨rfl, rfl⟩))
   obtain ⟨ov, hov⟩ : ∃ ov, ov = w.heap.size := ⟨_, rfl⟩
   obtain ⟨w0, hw0⟩ : ∃ w0, w0 = w.setCell ⟨b, 5, none⟩ (.int .i64 (T : Nat)) := ⟨_, rfl⟩
   have hs0 : w0.heap.size = w.heap.size := by rw [hw0]; simp [World.setCell]
   rw [← hw0] at HW0 ⊢
   obtain ⟨w2, hw2⟩ : ∃ w2, w2 = w0.alloc (.cells #[.slice none 0 0] 87) := ⟨_, rfl⟩
   have o2 : At w2 ov [.slice none 0 0] := by rw [hw2, hov, ← hs0]; exact At.new w0 [.slice none 0 0] _
   have k2 : Kp (fun _ => False) w0 w2 := by rw [hw2]; exact (Kp.refl _ w0).alloc _
   rw [← hw2, ← hov]
   have hb0 := HW0.out.1.hat.lt
   have H2 := Lib.hid (And.intro o2 (And.intro k2 (And.intro (show ov = w.heap.size from hov) (And.intro (HW0.out.1.kp0 k2) hs0))))
   have hbo : b < ov := by omega
   clear o2 k2 hov hw0 hw2 hs0 hb0 h5 hf5 C CT HT
   go_wp2
   refine (wpIn_wide (n := 5)).1 ?_
   refine wpIn_rngB (S := Mine b y) rfl (by omega) (gf := 131) (pb := #[.pointer (some ⟨b, 0, none⟩)]) (lb := #[]) rfl trivial (fun args w => by kernel_rfl)
    (sent_gives 4 (by omega) b y HW0.out.2.2.2.1) (fun h => h) (fun i hi => H2.out.2.2.2.1.lt hi) (fun _ => rfl)
    (fun pre W => DuR b y w2 ov pre W) (fun c pre W => False)
    ?hInowZ (fun _ _ _ _ h _ => h) ?hTnowZ ?hEnowZ ?hISnowZ (fun c s A A' h k => h) ?h0nowZ ?hT0nowZ
    (fun i W a' W2 => a' = { tmps := #[.pointer (some ⟨b, 0, none⟩), .int .i64 now, undef, undef, .slice none 0 0, .pointer (some ⟨ov, 0, none⟩), .pointer (some ⟨W.heap.size, 0, none⟩), .pointer (some ⟨b, 0, none⟩), .bool false, .bool false, .int .i64 now, .bool true, .bool false, .bool false, .pointer (some ⟨b, 0, none⟩), .pointer (some ⟨b, 0, none⟩), .pointer (some ⟨b, 0, none⟩), .pointer (some ⟨b, 5, none⟩), .int .i64 T, .int .i64 now, .int .i64 T, .pointer (some ⟨b, 0, none⟩), .pointer (some ⟨b, 5, none⟩), .pointer (some ⟨b, 0, none⟩), .func (.func 131) #[.pointer (some ⟨b, 0, none⟩)] #[], .agg #[.int .i64 (pk y.l i).seq, (pk y.l i).B], undef, undef, undef, undef, undef, undef, undef, undef, undef], defers := [] } ∧ i < y.l.length ∧ W2 = W.alloc (.cells #[.int .i64 (pk y.l i).seq, (pk y.l i).B] 90)) ?hBknowZ ?hIKnowZ ?hTKnowZ ?assignnowZ ?bodynowZ ?donenowZ ?stopnowZ
   case hInowZ =>
    rintro pre A A' ⟨vo, l, h1, h2, h3, h4⟩ k
    exact ⟨vo, l, h1.notNC k, h2, k.at h3 (NC.not h3), h4.then k (fun j hj e => by have := e.1; omega)⟩
   case hTnowZ => exact fun pre A A' h k => h.kp k (fun j hj e => by have := H2.out.2.2.2.1.lt ((st_mine b y pre j).1 hj); have := e.1; omega)
   case hEnowZ => exact fun _ A A' h k => h.kp k (fun j hj e => by have := H2.out.2.2.2.1.lt ((st_mine b y (dueI y) j).1 hj); have := e.1; omega)
   case hISnowZ =>
    rintro pre A A' ⟨vo, l, h1, h2, h3, h4⟩ k
    have hlt := fun j (hj : Mine b y j) => HW0.out.1.lt hj
    have hs0 := H2.out.2.2.2.2
    have hov := H2.out.2.2.1
    have hw2 := H2.out.1.lt
    exact ⟨vo, l, h1.kpN k (fun g hg => H2.out.2.2.2.1.lt hg), h2, k.at h3 (fun e => by have := hlt _ e; omega), h4.trans (k.mono (fun _ _ e => .inr e))⟩
   case h0nowZ => exact ⟨.slice none 0 0, [], OwnT.start _ _, ⟨rfl, fun j i hj => by cases hj⟩, H2.out.1, Kp.refl _ _⟩
   case hT0nowZ => rw [stW_nil]; exact H2.out.2.2.2.1
   case hBknowZ =>
    rintro i A A' a' ⟨_, _, rfl⟩
    exact (Kp.refl _ A).alloc _
   case hIKnowZ =>
    rintro pre A A' ⟨vo, l, h1, h2, h3, h4⟩ k
    exact ⟨vo, l, h1.kp0 k, h2, k.at h3 (fun h => h), h4.trans (k.mono (fun _ _ h => h.elim))⟩
   case hTKnowZ => exact fun s A A' h k => h.kp0 k
   case assignnowZ =>
    intro yl i W K hi hK
    have hil : i < y.l.length := (preI_lt (x := y) (k := y.l.length) hi).1
    have HK := Lib.hid hK
    have HB := Lib.hid (HW0.out.1.own i hil)
    clear hK
    unfold toldV
    obtain ⟨aB, cB, eB, _, _⟩ := HB.out.form
    obtain ⟨lb, hlb⟩ : ∃ lb, lb = (pk y.l i).body.length := ⟨_, rfl⟩
    rw [← hlb] at eB
    obtain ⟨sq, hsq⟩ : ∃ sq, sq = (pk y.l i).seq := ⟨_, rfl⟩
    rw [eB, ← hsq]
    have HE := Lib.hid (And.intro eB hsq)
    clear eB hsq hlb
    have hz := zero_pk W
    gi_wp2
    exact HK.out _ _ ⟨by rw [HE.out.1, ← HE.out.2], hil, by rw [HE.out.1, ← HE.out.2]⟩
   case stopnowZ =>
    rintro D c pre W hD hpre h
    exact h.elim
   case donenowZ =>
    rintro D W hD ⟨vo, l, h1, hte, ha, hk⟩ hE hd
    have co := (ha.cell 0).trans (show _ = some vo from rfl)
    have HR := Lib.hid (And.intro h1 (And.intro hte (And.intro hk hE)))
    obtain ⟨aO, cO, eO, _⟩ := h1.form
    obtain ⟨nO, hnO⟩ : ∃ nO, nO = l.length := ⟨_, rfl⟩
    rw [← hnO] at eO
    subst eO
    clear h1 hte ha hk hE hnO
    go_wp2
    have kx := Kp.putNC hD hd rfl (.deferred none)
    refine ⟨by simp, .inl ⟨_, _, rfl, run_takeDeferred hd, ?_⟩⟩
    have hs2 := H2.out.2.1.size
    have hs0 := H2.out.2.2.2.2
    have hov := H2.out.2.2.1
    have hw2 := H2.out.1.lt
    obtain ⟨h1, hte, hk, hE⟩ := HR.out
    have h1' : OwnT w.heap.size W (.slice aO nO cO) l := { h1 with lo := fun g hg => by have := h1.lo g hg; omega, loB := fun i g hi hg => by have := h1.loB i g hi hg; omega }
    have kk : Kp (Mine b x) w W := ((HW0.out.2.1.mono (S' := Mine b x) (fun j _ e => .inl e)).then (H2.out.2.1.mono (S' := Mine b x) (fun _ _ h => h.elim)) (fun j _ e => e)).then hk (fun j hj e => by
     rcases e with e | e
     · omega
     · exact (HW0.out.2.2.1 j).1 e)
    refine ⟨_, results_tmp rfl _ _ _, .slice aO nO cO, l, rfl, h1'.notNC kx, hte, hE.kp kx (fun j hj e => by have := HW0.out.1.lt ((st_mine b y (dueI y) j).1 hj); have := e.1; omega), kk.then kx (fun j hj e => by have := e.1; omega)⟩
   case bodynowZ =>
    rintro yl pre i W W2 W' a' hpre ⟨vo0, l0, h10, _, ha0, hk0⟩ ⟨rfl, hil, rfl⟩ k2 ⟨vo, l, h1, hte, ha, hk⟩ ht
    have hat2 : At (W.alloc (.cells #[.int .i64 (pk y.l i).seq, (pk y.l i).B] 90)) W.heap.size [.int .i64 (pk y.l i).seq, (pk y.l i).B] := At.new W _ _
    have hat := k2.at hat2 (NC.not hat2)
    have hbxl : W.heap.size < W'.heap.size := hat.lt
    have ha02 := ((Kp.refl (fun _ => False) W).alloc (.cells #[.int .i64 (pk y.l i).seq, (pk y.l i).B] 90)).at ha0 (fun h => h)
    have hvo : vo0 = vo := by
     have := (k2.at ha02 (NC.not ha02)).inj ha
     simpa using this
    have hvlt : ∀ g, vo.ownBlock = some g → g < W.heap.size := fun g hg => h10.lt (hvo ▸ hg)
    have hWs : w2.heap.size ≤ W.heap.size := hk0.size
    have hwo := H2.out.1.lt
    obtain ⟨bx, hbx⟩ : ∃ bx, bx = W.heap.size := ⟨_, rfl⟩
    rw [← hbx] at hat hbxl hvlt hWs ⊢
    have hob := ht.own i (by rw [stW_l, stL_len]; exact hil)
    rw [stW_l, (st_same y (pre ++ [i]) hil).2.1, (st_same y (pre ++ [i]) hil).2.2.2] at hob
    have hbbx : ∀ j, j < l.length → (tp l j).B.ownBlock ≠ some bx := fun j hj => (h1.each j hj).notC hat (u := .int .i64 (pk y.l i).seq) (by simp) (not_isB_i64 _)
    obtain ⟨body, hbody⟩ : ∃ body, body = (pk y.l i).body := ⟨_, rfl⟩
    rw [← hbody] at hob
    obtain ⟨aB, cB, eB, hrB, _⟩ := hob.form
    obtain ⟨lb, hlb⟩ : ∃ lb, lb = body.length := ⟨_, rfl⟩
    rw [← hlb] at eB
    obtain ⟨sq, hsq⟩ : ∃ sq, sq = (pk y.l i).seq := ⟨_, rfl⟩
    rw [eB, ← hsq] at hat
    rw [eB, ← hsq]
    have hbl : body.length ≤ 1000000000 := hob.len
    obtain ⟨vB, w9, r9, o9, k9', b9⟩ := run_append_b (P := Tryz.prog) (t := 32) (tx := 32) (ty := 32) W' Tryz.underlying32 elem_u8 Tryz.underlying32 (OwnB.nil' _) (a := aB) (c := cB) (m := body) hrB (by simpa using hbl)
    rw [← hlb] at r9
    rw [List.nil_append] at o9
    have k9 : Kp (fun _ => False) W' w9 := k9'.mono (fun _ _ h => by cases h)
    obtain ⟨aV, cV, eV, _, _⟩ := o9.form
    rw [← hlb] at eV
    subst eV
    have hat9 := k9.at hat (fun h => h)
    have c1 := hat.cell 1
    have c91 := hat9.cell 1
    have f91 := hat9.frozen 1
    simp only [List.getElem?_cons_zero, List.getElem?_cons_succ] at c1 c91
    obtain ⟨w10, hw10⟩ : ∃ w10, w10 = w9.setCell ⟨bx, 1, none⟩ (.slice aV lb cV) := ⟨_, rfl⟩
    have hat10 : At w10 bx [.int .i64 sq, .slice aV lb cV] := by rw [hw10]; exact hat9.set 1 _
    have k10 : Kp (· = bx) w9 w10 := by rw [hw10]; exact (Kp.refl (· = bx) w9).setCell (p := ⟨bx, 1, none⟩) (fun _ => rfl) _
    have h19 := (h1.kp0 k9).kp k10 (fun g hg e => by have := hvlt g hg; omega) (fun j g hj hg e => hbbx j hj (by rw [hg, e]))
    have o10 : OwnB w10 (.slice aV lb cV) body := o9.kp k10 (fun g hg e => o9.notC hat9 (u := .int .i64 sq) (by simp) (not_isB_i64 _) (by rw [hg, e]))
    have ha10 := k10.at (k9.at ha (fun h => h)) (fun e => by omega)
    have co9 := ((k9.at ha (fun h => h)).cell 0).trans (show _ = some vo from rfl)
    have c90 := hat9.cell 0
    simp only [List.getElem?_cons_zero, List.getElem?_cons_succ] at c90
    obtain ⟨aO, cO, eO, _⟩ := h1.form
    have hll : l.length ≤ 1000000 := by
     have q1 := hte.1
     have q2 := hpre.length_le
     have q3 : (dueI y).length ≤ y.l.length := by unfold dueI; exact Nat.le_trans (List.length_filter_le _ _) (by simp)
     have q4 := HW0.out.1.len
     have q5 := HW0.out.1.size_bd
     simp at q2
     omega
    obtain ⟨w11, hw11⟩ : ∃ w11, w11 = w10.alloc (.cells #[.int .i64 sq, .slice aV lb cV] 90) := ⟨_, rfl⟩
    have k11 : Kp (fun _ => False) w10 w11 := by rw [hw11]; exact (Kp.refl _ w10).alloc _
    have n11 : At w11 w10.heap.size [.int .i64 sq, .slice aV lb cV] := by rw [hw11]; exact At.new w10 _ _
    have hbN : ∀ g, (Value.slice aV lb cV).ownBlock = some g → w2.heap.size ≤ g := fun g hg => by
     rcases b9 with e | e
     · rw [e] at hg; cases hg
     · rw [e] at hg; simp only [Option.some.injEq] at hg; omega
    have hs9 := k9.size
    have hs10 := k10.size
    have hs11 := k11.size
    obtain ⟨v12, w12, r12, o12, k12, b12⟩ := (h19.kp0 k11).app hll ⟨sq, .slice aV lb cV, body⟩ (o10.kp k11 (fun _ _ h => h)) hbN (by omega) n11
    obtain ⟨a12, c12, e12, _⟩ := o12.form
    obtain ⟨n12, hn12⟩ : ∃ n12, n12 = (l ++ [(⟨sq, .slice aV lb cV, body⟩ : Tp)]).length := ⟨_, rfl⟩
    rw [← hn12] at e12
    subst e12
    have ha12 := k12.at (k11.at ha10 (fun h => h)) (fun e => by have := h1.lo ov e; have := H2.out.2.2.1; omega)
    have co12 := (ha12.cell 0).trans (show _ = some vo from rfl)
    have f12 := ha12.frozen 0
    rw [eO] at co9 co12 r12
    obtain ⟨nO, hnO⟩ : ∃ nO, nO = l.length := ⟨_, rfl⟩
    rw [← hnO] at co9 co12 r12
    have hne : ¬ ov = bx := by omega
    have hne2 : ¬ bx = ov := by omega
    have hz10 : w10.heap.size = w9.heap.size := by rw [hw10]; simp [World.setCell]
    rw [hz10, hw11, hw10] at r12
    rw [hw10] at hw11
    have R9 := Lib.hid r9
    have R12 := Lib.hid r12
    have KX := Lib.hid (And.intro h1 (And.intro hte (And.intro ha (And.intro hk (And.intro ht (And.intro k9 (And.intro k10 (And.intro k11 (And.intro k12 o12)))))))))
    have HWW := Lib.hid (And.intro hw10 hw11)
    have KY := Lib.hid (And.intro ha12 (And.intro hvlt (And.intro (show ov < bx ∧ w2.heap.size ≤ bx from ⟨by omega, by omega⟩) (And.intro hsq (And.intro hbody hat)))))
    clear hat2 hat k2 hbxl ha02 hvo hvlt hWs hwo hbx hob hbbx hbody eB hrB hlb hsq hbl r9 o9 k9' b9 k9 hat9 hat10 k10 h19 o10 ha10 hll k11 n11 hbN hs9 hs10 hs11 r12 o12 k12 b12 ha12 h1 hte ha hk ht h10 ha0 hk0 hn12 hnO eO hw10 hw11 hz10
    gi_wp2_with (first | ((try simp only [Act.put, List.setIfInBounds_toArray, List.set_cons_succ, List.set_cons_zero]); refine wpListIn_append_run R9.out rfl rfl rfl rfl ?_) | ((try simp only [Act.put, List.setIfInBounds_toArray, List.set_cons_succ, List.set_cons_zero]); refine wpListIn_append_run R12.out rfl rfl rfl rfl ?_))
    obtain ⟨h1, hte, ha, hk, ht, k9, k10, k11, k12, o12⟩ := KX.out
    obtain ⟨ha12, hvlt, ⟨q1, q2⟩, hsq, hbody, hat⟩ := KY.out
    have ks : Kp (· = ov) w12 (w12.setCell ⟨ov, 0, none⟩ (.slice a12 n12 c12)) := (Kp.refl (· = ov) w12).setCell (p := ⟨ov, 0, none⟩) (fun _ => rfl) _
    have kT : Kp (fun j => j = bx ∨ j = ov ∨ vo.ownBlock = some j) W' (w12.setCell ⟨ov, 0, none⟩ (.slice a12 n12 c12)) :=
     ((((k9.mono (fun _ _ h => h.elim)).trans (k10.mono (fun _ _ h => .inl h))).trans (k11.mono (fun _ _ h => h.elim))).trans (k12.mono (fun _ _ h => .inr (.inr h)))).trans (ks.mono (fun _ _ h => .inr (.inl h)))
    have hw2 := H2.out.1.lt
    have hlo := h1.lo
    have hov := H2.out.2.2.1
    have hs0 := H2.out.2.2.2.2
    have hml : ∀ j, Mine b y j → j < ov := fun j hj => by have := HW0.out.1.lt hj; omega
    refine ⟨KeepsFrom.of_kp kT (fun j hj => ?_), ⟨_, _, o12.kpN ks (fun g e => by have e : g = ov := e; omega), hte.snoc i _ hsq hbody, ha12.set 0 _, hk.then kT (fun j hj e => ?_)⟩, ht.kp kT (fun j hj e => ?_)⟩
    · rcases hj with h | h | h
      · exact .inr ⟨_, h ▸ hat⟩
      · exact .inl (by omega)
      · exact .inr (h1.own.at' h)
    · rcases e with e | e | e
      · omega
      · exact .inl e
      · have := hlo j e; omega
    · have := hml j ((st_mine b y (pre ++ [i]) j).1 hj)
      rcases e with e | e | e
      · omega
      · omega
      · have := hlo j e; omega
end Go.Proofs.YtokembhfebnjpaaGreat
