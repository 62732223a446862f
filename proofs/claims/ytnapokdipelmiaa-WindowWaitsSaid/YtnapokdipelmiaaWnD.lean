/- Package window: the iterator over the packets that are due, each of which is sent. (Written by wip/win13d.py.) -/
import Derived.Test.YtnapokdipelmiaaWnC
import Derived.Test.YtnapokdipelmiaaWnP
import Derived.Test.YtnapokdipelmiaaRngB
namespace Go.Proofs.Ytnapokdipelmiaa
open Go.RowKit Flt
set_option linter.unusedVariables false
set_option linter.unusedSimpArgs false
attribute [local go_sem] Oper.semAt_some
/-- The packet as it is told. -/
def toldV (x : Wn) (i : Nat) : Array Value := #[.agg #[.int .i64 (pk x.l i).seq, (pk x.l i).B]]
set_option maxHeartbeats 4000000 in
set_option maxRecDepth 20000 in
theorem sent_gives (n : Nat) (hn : 1 ≤ n) (b : Nat) (x : Wn) (hts : ∀ i, i < x.l.length → (pk x.l i).times ≤ 4611686018427387900) :
    GivesB Fence.wide n Try.prog 26 #[.pointer (some ⟨b, 0, none⟩)] #[] (toldV x) (dueI x) (fun A A' => Kp (Mine b x) A A') (fun pre W => WinC W b (stW x pre)) (fun W => WinC W b (dueW x)) := by
  intro yl J Jx W hJ hJx hY h0 hT
  have hW := hT
  rw [stW_nil] at hW
  obtain ⟨a, c, hV, hc⟩ := hW.form
  have h2 := hW.c2
  rw [hV] at h2
  have hlen := hW.len
  have hsz := hW.size_bd
  have HX := Lib.hid hV
  have HW0 := Lib.hid hW
  obtain ⟨len, hle⟩ : ∃ len, len = x.l.length := ⟨_, rfl⟩
  rw [← hle] at h2
  have hl64 : len ≤ 64 := by omega
  have HL := Lib.hid hle
  have HTS := Lib.hid hts
  clear hW hV hc hlen hsz hle hts
  refine callsIn_of_wp Try.func26 rfl trivial ?_ rfl
  simp only [Try.ntmps26, List.size_toArray, List.length_cons, List.length_nil, Nat.reduceAdd, Nat.reduceSub, Array.replicate_succ, Array.replicate_zero, List.push_toArray, List.append_toArray, List.nil_append, List.cons_append]
  gi_wp2
  gi_loopw [11] (fun i wr => ∃ k : Nat, k ≤ len ∧ i = .int .i64 k ∧ WinC wr b (stW x (preI x k)) ∧ J (preI x k) wr) (fun i _ => len - (intOf i).toNat)
  case atStart => exact ⟨0, by omega, rfl, hT, h0⟩
  case round =>
    clear hT h0 h2
    obtain ⟨k, hk, rfl, hw, hj⟩ := hrel
    by_cases hlt : k < len
    · have hkl : k < x.l.length := by rw [← HL.out]; exact hlt
      have hs := st_same x (preI x k) hkl
      have hrow : Row wr (.slice a len c) ((stW x (preI x k)).l.map Pk.g) := by have := hw.row; rwa [show (stW x (preI x k)).V = x.V from rfl, HX.out, ← HL.out] at this
      obtain ⟨g0, o0, rfl, en, hc0⟩ := hrow.cell (i := k) (by rw [List.length_map, stW_l, stL_len]; exact hkl)
      clear en
      rw [gs_at (by rw [stW_l, stL_len]; exact hkl), stW_l, hs.1] at hc0
      have hpk := hw.pks k (by rw [stW_l, stL_len]; exact hkl)
      have hst := stL_at (pre := preI x k) hkl
      rw [if_neg (preI_not x k)] at hst
      rw [stW_l, hst] at hpk
      have hbd := hw.bd k (by rw [stW_l, stL_len]; exact hkl)
      rw [stW_l, hst] at hbd
      have hc5 := hw.c5
      rw [show (stW x (preI x k)).now = x.now from rfl] at hc5
      have hnb : x.now ≤ 2147483647 := hw.now_bd
      have i1 : (k : Int) < len := by omega
      have hatt : (pk x.l k).att ≤ x.now := hbd.1
      have hwt : (pk x.l k).wt ≤ 60 := hbd.2.1
      have CD := fun w' (kp : Kp (fun _ => False) wr w') => toKp (pdue_any (pk x.l k) x.now w' (kp.at hpk (fun h => h)) (by omega) hwt)
      obtain ⟨p, hp⟩ : ∃ p, p = pk x.l k := ⟨_, rfl⟩
      obtain ⟨now, hnow⟩ : ∃ now, now = x.now := ⟨_, rfl⟩
      have hdd : dueB p now = decide (dueA p now ≤ now) := rfl
      rw [← hp, ← hnow] at CD
      rw [← hp] at hpk hc0
      rw [← hnow] at hc5 hnb
      obtain ⟨da, hda⟩ : ∃ da, da = dueA p now := ⟨_, rfl⟩
      rw [← hda] at CD hdd
      have hdb : da ≤ 2147483707 := by rw [hda, hp]; unfold dueA; split <;> omega
      have HP := Lib.hid (And.intro hp (And.intro hnow (And.intro hpk (And.intro hw (And.intro hj hkl)))))
      have HD := Lib.hid hdd
      have CD := Lib.hid CD
      have ne1 := (hw.pkNe (i := k) (by rw [stW_l, stL_len]; exact hkl)).1
      rw [stW_l, hs.1, ← hp] at ne1
      clear hp hnow hpk hw hj hdd hrow hs hst hbd hda hkl hatt hwt
      by_cases hdue : da ≤ now
      · have i2 : ¬ (now : Int) < da := by omega
        have d1 : decide (now < da) = false := by simpa using hdue
        have d2 : decide ((now : Int) < da) = false := by simpa using hdue
        gi_wp2
        refine wpIn_wide.2 ?_
        refine region_L (S := fun w' => Kp (fun _ => False) wr w') [] rfl ?_
        have hSd : ∀ (w' : World) (n' : Nat), Kp (fun _ => False) wr w' → Kp (fun _ => False) wr (w'.drewN n') := fun w' n' h => h.drewN n'
        have hS0 : Kp (fun _ => False) wr wr.drew := (Kp.refl _ wr).drew
        refine anyL_world (fun w' => Kp (fun _ => False) wr w') hS0 ?_
        clear hS0
        intro x0 kx0
        refine anyL_takeF (i := 0) (d := 15) (v := (.pointer (some ⟨p.g, 0, none⟩))) rfl rfl (by kernel_rfl) (by kernel_rfl) (by kernel_rfl) (fun _ _ _ h => h) hSd (by kernel_rfl) (.inl (.inl ⟨rfl, fun w' hS => by first | rfl | go_simp⟩)) (fun _ => kx0) ?_
        try simp only [List.setIfInBounds_toArray, List.set_cons_succ, List.set_cons_zero]
        refine anyL_takeF (i := 1) (d := 16) (v := (.pointer (some ⟨b, 0, none⟩))) rfl rfl (by kernel_rfl) (by kernel_rfl) (by kernel_rfl) (fun _ _ _ h => h) hSd (by kernel_rfl) (.inl (.inl ⟨rfl, fun w' hS => by first | rfl | go_simp⟩)) (fun _ => kx0) ?_
        try simp only [List.setIfInBounds_toArray, List.set_cons_succ, List.set_cons_zero]
        refine anyL_takeF (i := 2) (d := 17) (v := (.pointer (some ⟨b, 0, none⟩))) rfl rfl (by kernel_rfl) (by kernel_rfl) (by kernel_rfl) (fun _ _ _ h => h) hSd (by kernel_rfl) (.inl (.inl ⟨rfl, fun w' hS => by first | rfl | go_simp⟩)) (fun _ => kx0) ?_
        try simp only [List.setIfInBounds_toArray, List.set_cons_succ, List.set_cons_zero]
        refine anyL_takeF (i := 3) (d := 18) (v := (.pointer (some ⟨b, 5, none⟩))) rfl rfl (by kernel_rfl) (by kernel_rfl) (by kernel_rfl) (fun _ _ _ h => h) hSd (by kernel_rfl) (.inl (.inl ⟨rfl, fun w' hS => by first | rfl | go_simp⟩)) (fun _ => kx0) ?_
        try simp only [List.setIfInBounds_toArray, List.set_cons_succ, List.set_cons_zero]
        refine anyL_takeD (i := 4) (d := 19) (v := (.int .i64 (now : Nat))) rfl rfl (by kernel_rfl) (by kernel_rfl) (by kernel_rfl) (fun _ _ _ h => h) hSd (by kernel_rfl) (.inl (.inl ⟨rfl, fun w' hS => by have h0 := hS.cell hc5 (fun h => h); go_simp⟩)) kx0 ?_
        try simp only [List.setIfInBounds_toArray, List.set_cons_succ, List.set_cons_zero]
        refine anyL_takeF (i := 6) (d := 21) (v := (.pointer (some ⟨b, 0, none⟩))) rfl rfl (by kernel_rfl) (by kernel_rfl) (by kernel_rfl) (fun _ _ _ h => h) hSd (by kernel_rfl) (.inl (.inl ⟨rfl, fun w' hS => by first | rfl | go_simp⟩)) (fun _ => kx0) ?_
        try simp only [List.setIfInBounds_toArray, List.set_cons_succ, List.set_cons_zero]
        refine anyL_takeF (i := 7) (d := 22) (v := (.pointer (some ⟨b, 0, none⟩))) rfl rfl (by kernel_rfl) (by kernel_rfl) (by kernel_rfl) (fun _ _ _ h => h) hSd (by kernel_rfl) (.inl (.inl ⟨rfl, fun w' hS => by first | rfl | go_simp⟩)) (fun _ => kx0) ?_
        try simp only [List.setIfInBounds_toArray, List.set_cons_succ, List.set_cons_zero]
        refine anyL_takeF (i := 8) (d := 23) (v := (.pointer (some ⟨b, 5, none⟩))) rfl rfl (by kernel_rfl) (by kernel_rfl) (by kernel_rfl) (fun _ _ _ h => h) hSd (by kernel_rfl) (.inl (.inl ⟨rfl, fun w' hS => by first | rfl | go_simp⟩)) (fun _ => kx0) ?_
        try simp only [List.setIfInBounds_toArray, List.set_cons_succ, List.set_cons_zero]
        refine anyL_takeD (i := 9) (d := 24) (v := (.int .i64 (now : Nat))) rfl rfl (by kernel_rfl) (by kernel_rfl) (by kernel_rfl) (fun _ _ _ h => h) hSd (by kernel_rfl) (.inl (.inl ⟨rfl, fun w' hS => by have h0 := hS.cell hc5 (fun h => h); go_simp⟩)) kx0 ?_
        try simp only [List.setIfInBounds_toArray, List.set_cons_succ, List.set_cons_zero]
        refine anyL_all (rs := [5]) (by kernel_rfl) (by simp) ?_
        intro n5 i hi
        simp only [List.mem_cons, List.not_mem_nil, or_false] at hi
        obtain rfl := hi
        refine wpOp_of rfl rfl ?_
        go_simp
        refine Calls.mono (CD.out (x0.drewN n5) (kx0.drewN n5)) ?_
        rintro e x1 ⟨rfl, j⟩
        try dsimp only
        have kx1 : Kp (fun _ => False) wr x1 := (kx0.drewN n5).trans j
        refine ⟨fun _ => kx1, ?_⟩
        try simp only [List.setIfInBounds_toArray, List.set_cons_succ, List.set_cons_zero]
        refine anyL_takeF (i := 10) (d := 25) (v := (.bool false)) rfl rfl (by kernel_rfl) (by kernel_rfl) (by kernel_rfl) (fun _ _ _ h => h) hSd (by kernel_rfl) (.inl (.inl ⟨rfl, fun w' hS => by go_simp⟩)) (fun _ => kx1) ?_
        try simp only [List.setIfInBounds_toArray, List.set_cons_succ, List.set_cons_zero]
        refine anyL_done (by kernel_rfl) (fun nn => ?_) _
        have kw3 := kx1.drewN nn
        generalize x1.drewN nn = w3 at *
        have K3 := Lib.hid kw3
        have hp3 : At w3 p.g (pkC p) := kw3.at HP.out.2.2.1 (fun h => h)
        have hb3 : WinC w3 b (stW x (preI x k)) := HP.out.2.2.2.1.kp0 kw3
        have c2 := hp3.cell 2
        have f2 := hp3.frozen 2
        simp only [pkC, List.getElem?_cons_zero, List.getElem?_cons_succ] at c2
        obtain ⟨ts, hts⟩ : ∃ ts, ts = p.times := ⟨_, rfl⟩
        have htb : ts ≤ 4611686018427387900 := by rw [hts, HP.out.1]; exact HTS.out k HP.out.2.2.2.2.2
        rw [← hts] at c2
        have HT3 := Lib.hid (And.intro hts (And.intro hp3 hb3))
        clear kw3 hSd hts hp3 hb3 hc5 CD
        gi_wp2
        obtain ⟨w4, hw4⟩ : ∃ w4, w4 = w3.setCell ⟨p.g, 2, none⟩ (.int .i64 ((ts : Int) + 1)) := ⟨_, rfl⟩
        rw [← hw4]
        have a4 := HT3.out.2.1.set 2 (.int .i64 ((ts : Int) + 1))
        have k4 : Kp (· = p.g) w3 w4 := by rw [hw4]; exact (Kp.refl (· = p.g) w3).setCell (p := ⟨p.g, 2, none⟩) (fun _ => rfl) _
        rw [← hw4] at a4
        simp only [pkC, List.set_cons_succ, List.set_cons_zero] at a4
        have bne : ¬ b = p.g := fun e => ne1 e.symm
        have c50 : w4.cell? ⟨b, 5, none⟩ = some (.int .i64 (now : Nat)) := by rw [HP.out.2.1]; exact k4.cell HT3.out.2.2.c5 bne
        have c52 := a4.cell 2
        simp only [List.getElem?_cons_zero, List.getElem?_cons_succ] at c52
        have H4 := Lib.hid (And.intro c50 (And.intro c52 a4))
        obtain ⟨wt, hwt⟩ : ∃ wt, wt = wk (waitN x.m x.s) (ts + 1) := ⟨_, rfl⟩
        have CW := Lib.hid (show ∀ w' (kp : Kp (fun _ => False) w4 w'), Calls Try.prog 29 #[.pointer (some ⟨b, 0, none⟩), .int .i64 ((ts : Int) + 1)] w' fun e w'' => e = .returned (.int .i64 (wt : Nat)) ∧ Kp (fun _ => False) w' w'' from fun w' kp => by
          have := toKp (wwait_any b x.m x.s (ts + 1) w' (kp.cell (k4.cell HT3.out.2.2.c3 bne) (fun h => h)) (kp.cell (k4.cell HT3.out.2.2.c4 bne) (fun h => h)) (by omega) (by omega))
          rw [← hwt] at this
          exact this)
        have HWT := Lib.hid (And.intro hwt k4)
        clear hw4 a4 k4 c50 c52 hwt c2 f2
        refine wpIn_wide.2 ?_
        refine region_L (S := fun w' => Kp (fun _ => False) w4 w') [14, 17] rfl ?_
        have hSd : ∀ (w' : World) (n' : Nat), Kp (fun _ => False) w4 w' → Kp (fun _ => False) w4 (w'.drewN n') := fun w' n' h => h.drewN n'
        have hS0 : Kp (fun _ => False) w4 w4.drew := (Kp.refl _ w4).drew
        refine anyL_world (fun w' => Kp (fun _ => False) w4 w') hS0 ?_
        clear hS0
        intro x0 kx0
        refine anyL_takeF (i := 0) (d := 33) (v := (.pointer (some ⟨p.g, 0, none⟩))) rfl rfl (by kernel_rfl) (by kernel_rfl) (by kernel_rfl) (fun _ _ _ h => h) hSd (by kernel_rfl) (.inl (.inl ⟨rfl, fun w' hS => by first | rfl | go_simp⟩)) (fun _ => kx0) ?_
        try simp only [List.setIfInBounds_toArray, List.set_cons_succ, List.set_cons_zero]
        refine anyL_takeF (i := 1) (d := 34) (v := (.pointer (some ⟨p.g, 0, none⟩))) rfl rfl (by kernel_rfl) (by kernel_rfl) (by kernel_rfl) (fun _ _ _ h => h) hSd (by kernel_rfl) (.inl (.inl ⟨rfl, fun w' hS => by first | rfl | go_simp⟩)) (fun _ => kx0) ?_
        try simp only [List.setIfInBounds_toArray, List.set_cons_succ, List.set_cons_zero]
        refine anyL_takeF (i := 2) (d := 35) (v := (.pointer (some ⟨b, 0, none⟩))) rfl rfl (by kernel_rfl) (by kernel_rfl) (by kernel_rfl) (fun _ _ _ h => h) hSd (by kernel_rfl) (.inl (.inl ⟨rfl, fun w' hS => by first | rfl | go_simp⟩)) (fun _ => kx0) ?_
        try simp only [List.setIfInBounds_toArray, List.set_cons_succ, List.set_cons_zero]
        refine anyL_takeF (i := 3) (d := 36) (v := (.pointer (some ⟨b, 0, none⟩))) rfl rfl (by kernel_rfl) (by kernel_rfl) (by kernel_rfl) (fun _ _ _ h => h) hSd (by kernel_rfl) (.inl (.inl ⟨rfl, fun w' hS => by first | rfl | go_simp⟩)) (fun _ => kx0) ?_
        try simp only [List.setIfInBounds_toArray, List.set_cons_succ, List.set_cons_zero]
        refine anyL_takeF (i := 4) (d := 37) (v := (.pointer (some ⟨b, 5, none⟩))) rfl rfl (by kernel_rfl) (by kernel_rfl) (by kernel_rfl) (fun _ _ _ h => h) hSd (by kernel_rfl) (.inl (.inl ⟨rfl, fun w' hS => by first | rfl | go_simp⟩)) (fun _ => kx0) ?_
        try simp only [List.setIfInBounds_toArray, List.set_cons_succ, List.set_cons_zero]
        refine anyL_takeD (i := 5) (d := 38) (v := (.int .i64 (now : Nat))) rfl rfl (by kernel_rfl) (by kernel_rfl) (by kernel_rfl) (fun _ _ _ h => h) hSd (by kernel_rfl) (.inl (.inl ⟨rfl, fun w' hS => by have h0 := hS.cell H4.out.1 (fun h => h); go_simp⟩)) kx0 ?_
        try simp only [List.setIfInBounds_toArray, List.set_cons_succ, List.set_cons_zero]
        refine anyL_takeF (i := 6) (d := 39) (v := (.pointer (some ⟨b, 0, none⟩))) rfl rfl (by kernel_rfl) (by kernel_rfl) (by kernel_rfl) (fun _ _ _ h => h) hSd (by kernel_rfl) (.inl (.inl ⟨rfl, fun w' hS => by first | rfl | go_simp⟩)) (fun _ => kx0) ?_
        try simp only [List.setIfInBounds_toArray, List.set_cons_succ, List.set_cons_zero]
        refine anyL_takeF (i := 7) (d := 40) (v := (.pointer (some ⟨p.g, 0, none⟩))) rfl rfl (by kernel_rfl) (by kernel_rfl) (by kernel_rfl) (fun _ _ _ h => h) hSd (by kernel_rfl) (.inl (.inl ⟨rfl, fun w' hS => by first | rfl | go_simp⟩)) (fun _ => kx0) ?_
        try simp only [List.setIfInBounds_toArray, List.set_cons_succ, List.set_cons_zero]
        refine anyL_takeF (i := 8) (d := 41) (v := (.pointer (some ⟨p.g, 0, none⟩))) rfl rfl (by kernel_rfl) (by kernel_rfl) (by kernel_rfl) (fun _ _ _ h => h) hSd (by kernel_rfl) (.inl (.inl ⟨rfl, fun w' hS => by first | rfl | go_simp⟩)) (fun _ => kx0) ?_
        try simp only [List.setIfInBounds_toArray, List.set_cons_succ, List.set_cons_zero]
        refine anyL_takeF (i := 9) (d := 42) (v := (.pointer (some ⟨p.g, 2, none⟩))) rfl rfl (by kernel_rfl) (by kernel_rfl) (by kernel_rfl) (fun _ _ _ h => h) hSd (by kernel_rfl) (.inl (.inl ⟨rfl, fun w' hS => by first | rfl | go_simp⟩)) (fun _ => kx0) ?_
        try simp only [List.setIfInBounds_toArray, List.set_cons_succ, List.set_cons_zero]
        refine anyL_takeD (i := 10) (d := 43) (v := (.int .i64 ((ts : Int) + 1))) rfl rfl (by kernel_rfl) (by kernel_rfl) (by kernel_rfl) (fun _ _ _ h => h) hSd (by kernel_rfl) (.inl (.inl ⟨rfl, fun w' hS => by have h0 := hS.cell H4.out.2.1 (fun h => h); go_simp⟩)) kx0 ?_
        try simp only [List.setIfInBounds_toArray, List.set_cons_succ, List.set_cons_zero]
        refine anyL_all (rs := [11]) (by kernel_rfl) (by simp) ?_
        intro n11 i hi
        simp only [List.mem_cons, List.not_mem_nil, or_false] at hi
        obtain rfl := hi
        refine wpOp_of rfl rfl ?_
        go_simp
        refine Calls.mono (CW.out (x0.drewN n11) (kx0.drewN n11)) ?_
        rintro e x1 ⟨rfl, j⟩
        try dsimp only
        have kx1 : Kp (fun _ => False) w4 x1 := (kx0.drewN n11).trans j
        refine ⟨fun _ => kx1, ?_⟩
        try simp only [List.setIfInBounds_toArray, List.set_cons_succ, List.set_cons_zero]
        refine anyL_takeF (i := 12) (d := 45) (v := (.pointer (some ⟨p.g, 0, none⟩))) rfl rfl (by kernel_rfl) (by kernel_rfl) (by kernel_rfl) (fun _ _ _ h => h) hSd (by kernel_rfl) (.inl (.inl ⟨rfl, fun w' hS => by first | rfl | go_simp⟩)) (fun _ => kx1) ?_
        try simp only [List.setIfInBounds_toArray, List.set_cons_succ, List.set_cons_zero]
        refine anyL_takeF (i := 13) (d := 46) (v := (.pointer (some ⟨p.g, 3, none⟩))) rfl rfl (by kernel_rfl) (by kernel_rfl) (by kernel_rfl) (fun _ _ _ h => h) hSd (by kernel_rfl) (.inl (.inl ⟨rfl, fun w' hS => by first | rfl | go_simp⟩)) (fun _ => kx1) ?_
        try simp only [List.setIfInBounds_toArray, List.set_cons_succ, List.set_cons_zero]
        refine anyL_all (rs := [14]) (by kernel_rfl) (by simp) ?_
        intro n14 i hi
        simp only [List.mem_cons, List.not_mem_nil, or_false] at hi
        obtain rfl := hi
        have a5 := (kx1.drewN n14).at H4.out.2.2 (fun h => h)
        have c5 := a5.cell 3
        have f5 := a5.frozen 3
        simp only [pkC, List.getElem?_cons_zero, List.getElem?_cons_succ] at c5
        have a6 := a5.set 3 (.int .i64 (now : Nat))
        have k6 : Kp (· = p.g) w4 ((x1.drewN n14).setCell ⟨p.g, 3, none⟩ (.int .i64 (now : Nat))) := ((kx1.drewN n14).mono (S' := (· = p.g)) (fun _ _ h => h.elim)).setCell (p := ⟨p.g, 3, none⟩) (fun _ => rfl) _
        refine wpOp_of rfl rfl ?_
        go_simp
        refine ⟨fun h => Bool.noConfusion (show false = true from h), ?_⟩
        try simp only [List.setIfInBounds_toArray, List.set_cons_succ, List.set_cons_zero]
        obtain ⟨y1, hy1⟩ : ∃ y1, y1 = (x1.drewN n14).setCell ⟨p.g, 3, none⟩ (.int .i64 (now : Nat)) := ⟨_, rfl⟩
        rw [← hy1] at a6 k6 ⊢
        clear hy1 c5 f5 a5
        refine anyL_takeF (i := 15) (d := 47) (v := (.pointer (some ⟨p.g, 0, none⟩))) rfl rfl (by kernel_rfl) (by kernel_rfl) (by kernel_rfl) (fun _ _ _ h => h) hSd (by kernel_rfl) (.inl (.inl ⟨rfl, fun w' hS => by first | rfl | go_simp⟩)) (fun h => Bool.noConfusion (show false = true from h)) ?_
        try simp only [List.setIfInBounds_toArray, List.set_cons_succ, List.set_cons_zero]
        refine anyL_takeF (i := 16) (d := 48) (v := (.pointer (some ⟨p.g, 4, none⟩))) rfl rfl (by kernel_rfl) (by kernel_rfl) (by kernel_rfl) (fun _ _ _ h => h) hSd (by kernel_rfl) (.inl (.inl ⟨rfl, fun w' hS => by first | rfl | go_simp⟩)) (fun h => Bool.noConfusion (show false = true from h)) ?_
        try simp only [List.setIfInBounds_toArray, List.set_cons_succ, List.set_cons_zero]
        refine anyL_all (rs := [17]) (by kernel_rfl) (by simp) ?_
        intro n17 i hi
        simp only [List.mem_cons, List.not_mem_nil, or_false] at hi
        obtain rfl := hi
        have a7 := a6.drewN n17
        have c7 := a7.cell 4
        have f7 := a7.frozen 4
        simp only [pkC, List.set_cons_succ, List.set_cons_zero, List.getElem?_cons_zero, List.getElem?_cons_succ] at c7
        have a8 := a7.set 4 (.int .i64 (wt : Nat))
        have k8 : Kp (· = p.g) w4 ((y1.drewN n17).setCell ⟨p.g, 4, none⟩ (.int .i64 (wt : Nat))) := (k6.drewN n17).setCell (p := ⟨p.g, 4, none⟩) (fun _ => rfl) _
        refine wpOp_of rfl rfl ?_
        go_simp
        refine ⟨fun h => Bool.noConfusion (show false = true from h), anyL_done (by kernel_rfl) (fun nn => ?_) _⟩
        have a9 := a8.drewN nn
        have k9 := k8.drewN nn
        generalize ((y1.drewN n17).setCell ⟨p.g, 4, none⟩ (.int .i64 (wt : Nat))).drewN nn = w5 at *
        simp only [pkC, List.set_cons_succ, List.set_cons_zero] at a9
        have H9 := Lib.hid (And.intro a9 k9)
        clear a6 a7 a8 a9 k6 k8 k9 c7 f7 kx0 kx1 j hSd
        have c90 := H9.out.1.cell 0
        have c91 := H9.out.1.cell 1
        simp only [List.getElem?_cons_zero, List.getElem?_cons_succ] at c90 c91
        have k35 : Kp (· = p.g) w3 w5 := HWT.out.2.trans H9.out.2
        have hkl : k < x.l.length := HP.out.2.2.2.2.2
        have hs := st_same x (preI x k) hkl
        have hst := stL_at (pre := preI x k) hkl
        rw [if_neg (preI_not x k)] at hst
        have hatP : At w5 (sentP x p).g (pkC (sentP x p)) := by
          have := H9.out.1
          rw [HWT.out.1, HT3.out.1, HP.out.2.1] at this
          exact this
        have hWs := HT3.out.2.2.setPk (i := k) (p := sentP x p) (by rw [stW_l, stL_len]; exact hkl) (by rw [stW_l, hs.1, HP.out.1]; rfl) (by rw [stW_l, hs.2.1, HP.out.1]; rfl) (by rw [stW_l, hs.2.2.1, HP.out.1]; rfl) (by rw [stW_l, hs.2.2.2, HP.out.1]; rfl) hatP k35 ⟨Nat.le_refl _, (wk_bd (waitN_bd x.m x.s).1).2, fun _ => (wk_bd (waitN_bd x.m x.s).1).1⟩
        have e1 : ({ stW x (preI x k) with l := (stW x (preI x k)).l.set k (sentP x p) } : Wn) = stW x (preI x k ++ [k]) := by unfold stW; rw [← stL_snoc hkl, HP.out.1]
        rw [e1] at hWs
        have hdt : dueB (pk x.l k) x.now = true := by rw [← HP.out.1, ← HP.out.2.1, HD.out]; exact decide_eq_true hdue
        have e2 := preI_yes hdt
        have hpre : preI x k ++ [k] <+: dueI x := by rw [← e2]; exact dueI_pre x (by omega)
        have hj5 := hJ _ _ _ HP.out.2.2.2.2.1 ((K3.out.mono (S' := Mine b x) (fun _ _ h => h.elim)).trans (k35.mono (fun i _ e => (st_mine b x (preI x k) i).1 (.inr (.inr ⟨k, by rw [stW_l, stL_len]; exact hkl, .inl (by rw [stW_l, hs.1, ← HP.out.1]; exact e.symm)⟩)))))
        obtain ⟨fn, tmps, assign, body, hy, hR⟩ := hY (preI x k) k w5 hpre hj5 hWs
        unfold toldV at hy
        rw [← HP.out.1] at hy
        have HE := Lib.hid (And.intro e2 hpre)
        clear hs hst hatP hWs e1 hdt e2 hpre hj5 hkl k35 hY
        gi_wp2
        refine hR.mono ?_
        rintro e w6 (⟨rfl, hj6, ht6⟩ | ⟨rfl, hjx6⟩)
        · gi_wp2
          go_roundw
          case rel => exact ⟨k + 1, by omega, by go_num, by rw [HE.out.1]; exact ht6, by rw [HE.out.1]; exact hj6⟩
          case measure => simp [intOf]; omega
        · gi_wp2
          refine bodyPost_ret (results_none rfl _ _ _) rfl ?_
          exact ⟨⟨_, rfl⟩, .inr ⟨preI x k ++ [k], HE.out.2, hjx6⟩⟩
      · have i2 : (now : Int) < da := by omega
        have d1 : decide (now < da) = true := by simpa using hdue
        have d2 : decide ((now : Int) < da) = true := by simpa using hdue
        gi_wp2
        refine wpIn_wide.2 ?_
        refine region_L (S := fun w' => Kp (fun _ => False) wr w') [] rfl ?_
        have hSd : ∀ (w' : World) (n' : Nat), Kp (fun _ => False) wr w' → Kp (fun _ => False) wr (w'.drewN n') := fun w' n' h => h.drewN n'
        have hS0 : Kp (fun _ => False) wr wr.drew := (Kp.refl _ wr).drew
        refine anyL_world (fun w' => Kp (fun _ => False) wr w') hS0 ?_
        clear hS0
        intro x0 kx0
        refine anyL_takeF (i := 0) (d := 15) (v := (.pointer (some ⟨p.g, 0, none⟩))) rfl rfl (by kernel_rfl) (by kernel_rfl) (by kernel_rfl) (fun _ _ _ h => h) hSd (by kernel_rfl) (.inl (.inl ⟨rfl, fun w' hS => by first | rfl | go_simp⟩)) (fun _ => kx0) ?_
        try simp only [List.setIfInBounds_toArray, List.set_cons_succ, List.set_cons_zero]
        refine anyL_takeF (i := 1) (d := 16) (v := (.pointer (some ⟨b, 0, none⟩))) rfl rfl (by kernel_rfl) (by kernel_rfl) (by kernel_rfl) (fun _ _ _ h => h) hSd (by kernel_rfl) (.inl (.inl ⟨rfl, fun w' hS => by first | rfl | go_simp⟩)) (fun _ => kx0) ?_
        try simp only [List.setIfInBounds_toArray, List.set_cons_succ, List.set_cons_zero]
        refine anyL_takeF (i := 2) (d := 17) (v := (.pointer (some ⟨b, 0, none⟩))) rfl rfl (by kernel_rfl) (by kernel_rfl) (by kernel_rfl) (fun _ _ _ h => h) hSd (by kernel_rfl) (.inl (.inl ⟨rfl, fun w' hS => by first | rfl | go_simp⟩)) (fun _ => kx0) ?_
        try simp only [List.setIfInBounds_toArray, List.set_cons_succ, List.set_cons_zero]
        refine anyL_takeF (i := 3) (d := 18) (v := (.pointer (some ⟨b, 5, none⟩))) rfl rfl (by kernel_rfl) (by kernel_rfl) (by kernel_rfl) (fun _ _ _ h => h) hSd (by kernel_rfl) (.inl (.inl ⟨rfl, fun w' hS => by first | rfl | go_simp⟩)) (fun _ => kx0) ?_
        try simp only [List.setIfInBounds_toArray, List.set_cons_succ, List.set_cons_zero]
        refine anyL_takeD (i := 4) (d := 19) (v := (.int .i64 (now : Nat))) rfl rfl (by kernel_rfl) (by kernel_rfl) (by kernel_rfl) (fun _ _ _ h => h) hSd (by kernel_rfl) (.inl (.inl ⟨rfl, fun w' hS => by have h0 := hS.cell hc5 (fun h => h); go_simp⟩)) kx0 ?_
        try simp only [List.setIfInBounds_toArray, List.set_cons_succ, List.set_cons_zero]
        refine anyL_takeF (i := 6) (d := 21) (v := (.pointer (some ⟨b, 0, none⟩))) rfl rfl (by kernel_rfl) (by kernel_rfl) (by kernel_rfl) (fun _ _ _ h => h) hSd (by kernel_rfl) (.inl (.inl ⟨rfl, fun w' hS => by first | rfl | go_simp⟩)) (fun _ => kx0) ?_
        try simp only [List.setIfInBounds_toArray, List.set_cons_succ, List.set_cons_zero]
        refine anyL_takeF (i := 7) (d := 22) (v := (.pointer (some ⟨b, 0, none⟩))) rfl rfl (by kernel_rfl) (by kernel_rfl) (by kernel_rfl) (fun _ _ _ h => h) hSd (by kernel_rfl) (.inl (.inl ⟨rfl, fun w' hS => by first | rfl | go_simp⟩)) (fun _ => kx0) ?_
        try simp only [List.setIfInBounds_toArray, List.set_cons_succ, List.set_cons_zero]
        refine anyL_takeF (i := 8) (d := 23) (v := (.pointer (some ⟨b, 5, none⟩))) rfl rfl (by kernel_rfl) (by kernel_rfl) (by kernel_rfl) (fun _ _ _ h => h) hSd (by kernel_rfl) (.inl (.inl ⟨rfl, fun w' hS => by first | rfl | go_simp⟩)) (fun _ => kx0) ?_
        try simp only [List.setIfInBounds_toArray, List.set_cons_succ, List.set_cons_zero]
        refine anyL_takeD (i := 9) (d := 24) (v := (.int .i64 (now : Nat))) rfl rfl (by kernel_rfl) (by kernel_rfl) (by kernel_rfl) (fun _ _ _ h => h) hSd (by kernel_rfl) (.inl (.inl ⟨rfl, fun w' hS => by have h0 := hS.cell hc5 (fun h => h); go_simp⟩)) kx0 ?_
        try simp only [List.setIfInBounds_toArray, List.set_cons_succ, List.set_cons_zero]
        refine anyL_all (rs := [5]) (by kernel_rfl) (by simp) ?_
        intro n5 i hi
        simp only [List.mem_cons, List.not_mem_nil, or_false] at hi
        obtain rfl := hi
        refine wpOp_of rfl rfl ?_
        go_simp
        refine Calls.mono (CD.out (x0.drewN n5) (kx0.drewN n5)) ?_
        rintro e x1 ⟨rfl, j⟩
        try dsimp only
        have kx1 : Kp (fun _ => False) wr x1 := (kx0.drewN n5).trans j
        refine ⟨fun _ => kx1, ?_⟩
        try simp only [List.setIfInBounds_toArray, List.set_cons_succ, List.set_cons_zero]
        refine anyL_takeF (i := 10) (d := 25) (v := (.bool true)) rfl rfl (by kernel_rfl) (by kernel_rfl) (by kernel_rfl) (fun _ _ _ h => h) hSd (by kernel_rfl) (.inl (.inl ⟨rfl, fun w' hS => by go_simp⟩)) (fun _ => kx1) ?_
        try simp only [List.setIfInBounds_toArray, List.set_cons_succ, List.set_cons_zero]
        refine anyL_done (by kernel_rfl) (fun nn => ?_) _
        have kw3 := kx1.drewN nn
        generalize x1.drewN nn = w3 at *
        have K3 := Lib.hid kw3
        clear kw3 hSd
        gi_wp2
        go_roundw
        case rel =>
          obtain ⟨q1, q2, q3, q4, q5, q6⟩ := HP.out
          have e : preI x (k + 1) = preI x k := preI_no (by rw [← q1, ← q2, HD.out]; exact decide_eq_false hdue)
          exact ⟨k + 1, by omega, by go_num, by rw [e]; exact q4.kp0 K3.out, by rw [e]; exact hJ _ _ _ q5 (K3.out.mono (fun _ _ h => h.elim))⟩
        case measure => simp [intOf]; omega
    · obtain rfl : k = len := by omega
      have e : preI x k = dueI x := by rw [HL.out, preI_all]
      rw [e] at hw hj
      clear hY e
      gi_wp2
      go_end0
      exact ⟨⟨_, rfl⟩, .inl ⟨hj, hw⟩⟩
end Go.Proofs.Ytnapokdipelmiaa
