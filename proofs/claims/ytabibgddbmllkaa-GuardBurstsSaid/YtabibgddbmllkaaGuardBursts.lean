/- The walk of GuardBursts: it returns true, whatever comes in. No condition. -/
import Derived.Test.YtabibgddbmllkaaGuardKnown
import Derived.Test.YtabibgddbmllkaaGrdX
import Derived.Test.YtabibgddbmllkaaOpen
import Derived.Test.YtabibgddbmllkaaPick
import Derived.Outline
namespace Go.Proofs.Ytabibgddbmllkaa
open Go.RowKit
set_option linter.unusedVariables false
theorem bursts_long (a : Option Addr) (cap len : Nat) (n1 n2 : Int) (w : World) (hl : 1000 < len) (hl2 : len ≤ 140737488351232) :
    Calls Try.prog 6 #[.slice a len cap, .int .i64 n1, .int .u32 n2] w fun e w' => e = .returned (.bool true) ∧ Below w.heap.size w w' := by
  go_enter Try.func6, Try.ntmps6
  go_wp2_with fail
  refine (known_any _).mono ?_
  rintro e w1 ⟨rfl, hk⟩
  go_wp2
  go_ret
  exact ⟨rfl, hk.below (fun _ _ h => h)⟩
theorem OwnB.head {w : World} {v : Value} {l : List Int} (h : OwnB w v l) (h0 : 0 < l.length) : ∃ g c, v = .slice (some ⟨g, 0, none⟩) l.length c ∧ l.length ≤ c ∧ c ≤ maxLen ∧ (∀ i, w.frozen? ⟨g, i, none⟩ = false) ∧ ∀ i, i < l.length → w.cell? ⟨g, i, none⟩ = some (.int .u8 (l.getD i 0)) := by
  rcases h.own.2 with ⟨_, hz⟩ | ⟨g, cap, sp, rfl, hat, _, hle, hcm⟩
  · omega
  · refine ⟨g, cap, rfl, hle, hcm, fun i => hat.frozen i, fun i hi => ?_⟩
    rw [hat.cell, List.getElem?_append_left (by simpa using hi), List.getElem?_map, List.getElem?_eq_getElem hi, List.getD_eq_getElem?_getD, List.getElem?_eq_getElem hi]; rfl
theorem OwnB.rdb {w : World} {a : Option Addr} {n c : Nat} {l : List Int} (h : OwnB w (.slice a n c) l) : RdB w a l := by
  obtain ⟨a', c', e, hr, _⟩ := h.form
  simp only [Value.slice.injEq] at e
  obtain ⟨rfl, _, rfl⟩ := e
  exact hr
theorem OwnB.set {w : World} {g n c : Nat} {l : List Int} (h : OwnB w (.slice (some ⟨g, 0, none⟩) n c) l) {i : Nat} (hi : i < l.length) {x : Int} (hx : 0 ≤ x ∧ x ≤ 255) : OwnB (w.setCell ⟨g, i, none⟩ (.int .u8 x)) (.slice (some ⟨g, 0, none⟩) n c) (l.set i x) := by
  rcases h.own.2 with ⟨e, _⟩ | ⟨g', cap, sp, e, hat, hsp, hle, hcm⟩
  · cases e
  · simp only [Value.slice.injEq, Option.some.injEq, Addr.mk.injEq, and_true] at e
    obtain ⟨rfl, e2, rfl⟩ := e
    have hs := hat.set i (.int .u8 x)
    have e1 : (l.map (Value.int .u8) ++ sp).set i (.int .u8 x) = (l.set i x).map (Value.int .u8) ++ sp := by
      rw [List.set_append_left _ _ (by simpa using hi), List.map_set]
    rw [e1] at hs
    refine ⟨⟨by simp, .inr ⟨g, c, sp, by rw [e2, List.length_set], hs, by rw [List.length_set]; exact hsp, by rw [List.length_set]; exact hle, hcm⟩⟩, fun g' hg => ?_, fun y hy => ?_, by rw [List.length_set]; exact h.len⟩
    · simp only [Value.ownBlock, Option.some.injEq] at hg
      subst hg
      obtain ⟨cs, hcs, hp⟩ := h.blk g rfl
      have e3 := hat.inj hcs
      refine ⟨_, hs, fun u hu => ?_⟩
      rw [← e1] at hu
      rcases List.mem_or_eq_of_mem_set hu with hu | rfl
      · exact hp u (e3 ▸ hu)
      · exact ⟨x, rfl, hx⟩
    · rcases List.mem_or_eq_of_mem_set hy with hy | rfl
      · exact h.byt y hy
      · exact hx
theorem u8_bit (x t : Nat) (hx : x < 256) (ht : t < 8) : bits .xor .u8 (x : Int) (IntKind.u8.wrap (2 ^ t)) = ((x ^^^ 2 ^ t : Nat) : Int) ∧ x ^^^ 2 ^ t < 256 := by
  have h2 : 2 ^ t < 256 := Nat.pow_lt_pow_right (a := 2) (n := 8) (by omega) ht
  have e : IntKind.u8.wrap (2 ^ t) = ((2 ^ t : Nat) : Int) := by
    rw [IntKind.wrap_u8', Int.natCast_pow]
    have h3 : ((2 : Int) ^ t) < 256 := by
      have := Int.ofNat_lt.2 h2
      rwa [Int.natCast_pow] at this
    have h4 : (0 : Int) ≤ 2 ^ t := by
      have := Int.natCast_nonneg (2 ^ t)
      rwa [Int.natCast_pow] at this
    exact Int.emod_eq_of_lt h4 h3
  rw [e]
  exact ⟨u8_xor_nat x (2 ^ t) hx h2, Nat.xor_lt_two_pow (n := 8) hx h2⟩
set_option maxRecDepth 20000 in
set_option maxHeartbeats 2000000 in
theorem bursts_main (a : Option Addr) (cap : Nat) (n1 : Int) (mask : Nat) (l : List Int) (w : World) (h : RdB w a l) (h1 : -9223372036854775808 ≤ n1 ∧ n1 ≤ 9223372036854775807) (hmask : mask < M32) (hl : l.length ≤ 1000) (hcap : l.length ≤ cap) :
    Calls Try.prog 6 #[.slice a l.length cap, .int .i64 n1, .int .u32 mask] w fun e w' => e = .returned (.bool true) ∧ Below w.heap.size w w' := by
  obtain ⟨p, hp, hpl⟩ : ∃ p : Nat, n1 % (8 * ((l.length : Int) + 4) - 31) = p ∧ p < 8 * (l.length + 4) - 31 := by
    have e1 := Int.emod_nonneg n1 (show 8 * ((l.length : Int) + 4) - 31 ≠ 0 by omega)
    have e2 := Int.emod_lt_of_pos n1 (show 0 < 8 * ((l.length : Int) + 4) - 31 by omega)
    exact ⟨(n1 % (8 * ((l.length : Int) + 4) - 31)).toNat, by omega, by omega⟩
  have P1 := fun w => pick_any n1 (8 * ((l.length : Int) + 4) - 31) w h1 (by omega)
  rw [hp] at P1
  have P1' := Lib.hid P1
  clear P1 hp h1
  have hbl := h.bd
  have HM := Lib.hid hmask
  clear hmask
  go_enter Try.func6, Try.ntmps6
  go_wp2_with fail
  refine (known_any _).mono ?_
  rintro e w1 ⟨rfl, hk1⟩
  have C := Lib.hid (put_any a cap l w1 (h.kp0 hk1 (fun _ _ h => h)) (by omega) hcap)
  have H1 := Lib.hid hk1
  clear hk1
  go_wp2_with fail
  refine C.out.mono ?_
  rintro e w2 ⟨v, rfl, hv, hvg, hk2⟩
  have hpl4 := put4_len l
  obtain ⟨g, vc, e2, hvc, hcm, _, _⟩ := hv.head (by omega)
  rw [hpl4] at e2 hvc
  subst e2
  have hg := hvg g rfl
  have C2 := gcheck (some ⟨g, 0, none⟩) vc (put4 l) w2 hv.rdb (by omega) (by omega) hcm
  have hck : ck (put4 l) = 0 ∧ chk (put4 l) = l := by
    obtain ⟨o1, o2⟩ := ok4_put4 l
    exact ⟨by rw [ck, o1]; rfl, by rw [chk, o1]; exact o2⟩
  rw [hpl4, hck.1, hck.2] at C2
  have C2' := Lib.hid C2
  have H2 := Lib.hid (And.intro hv (And.intro (H1.out.trans hk2) hg))
  have HPL := Lib.hid hpl4
  have HG1 := Lib.hid (show w.heap.size ≤ g by have := H1.out.size; omega)
  clear hv hvg hk2 C C2 hck hpl4 hg H1
  go_wp2_with fail
  refine C2'.out.mono ?_
  rintro e w3 ⟨v3, rfl, hv3, _, hk3⟩
  obtain ⟨v3a, v3c, rfl, hr3, _⟩ := hv3.form
  have K3 := H2.out.2.1.trans hk3
  have C := same_any v3a a v3c cap l l w3 hr3 (h.kp0 K3 (fun _ _ h => h))
  rw [decide_eq_true (rfl : l = l)] at C
  have C1 := Lib.hid C
  have hv' := H2.out.1.kp hk3 (fun _ _ h => h)
  have hrx : RdB w3 (some ⟨g, 0, none⟩) (put4 l) := hv'.rdb
  have C := same_any (some ⟨g, 0, none⟩) a vc cap ((put4 l).take l.length) l w3 (hrx.pre _) (h.kp0 K3 (fun _ _ h => h))
  rw [show (put4 l).take l.length = l from List.take_left, decide_eq_true (rfl : l = l)] at C
  have C3 := Lib.hid C
  have H3 := Lib.hid (And.intro hv' (And.intro K3 H2.out.2.2))
  have i1 : (l.length : Int) ≤ vc := by omega
  clear hv3 hk3 hr3 K3 C hv' hrx C2' H2
  go_wp2_with fail
  refine C1.out.mono ?_
  rintro e w' ⟨rfl, rfl⟩
  go_wp2_with fail
  refine C3.out.mono ?_
  rintro e w' ⟨rfl, rfl⟩
  clear C1 C3
  by_cases hm0 : mask = 0
  · have e0 : ((mask : Int) == 0) = true := by simp [hm0]
    clear hm0
    go_wp2_with fail
    go_ret
    exact ⟨rfl, H3.out.2.1.below (fun _ _ h => h)⟩
  · have e0 : ((mask : Int) == 0) = false := by simp [hm0]
    have HM0 := Lib.hid hm0
    clear hm0
    go_wp2_with fail
    refine (P1'.out _).mono ?_
    rintro e w' ⟨rfl, rfl⟩
    clear P1'
    go_wp2_with fail
    have hL := HPL.out
    have hLb : l.length + 4 ≤ 1004 := by omega
    clear HPL
    generalize l.length + 4 = L at *
    have HPL := Lib.hid hL
    clear hL
    go_loopw [11] (fun i wr => ∃ (k : Nat) (y : List Int), k ≤ 32 ∧ i = .int .i64 k ∧ OwnB wr (.slice (some ⟨g, 0, none⟩) L vc) y ∧ y.length = L ∧ num y = num (put4 l) ^^^ 2 ^ p * (mask % 2 ^ k) ∧ Kp (fun _ => False) w wr) (fun i _ => 32 - (intOf i).toNat)
    case atStart => exact ⟨0, put4 l, by omega, rfl, H3.out.1, HPL.out, by simp [Nat.mod_one], H3.out.2.1⟩
    case round =>
      obtain ⟨k, y, hk, rfl, hy, hyl, hnum, hkp⟩ := hrel
      have hgw := H3.out.2.2
      by_cases hlt : k < 32
      · obtain ⟨hf, hcell⟩ : (∀ i, wr.frozen? ⟨g, i, none⟩ = false) ∧ ∀ i, i < y.length → wr.cell? ⟨g, i, none⟩ = some (.int .u8 (y.getD i 0)) := by
          obtain ⟨g', c', e, _, _, hf, hcell⟩ := hy.head (by omega)
          have eg : g' = g := by injection e with e1 _ _; injection e1 with e1; injection e1 with e1; exact e1.symm
          rw [eg] at hf hcell
          exact ⟨hf, hcell⟩
        obtain ⟨j, hj⟩ : ∃ j, j = (p + k) / 8 := ⟨_, rfl⟩
        obtain ⟨t, ht⟩ : ∃ t, t = (p + k) % 8 := ⟨_, rfl⟩
        have hjl : j < y.length := by omega
        have ht8 : t < 8 := by omega
        obtain ⟨s, hs⟩ : ∃ s, s = p + k := ⟨_, rfl⟩
        obtain ⟨d, hd⟩ : ∃ d, d = mask / 2 ^ k := ⟨_, rfl⟩
        have ed : (mask : Int) / 2 ^ k = (d : Int) := by rw [hd]; simp
        have hcj := hcell j hjl
        have hb := hy.byt.getD j
        by_cases hq : d % 2 = 1
        · have eq1 : ((d : Int) % 2 == 1) = true := by simp; omega
          have hst := num_step hnum hy.byt (by omega) (by rw [← hd]; exact hq)
          rw [← hj, ← ht] at hst
          have i2 : (k : Int) < 32 := by omega
          have ws : IntKind.i64.wrap ((p : Int) + k) = (s : Int) := (IntWalk.i64_in _ (by omega)).trans (by omega)
          have ws1 : (s : Int).tdiv 8 = (j : Int) := by rw [Int.tdiv_eq_ediv_of_nonneg (by omega)]; omega
          have ws2 : (s : Int).tmod 8 = (t : Int) := by rw [Int.tmod_eq_emod_of_nonneg (by omega)]; omega
          have wj : IntKind.i64.wrap (j : Int) = (j : Int) := IntWalk.i64_in _ (by omega)
          have wt : IntKind.i64.wrap (t : Int) = (t : Int) := IntWalk.i64_in _ (by omega)
          have ws3 : (s : Int) / 8 = (j : Int) := by omega
          have ws4 : (s : Int) % 8 = (t : Int) := by omega
          have j1 : (j : Int) < (L : Int) := by omega
          have t1 : (t : Int) < 8 := by omega
          obtain ⟨x, hx⟩ : ∃ x : Nat, y.getD j 0 = x := ⟨(y.getD j 0).toNat, by omega⟩
          rw [hx] at hcj hb
          rw [hx, Int.toNat_natCast] at hst
          obtain ⟨eu, hu⟩ := u8_bit x t (by omega) ht8
          have hset := hy.set hjl (x := ((x ^^^ 2 ^ t : Nat) : Int)) (by omega)
          have HN := Lib.hid (show OwnB (wr.setCell ⟨g, j, none⟩ (.int .u8 ((x ^^^ 2 ^ t : Nat) : Int))) (.slice (some ⟨g, 0, none⟩) L vc) (y.set j ((x ^^^ 2 ^ t : Nat) : Int)) ∧ (y.set j ((x ^^^ 2 ^ t : Nat) : Int)).length = L ∧ num (y.set j ((x ^^^ 2 ^ t : Nat) : Int)) = num (put4 l) ^^^ 2 ^ p * (mask % 2 ^ (k + 1)) ∧ Kp (fun _ => False) w (wr.setCell ⟨g, j, none⟩ (.int .u8 ((x ^^^ 2 ^ t : Nat) : Int))) from
            ⟨hset, by rw [List.length_set]; exact hyl, hst, hkp.setCell (p := ⟨g, j, none⟩) (fun hlt' => by have := H3.out.2.1.size; have h9 := HG1.out; simp at hlt'; omega) _⟩)
          clear hy hkp hyl hjl hs hj ht hd hq hst hnum hcell hx ht8 hset hu
          generalize x ^^^ 2 ^ t = x' at *
          go_wp2_with fail
          go_still_tail 18, (by kernel_rfl)
          change wpList _ _ _ _ _ wr.drew
          go_wp2_with fail
          go_roundw
          case rel => exact ⟨k + 1, _, by omega, by go_num, HN.out.1.kp ((Kp.refl (fun _ => False) _).drew) (fun _ _ h => h), HN.out.2.1, HN.out.2.2.1, HN.out.2.2.2.drew⟩
          case measure => simp [intOf]; omega
        · have eq1 : ((d : Int) % 2 == 1) = false := by simp; omega
          have hst := num_keep hnum (by rw [← hd]; exact hq)
          have HF := Lib.hid (And.intro hy (And.intro hst hkp))
          have i2 : (k : Int) < 32 := by omega
          clear hy hcell hcj hnum hst hkp hf hq hd hs ht hj hb
          go_wp2_with fail
          go_roundw
          case rel => exact ⟨k + 1, y, by omega, by go_num, HF.out.1, hyl, HF.out.2.1, HF.out.2.2⟩
          case measure => simp [intOf]; omega
      · obtain rfl : k = 32 := by omega
        have hok := burst_seen (byt_put4 hbl) hy.byt (ok4_put4 l).1 (by rw [hyl, HPL.out]) HM.out HM0.out (by rw [HPL.out]; omega) hnum
        have C := gcheck (some ⟨g, 0, none⟩) vc y wr hy.rdb (by omega) (by omega) hcm
        rw [hyl, ck, chk, hok] at C
        have C' := Lib.hid C
        have HK := Lib.hid hkp
        clear hy hnum hkp hok C
        go_wp2_with fail
        refine C'.out.mono ?_
        rintro e w5 ⟨v5, rfl, hv5, _, hk5⟩
        obtain ⟨v5a, v5c, rfl, _, _⟩ := hv5.form
        have HK5 := Lib.hid (HK.out.trans hk5)
        clear hv5 hk5 C' HK
        go_wp2_with fail
        go_ret
        exact ⟨rfl, HK5.out.below (fun _ _ h => h)⟩
theorem guardBursts_walk (a0 : Option Addr) (len0 cap0 : Nat) (n1 : Int) (n2 : Int) (w : World) (r0 : Rdg Try.prog w 22 [.slice a0 len0 cap0]) (r1 : Rdg Try.prog w 3 [.int .i64 n1]) (r2 : Rdg Try.prog w 25 [.int .u32 n2]) :
    Calls Try.prog 6 #[.slice a0 len0 cap0, .int .i64 n1, .int .u32 n2] w fun e w' => e = .returned (.bool true) ∧ Below w.heap.size w w' := by
  obtain ⟨_, l, _, e0, h, h1, h2⟩ := r0.bytes Try.underlying22 Try.underlying5 (by kernel_rfl) (by kernel_rfl)
  simp only [List.cons.injEq, Value.slice.injEq, and_true] at e0
  obtain ⟨rfl, rfl, rfl⟩ := e0
  obtain ⟨x, ex, hwf⟩ := r1.int Try.underlying3
  simp only [List.cons.injEq, Value.int.injEq, true_and, and_true] at ex
  subst ex
  have b1 : -9223372036854775808 ≤ n1 ∧ n1 ≤ 9223372036854775807 := by
    simp [Lit.wf, IntKind.min, IntKind.max, IntKind.signed, IntKind.bits] at hwf; omega
  obtain ⟨x, ex, hwf⟩ := r2.int Try.underlying25
  simp only [List.cons.injEq, Value.int.injEq, true_and, and_true] at ex
  subst ex
  have b2 : 0 ≤ n2 ∧ n2 < 4294967296 := by
    simp [Lit.wf, IntKind.min, IntKind.max, IntKind.signed, IntKind.bits] at hwf; omega
  obtain ⟨mask, rfl⟩ := Int.eq_ofNat_of_zero_le b2.1
  by_cases hl : 1000 < l.length
  · exact bursts_long _ _ _ _ _ w hl (by omega)
  · exact bursts_main _ _ n1 mask l w h b1 (by unfold M32; omega) (by omega) h1
end Go.Proofs.Ytabibgddbmllkaa
