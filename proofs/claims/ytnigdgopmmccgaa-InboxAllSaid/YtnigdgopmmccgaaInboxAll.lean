/- The walk of InboxAll: it returns true, whatever comes in. No condition. -/
import Derived.Test.YtnigdgopmmccgaaInbS2
import Derived.Test.YtnigdgopmmccgaaInbZ
import Derived.Test.YtnigdgopmmccgaaInbQ
import Derived.Deep.RegionLaw
import Derived.BigRegion
namespace Go.Proofs.Ytnigdgopmmccgaa
open Go.RowKit
set_option linter.unusedVariables false
theorem all_early (n0 : Int) (a1 : Option Addr) (cap1 : Nat) (a2 : Option Addr) (len2 cap2 : Nat) (w : World) (l : List (List Int)) (hl : RdL w a1 l) (hll : l.length ≤ 140737488351232) (hlb : ∀ i, (l.getD i []).length ≤ 140737488351232) (hl2 : len2 ≤ 140737488351232)
    (he : 60 < l.length ∨ 1000 < tl l ∨ 200 < len2) :
    Calls Try.prog 6 #[.int .i64 n0, .slice a1 l.length cap1, .slice a2 len2 cap2] w fun e w' => e = .returned (.bool true) ∧ Below w.heap.size w w' := by
  go_enter Try.func6, Try.ntmps6
  go_wp2_with fail
  refine (awake_any _).mono ?_
  rintro e w1 ⟨rfl, hk⟩
  have HB := Lib.hid (hk.below (fun _ _ h => h))
  have hl1 := hl.kp0 hk (fun _ _ h => h)
  clear hl hk
  go_wp2_with fail
  go_loop [8, 9] (fun s i => ∃ k : Nat, k ≤ l.length ∧ k ≤ 61 ∧ i = .int .i64 k ∧ s = .int .i64 (tl (l.take k)) ∧ 0 ≤ tl (l.take k) ∧ tl (l.take k) ≤ k * 140737488351232) (fun _ i => l.length - (intOf i).toNat)
  case atStart => exact ⟨0, by omega, by omega, rfl, rfl, by simp [tl], by simp [tl]⟩
  case round =>
    obtain ⟨k, hkl, hk3, rfl, rfl, ht0, ht1⟩ := hrel
    by_cases hlt : k < l.length ∧ k < 61
    · obtain ⟨hlt, hlt3⟩ := hlt
      obtain ⟨b, off, ai, ci, rfl, q2, q3, q4⟩ := hl1 k hlt
      have q5 := hlb k
      have HT := Lib.hid (congrArg tl (take_snoc l [] k hlt))
      have HS : Hid (tl (l.take (k + 1)) = tl (l.take k) + (l.getD k []).length) := by
        show _ = _
        rw [HT.out, tl_append, tl, tl]; omega
      have hb1 : tl (l.take k) ≤ 9000000000000000000 := by omega
      have i1 : (k : Int) < l.length := by omega
      have i2 : (k : Int) < 61 := by omega
      generalize l.getD k [] = x at *
      generalize tl (l.take k) = t at *
      clear HT
      go_wp2
      go_round
      case rel => exact ⟨k + 1, by omega, by omega, by go_num, by rw [HS.out], by rw [HS.out]; omega, by rw [HS.out]; omega⟩
      case measure => simp [intOf]; omega
    · by_cases h6 : 60 < l.length
      · have i3 : (60 : Int) < l.length := by omega
        by_cases hlt' : k < l.length
        · have i2 : ¬ (k : Int) < 61 := by omega
          have i1 : (k : Int) < l.length := by omega
          clear ht0 ht1 hkl hk3 hll hlt hlt' he h6 hlb hl2
          generalize tl (l.take k) = t at *
          go_wp2
          go_ret
          exact ⟨rfl, HB.out⟩
        · have i1 : ¬ (k : Int) < l.length := by omega
          clear ht0 ht1 hkl hk3 hll hlt hlt' he h6 hlb hl2
          generalize tl (l.take k) = t at *
          go_wp2
          go_ret
          exact ⟨rfl, HB.out⟩
      · have i3 : ¬ (60 : Int) < l.length := by omega
        have i1 : ¬ (k : Int) < l.length := by omega
        have e1 : l.take k = l := List.take_of_length_le (by omega)
        rw [e1]
        by_cases h7 : 1000 < tl l
        · clear ht0 ht1 hkl hk3 hll hlt he h6 hlb hl2
          go_wp2
          go_ret
          exact ⟨rfl, HB.out⟩
        · have i4 : (200 : Int) < len2 := by omega
          clear ht0 ht1 hkl hk3 hll hlt he h6 hlb hl2
          go_wp2
          go_ret
          exact ⟨rfl, HB.out⟩
theorem rd_pre {w : World} {a : Option Addr} {vs : List Value} (h : Rd w a vs) (k : Nat) : Rd w a (vs.take k) := fun i hi => by
  have hi' : i < k ∧ i < vs.length := by simp at hi; omega
  obtain ⟨b, off, ha, hc⟩ := h i hi'.2
  exact ⟨b, off, ha, by rw [hc]; simp [List.getD_eq_getElem?_getD, hi'.1]⟩
theorem rd_post {w : World} {b off : Nat} {vs : List Value} (h : Rd w (some ⟨b, off, none⟩) vs) (k : Nat) : Rd w (some ⟨b, off + k, none⟩) (vs.drop k) := fun i hi => by
  have hi' : k + i < vs.length := by simp at hi; omega
  obtain ⟨b', off', e, hc⟩ := h (k + i) hi'
  cases e
  exact ⟨b, off + k, rfl, by rw [Nat.add_assoc, hc]; simp [List.getD_eq_getElem?_getD]⟩
theorem nums_one (left : List Nat) : ∀ u ∈ nums left, u.oneCell' = true := fun u hu => by
  obtain ⟨k, _, rfl⟩ := List.mem_map.1 hu; rfl
set_option maxRecDepth 20000 in
set_option maxHeartbeats 10000000 in
theorem all_main (n0 : Int) (hn0 : -9223372036854775808 ≤ n0 ∧ n0 ≤ 9223372036854775807) (a1 : Option Addr) (cap1 : Nat) (a2 : Option Addr) (cap2 : Nat) (w : World) (l : List (List Int)) (hl : RdL w a1 l) (ws : List Int) (hws : RdI w a2 ws)
    (h6 : l.length ≤ 60) (h7 : tl l ≤ 1000) (h8 : ws.length ≤ 200) :
    Calls Try.prog 6 #[.int .i64 n0, .slice a1 l.length cap1, .slice a2 ws.length cap2] w fun e w' => e = .returned (.bool true) ∧ Below w.heap.size w w' := by
  have hpk := fun w' => pick_any n0 64 w' hn0 (by omega)
  obtain ⟨p, hpe⟩ : ∃ p : Nat, n0 % 64 = p := ⟨(n0 % 64).toNat, by have := Int.emod_nonneg n0 (show (64 : Int) ≠ 0 by omega); omega⟩
  have hpl : p < 64 := by have := Int.emod_lt_of_pos n0 (show (0 : Int) < 64 by omega); omega
  rw [hpe] at hpk
  obtain ⟨s, hs⟩ : ∃ s : Nat, s = 1 + p := ⟨_, rfl⟩
  have hss : 1 ≤ s ∧ s ≤ 64 := by omega
  have hw1 : IntKind.i64.wrap (1 + (p : Int)) = (s : Int) := (IntWalk.i64_in _ (by omega)).trans (by omega)
  have HP := Lib.hid hpk
  clear hpk hpe hn0 hs hpl
  go_enter Try.func6, Try.ntmps6
  go_wp2_with fail
  refine (awake_any _).mono ?_
  rintro e w1 ⟨rfl, hk⟩
  have hl1 := hl.kp0 hk (fun _ _ h => h)
  have HK := Lib.hid hk
  have HL := Lib.hid hl
  have HW := Lib.hid hws
  have H6 := Lib.hid h6
  have H7 := Lib.hid h7
  have H8 := Lib.hid h8
  have hlb := tl_getD h7
  have i3 : ¬ (60 : Int) < l.length := by omega
  have i4 : ¬ (1000 : Int) < tl l := by omega
  have i5 : ¬ (200 : Int) < ws.length := by omega
  clear hl hk hws h7 h8
  go_wp2_with fail
  go_loop [8, 9] (fun s i => ∃ k : Nat, k ≤ l.length ∧ i = .int .i64 k ∧ s = .int .i64 (tl (l.take k)) ∧ 0 ≤ tl (l.take k) ∧ tl (l.take k) ≤ k * 1000) (fun _ i => l.length - (intOf i).toNat)
  case atStart => exact ⟨0, by omega, rfl, rfl, by simp [tl], by simp [tl]⟩
  case round =>
    obtain ⟨k, hkl, rfl, rfl, ht0, ht1⟩ := hrel
    by_cases hlt : k < l.length
    · obtain ⟨b, off, ai, ci, rfl, q2, q3, q4⟩ := hl1 k hlt
      have q5 := hlb k
      have HT := Lib.hid (congrArg tl (take_snoc l [] k hlt))
      have HS : Hid (tl (l.take (k + 1)) = tl (l.take k) + (l.getD k []).length) := by
        show _ = _
        rw [HT.out, tl_append, tl, tl]; omega
      have i1 : (k : Int) < l.length := by omega
      have i2 : (k : Int) < 61 := by omega
      generalize l.getD k [] = x at *
      generalize tl (l.take k) = t at *
      clear HT
      go_wp2
      go_round
      case rel => exact ⟨k + 1, by omega, by go_num, by rw [HS.out], by rw [HS.out]; omega, by rw [HS.out]; omega⟩
      case measure => simp [intOf]; omega
    · have i1 : ¬ (k : Int) < l.length := by omega
      have e1 : l.take k = l := List.take_of_length_le (by omega)
      rw [e1]
      clear ht0 ht1 hkl hlt hlb h6
      go_wp2_with fail
      refine (HP.out _).mono ?_
      rintro e w2 ⟨rfl, rfl⟩
      go_wp2_with fail
      refine (inew_ok s _ hss).mono ?_
      rintro e w2 ⟨rfl, hin, hk2⟩
      have hb : w.heap.size ≤ w1.heap.size := HK.out.size
      have hkA := HK.out.trans hk2
      generalize w1.heap.size = b at *
      have HIN := Lib.hid hin
      have HKA := Lib.hid hkA
      clear hk2 hin hkA HP hss hw1 i3 i4 i5
      go_wp2_with fail
      go_loopw [12, 13] (fun v i wr => ∃ k : Nat, k ≤ l.length ∧ i = .int .i64 k ∧ Own wr v k 1 (nums ((List.range k).map (· + 1))) ∧ InbAt wr b s (fun _ => none) 1 0 (· = b) ∧ Kp (fun _ => False) w wr ∧ ∀ g, v.ownBlock = some g → b < g) (fun _ i _ => l.length - (intOf i).toNat)
      case atStart => exact ⟨0, by omega, rfl, Own.nil _ _, HIN.out, HKA.out, fun g hg => by simp [Value.ownBlock] at hg⟩
      case round =>
        obtain ⟨k, hkl, rfl, hown, hin, hkp, hgb⟩ := hrel
        have hbw : b < wr.heap.size := by obtain ⟨⟨c, hc⟩, _⟩ := hin; exact hc.lt _ hc.base
        by_cases hlt : k < l.length
        · have i1 : (k : Int) < l.length := by omega
          have ew : IntKind.i64.wrap ((k : Int) + 1) = (k : Int) + 1 := IntWalk.i64_in _ (by have := H6.out; omega)
          have hone : ∀ u ∈ [Value.int .i64 ((k : Int) + 1)], u.oneCell' = true := fun u hu => by simp at hu; subst hu; rfl
          have hkal := (Kp.refl (fun _ => False) wr).alloc (.cells #[.int .i64 ((k : Int) + 1)] 3)
          have hrd := Rd.new wr [.int .i64 ((k : Int) + 1)] 3
          obtain ⟨v', w3, hrun, hv3, hk3, hat3, hbp⟩ := run_append_at (P := Try.prog) (t := 53) (tx := 53) (ty := 53) (wr.alloc (.cells #[.int .i64 ((k : Int) + 1)] 3)) Try.underlying53 elem_i64 Try.underlying53
            (hown.kp hkal (fun _ _ h => h)) (a := some ⟨wr.heap.size, 0, none⟩) (m := 1) (c := 1) (news := [.int .i64 ((k : Int) + 1)]) (by simp) hrd hone (by have := H6.out; unfold maxLen; omega) (by have := H6.out; omega)
          obtain ⟨va, vc, rfl, _, _⟩ := hown.form
          obtain ⟨va', vc', rfl, _, _⟩ := hv3.form
          have Hrun := Lib.hid hrun
          have hfin : Hid (Own w3 (.slice va' (k + 1) vc') (k + 1) 1 (nums ((List.range (k + 1)).map (· + 1))) ∧ InbAt w3 b s (fun _ => none) 1 0 (· = b) ∧ Kp (fun _ => False) w w3 ∧ ∀ g, (Value.slice va' (k + 1) vc').ownBlock = some g → b < g) := by
            refine ⟨?_, (hin.kp hkal (fun _ _ h => h)).kp hk3 (fun g hg e => ?_), (hkp.alloc _).then hk3 (fun i hi e => ?_), fun g hg => ?_⟩
            · have e : nums ((List.range (k + 1)).map (· + 1)) = nums ((List.range k).map (· + 1)) ++ [.int .i64 ((k : Int) + 1)] := by simp [nums, List.range_succ]
              rw [e]; exact hv3
            · have := hgb g e; omega
            · have := hgb i e
              have := HK.out.size; have := hkp.size; omega
            · rcases hat3 with e | e
              · exact hgb g (e ▸ hg)
              · rw [e] at hg
                obtain rfl := Option.some.inj hg
                simp; omega
          clear hown hin hkp hgb hrun hrd hk3 hat3 hbp hv3 hkal
          go_wp2_with (at_builtin; refine wpList_append_run _ Hrun.out rfl rfl rfl rfl ?_)
          go_roundw
          case rel => exact ⟨k + 1, by omega, by go_num, hfin.out.1, hfin.out.2.1, hfin.out.2.2.1, hfin.out.2.2.2⟩
          case measure => simp [intOf]; omega
        · obtain rfl : k = l.length := by omega
          have i1 : ¬ ((l.length : Int) < l.length) := by omega
          have hs0 : AllS w wr b s l (fun _ => none) 1 0 (· = b) ((List.range l.length).map (· + 1)) _ (.slice none 0 0) [] :=
            ⟨hin, fun g hg => by omega, hkp, LeftI.start l, by rw [List.length_map, List.length_range]; exact hown, fun g hg => ⟨by have := hgb g hg; omega, fun e => by have := hgb g hg; omega⟩, Own.nil _ _, fun g hg => by simp [Value.ownBlock] at hg, fun i hi => by omega⟩
          have hB : Bd ws.length ((List.range l.length).map (· + 1)) 1 0 := Bd.fresh (by omega) (by have := H6.out; simp; omega) (fun h => (hs0.law.awaited (n := 1) (by omega) (fun k h1 h2 => by omega) rfl h).2)
          have HS0 := Lib.hid hs0
          have HB0 := Lib.hid hB
          have hlen0 : Hid (((List.range l.length).map (· + 1)).length ≤ 60) := by show _ ≤ 60; have := H6.out; simp; omega
          clear hs0 hB hown hin hkp hgb hkl hlt HIN HKA
          generalize (List.range l.length).map (· + 1) = left0 at *
          go_wp2_with fail
          go_loopw [12, 14, 15] (fun vl vg iv wr => ∃ (i n hd : Nat) (f : Bodies) (F : Nat → Prop) (left : List Nat) (vs : List Value), i ≤ 8000 ∧ iv = .int .i64 i ∧ AllS w wr b s l f n hd F left vl vg vs ∧ Bd ws.length left n i ∧ left.length ≤ 60) (fun _ _ iv _ => 8000 - (intOf iv).toNat)
          case atStart => exact ⟨0, 1, 0, _, _, left0, [], by omega, rfl, HS0.out, HB0.out, hlen0.out⟩
          case round =>
            clear HS0 HB0 hlen0
            obtain ⟨i, n, hd, f, F, left, vs, hi8, rfl, S, hB, h60⟩ := hrel
            obtain ⟨gla, cl, rfl, _, _⟩ := S.lo.form
            obtain ⟨gga, cg, rfl, _, _⟩ := S.go.form
            by_cases hle : left = []
            · subst hle
              have i0 : ¬ (0 < (([] : List Nat).length : Int)) := by simp
              obtain ⟨e1, e2, hrd⟩ := S.all
              have hn : n - 1 = l.length := by omega
              obtain ⟨⟨c, hc⟩, hn0⟩ := S.inb
              have HSL := Lib.hid (samelists_any gga a1 l.length l.length cg cap1 l l wr hrd (HL.out.kp0 S.kp (fun _ _ h => h)) rfl rfl (by have := H6.out; omega))
              rw [decide_eq_true (rfl : l = l)] at HSL
              rw [hn]
              subst e1; subst e2
              have HC := Lib.hid hc
              have HKP := Lib.hid S.kp
              have ew : IntKind.i64.wrap ((l.length : Int) + 1) = (l.length : Int) + 1 := IntWalk.i64_in _ (by have := H6.out; omega)
              clear S hB h60 hi8 hrd hn hc hn0
              go_wp2_with fail
              refine HSL.out.mono ?_
              rintro e w5 ⟨rfl, k5⟩
              have HC5 := HC.out.kp k5 (fun _ _ h => h)
              have HK5 := Lib.hid (HKP.out.trans k5)
              have HN := Lib.hid HC5.next
              have HH := Lib.hid HC5.held
              clear HC5 k5
              go_wp2_with fail
              refine HH.out.mono ?_
              rintro e w6 ⟨rfl, rfl⟩
              go_wp2_with fail
              refine HN.out.mono ?_
              rintro e w6 ⟨rfl, rfl⟩
              go_wp2
              go_ret
              exact ⟨rfl, HK5.out.below (fun _ _ h => h)⟩
            · obtain ⟨hn1, hlow, hfn⟩ := S.n1
              have haw := S.law.awaited hn1 hlow hfn hle
              have hi := hB.lt H8.out hle
              have hpos : 0 < left.length := List.length_pos_iff.2 hle
              have i0 : (0 : Int) < left.length := by omega
              have i2 : (i : Int) < 8000 := by omega
              have i3 : (left.length : Int) ≠ 0 := by omega
              obtain ⟨kx0, hkx0⟩ : ∃ kx, kx = i % left.length := ⟨_, rfl⟩
              have hk0 : kx0 < left.length := by rw [hkx0]; exact Nat.mod_lt _ hpos
              have em : (i : Int).tmod (left.length : Int) = (kx0 : Int) := by rw [Int.tmod_eq_emod_of_nonneg (by omega), hkx0]; rfl
              have HS := Lib.hid S
              have HB := Lib.hid hB
              obtain ⟨iv, hiv⟩ : ∃ iv : Int, iv = (i : Int) := ⟨_, rfl⟩
              have HIV := Lib.hid hiv
              have HI8 := Lib.hid hi
              have v0 : 0 ≤ iv := by omega
              have v1 : iv.toNat = i := by omega
              have ewi : IntKind.i64.wrap (iv + 1) = iv + 1 := IntWalk.i64_in _ (by omega)
              rw [← hiv] at i2 em ⊢
              have HX := Lib.hid (And.intro hkx0 (And.intro hk0 (And.intro haw (And.intro hi8 (And.intro h60 hpos)))))
              by_cases hw : i < ws.length
              case' pos =>
                have j1 : iv < ws.length := by omega
                obtain ⟨b2, o2, rfl, r1, r2⟩ := HW.out.kp0 S.kp (fun _ _ h => h) i hw
                have hpk := fun w' => pick_any (ws.getD i 0) (left.length : Int) w' r2 (by omega)
                obtain ⟨kx, hkx⟩ : ∃ kx : Nat, ws.getD i 0 % (left.length : Int) = kx := ⟨(ws.getD i 0 % left.length).toNat, by have := Int.emod_nonneg (ws.getD i 0) i3; omega⟩
                have hkl : kx < left.length := by have := Int.emod_lt_of_pos (ws.getD i 0) i0; omega
                rw [hkx] at hpk
                have HP := Lib.hid hpk
                have hkb : Hid (ws.length ≤ i → kx = i % left.length) := by show _ → _; intro h; omega
                clear S hB hpk hkx hkx0 hk0 haw hi8 hi hn1 hlow hfn h60 hw hpos r2 hiv
                generalize ws.getD i 0 = wi at *
                go_wp2_with fail
                refine (HP.out _).mono ?_
                rintro e w5 ⟨rfl, rfl⟩
                clear HP r1
                go_wp2_with fail
              case' neg =>
                have j1 : ¬ iv < ws.length := by omega
                have hkl := hk0
                have hkb : Hid (ws.length ≤ i → kx0 = i % left.length) := by show _ → _; intro h; exact hkx0
                clear S hB hkx0 hk0 haw hi8 hi hn1 hlow hfn h60 hw hpos hiv
                go_wp2_with fail
                generalize kx0 = kx at *
              all_goals
                have S := HS.out
                obtain ⟨q, hq⟩ : ∃ q, left[kx]? = some q := ⟨_, List.getElem?_eq_getElem hkl⟩
                obtain ⟨q1, q2, q3⟩ := S.law.mem q (List.mem_of_getElem? hq)
                obtain ⟨qq, rfl⟩ : ∃ qq, q = qq + 1 := ⟨q - 1, by omega⟩
                obtain ⟨gl, ol, e, cL⟩ := S.lo.rd kx (by simp [nums]; exact hkl)
                subst e
                have eN : (nums left).getD kx undef = .int .i64 ((qq + 1 : Nat) : Int) := by simp [nums, List.getD_eq_getElem?_getD, hq]
                rw [eN] at cL
                have hgb : ¬ gl = b := fun e => (S.lf gl rfl).2 (e ▸ S.b_in.1)
                obtain ⟨b1, o1, ai, ci, e, l1, l2, l3⟩ := (HL.out.kp0 S.kp (fun _ _ h => h)) qq (by omega)
                subst e
                have hb1 : ¬ b1 = b := by
                  obtain ⟨_, _, _, _, e, c, _⟩ := HL.out qq (by omega)
                  cases e
                  have hlt : b1 < w.heap.size := World.block_lt_of_cell? w _ c
                  omega
                have hlb := tl_getD H7.out qq
                obtain ⟨sq, hsq⟩ : ∃ sq : Int, sq = ((qq + 1 : Nat) : Int) := ⟨_, rfl⟩
                rw [← hsq] at cL
                have es : IntKind.i64.wrap (sq - 1) = (qq : Int) := (IntWalk.i64_in _ (by have := H6.out; omega)).trans (by omega)
                have j2 : (kx : Int) < left.length := by omega
                have j3 : (qq : Int) < l.length := by omega
                obtain ⟨y, hy⟩ : ∃ y, y = l.getD qq [] := ⟨_, rfl⟩
                rw [← hy] at l1 l2 l3 hlb
                have T := take_any (S.inb.kp (Kp.refl (fun _ => False) wr).drew (fun _ _ h => h)) sq ⟨by omega, by have := H6.out; omega⟩ ai y.length ci y (l2.kp0 (Kp.refl (fun _ => False) wr).drew (fun _ _ h => h)) rfl (by omega)
                have HT := Lib.hid T
                have HQ := Lib.hid (And.intro hq (And.intro q1 (And.intro q2 (And.intro q3 (And.intro hsq hy)))))
                have HKL := Lib.hid hkl
                clear T S hq q1 q2 q3 hsq hy l2 l3 hlb eN hkl em i2 hle i0 i3 v0 v1
                go_region_held3 (fun w' => w'.cell? ⟨gl, ol + kx, none⟩ = some (.int .i64 sq) ∧ w'.cell? ⟨b1, o1 + qq, none⟩ = some (.slice ai y.length ci)) (first | (exact ⟨by simpa using cL, by simpa using l1⟩) | (go_split_ands; exact ⟨Kp.cell kk1 ‹_› hgb, Kp.cell kk1 ‹_› hb1⟩)) (first | (go_at_call 13; refine HT.out.mono ?_; rintro e w6 ⟨n', hd', F', v, vs2, rfl, kk2, kk3, kk4, kk5, kk6, kk7, kk8, kk9, kk1, kk10⟩))
                obtain ⟨va, vc, rfl, hvc1, hvc2⟩ := kk6.form
                have hsq := HQ.out.2.2.2.2.1
                have S6 := Lib.hid ((HS.out.lo.form).elim fun a h => h.elim fun c h => (by obtain ⟨h1, h2, _⟩ := h; cases h1; exact h2 : left.length ≤ cl))
                have hcd : cd f n s sq = 0 ∨ (cd f n s sq = 8 ∧ n + s ≤ qq + 1) := by rw [hsq]; exact cd_left HQ.out.2.1 (by have := HQ.out.2.2.1; have := H6.out; omega) HQ.out.2.2.2.1
                have hlo6 : Own w6 (.slice (some ⟨gl, ol, none⟩) left.length cl) left.length 1 (nums left) := (HS.out.lo.kp ((Kp.refl (fun _ => False) wr).drew) (fun _ _ h => h)).kp kk1 (fun g hg e => by cases hg; exact hgb e)
                have hm60 : left.length ≤ 60 := HX.out.2.2.2.2.1
                have hown : Own (w6.drew.alloc (.cells #[] 3)) (.slice (some ⟨w6.heap.size, 0, none⟩) 0 0) 0 1 [] := ⟨by simp, .inr ⟨w6.heap.size, 0, [], rfl, At.new w6.drew [] 3, by simp, by simp, by simp⟩⟩
                have hkal := ((Kp.refl (fun _ => False) w6).drew.alloc (.cells #[] 3))
                obtain ⟨v1, w7a, hr1, ho1, hk1, hat1, _⟩ := run_append_at (P := Try.prog) (t := 53) (tx := 53) (ty := 53) (w6.drew.alloc (.cells #[] 3)) Try.underlying53 elem_i64 Try.underlying53 hown
                  (a := some ⟨gl, ol, none⟩) (m := kx) (c := cl) (news := (nums left).take kx) (by have := HKL.out; simp [nums]; omega) (rd_pre ((hlo6.kp hkal (fun _ _ h => h)).rd) kx) (fun u hu => nums_one left u (List.mem_of_mem_take hu)) (by have := HKL.out; unfold maxLen; omega) (by have := HKL.out; omega)
                rcases hcd with e1 | ⟨e1, e2⟩
                · rw [e1]
                  have c1 : (kx : Int) ≤ cl := by have := HKL.out; omega
                  have c2 : (kx : Int) + 1 ≤ left.length := by have := HKL.out; omega
                  have c3 : IntKind.i64.wrap ((kx : Int) + 1) = (kx : Int) + 1 := IntWalk.i64_in _ (by have := HKL.out; omega)
                  have c4 : ((kx : Int) + 1).toNat = kx + 1 := by omega
                  have c5 : 0 ≤ (kx : Int) + 1 := by omega
                  have hka : Kp (fun _ => False) w6 w7a := hkal.then hk1 (fun i hi e => by simp [Value.ownBlock] at e; omega)
                  have hv1 : ∀ g, v1.ownBlock = some g → w6.heap.size ≤ g := fun g hg => by
                    rcases hat1 with e | e
                    · rw [e] at hg; simp [Value.ownBlock] at hg; omega
                    · rw [e] at hg; simp at hg; omega
                  have hrd2 : Rd w7a (if cl = kx + 1 then some ⟨gl, ol, none⟩ else some ⟨gl, ol + (kx + 1), none⟩) ((nums left).drop (kx + 1)) := by
                    by_cases hcl : cl = kx + 1
                    · rw [if_pos hcl, List.drop_of_length_le (by simp [nums]; have := S6.out; omega)]
                      exact fun i hi => by simp at hi
                    · rw [if_neg hcl]; exact rd_post ((hlo6.kp hka (fun _ _ h => h)).rd) (kx + 1)
                  rw [Nat.zero_add, List.nil_append] at ho1
                  obtain ⟨v1a, v1c, rfl, _, _⟩ := ho1.form
                  obtain ⟨v2, w7, hr2, ho2, hk2, hat2, _⟩ := run_append_at (P := Try.prog) (t := 53) (tx := 53) (ty := 53) w7a Try.underlying53 elem_i64 Try.underlying53 ho1
                    (a := if cl = kx + 1 then some ⟨gl, ol, none⟩ else some ⟨gl, ol + (kx + 1), none⟩) (m := left.length - (kx + 1)) (c := cl - (kx + 1)) (news := (nums left).drop (kx + 1)) (by simp [nums]) hrd2 (fun u hu => nums_one left u (List.mem_of_mem_drop hu)) (by have := HKL.out; unfold maxLen; omega) (by have := HKL.out; omega)
                  have e1' : cd f n s sq = 0 := e1
                  have hnf : nf f n s sq y = put f (qq + 1) (l.getD (qq + 1 - 1) []) := by
                    rw [nf_put _ _ _ _ _ e1', HQ.out.2.2.2.2.1, HQ.out.2.2.2.2.2]; rfl
                  have hlaw := HS.out.law.take HQ.out.1
                  rw [← hnf] at hlaw
                  have hcut := cut_len HKL.out
                  have hlo2 : Own w7 v2 (left.take kx ++ left.drop (kx + 1)).length 1 (nums (left.take kx ++ left.drop (kx + 1))) := by
                    have e : (left.take kx ++ left.drop (kx + 1)).length = kx + (left.length - (kx + 1)) := by omega
                    rw [e, ← nums_cut]
                    simpa using ho2
                  have h67 : Kp (fun _ => False) w6 w7 := hka.then hk2 (fun i hi e => by have := hv1 i e; omega)
                  have hlf2 : ∀ g, v2.ownBlock = some g → w6.heap.size ≤ g ∨ (Value.slice (some ⟨gl, ol, none⟩) left.length cl).ownBlock = some g := fun g hg => by
                    left
                    rcases hat2 with e | e
                    · rw [e] at hg; exact hv1 g hg
                    · rw [e] at hg; obtain rfl := Option.some.inj hg; exact hka.size
                  generalize left.take kx ++ left.drop (kx + 1) = left2 at hlaw hcut hlo2
                  obtain ⟨v3, w8, hr3, hS8⟩ := HS.out.app kk2 kk3 kk5 kk6 kk7 kk9 (((Kp.refl _ wr).drew).trans kk1) (nf_mono (by rw [HQ.out.2.2.2.2.1]; exact HQ.out.2.2.2.1)) h67 hlaw hlo2 hlf2
                  obtain ⟨hn8, hlow8, hfn8⟩ := hS8.n1
                  have hB8 : Bd ws.length left2 n' (i + 1) := HB.out.take H8.out HX.out.2.2.2.2.1 hcut (fun h => (hS8.law.awaited hn8 hlow8 hfn8 h).2)
                  have hfin := Lib.hid (And.intro hS8 (And.intro hB8 (show left2.length ≤ 60 by omega)))
                  obtain ⟨v2a, v2c, rfl, _, _⟩ := hlo2.form
                  have Hr2 := Lib.hid hr2
                  have Hr1 := Lib.hid hr1
                  have Hr3 := Lib.hid hr3
                  clear hr1 kk2 kk3 kk4 kk5 kk6 kk7 kk8 kk9 kk10 kk1 hlo6 hown hkal ho1 hk1 hat1 hm60 hvc1 hvc2 hr2 hka hv1 ho2 hk2 hat2 hrd2 hr3 hS8 hB8 hn8 hlow8 hfn8 hcut hlo2 h67 hlf2 hlaw hnf e1'
                  go_wp2_with fail
                  have tok1 : True := trivial
                  go_region_law ((first | (have _t := tok1; refine step_append_run _ Hr1.out (by rfl) (by rfl) (by rfl) (by rfl) ?_; clear tok1) | (refine step_append_run _ Hr2.out (by rfl) (by rfl) (by rfl) (by rfl) ?_)))
                  all_goals
                    go_wp2_with (at_builtin; refine wpList_append_run _ Hr3.out rfl rfl rfl rfl ?_)
                    go_roundw
                    case rel => exact ⟨i + 1, _, _, _, _, _, _, by have := HI8.out; omega, by rw [HIV.out]; go_num, hfin.out.1, hfin.out.2.1, hfin.out.2.2⟩
                    case measure => have := HIV.out; have := HI8.out; simp [intOf]; omega
                · rw [e1]
                  have hne : cd f n s sq ≠ 0 := by rw [e1]; omega
                  have hnf := nf_same f n s sq y hne
                  obtain ⟨hnn, _⟩ := kk10 hne
                  obtain ⟨v3, w8, hr3, hS8⟩ := HS.out.app kk2 kk3 kk5 kk6 kk7 kk9 (((Kp.refl _ wr).drew).trans kk1) (nf_mono (by rw [HQ.out.2.2.2.2.1]; exact HQ.out.2.2.2.1)) (Kp.refl _ _) (by rw [hnf]; exact HS.out.law) hlo6 (fun g hg => .inr hg)
                  have hB8 : Bd ws.length left n' (i + 1) := by
                    rw [hnn]
                    refine HB.out.wait H8.out hm60 (fun h => HX.out.2.2.1.2) (fun h e => ?_)
                    rw [← hkb.out h, HQ.out.1] at e
                    have := Option.some.inj e
                    have := HS.out.inb.1.elim fun c hc => hc.size_bd
                    omega
                  have hfin := Lib.hid (And.intro hS8 (And.intro hB8 hm60))
                  have Hr3 := Lib.hid hr3
                  clear hr1 kk2 kk3 kk4 kk5 kk6 kk7 kk8 kk9 kk10 kk1 hlo6 hown hkal ho1 hk1 hat1 hm60 hvc1 hvc2 hr3 hS8 hB8 hnf hne hnn e1
                  go_wp2_with (at_builtin; refine wpList_append_run _ Hr3.out rfl rfl rfl rfl ?_)
                  go_roundw
                  case rel => exact ⟨i + 1, _, _, _, _, _, _, by have := HI8.out; omega, by rw [HIV.out]; go_num, hfin.out.1, hfin.out.2.1, hfin.out.2.2⟩
                  case measure => have := HIV.out; have := HI8.out; simp [intOf]; omega
theorem inboxAll_walk (n0 : Int) (a1 : Option Addr) (len1 cap1 : Nat) (a2 : Option Addr) (len2 cap2 : Nat) (w : World) (r0 : Rdg Try.prog w 3 [.int .i64 n0]) (r1 : Rdg Try.prog w 35 [.slice a1 len1 cap1]) (r2 : Rdg Try.prog w 53 [.slice a2 len2 cap2]) :
    Calls Try.prog 6 #[.int .i64 n0, .slice a1 len1 cap1, .slice a2 len2 cap2] w fun e w' => e = .returned (.bool true) ∧ Below w.heap.size w w' := by
  obtain ⟨n, hn, hwf⟩ := r0.int Try.underlying3
  simp only [List.cons.injEq, Value.int.injEq, true_and, and_true] at hn
  subst hn
  have hb : -9223372036854775808 ≤ n0 ∧ n0 ≤ 9223372036854775807 := by
    simp [Lit.wf, IntKind.min, IntKind.max, IntKind.signed, IntKind.bits] at hwf
    omega
  obtain ⟨a, l, cap, h1, h2, h3, h4⟩ := rdl_open r1
  obtain ⟨a', ws, cap', k1, k2, k3⟩ := rdi_open r2
  simp only [List.cons.injEq, Value.slice.injEq, and_true] at h1 k1
  obtain ⟨rfl, rfl, rfl⟩ := h1
  obtain ⟨rfl, rfl, rfl⟩ := k1
  by_cases he : 60 < l.length ∨ 1000 < tl l ∨ 200 < ws.length
  · exact all_early n0 _ _ _ _ _ w l h2 (by omega) h4 (by omega) he
  · exact all_main n0 hb _ _ _ _ w l h2 ws k2 (by omega) (by omega) (by omega)
end Go.Proofs.Ytnigdgopmmccgaa
