/- The walk of GuardSums: it returns true, whatever comes in. No condition. -/
import Derived.Test.YtabibgddbmllkaaGrdA
import Derived.Test.YtabibgddbmllkaaGrdB
import Derived.Test.YtabibgddbmllkaaOpen
namespace Go.Proofs.Ytabibgddbmllkaa
open Go.RowKit
set_option linter.unusedVariables false
theorem sums_long (a b : Option Addr) (cap cap' : Nat) (len len' : Nat) (w : World) (hl : 1000 < len ∨ 1000 < len') (hl2 : len ≤ 140737488351232) (hl3 : len' ≤ 140737488351232) :
    Calls Try.prog 3 #[.slice a len cap, .slice b len' cap'] w fun e w' => e = .returned (.bool true) ∧ Below w.heap.size w w' := by
  by_cases h1 : 1000 < len
  · clear hl
    go_enter Try.func3, Try.ntmps3
    go_wp2_with fail
    refine (awake_any _).mono ?_
    rintro e w1 ⟨rfl, hk⟩
    go_wp2
    go_ret
    exact ⟨rfl, hk.below (fun _ _ h => h)⟩
  · have h2 : 1000 < len' := by omega
    clear hl
    go_enter Try.func3, Try.ntmps3
    go_wp2_with fail
    refine (awake_any _).mono ?_
    rintro e w1 ⟨rfl, hk⟩
    go_wp2
    go_ret
    exact ⟨rfl, hk.below (fun _ _ h => h)⟩
set_option maxHeartbeats 2000000 in
theorem sums_main (a b : Option Addr) (cap cap' : Nat) (l m : List Int) (w : World) (h : RdB w a l) (h' : RdB w b m) (hl : l.length ≤ 1000) (hm : m.length ≤ 1000) (hcap : l.length ≤ cap) (hcap' : m.length ≤ cap') :
    Calls Try.prog 3 #[.slice a l.length cap, .slice b m.length cap'] w fun e w' => e = .returned (.bool true) ∧ Below w.heap.size w w' := by
  go_enter Try.func3, Try.ntmps3
  go_wp2_with fail
  refine (lent_any a cap l w h (by omega)).mono ?_
  rintro e w1 ⟨rfl, hat1, hk1⟩
  have C := Lib.hid (lent_any b cap' m w1 (h'.kp0 hk1 (fun _ _ h => h)) (by omega))
  have H1 := Lib.hid (And.intro hat1 hk1)
  clear hat1 hk1
  go_wp2_with fail
  refine C.out.mono ?_
  rintro e w2 ⟨rfl, hat2, hk2⟩
  have hl1 := H1.out.1.lt
  have hl2 := hat2.lt
  obtain ⟨gx, hgx⟩ : ∃ g, g = w.heap.size := ⟨_, rfl⟩
  obtain ⟨gy, hgy⟩ : ∃ g, g = w1.heap.size := ⟨_, rfl⟩
  have hk02 := H1.out.2.trans hk2
  have X2 : At w2 gx ((l ++ marks l.length).map (Value.int .u8)) := by rw [hgx]; exact hk2.at H1.out.1 (fun h => h)
  rw [← hgy] at hat2 ⊢
  rw [← hgx]
  have HG := Lib.hid (show gx < w2.heap.size ∧ gy < w2.heap.size ∧ w.heap.size ≤ gx ∧ w.heap.size ≤ gy by rw [← hgy] at hl2; have := H1.out.2.size; have := hk2.size; omega)
  have H2 := Lib.hid (And.intro X2 (And.intro hat2 hk02))
  clear hat2 hk2 hk02 X2 hl1 hl2 hgx hgy H1 C
  obtain ⟨X2, Y2, K2⟩ := H2.out
  have hka := (Kp.refl (fun _ => False) w2).alloc (.cells #[] 5)
  obtain ⟨v1, w3, hr1, ho1, hk3, hat3⟩ := run_append_b (P := Try.prog) (t := 22) (tx := 22) (ty := 22) (w2.alloc (.cells #[] 5)) Try.underlying22 elem_u8 Try.underlying22 (ownb_new w2) (a := a) (c := cap) (m := l) ((h.kp0 K2 (fun _ _ h => h)).kp hka (fun _ _ h => h)) (by simp; omega)
  rw [List.nil_append] at ho1
  have hv1 : ∀ g, v1.ownBlock = some g → w2.heap.size ≤ g := fun g hg => by
    rcases hat3 with e | e
    · rw [e] at hg; simp [Value.ownBlock] at hg; omega
    · rw [e] at hg; simp at hg; omega
  have hk23 : Kp (fun _ => False) w2 w3 := hka.then hk3 (fun i hi e => by simp [Value.ownBlock] at e; omega)
  obtain ⟨v2, w4, hr2, ho2, hk4, hat4⟩ := run_append_b (P := Try.prog) (t := 22) (tx := 22) (ty := 22) w3 Try.underlying22 elem_u8 Try.underlying22 ho1 (a := b) (c := cap') (m := m) (h'.kp0 (K2.trans hk23) (fun _ _ h => h)) (by omega)
  have hk24 : Kp (fun _ => False) w2 w4 := hk23.then hk4 (fun i hi e => by have := hv1 i e; omega)
  obtain ⟨v1a, v1c, rfl, _, _⟩ := ho1.form
  obtain ⟨v2a, v2c, e2, hr4, _⟩ := ho2.form
  have hlm : (l ++ m).length = l.length + m.length := by simp
  rw [hlm] at e2
  subst e2
  have Hr1 := Lib.hid hr1
  have Hr2 := Lib.hid hr2
  have H4 := Lib.hid (And.intro (hk24.at X2 (fun h => h)) (And.intro (hk24.at Y2 (fun h => h)) (And.intro (K2.trans hk24) (And.intro hr4 hk24.size))))
  clear hr1 hr2 ho1 ho2 hk3 hat3 hv1 hk23 hk4 hat4 hk24 hr4 hka X2 Y2 K2 H2
  have tok1 : True := trivial
  go_wp2_with (first | (at_builtin; have _t := tok1; refine wpList_append_run _ Hr1.out rfl rfl rfl rfl ?_; clear tok1) | (at_builtin; refine wpList_append_run _ Hr2.out rfl rfl rfl rfl ?_))
  clear Hr1 Hr2
  obtain ⟨X4, Y4, K4, R4, S4⟩ := H4.out
  have hbl := h.bd
  have hbm := h'.bd
  have rx := RdB.lent' X4 hbl (by omega)
  have CP := Lib.hid (put_any (some ⟨gx, 0, none⟩) (l.length + 3) l w4 rx (by omega) (by omega))
  clear X4 Y4 K4 R4 rx
  refine CP.out.mono ?_
  rintro e w5 ⟨v5, rfl, hv5, hg5, hk5⟩
  obtain ⟨v5a, v5c, e5, hr5, _⟩ := hv5.form
  rw [put4_len] at e5
  subst e5
  -- what holds behind p := Put(x), of whatever world that keeps it
  have F5 : ∀ w', Kp (fun _ => False) w5 w' → RdB w' (some ⟨gx, 0, none⟩) l ∧ RdB w' (some ⟨gy, 0, none⟩) m ∧ RdB w' a l ∧ RdB w' v2a (l ++ m) ∧ RdB w' v5a (put4 l) := fun w' k => by
    obtain ⟨X4, Y4, K4, R4, _⟩ := H4.out
    have k' := hk5.trans k
    exact ⟨RdB.lent' (k'.at X4 (fun h => h)) hbl (by omega), RdB.lent' (k'.at Y4 (fun h => h)) hbm (by omega), h.kp0 (K4.trans k') (fun _ _ h => h), R4.kp0 k' (fun _ _ h => h), hr5.kp0 k (fun _ _ h => h)⟩
  have HF := Lib.hid F5
  have H5 := Lib.hid (And.intro hv5 (And.intro hg5 hk5))
  clear F5 hv5 hg5 hk5 hr5 CP
  have C := Lib.hid (sum_any (some ⟨gx, 0, none⟩) (l.length + 3) l w5 (HF.out w5 (Kp.refl _ _)).1 (by omega))
  have hs := more_lt 0 l
  rw [show more 0 l = sum4 l from rfl] at hs
  have HS := Lib.hid hs
  have HM := Lib.hid (show more (sum4 l) m = sum4 (l ++ m) from (more_append hbl).symm)
  clear hs
  generalize hsl : sum4 l = s at *
  have hsl := Lib.hid hsl
  rename_i hslx
  clear hslx
  go_wp2_with fail
  refine C.out.mono ?_
  rintro e w6 ⟨rfl, hk6⟩
  have H6 := Lib.hid hk6
  clear hk6 C
  have C := rsum_any a cap l w6 (HF.out w6 H6.out).2.2.1 (by omega)
  rw [hsl.out] at C
  have C' := Lib.hid C
  clear C
  go_wp2_with fail
  refine C'.out.mono ?_
  rintro e w7 ⟨rfl, rfl⟩
  go_wp2_with fail
  refine C'.out.mono ?_
  rintro e w7 ⟨rfl, rfl⟩
  clear C'
  have C := more_any s HS.out (some ⟨gy, 0, none⟩) (m.length + 3) m w6 (HF.out w6 H6.out).2.1 (by omega)
  rw [HM.out] at C
  have C' := Lib.hid C
  clear C
  go_wp2_with fail
  refine C'.out.mono ?_
  rintro e w7 ⟨rfl, hk7⟩
  have H7 := Lib.hid (H6.out.trans hk7)
  clear hk7 C' H6
  have C := rsum_any v2a v2c (l ++ m) w7 (HF.out w7 H7.out).2.2.2.1 (by omega)
  rw [hlm] at C
  have C' := Lib.hid C
  clear C
  generalize sum4 (l ++ m) = s2 at *
  go_wp2_with fail
  refine C'.out.mono ?_
  rintro e w8 ⟨rfl, rfl⟩
  clear C'
  have C' := Lib.hid (rput_any a cap l w7 (HF.out w7 H7.out).2.2.1 (by omega))
  go_wp2_with fail
  refine C'.out.mono ?_
  rintro e w8 ⟨v8, rfl, hv8, hg8, hk8⟩
  obtain ⟨v8a, v8c, e8, hr8, _⟩ := hv8.form
  rw [put4_len] at e8
  subst e8
  have C := same_n v5a v8a (l.length + 4) (l.length + 4) v5c v8c (put4 l) (put4 l) w8 (HF.out w8 (H7.out.trans hk8)).2.2.2.2 hr8 (put4_len l) (put4_len l)
  rw [decide_eq_true (rfl : put4 l = put4 l)] at C
  have C2 := Lib.hid C
  have H8 := Lib.hid (H7.out.trans hk8)
  clear C hv8 hg8 hk8 hr8 C' H7
  go_wp2_with fail
  refine C2.out.mono ?_
  rintro e w9 ⟨rfl, rfl⟩
  clear C2
  have C := Lib.hid (over_own (H5.out.1.kp H8.out (fun _ _ h => h)))
  go_wp2_with fail
  refine C.out.mono ?_
  rintro e w9 ⟨rfl, hk9⟩
  obtain ⟨X4, Y4, K4, _, _⟩ := H4.out
  have k49 : Kp (fun g => (Value.slice v5a (l.length + 4) v5c).ownBlock = some g) w4 w9 := ((H5.out.2.2.trans H8.out).mono (S' := fun g => (Value.slice v5a (l.length + 4) v5c).ownBlock = some g) (fun _ _ h => h.elim)).then hk9 (fun _ _ e => e)
  have X9 := k49.at X4 (fun e => by have := H5.out.2.1 _ e; have := HG.out; omega)
  have Y9 := k49.at Y4 (fun e => by have := H5.out.2.1 _ e; have := HG.out; omega)
  have K9 : Kp (fun _ => False) w w9 := K4.then k49 (fun i hi e => by have := H5.out.2.1 _ e; have := K4.size; omega)
  have C1 := Lib.hid (fun w' (k : Kp (fun _ => False) w9 w') => kept_any gx a cap l w' (k.at X9 (fun h => h)) (h.kp0 (K9.trans k) (fun _ _ h => h)) (by omega))
  have C2 := Lib.hid (fun w' (k : Kp (fun _ => False) w9 w') => kept_any gy b cap' m w' (k.at Y9 (fun h => h)) (h'.kp0 (K9.trans k) (fun _ _ h => h)) (by omega))
  have H9 := Lib.hid K9
  clear X4 Y4 K4 k49 X9 Y9 K9 hk9 C
  go_wp2_with fail
  refine (C1.out w9 (Kp.refl _ _)).mono ?_
  rintro e w10 ⟨rfl, hk10⟩
  have H10 := Lib.hid hk10
  clear hk10
  go_wp2_with fail
  refine (C2.out w10 H10.out).mono ?_
  rintro e w11 ⟨rfl, hk11⟩
  have H11 := Lib.hid (H9.out.trans (H10.out.trans hk11))
  clear hk11
  go_wp2_with fail
  refine (awake_any _).mono ?_
  rintro e w12 ⟨rfl, hk12⟩
  go_wp2
  go_ret
  exact ⟨rfl, (H11.out.trans hk12).below (fun _ _ h => h)⟩
theorem guardSums_walk (a0 : Option Addr) (len0 cap0 : Nat) (a1 : Option Addr) (len1 cap1 : Nat) (w : World) (r0 : Rdg Try.prog w 22 [.slice a0 len0 cap0]) (r1 : Rdg Try.prog w 22 [.slice a1 len1 cap1]) :
    Calls Try.prog 3 #[.slice a0 len0 cap0, .slice a1 len1 cap1] w fun e w' => e = .returned (.bool true) ∧ Below w.heap.size w w' := by
  obtain ⟨_, l, _, e0, h, h1, h2⟩ := r0.bytes Try.underlying22 Try.underlying5 (by kernel_rfl) (by kernel_rfl)
  simp only [List.cons.injEq, Value.slice.injEq, and_true] at e0
  obtain ⟨rfl, rfl, rfl⟩ := e0
  obtain ⟨_, m, _, e0, h', h1', h2'⟩ := r1.bytes Try.underlying22 Try.underlying5 (by kernel_rfl) (by kernel_rfl)
  simp only [List.cons.injEq, Value.slice.injEq, and_true] at e0
  obtain ⟨rfl, rfl, rfl⟩ := e0
  by_cases hl : 1000 < l.length ∨ 1000 < m.length
  · exact sums_long _ _ _ _ _ _ w hl (by omega) (by omega)
  · exact sums_main _ _ _ _ l m w h h' (by omega) (by omega) h1 h1'
end Go.Proofs.Ytabibgddbmllkaa
