/- The walk of GuardLong: it returns true, whatever comes in. No condition. -/
import Derived.Test.YtabibgddbmllkaaGrdA
import Derived.Test.YtabibgddbmllkaaGrdB
import Derived.Test.YtabibgddbmllkaaCopyB
import Derived.Test.YtabibgddbmllkaaOpen
import Derived.Test.YtabibgddbmllkaaPick
import Derived.Outline
namespace Go.Proofs.Ytabibgddbmllkaa
open Go.RowKit
set_option linter.unusedVariables false
theorem long_early (a : Option Addr) (cap len : Nat) (n1 : Int) (b : Option Addr) (cap' len' : Nat) (w : World) (hl : 1000 < len ∨ len' ≠ 1) (hl2 : len ≤ 140737488351232) (hl3 : len' ≤ 140737488351232) :
    Calls Try.prog 8 #[.slice a len cap, .int .i64 n1, .slice b len' cap'] w fun e w' => e = .returned (.bool true) ∧ Below w.heap.size w w' := by
  by_cases h1 : 1000 < len
  · clear hl
    go_enter Try.func8, Try.ntmps8
    go_wp2_with fail
    refine (awake_any _).mono ?_
    rintro e w1 ⟨rfl, hk⟩
    go_wp2
    go_ret
    exact ⟨rfl, hk.below (fun _ _ h => h)⟩
  · have h2 : ((len' : Int) != 1) = true := by simp; omega
    clear hl
    go_enter Try.func8, Try.ntmps8
    go_wp2_with fail
    refine (awake_any _).mono ?_
    rintro e w1 ⟨rfl, hk⟩
    go_wp2
    go_ret
    exact ⟨rfl, hk.below (fun _ _ h => h)⟩
theorem chk_one (l : List Int) (c : Int) (h : ok4 (put4 l ++ [c]) = true) : ((put4 l ++ [c]).take ((put4 l ++ [c]).length - 4)).length = l.length + 1 ∧ ((put4 l ++ [c]).take ((put4 l ++ [c]).length - 4)).take l.length = l := by
  have e1 : (put4 l ++ [c]).length = l.length + 5 := by simp [put4_len]
  rw [e1, show l.length + 5 - 4 = l.length + 1 by omega]
  refine ⟨by simp [put4_len], ?_⟩
  rw [List.take_take, Nat.min_eq_left (by omega), put4, List.append_assoc, List.take_left]
set_option maxHeartbeats 2000000 in
theorem long_main (a : Option Addr) (cap : Nat) (n1 : Int) (b : Option Addr) (cap' : Nat) (l m : List Int) (w : World) (h : RdB w a l) (h' : RdB w b m) (h1 : -9223372036854775808 ≤ n1 ∧ n1 ≤ 9223372036854775807) (hl : l.length ≤ 1000) (hm : m.length = 1) (hcap : l.length ≤ cap) :
    Calls Try.prog 8 #[.slice a l.length cap, .int .i64 n1, .slice b 1 cap'] w fun e w' => e = .returned (.bool true) ∧ Below w.heap.size w w' := by
  obtain ⟨p, hp⟩ : ∃ p : Nat, n1 % 4 = p := ⟨(n1 % 4).toNat, by omega⟩
  have hpl : p < 4 := by omega
  have P1 := fun w => pick_any n1 4 w h1 (by omega)
  rw [hp] at P1
  have P1' := Lib.hid P1
  obtain ⟨c, rfl⟩ : ∃ c, m = [c] := by
    match m, hm with
    | [c], _ => exact ⟨c, rfl⟩
  clear P1 hp hm h1
  have hbl := h.bd
  go_enter Try.func8, Try.ntmps8
  go_wp2_with fail
  refine (awake_any _).mono ?_
  rintro e w1 ⟨rfl, hk1⟩
  have C := Lib.hid (put_any a cap l w1 (h.kp0 hk1 (fun _ _ h => h)) (by omega) hcap)
  have H1 := Lib.hid hk1
  clear hk1
  go_wp2_with fail
  refine C.out.mono ?_
  rintro e w2 ⟨v, rfl, hv, _, hk2⟩
  obtain ⟨va, vc, e2, hvr, hvc⟩ := hv.form
  have hcm : vc ≤ maxLen := by
    obtain ⟨va', vc', e3, _, hm2⟩ := hv.own.form
    rw [e2] at e3; simp only [Value.slice.injEq] at e3; omega
  have hpl4 := put4_len l
  rw [hpl4] at e2 hvc
  subst e2
  have H2 := Lib.hid (And.intro (H1.out.trans hk2) hvr)
  have HPL := Lib.hid hpl4
  clear hv hk2 hvr C H1 hpl4
  go_wp2_with fail
  refine (P1'.out _).mono ?_
  rintro e w' ⟨rfl, rfl⟩
  have i1 : (p : Int) ≤ vc := by omega
  have C := check_short va vc ((put4 l).take p) w2 (by simp; omega)
  rw [show ((put4 l).take p).length = p by simp [HPL.out]; omega] at C
  have C' := Lib.hid C
  clear P1' C
  go_wp2_with fail
  refine C'.out.mono ?_
  rintro e w' ⟨rfl, rfl⟩
  clear C'
  have C := copy_b va vc (put4 l) w2 H2.out.2 (by rw [HPL.out]; omega)
  rw [HPL.out] at C
  have C' := Lib.hid C
  clear C
  go_wp2_with fail
  refine C'.out.mono ?_
  rintro e w3 ⟨v3, rfl, hv3, hg3, hk3⟩
  have K3 := H2.out.1.trans hk3
  obtain ⟨v4, w4, hr4, ho4, hk4, hat4⟩ := run_append_b (P := Try.prog) (t := 22) (tx := 22) (ty := 22) w3 Try.underlying22 elem_u8 Try.underlying22 hv3 (a := b) (c := cap') (m := [c]) (h'.kp0 K3 (fun _ _ h => h)) (by rw [HPL.out]; simp; omega)
  have K24 : Kp (fun _ => False) w2 w4 := hk3.then hk4 (fun i hi e => by have := hg3 i e; omega)
  obtain ⟨v4a, v4c, e4, hr, hvc4⟩ := ho4.form
  have hcm4 : v4c ≤ maxLen := by
    obtain ⟨va', vc', e3, _, hm2⟩ := ho4.own.form
    rw [e4] at e3; simp only [Value.slice.injEq] at e3; omega
  have hzl : (put4 l ++ [c]).length = l.length + 5 := by simp [put4_len]
  have C := gcheck v4a v4c (put4 l ++ [c]) w4 hr (by omega) hvc4 hcm4
  rw [hzl] at C e4
  subst e4
  obtain ⟨v3a, v3c, e3, _, _⟩ := hv3.form
  rw [HPL.out] at e3
  subst e3
  have Hr := Lib.hid hr4
  have CC := Lib.hid C
  have H4 := Lib.hid K24
  clear hv3 hg3 hk3 K3 hr4 ho4 hk4 hat4 K24 hr hvc4 hcm4 hzl C C'
  go_wp2_with (at_builtin; refine wpList_append_run _ Hr.out rfl rfl rfl rfl ?_)
  refine CC.out.mono ?_
  rintro e w5 ⟨v5, rfl, hv5, _, hk5⟩
  have K25 := H4.out.trans hk5
  obtain ⟨v5a, v5c, e5, hr5, hvc5⟩ := hv5.form
  have C := gcheck va vc (put4 l) w5 (H2.out.2.kp0 K25 (fun _ _ h => h)) (by rw [HPL.out]; omega) (by rw [HPL.out]; omega) hcm
  have hck : ck (put4 l) = 0 ∧ chk (put4 l) = l := by
    obtain ⟨o1, o2⟩ := ok4_put4 l
    exact ⟨by rw [ck, o1]; rfl, by rw [chk, o1]; exact o2⟩
  rw [HPL.out, hck.1, hck.2] at C
  have C' := Lib.hid C
  have H5 := Lib.hid (H2.out.1.trans K25)
  have H5r := Lib.hid hr5
  have HV5 := Lib.hid hvc5
  subst e5
  clear hv5 hk5 K25 hr5 C hck CC H4 Hr hvc5
  go_wp2_with fail
  refine C'.out.mono ?_
  rintro e w6 ⟨v6, rfl, hv6, _, hk6⟩
  obtain ⟨v6a, v6c, rfl, _, _⟩ := hv6.form
  have H6 := Lib.hid (And.intro (H5.out.trans hk6) (H5r.out.kp0 hk6 (fun _ _ h => h)))
  clear hv6 hk6 C' H5 H5r
  by_cases hok : ok4 (put4 l ++ [c]) = true
  · obtain ⟨k1, k2⟩ := chk_one l c hok
    have e1 : ck (put4 l ++ [c]) = 0 := by rw [ck, hok]; rfl
    have e2 : chk (put4 l ++ [c]) = (put4 l ++ [c]).take ((put4 l ++ [c]).length - 4) := by rw [chk, hok]; rfl
    rw [← e2] at k1 k2
    have HR := Lib.hid H6.out.2
    rw [e1]
    generalize chk (put4 l ++ [c]) = y at *
    rw [k1]
    have hvc5 : l.length ≤ v5c := by have := HV5.out; omega
    have j1 : (l.length : Int) ≤ v5c := by omega
    have C := same_any v5a a v5c cap (y.take l.length) l w6 (HR.out.pre l.length) (h.kp0 H6.out.1 (fun _ _ h => h))
    rw [k2, decide_eq_true (rfl : l = l)] at C
    have C' := Lib.hid C
    clear C k1 k2 e1 e2 hok
    go_wp2_with fail
    refine C'.out.mono ?_
    rintro e w' ⟨rfl, rfl⟩
    go_wp2_with fail
    go_ret
    exact ⟨rfl, H6.out.1.below (fun _ _ h => h)⟩
  · have e1 : ck (put4 l ++ [c]) = 4 := by rw [ck, if_neg hok]
    rw [e1]
    clear e1 hok
    go_wp2_with fail
    go_ret
    exact ⟨rfl, H6.out.1.below (fun _ _ h => h)⟩
theorem guardLong_walk (a0 : Option Addr) (len0 cap0 : Nat) (n1 : Int) (a2 : Option Addr) (len2 cap2 : Nat) (w : World) (r0 : Rdg Try.prog w 22 [.slice a0 len0 cap0]) (r1 : Rdg Try.prog w 3 [.int .i64 n1]) (r2 : Rdg Try.prog w 22 [.slice a2 len2 cap2]) :
    Calls Try.prog 8 #[.slice a0 len0 cap0, .int .i64 n1, .slice a2 len2 cap2] w fun e w' => e = .returned (.bool true) ∧ Below w.heap.size w w' := by
  obtain ⟨_, l, _, e0, h, h1, h2⟩ := r0.bytes Try.underlying22 Try.underlying5 (by kernel_rfl) (by kernel_rfl)
  simp only [List.cons.injEq, Value.slice.injEq, and_true] at e0
  obtain ⟨rfl, rfl, rfl⟩ := e0
  obtain ⟨_, m, _, e0, h', h1', h2'⟩ := r2.bytes Try.underlying22 Try.underlying5 (by kernel_rfl) (by kernel_rfl)
  simp only [List.cons.injEq, Value.slice.injEq, and_true] at e0
  obtain ⟨rfl, rfl, rfl⟩ := e0
  obtain ⟨x, ex, hwf⟩ := r1.int Try.underlying3
  simp only [List.cons.injEq, Value.int.injEq, true_and, and_true] at ex
  subst ex
  have b1 : -9223372036854775808 ≤ n1 ∧ n1 ≤ 9223372036854775807 := by
    simp [Lit.wf, IntKind.min, IntKind.max, IntKind.signed, IntKind.bits] at hwf; omega
  by_cases hl : 1000 < l.length ∨ m.length ≠ 1
  · exact long_early _ _ _ _ _ _ _ w hl (by omega) (by omega)
  · have hm : m.length = 1 := by omega
    rw [hm]
    exact long_main _ _ n1 _ _ l m w h h' b1 (by omega) hm h1
end Go.Proofs.Ytabibgddbmllkaa
