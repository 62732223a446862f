/- RefsChoose: the walk. (Written by wip/refchoose.py.) -/
import Derived.Test.YtaibdkdmilhloaaPkO
import Derived.Test.YtaibdkdmilhloaaChr
import Derived.Test.YtaibdkdmilhloaaAwk
namespace Go.Proofs.Ytaibdkdmilhloaa
open Go.RowKit Flt
set_option linter.unusedVariables false
set_option linter.unusedSimpArgs false
theorem refsChoose_long (a : Option Addr) (n c : Nat) (least : Nat) (most : Int) (w : World) (hl : 100 < n) :
    Calls Try.prog 3 #[.slice a n c, .float .f64 least, .int .i64 most] w fun e w' => e = .returned (.bool true) ∧ Below w.heap.size w w' := by
  have h1 : (100 : Int) < n := by omega
  go_enter Try.func3, Try.ntmps3
  go_wp2
  go_ret
  exact ⟨rfl, Below.refl _ _⟩
set_option maxHeartbeats 4000000 in
set_option maxRecDepth 20000 in
theorem refsChoose_main (a : Option Addr) (n c : Nat) (l : List Pk) (least : Nat) (most : Int) (w : World) (hr : RdP w a l) (hn : n = l.length) (hl : n ≤ 100) :
    Calls Try.prog 3 #[.slice a n c, .float .f64 least, .int .i64 most] w fun e w' => e = .returned (.bool true) ∧ Below w.heap.size w w' := by
  have h1 : (n : Int) ≤ 100 := by omega
  have H := Lib.hid (And.intro hr hn)
  obtain ⟨a1, c1, w1, hap, hrd, kap⟩ := copy_pks c hr (by omega)
  rw [← hn] at hap
  have HAP := Lib.hid hap
  have H1 := Lib.hid (And.intro hrd kap)
  clear hr hn hap hrd kap
  go_enter Try.func3, Try.ntmps3
  go_wp2_with (at_builtin; refine wpList_append_run _ HAP.out rfl rfl rfl rfl ?_)
  go_at_call 9
  refine (choose_any a1 n c1 l least most _ H.out.2 (by omega) H1.out.1).mono ?_
  rintro e w2 ⟨v, W, rfl, hW, hWp, ho, hg, k2⟩
  obtain ⟨a2, c2, rfl, _, _⟩ := ho.form
  have C2 := Lib.hid (And.intro hW (And.intro hWp (And.intro ho.rd True.intro)))
  have HL := Lib.hid (show (chosenL l least most W).length ≤ 1000000 by
    unfold chosenL
    have h1 := List.length_filter_le (fun i => !bef least (canP (pkn l i))) W
    have h2 := hWp.length_eq
    rw [List.length_range] at h2
    have h3 := H.out.2
    rw [List.length_map, List.length_take]
    omega)
  have KK := Lib.hid (H1.out.2.trans k2)
  have KK2 := Lib.hid k2
  clear hW hWp ho hg k2
  go_wp2_with fail
  go_loopw [9] (fun iv wr => ∃ i : Nat, i ≤ n ∧ iv = .int .i64 i ∧ Kp (fun _ => False) w2 wr) (fun iv _ => n - (intOf iv).toNat)
  case atStart => exact ⟨0, by omega, rfl, Kp.refl _ _⟩
  case round =>
    obtain ⟨i, hi, rfl, hk⟩ := hrel
    have HK := Lib.hid hk
    clear hk
    by_cases hlt : i < n
    · have j1 : (i : Int) < n := by omega
      have hii : i < l.length := by rw [← H.out.2]; exact hlt
      obtain ⟨b1, o1, e1, x0, x1, x2⟩ := (H1.out.1.kp0 (KK2.out.trans HK.out)) i hii
      obtain ⟨b2, o2, e2, y0, y1, y2⟩ := (H.out.1.kp0 (KK.out.trans HK.out)) i hii
      subst e1 e2
      obtain ⟨p, hp⟩ : ∃ p, p = pkn l i := ⟨_, rfl⟩
      rw [← hp] at x0 x1 x2 y0 y1 y2
      have A := Lib.hid (And.intro x0 (And.intro x1 x2))
      have B := Lib.hid (And.intro y0 (And.intro y1 y2))
      clear x0 x1 x2 y0 y1 y2 hp hii
      go_upto_region 8 with fail
      refine region_L (S := fun w' => Kp (fun _ => False) wr w') [] rfl ?_
      have hSd : ∀ (w' : World) (n' : Nat), Kp (fun _ => False) wr w' → Kp (fun _ => False) wr (w'.drewN n') := fun w' n' h => h.drewN n'
      have hS0 : Kp (fun _ => False) wr wr.drew := (Kp.refl _ wr).drew
      refine anyL_world (fun w' => Kp (fun _ => False) wr w') hS0 ?_
      clear hS0
      intro x0 kx0
      refine anyL_takeF (i := 0) (d := 26) (v := (.slice (some ⟨b1, o1, none⟩) n c1)) rfl rfl (by kernel_rfl) (by kernel_rfl) (by kernel_rfl) (fun _ _ _ h => h) hSd (by kernel_rfl) (.inl (.inl ⟨rfl, fun w' hS => by first | rfl | go_simp⟩)) (fun _ => kx0) ?_
      try simp only [List.setIfInBounds_toArray, List.set_cons_succ, List.set_cons_zero]
      refine anyL_takeF (i := 1) (d := 27) (v := (.int .i64 (i : Nat))) rfl rfl (by kernel_rfl) (by kernel_rfl) (by kernel_rfl) (fun _ _ _ h => h) hSd (by kernel_rfl) (.inl (.inl ⟨rfl, fun w' hS => by first | rfl | go_simp⟩)) (fun _ => kx0) ?_
      try simp only [List.setIfInBounds_toArray, List.set_cons_succ, List.set_cons_zero]
      refine anyL_takeF (i := 2) (d := 28) (v := (.pointer (some ⟨b1, o1 + i * 3, none⟩))) rfl rfl (by kernel_rfl) (by kernel_rfl) (by kernel_rfl) (fun _ _ _ h => h) hSd (by kernel_rfl) (.inl (.inl ⟨rfl, fun w' hS => by first | rfl | go_simp⟩)) (fun _ => kx0) ?_
      try simp only [List.setIfInBounds_toArray, List.set_cons_succ, List.set_cons_zero]
      refine anyL_takeD (i := 3) (d := 29) (v := (.agg #[.int .i64 p.num, .int .i64 p.bytes, .int .i64 p.dead])) rfl rfl (by kernel_rfl) (by kernel_rfl) (by kernel_rfl) (fun _ _ _ h => h) hSd (by kernel_rfl) (.inl (.inl ⟨rfl, fun w' hS => by have h0 := hS.cell A.out.1 (fun h => h); have h1 := hS.cell A.out.2.1 (fun h => h); have h2 := hS.cell A.out.2.2 (fun h => h); go_simp⟩)) kx0 ?_
      try simp only [List.setIfInBounds_toArray, List.set_cons_succ, List.set_cons_zero]
      refine anyL_takeF (i := 4) (d := 30) (v := (.slice (some ⟨b2, o2, none⟩) n c)) rfl rfl (by kernel_rfl) (by kernel_rfl) (by kernel_rfl) (fun _ _ _ h => h) hSd (by kernel_rfl) (.inl (.inl ⟨rfl, fun w' hS => by first | rfl | go_simp⟩)) (fun _ => kx0) ?_
      try simp only [List.setIfInBounds_toArray, List.set_cons_succ, List.set_cons_zero]
      refine anyL_takeF (i := 5) (d := 31) (v := (.int .i64 (i : Nat))) rfl rfl (by kernel_rfl) (by kernel_rfl) (by kernel_rfl) (fun _ _ _ h => h) hSd (by kernel_rfl) (.inl (.inl ⟨rfl, fun w' hS => by first | rfl | go_simp⟩)) (fun _ => kx0) ?_
      try simp only [List.setIfInBounds_toArray, List.set_cons_succ, List.set_cons_zero]
      refine anyL_takeF (i := 6) (d := 32) (v := (.pointer (some ⟨b2, o2 + i * 3, none⟩))) rfl rfl (by kernel_rfl) (by kernel_rfl) (by kernel_rfl) (fun _ _ _ h => h) hSd (by kernel_rfl) (.inl (.inl ⟨rfl, fun w' hS => by first | rfl | go_simp⟩)) (fun _ => kx0) ?_
      try simp only [List.setIfInBounds_toArray, List.set_cons_succ, List.set_cons_zero]
      refine anyL_takeD (i := 7) (d := 33) (v := (.agg #[.int .i64 p.num, .int .i64 p.bytes, .int .i64 p.dead])) rfl rfl (by kernel_rfl) (by kernel_rfl) (by kernel_rfl) (fun _ _ _ h => h) hSd (by kernel_rfl) (.inl (.inl ⟨rfl, fun w' hS => by have h0 := hS.cell B.out.1 (fun h => h); have h1 := hS.cell B.out.2.1 (fun h => h); have h2 := hS.cell B.out.2.2 (fun h => h); go_simp⟩)) kx0 ?_
      try simp only [List.setIfInBounds_toArray, List.set_cons_succ, List.set_cons_zero]
      refine anyL_takeF (i := 8) (d := 34) (v := (.bool false)) rfl rfl (by kernel_rfl) (by kernel_rfl) (by kernel_rfl) (fun _ _ _ h => h) hSd (by kernel_rfl) (.inl (.inl ⟨rfl, fun w' hS => by go_simp⟩)) (fun _ => kx0) ?_
      try simp only [List.setIfInBounds_toArray, List.set_cons_succ, List.set_cons_zero]
      refine anyL_takeF (i := 9) (d := 35) (v := (.bool false)) rfl rfl (by kernel_rfl) (by kernel_rfl) (by kernel_rfl) (fun _ _ _ h => h) hSd (by kernel_rfl) (.inl (.inl ⟨rfl, fun w' hS => by first | rfl | go_simp⟩)) (fun _ => kx0) ?_
      try simp only [List.setIfInBounds_toArray, List.set_cons_succ, List.set_cons_zero]
      refine anyL_takeF (i := 10) (d := 36) (v := (.slice (some ⟨b2, o2, none⟩) n c)) rfl rfl (by kernel_rfl) (by kernel_rfl) (by kernel_rfl) (fun _ _ _ h => h) hSd (by kernel_rfl) (.inl (.inl ⟨rfl, fun w' hS => by first | rfl | go_simp⟩)) (fun _ => kx0) ?_
      try simp only [List.setIfInBounds_toArray, List.set_cons_succ, List.set_cons_zero]
      refine anyL_takeF (i := 11) (d := 37) (v := (.int .i64 (i : Nat))) rfl rfl (by kernel_rfl) (by kernel_rfl) (by kernel_rfl) (fun _ _ _ h => h) hSd (by kernel_rfl) (.inl (.inl ⟨rfl, fun w' hS => by first | rfl | go_simp⟩)) (fun _ => kx0) ?_
      try simp only [List.setIfInBounds_toArray, List.set_cons_succ, List.set_cons_zero]
      refine anyL_takeF (i := 12) (d := 38) (v := (.pointer (some ⟨b2, o2 + i * 3, none⟩))) rfl rfl (by kernel_rfl) (by kernel_rfl) (by kernel_rfl) (fun _ _ _ h => h) hSd (by kernel_rfl) (.inl (.inl ⟨rfl, fun w' hS => by first | rfl | go_simp⟩)) (fun _ => kx0) ?_
      try simp only [List.setIfInBounds_toArray, List.set_cons_succ, List.set_cons_zero]
      refine anyL_takeD (i := 13) (d := 39) (v := (.agg #[.int .i64 p.num, .int .i64 p.bytes, .int .i64 p.dead])) rfl rfl (by kernel_rfl) (by kernel_rfl) (by kernel_rfl) (fun _ _ _ h => h) hSd (by kernel_rfl) (.inl (.inl ⟨rfl, fun w' hS => by have h0 := hS.cell B.out.1 (fun h => h); have h1 := hS.cell B.out.2.1 (fun h => h); have h2 := hS.cell B.out.2.2 (fun h => h); go_simp⟩)) kx0 ?_
      try simp only [List.setIfInBounds_toArray, List.set_cons_succ, List.set_cons_zero]
      refine anyL_takeF (i := 15) (d := 41) (v := (.slice (some ⟨b2, o2, none⟩) n c)) rfl rfl (by kernel_rfl) (by kernel_rfl) (by kernel_rfl) (fun _ _ _ h => h) hSd (by kernel_rfl) (.inl (.inl ⟨rfl, fun w' hS => by first | rfl | go_simp⟩)) (fun _ => kx0) ?_
      try simp only [List.setIfInBounds_toArray, List.set_cons_succ, List.set_cons_zero]
      refine anyL_takeF (i := 16) (d := 42) (v := (.int .i64 (i : Nat))) rfl rfl (by kernel_rfl) (by kernel_rfl) (by kernel_rfl) (fun _ _ _ h => h) hSd (by kernel_rfl) (.inl (.inl ⟨rfl, fun w' hS => by first | rfl | go_simp⟩)) (fun _ => kx0) ?_
      try simp only [List.setIfInBounds_toArray, List.set_cons_succ, List.set_cons_zero]
      refine anyL_takeF (i := 17) (d := 43) (v := (.pointer (some ⟨b2, o2 + i * 3, none⟩))) rfl rfl (by kernel_rfl) (by kernel_rfl) (by kernel_rfl) (fun _ _ _ h => h) hSd (by kernel_rfl) (.inl (.inl ⟨rfl, fun w' hS => by first | rfl | go_simp⟩)) (fun _ => kx0) ?_
      try simp only [List.setIfInBounds_toArray, List.set_cons_succ, List.set_cons_zero]
      refine anyL_takeD (i := 18) (d := 44) (v := (.agg #[.int .i64 p.num, .int .i64 p.bytes, .int .i64 p.dead])) rfl rfl (by kernel_rfl) (by kernel_rfl) (by kernel_rfl) (fun _ _ _ h => h) hSd (by kernel_rfl) (.inl (.inl ⟨rfl, fun w' hS => by have h0 := hS.cell B.out.1 (fun h => h); have h1 := hS.cell B.out.2.1 (fun h => h); have h2 := hS.cell B.out.2.2 (fun h => h); go_simp⟩)) kx0 ?_
      try simp only [List.setIfInBounds_toArray, List.set_cons_succ, List.set_cons_zero]
      refine anyL_all (rs := [14]) (by kernel_rfl) (by simp) ?_
      intro n14 i hi
      simp only [List.mem_cons, List.not_mem_nil, or_false] at hi
      obtain rfl := hi
      refine wpOp_of rfl rfl ?_
      go_simp
      refine Calls.mono (upart_any p (x0.drewN n14)) ?_
      rintro e x1 ⟨r1, rfl, h1, j⟩
      try dsimp only
      have kx1 : Kp (fun _ => False) wr x1 := (kx0.drewN n14).trans j
      refine ⟨fun _ => kx1, ?_⟩
      try simp only [List.setIfInBounds_toArray, List.set_cons_succ, List.set_cons_zero]
      refine anyL_all (rs := [19]) (by kernel_rfl) (by simp) ?_
      intro n19 i hi
      simp only [List.mem_cons, List.not_mem_nil, or_false] at hi
      obtain rfl := hi
      refine wpOp_of rfl rfl ?_
      go_simp
      refine Calls.mono (rupart_any p (x1.drewN n19)) ?_
      rintro e x2 ⟨r2, rfl, h2, j⟩
      try dsimp only
      have kx2 : Kp (fun _ => False) wr x2 := (kx1.drewN n19).trans j
      refine ⟨fun _ => kx2, ?_⟩
      try simp only [List.setIfInBounds_toArray, List.set_cons_succ, List.set_cons_zero]
      refine anyL_all (rs := [20]) (by kernel_rfl) (by simp) ?_
      intro n20 i hi
      simp only [List.mem_cons, List.not_mem_nil, or_false] at hi
      obtain rfl := hi
      refine wpOp_of rfl rfl ?_
      go_simp
      refine Calls.mono (samefloat_k (h1.trans h2.symm) (x2.drewN n20)) ?_
      rintro e x3 ⟨rfl, j⟩
      try dsimp only
      have kx3 : Kp (fun _ => False) wr x3 := (kx2.drewN n20).trans j
      refine ⟨fun _ => kx3, ?_⟩
      try simp only [List.setIfInBounds_toArray, List.set_cons_succ, List.set_cons_zero]
      refine anyL_takeF (i := 21) (d := 47) (v := (.bool false)) rfl rfl (by kernel_rfl) (by kernel_rfl) (by kernel_rfl) (fun _ _ _ h => h) hSd (by kernel_rfl) (.inl (.inl ⟨rfl, fun w' hS => by first | rfl | go_simp⟩)) (fun _ => kx3) ?_
      try simp only [List.setIfInBounds_toArray, List.set_cons_succ, List.set_cons_zero]
      refine anyL_takeF (i := 22) (d := 48) (v := (.bool false)) rfl rfl (by kernel_rfl) (by kernel_rfl) (by kernel_rfl) (fun _ _ _ h => h) hSd (by kernel_rfl) (.inl (.inl ⟨rfl, fun w' hS => by first | rfl | go_simp⟩)) (fun _ => kx3) ?_
      try simp only [List.setIfInBounds_toArray, List.set_cons_succ, List.set_cons_zero]
      refine anyL_done (by kernel_rfl) (fun nn => ?_) _
      have kw9 := kx3.drewN nn
      generalize x3.drewN nn = w9 at *
      have K9 := Lib.hid kw9
      clear hSd kw9 A B
      go_wp2
      go_roundw
      case rel => exact ⟨i + 1, by omega, by go_num, HK.out.trans K9.out⟩
      case measure => simp [intOf]; omega
    · obtain rfl : i = n := by omega
      clear hlt
      go_wp2_with fail
      go_at_call 14
      refine (rchoose_any a i c l least most _ H.out.2 (by omega) (H.out.1.kp0 (KK.out.trans HK.out)) W C2.out.1 C2.out.2.1).mono ?_
      rintro e z1 ⟨v3, rfl, ho3, hg3, j⟩
      obtain ⟨a3, c3, rfl, _, _⟩ := ho3.form
      have R3 := Lib.hid ho3.rd
      clear ho3 hg3
      have Kz1 := Lib.hid j
      clear j
      go_wp2_with fail
      go_at_call 13
      refine (sameints_k a2 a3 c2 c3 (chosenL l least most W) (chosenL l least most W).length rfl _ (C2.out.2.2.1.kp (HK.out.trans Kz1.out) (fun _ _ h => h)) R3.out HL.out).mono ?_
      rintro e z2 ⟨rfl, j⟩
      have Kz2 := Lib.hid j
      clear j
      go_wp2_with fail
      go_at_call 15
      refine (awake_any _).mono ?_
      rintro e z3 ⟨rfl, j⟩
      have Kz3 := Lib.hid j
      clear j
      go_wp2_with fail
      go_ret
      exact ⟨rfl, ((KK.out.trans HK.out).trans ((Kz1.out.trans Kz2.out).trans Kz3.out)).below (fun _ _ h => h)⟩
theorem refsChoose_walk (a0 : Option Addr) (len0 cap0 : Nat) (x1 : Nat) (n2 : Int) (w : World) (r0 : Rdg Try.prog w 22 [.slice a0 len0 cap0]) (r1 : Rdg Try.prog w 23 (Value.float .f64 x1).cells.toList) (r2 : Rdg Try.prog w 3 (Value.int .i64 n2).cells.toList) :
    Calls Try.prog 3 #[.slice a0 len0 cap0, .float .f64 x1, .int .i64 n2] w fun e w' => e = .returned (.bool true) ∧ Below w.heap.size w w' := by
  obtain ⟨a, l, cap, e, hr, _, _, _⟩ := open_pks r0
  simp only [List.cons.injEq, Value.slice.injEq, and_true] at e
  obtain ⟨rfl, rfl, rfl⟩ := e
  by_cases h : 100 < l.length
  · exact refsChoose_long _ _ _ _ _ _ h
  · exact refsChoose_main _ _ _ l _ _ _ hr rfl (by omega)
end Go.Proofs.Ytaibdkdmilhloaa
