/- FrameGuarded. (Written by wip/frguarded.py.) -/
import Derived.IntWalk
import Derived.Test.YtjjoancnkjlaeaaFrmO
import Derived.Test.YtjjoancnkjlaeaaFrmZ
import Derived.Test.YtjjoancnkjlaeaaFrmY
namespace Go.Proofs.Ytjjoancnkjlaeaa
open Go.RowKit
set_option linter.unusedVariables false
set_option linter.unusedSimpArgs false
theorem guarded_any (a : Option Addr) (cap : Nat) (l : List Int) (w : World) (h : RdB w a l) (hl : l.length ≤ 100000000) :
    Calls Try.prog 24 #[.slice a l.length cap] w fun e w' => ∃ v, e = .returned v ∧ OwnB w' v (put4 l) ∧ (∀ g, v.ownBlock = some g → w.heap.size ≤ g) ∧ Kp (fun _ => False) w w' := by
  have C := Lib.hid (rput_any a cap l w h hl)
  generalize l.length = n at *
  go_enter Try.func24, Try.ntmps24
  go_wp2_with (go_at_call 39; refine C.out.mono ?_; rintro e w1 ⟨v, rfl, hv⟩)
  go_ret
  exact ⟨v, rfl, hv⟩
theorem OwnB.take {w : World} {g n c : Nat} {l : List Int} (h : OwnB w (.slice (some ⟨g, 0, none⟩) n c) l) {k : Nat} (hk : k ≤ l.length) : OwnB w (.slice (some ⟨g, 0, none⟩) k c) (l.take k) := by
  rcases h.own.2 with ⟨e, _⟩ | ⟨g', cap, sp, e, hat, hsp, hle, hcm⟩
  · cases e
  · simp only [Value.slice.injEq, Option.some.injEq, Addr.mk.injEq, and_true] at e
    obtain ⟨rfl, rfl, rfl⟩ := e
    have hlt : (l.take k).length = k := by rw [List.length_take]; omega
    refine ⟨⟨by simp, .inr ⟨g, c, (l.drop k).map (Value.int .u8) ++ sp, by rw [hlt], ?_, ?_, by omega, hcm⟩⟩, ?_, h.byt.take k, by have := h.len; omega⟩
    · rw [← List.append_assoc, ← List.map_append, List.take_append_drop]; exact hat
    · simp [hsp, hlt]; omega
    · exact h.blk
theorem rdb_one {w : World} {x : Int} {T : TypeId} (hx : 0 ≤ x ∧ x ≤ 255) : RdB (w.alloc (.cells #[.int .u8 x] T)) (some ⟨w.heap.size, 0, none⟩) [x] :=
  RdB.of_at (pre := []) (post := []) (by have := At.new w [.int .u8 x] T; simpa using this) (by intro y hy; simp at hy; omega) (by simp)
/-- The tail: bytes are guarded, and read twice. -/
def GStart : Prop := True
set_option maxHeartbeats 4000000 in
set_option maxRecDepth 20000 in
theorem guarded_main (f : Fr) (a : Option Addr) (c : Nat) (n1 n2 n3 : Int) (w : World) (hI : frI f) (hr : RdB w a f.bd) (hc : f.bd.length ≤ c) (hl : f.bd.length ≤ 100) (hn1 : -9223372036854775808 ≤ n1 ∧ n1 ≤ 9223372036854775807) (hn2 : 0 ≤ n2 ∧ n2 ≤ 255) (hn3 : -9223372036854775808 ≤ n3 ∧ n3 ≤ 9223372036854775807) :
    Calls Try.prog 5 #[.agg (frA f a c), .int .i64 n1, .int .u8 n2, .int .i64 n3] w fun e w' => e = .returned (.bool true) ∧ Below w.heap.size w w' := by
  have AW := Lib.hid (fun w' => awake_any w')
  have CL := Lib.hid (fun w' (h : RdB w' a f.bd) => rlay_any f a c w' h hc (by omega))
  have HLL := Lib.hid (layF_len f)
  have hR := Lib.hid (fun w' (k : Kp (fun _ => False) w w') => hr.kp0 k (fun _ _ h => h))
  generalize layF f = lf at *
  obtain ⟨ty, se, bo, sq, ac, bd⟩ := f
  dsimp only [frA] at *
  clear hI hr
  generalize bd.length = n at *
  obtain ⟨L, hL⟩ : ∃ L : Nat, L = n + 22 := ⟨_, rfl⟩
  have HL := Lib.hid (show lf.length = L + 4 by rw [HLL.out, hL])
  have CPL := Lib.hid (fun w' => pick_any n1 (L : Int) w' hn1 (by omega))
  obtain ⟨q, hq⟩ : ∃ q : Nat, n1 % (L : Int) = q := ⟨(n1 % (L : Int)).toNat, by have := Int.emod_nonneg n1 (show (L : Int) ≠ 0 by omega); omega⟩
  have hq2 : q < L := by have := Int.emod_lt_of_pos n1 (show 0 < (L : Int) by omega); omega
  rw [hq] at CPL
  have CP3 := Lib.hid (fun w' => pick_any n3 3 w' hn3 (by omega))
  obtain ⟨m, hm⟩ : ∃ m : Nat, n3 % 3 = m := ⟨(n3 % 3).toNat, by have := Int.emod_nonneg n3 (show (3 : Int) ≠ 0 by omega); omega⟩
  have hm2 : m < 3 := by omega
  rw [hm] at CP3
  clear hn1 hn3 hq hm
  go_enter Try.func5, Try.ntmps5
  go_upto_region 1 with (fail)
  refine wp_world (fun wx => At wx w.heap.size [.int .i64 ty, .int .i64 se, .int .i64 bo, .int .i64 sq, .int .i64 ac, .slice a n c] ∧ Kp (fun _ => False) w wx) ⟨At.new w [.int .i64 ty, .int .i64 se, .int .i64 bo, .int .i64 sq, .int .i64 ac, .slice a n c] _, (Kp.refl _ w).alloc _⟩ ?_
  rintro w1 ⟨ha1, k1⟩
  have x0 := (ha1.cell 0).trans (show _ = some (.int .i64 ty) from rfl); have x1 := (ha1.cell 1).trans (show _ = some (.int .i64 se) from rfl); have x2 := (ha1.cell 2).trans (show _ = some (.int .i64 bo) from rfl); have x3 := (ha1.cell 3).trans (show _ = some (.int .i64 sq) from rfl); have x4 := (ha1.cell 4).trans (show _ = some (.int .i64 ac) from rfl); have x5 := (ha1.cell 5).trans (show _ = some (.slice a n c) from rfl)
  have K1 := Lib.hid (And.intro k1 ha1)
  clear ha1 k1
  go_upto_region 4 with (go_at_call 22; (with_reducible refine (CL.out _ (hR.out _ K1.out.1)).mono ?_); rintro e w2 ⟨v, rfl, hv, hgv, k2⟩; have H2 := Lib.hid (And.intro hv (And.intro hgv (K1.out.1.trans k2))); clear hv hgv k2)
  obtain ⟨g, vc, rfl, hlc, hcm, hf, hcell⟩ := H2.out.1.head (by rw [HLL.out]; omega)
  rw [HL.out] at H2 hlc hcell ⊢
  have hg := H2.out.2.1 g rfl
  have HT := Lib.hid (H2.out.1.take (k := L) (by rw [HL.out]; omega))
  have hlt : (lf.take L).length = L := by rw [List.length_take, HL.out]; omega
  have hcq := hcell q (by omega)
  have hfq := hf q
  have j1 : (L : Int) ≤ vc := by omega
  have j2 : (q : Int) < L := by omega
  have j0 : wrap64 (L : Int) = (L : Int) := IntWalk.wrap64_in _ (by omega)
  clear hf hcell
  have HLC := Lib.hid hL
  clear hL
  go_upto_region 5 with fail
  go_upto_region 6 with (go_at_call 23; (with_reducible refine (CPL.out _).mono ?_); rintro e w3 ⟨rfl, rfl⟩)
  clear j0
  refine wp_world (fun wx => ∃ y, OwnB wx (.slice (some ⟨g, 0, none⟩) L vc) y ∧ y.length = L ∧ Kp (fun _ => False) w wx) ⟨_, HT.out.set (i := q) (by rw [hlt]; exact hq2) hn2, by rw [List.length_set]; exact hlt, ?_⟩ ?_
  · exact H2.out.2.2.then ((Kp.refl (fun i => i = g) w2).setCell (p := ⟨g, q, none⟩) (fun _ => rfl) _) (fun i hi e => by have := K1.out.1.size; omega)
  rintro w3 ⟨y, hy, hyl, hk3⟩
  have HG : Hid (w.heap.size ≤ g) := by have := K1.out.1.size; show _ ≤ _; omega
  have H3 := Lib.hid (And.intro hy (And.intro hyl hk3))
  clear hy hyl hk3 HT hlt hcq hfq hg hq2 j1 j2 CPL CL HLL HL hR x0 x1 x2 x3 x4 x5
  go_wp2_with fail
  go_loopw [10, 9] (fun i v wr => ∃ (k : Nat) (y : List Int) (A : Option Addr) (cc : Nat), k ≤ m ∧ i = .int .i64 k ∧ v = .slice A (L + k) cc ∧ OwnB wr v y ∧ y.length = L + k ∧ (∀ x, v.ownBlock = some x → w.heap.size ≤ x) ∧ Kp (fun _ => False) w wr) (fun i _ _ => m - (intOf i).toNat)
  case atStart => exact ⟨0, y, some ⟨g, 0, none⟩, vc, by omega, rfl, rfl, H3.out.1, H3.out.2.1, fun x hx => by simp [Value.ownBlock] at hx; have := HG.out; omega, H3.out.2.2⟩
  case round =>
    clear H3
    obtain ⟨k, y, A, cc, hk, rfl, rfl, hy, hyl, hvb, hkp⟩ := hrel
    have hL : L ≤ 122 := by have := HLC.out; omega
    by_cases hlt : k < m
    · have i1 : (k : Int) < m := by omega
      have hka := (Kp.refl (fun _ => False) wr).alloc (.cells #[.int .u8 n2] 5)
      obtain ⟨v', w', h1, h2, h3, h4⟩ := run_append_b (P := Try.prog) (t := 22) (tx := 22) (ty := 22) (wr.alloc (.cells #[.int .u8 n2] 5)) Try.underlying22 elem_u8 Try.underlying22 (hy.kp hka (fun _ _ h => h)) (a := some ⟨wr.heap.size, 0, none⟩) (c := 1) (m := [n2]) (rdb_one hn2) (by simp; omega)
      obtain ⟨A', c', e2, _, _⟩ := h2.form
      rw [show (y ++ [n2]).length = L + (k + 1) by simp; omega] at e2
      subst e2
      have HR4 := Lib.hid h1
      have HF := Lib.hid (And.intro h2 (And.intro (show ∀ x, (Value.slice A' (L + (k + 1)) c').ownBlock = some x → w.heap.size ≤ x from fun x hx => by
        rcases h4 with e | e
        · exact hvb x (e ▸ hx)
        · rw [hx] at e; have := hka.size; have := hkp.size; simp only [Option.some.injEq] at e; omega) ((hkp.trans hka).then h3 (fun i hi e => by have := hvb i e; omega))))
      clear hy hvb hkp hka h1 h2 h3 h4
      go_wp2_with (first | (at_builtin; refine wpList_append_run _ HR4.out rfl rfl rfl rfl ?_) | (go_at_call 23; (with_reducible refine (CP3.out _).mono ?_); rintro e w3 ⟨rfl, rfl⟩))
      go_roundw
      case rel => exact ⟨k + 1, y ++ [n2], A', c', by omega, by go_num, rfl, HF.out.1, by simp; omega, HF.out.2.1, HF.out.2.2⟩
      case measure => simp [intOf]; omega
    · obtain rfl : k = m := by omega
      have i9 : ¬ ((k : Int) < k) := by omega
      have CG := Lib.hid (fun w' (h : RdB w' A y) => guarded_any A cc y w' h (by omega))
      have HPL := Lib.hid (show (put4 y).length = L + k + 4 by rw [put4_len]; omega)
      rw [hyl] at CG
      have HY := Lib.hid (And.intro hy.rdb hkp)
      have CS := Lib.hid (fun w' A cA B cB (h1 : RdB w' A (frR (put4 y)).bd) (h2 : RdB w' B (frR (put4 y)).bd) => samef_any (frR (put4 y)) (frR (put4 y)) A B cA cB w' h1 h2)
      rw [show sameF (frR (put4 y)) (frR (put4 y)) = true from (sameF_iff _ _).2 rfl] at CS
      clear hy hvb hkp hyl hlt
      generalize put4 y = l at *
      go_upto_region 11 with (first | (go_at_call 24; (with_reducible refine (CG.out _ HY.out.1).mono ?_); rintro e w1 ⟨v, rfl, hv, hgv, k1⟩; obtain ⟨va, vc, rfl, hvr, hvc, hvm⟩ := hv.form2; rw [HPL.out] at hvc ⊢; have HV := Lib.hid (And.intro hvr (And.intro hvc (And.intro hvm (HY.out.2.trans k1)))); clear hv hgv hvr hvc hvm k1) | (go_at_call 23; (with_reducible refine (CP3.out _).mono ?_); rintro e w3 ⟨rfl, rfl⟩))
      have hvc := HV.out.2.1
      have hvm := HV.out.2.2.1
      have CRA := Lib.hid (fun w' (h : RdB w' va l) => fread_any va vc l w' h (by rw [HPL.out]; omega) (by rw [HPL.out]; omega) hvm)
      have CRB := Lib.hid (fun w' (h : RdB w' va l) => rread_any va vc l w' h (by rw [HPL.out]; omega) (by rw [HPL.out]; omega) hvm)
      unfold RdOut at CRA CRB
      rw [HPL.out] at CRA CRB
      generalize frR l = F at *
      generalize errR l = er at *
      obtain ⟨gt, gs, gb, gq, ga, bd2⟩ := F
      dsimp only [frA] at *
      generalize hgn : bd2.length = gn at *
      clear hgn hvc hvm
      have ee : (er == er) = true := by simp
      generalize hM : L + k + 4 = M at *
      clear hM
      go_upto_region 12 with (go_at_call 19; (with_reducible refine (CRA.out _ HV.out.1).mono ?_); rintro e w2 ⟨A, cA, rfl, hA, gA, k2⟩; have H2 := Lib.hid (And.intro hA k2); clear hA gA k2)
      refine wp_world (fun wx => At wx w2.heap.size [.int .i64 gt, .int .i64 gs, .int .i64 gb, .int .i64 gq, .int .i64 ga, .slice A gn cA] ∧ Kp (fun _ => False) w2 wx) ⟨At.new w2 [.int .i64 gt, .int .i64 gs, .int .i64 gb, .int .i64 gq, .int .i64 ga, .slice A gn cA] _, (Kp.refl _ w2).alloc _⟩ ?_
      rintro w3 ⟨ha3, k3⟩
      have H3 := Lib.hid (And.intro ha3 (And.intro (H2.out.2.trans k3) k3))
      clear ha3 k3
      go_upto_region 13 with (go_at_call 20; (with_reducible refine (CRB.out _ (HV.out.1.kp0 H3.out.2.1 (fun _ _ h => h))).mono ?_); rintro e w4 ⟨B, cB, rfl, hB4, gB, k4⟩; have H4 := Lib.hid (And.intro hB4 k4); clear hB4 gB k4)
      refine wp_world (fun wx => At wx w4.heap.size [.int .i64 gt, .int .i64 gs, .int .i64 gb, .int .i64 gq, .int .i64 ga, .slice B gn cB] ∧ Kp (fun _ => False) w4 wx) ⟨At.new w4 [.int .i64 gt, .int .i64 gs, .int .i64 gb, .int .i64 gq, .int .i64 ga, .slice B gn cB] _, (Kp.refl _ w4).alloc _⟩ ?_
      rintro w5 ⟨hb5, k5⟩
      have k35 := H4.out.2.trans k5
      have ha5 := k35.at H3.out.1 (fun h => h)
      have x0 := (ha5.cell 0).trans (show _ = some (.int .i64 gt) from rfl); have x1 := (ha5.cell 1).trans (show _ = some (.int .i64 gs) from rfl); have x2 := (ha5.cell 2).trans (show _ = some (.int .i64 gb) from rfl); have x3 := (ha5.cell 3).trans (show _ = some (.int .i64 gq) from rfl); have x4 := (ha5.cell 4).trans (show _ = some (.int .i64 ga) from rfl); have x5 := (ha5.cell 5).trans (show _ = some (.slice A gn cA) from rfl)
      have y0 := (hb5.cell 0).trans (show _ = some (.int .i64 gt) from rfl); have y1 := (hb5.cell 1).trans (show _ = some (.int .i64 gs) from rfl); have y2 := (hb5.cell 2).trans (show _ = some (.int .i64 gb) from rfl); have y3 := (hb5.cell 3).trans (show _ = some (.int .i64 gq) from rfl); have y4 := (hb5.cell 4).trans (show _ = some (.int .i64 ga) from rfl); have y5 := (hb5.cell 5).trans (show _ = some (.slice B gn cB) from rfl)
      have KW5 := Lib.hid ((HV.out.2.2.2.trans H3.out.2.1).trans k35)
      have HA5 := Lib.hid (H2.out.1.kp0 (H3.out.2.2.trans k35) (fun _ _ h => h))
      have HB5 := Lib.hid (H4.out.1.kp0 k5 (fun _ _ h => h))
      clear ha5 hb5 k5 k35
      go_wp2_with (first | (go_at_call 21; (with_reducible refine (CS.out _ _ _ _ _ HA5.out HB5.out).mono ?_); rintro e w6 ⟨rfl, k6⟩; have K6 := Lib.hid k6; clear k6) | (go_at_call 18; (with_reducible refine (AW.out _).mono ?_); rintro e w7 ⟨rfl, k7⟩; have K7 := Lib.hid (K6.out.trans k7); clear k7))
      go_ret
      exact ⟨rfl, (KW5.out.trans K7.out).below (fun _ _ h => h)⟩
theorem frameGuarded_walk (c0 : Array Value) (n1 n2 n3 : Int) (w : World) (r0 : Rdg Try.prog w 24 (Value.agg c0).cells.toList) (r1 : Rdg Try.prog w 3 (Value.int .i64 n1).cells.toList) (r2 : Rdg Try.prog w 5 (Value.int .u8 n2).cells.toList) (r3 : Rdg Try.prog w 3 (Value.int .i64 n3).cells.toList) :
    Calls Try.prog 5 #[.agg c0, .int .i64 n1, .int .u8 n2, .int .i64 n3] w fun e w' => e = .returned (.bool true) ∧ Below w.heap.size w w' := by
  obtain ⟨f, a, c, rfl, hI, _, hr, hc, hm⟩ := open_frame r0
  obtain ⟨k, e1, hk⟩ := Rdg.int Try.underlying3 r1
  have e2 : n1 = k := by have : [Value.int .i64 n1] = [.int .i64 k] := e1; simpa using this
  subst e2
  obtain ⟨k, e1, hk2⟩ := Rdg.int Try.underlying5 r2
  have e2 : n2 = k := by have : [Value.int .u8 n2] = [.int .u8 k] := e1; simpa using this
  subst e2
  obtain ⟨k, e1, hk3⟩ := Rdg.int Try.underlying3 r3
  have e2 : n3 = k := by have : [Value.int .i64 n3] = [.int .i64 k] := e1; simpa using this
  subst e2
  have b1 : -9223372036854775808 ≤ n1 ∧ n1 ≤ 9223372036854775807 := by
    simp [Lit.wf, IntKind.min, IntKind.max, IntKind.signed, IntKind.bits] at hk; omega
  have b2 : 0 ≤ n2 ∧ n2 ≤ 255 := by
    simp [Lit.wf, IntKind.min, IntKind.max, IntKind.signed, IntKind.bits] at hk2; omega
  have b3 : -9223372036854775808 ≤ n3 ∧ n3 ≤ 9223372036854775807 := by
    simp [Lit.wf, IntKind.min, IntKind.max, IntKind.signed, IntKind.bits] at hk3; omega
  by_cases hl : f.bd.length ≤ 100
  · exact guarded_main f a c n1 n2 n3 w hI hr hc hl b1 b2 b3
  · clear r0 r1 r2 r3 hI hr hk hk2 hk3
    obtain ⟨ty, se, bo, sq, ac, bd⟩ := f
    dsimp only [frA] at *
    generalize bd.length = n at *
    have hn : (100 : Int) < (n : Int) := by omega
    go_enter Try.func5, Try.ntmps5
    go_upto_region 1 with fail
    refine wp_world (fun wx => At wx w.heap.size [.int .i64 ty, .int .i64 se, .int .i64 bo, .int .i64 sq, .int .i64 ac, .slice a n c] ∧ Kp (fun _ => False) w wx) ⟨At.new w [.int .i64 ty, .int .i64 se, .int .i64 bo, .int .i64 sq, .int .i64 ac, .slice a n c] _, (Kp.refl _ w).alloc _⟩ ?_
    rintro w1 ⟨ha1, k1⟩
    have x0 := (ha1.cell 0).trans (show _ = some (.int .i64 ty) from rfl); have x1 := (ha1.cell 1).trans (show _ = some (.int .i64 se) from rfl); have x2 := (ha1.cell 2).trans (show _ = some (.int .i64 bo) from rfl); have x3 := (ha1.cell 3).trans (show _ = some (.int .i64 sq) from rfl); have x4 := (ha1.cell 4).trans (show _ = some (.int .i64 ac) from rfl); have x5 := (ha1.cell 5).trans (show _ = some (.slice a n c) from rfl)
    have K1 := Lib.hid k1
    clear ha1 k1
    go_wp2
    go_ret
    exact ⟨rfl, K1.out.below (fun _ _ h => h)⟩
end Go.Proofs.Ytjjoancnkjlaeaa
