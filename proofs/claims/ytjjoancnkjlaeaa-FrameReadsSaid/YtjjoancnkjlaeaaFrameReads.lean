/- FrameReads. (Written by wip/frreads.py.) -/
import Derived.Test.YtjjoancnkjlaeaaFrmO
import Derived.Test.YtjjoancnkjlaeaaFrmZ
import Derived.Test.YtjjoancnkjlaeaaOver
namespace Go.Proofs.Ytjjoancnkjlaeaa
open Go.RowKit
set_option linter.unusedVariables false
set_option linter.unusedSimpArgs false
theorem own_lent {w : World} {g : Nat} {l : List Int} (h : At w g ((l ++ marks l.length).map (Value.int .u8))) (hb : Byt l) (hl : l.length ≤ 1000000) : OwnB w (.slice (some ⟨g, 0, none⟩) l.length (l.length + 3)) l :=
  ⟨⟨by simp, .inr ⟨g, l.length + 3, (marks l.length).map (Value.int .u8), rfl, by rw [← List.map_append]; exact h, by simp [marks], by omega, by unfold maxLen; omega⟩⟩,
   fun k hk => ⟨_, by simp [Value.ownBlock] at hk; subst hk; exact h, isB_map (hb.append (byt_marks _))⟩, hb, by omega⟩
set_option maxHeartbeats 4000000 in
set_option maxRecDepth 20000 in
theorem reads_main (b : Option Addr) (cap : Nat) (l : List Int) (w : World) (h : RdB w b l) (hcap : l.length ≤ cap) (hcm : cap ≤ maxLen) (hl : l.length ≤ 2000) :
    Calls Try.prog 4 #[.slice b l.length cap] w fun e w' => e = .returned (.bool true) ∧ Below w.heap.size w w' := by
  have AW := Lib.hid (fun w' => awake_any w')
  have CL := Lib.hid (lent_any b cap l w h (by omega))
  have CRA := Lib.hid (fun w' (hl : At w' w.heap.size ((l ++ marks l.length).map (Value.int .u8))) => fread_any (some ⟨w.heap.size, 0, none⟩) (l.length + 3) l w' (RdB.lent' hl h.bd (by omega)) (by omega) (by omega) (by unfold maxLen; omega))
  have CRB := Lib.hid (fun w' (h : RdB w' b l) => rread_any b cap l w' h (by omega) hcap hcm)
  have CK := Lib.hid (fun w' h (h' : RdB w' b l) => kept_any w.heap.size b cap l w' h h' (by omega))
  have h0 := h
  have COV := Lib.hid (fun w' h => (over_own (w := w') (own_lent (g := w.heap.size) h h0.bd (by omega))).mono (fun e w'' (hh : e = .returned (.tuple #[]) ∧ Kp (fun k => (Value.slice (some ⟨w.heap.size, 0, none⟩) l.length (l.length + 3)).ownBlock = some k) w' w'') => (⟨hh.1, hh.2.mono (fun i _ e => by simpa [Value.ownBlock, eq_comm] using e)⟩ : e = .returned (.tuple #[]) ∧ Kp (fun i => i = w.heap.size) w' w'')))
  have CS := Lib.hid (fun w' A cA B cB (h1 : RdB w' A (frR l).bd) (h2 : RdB w' B (frR l).bd) => samef_any (frR l) (frR l) A B cA cB w' h1 h2)
  rw [show sameF (frR l) (frR l) = true from (sameF_iff _ _).2 rfl] at CS
  have HBY := Lib.hid h.bd
  have HLN : Hid (l.length ≤ 1000000000) := by show _ ≤ _; omega
  have hB := Lib.hid (fun w' (k : Kp (fun _ => False) w w') => h.kp0 k (fun _ _ h => h))
  unfold RdOut at CRA CRB
  generalize frR l = F at *
  generalize errR l = er at *
  obtain ⟨ty, se, bo, sq, ac, bd⟩ := F
  dsimp only [frA] at *
  generalize hgn : bd.length = gn at *
  clear h h0 hcm hgn
  generalize hn : l.length = n at *
  have HN := Lib.hid hn
  clear hn
  have ee : (er == er) = true := by simp
  go_enter Try.func4, Try.ntmps4
  go_upto_region 5 with (first | (go_at_call 10; refine CL.out.mono ?_; rintro e w1 ⟨rfl, hg1, k1⟩; have HL1 := Lib.hid (And.intro hg1 k1); clear hg1 k1) | (go_at_call 19; (with_reducible refine (CRA.out _ HL1.out.1).mono ?_); rintro e w2 ⟨A, cA, rfl, hA, gA, k2⟩; have H2 := Lib.hid (And.intro hA (And.intro gA k2)); clear hA gA k2))
  refine wp_world (fun wx => At wx w2.heap.size [.int .i64 ty, .int .i64 se, .int .i64 bo, .int .i64 sq, .int .i64 ac, .slice A gn cA] ∧ Kp (fun _ => False) w2 wx) ⟨At.new w2 [.int .i64 ty, .int .i64 se, .int .i64 bo, .int .i64 sq, .int .i64 ac, .slice A gn cA] _, (Kp.refl _ w2).alloc _⟩ ?_
  rintro w3 ⟨ha3, k3⟩
  have H3 := Lib.hid (And.intro ha3 (And.intro (H2.out.2.2.trans k3) k3))
  clear ha3 k3
  go_upto_region 6 with (go_at_call 20; (with_reducible refine (CRB.out _ ?_).mono ?_); exact hB.out _ (HL1.out.2.trans H3.out.2.1); rintro e w4 ⟨B, cB, rfl, hB4, gB, k4⟩; have H4 := Lib.hid (And.intro hB4 (And.intro gB k4)); clear hB4 gB k4)
  refine wp_world (fun wx => At wx w4.heap.size [.int .i64 ty, .int .i64 se, .int .i64 bo, .int .i64 sq, .int .i64 ac, .slice B gn cB] ∧ Kp (fun _ => False) w4 wx) ⟨At.new w4 [.int .i64 ty, .int .i64 se, .int .i64 bo, .int .i64 sq, .int .i64 ac, .slice B gn cB] _, (Kp.refl _ w4).alloc _⟩ ?_
  rintro w5 ⟨hb5, k5⟩
  have k35 := H4.out.2.2.trans k5
  have ha5 := k35.at H3.out.1 (fun h => h)
  have x0 := (ha5.cell 0).trans (show _ = some (.int .i64 ty) from rfl); have x1 := (ha5.cell 1).trans (show _ = some (.int .i64 se) from rfl); have x2 := (ha5.cell 2).trans (show _ = some (.int .i64 bo) from rfl); have x3 := (ha5.cell 3).trans (show _ = some (.int .i64 sq) from rfl); have x4 := (ha5.cell 4).trans (show _ = some (.int .i64 ac) from rfl); have x5 := (ha5.cell 5).trans (show _ = some (.slice A gn cA) from rfl)
  have y0 := (hb5.cell 0).trans (show _ = some (.int .i64 ty) from rfl); have y1 := (hb5.cell 1).trans (show _ = some (.int .i64 se) from rfl); have y2 := (hb5.cell 2).trans (show _ = some (.int .i64 bo) from rfl); have y3 := (hb5.cell 3).trans (show _ = some (.int .i64 sq) from rfl); have y4 := (hb5.cell 4).trans (show _ = some (.int .i64 ac) from rfl); have y5 := (hb5.cell 5).trans (show _ = some (.slice B gn cB) from rfl)
  have HP5 := Lib.hid (And.intro ha5 hb5)
  have KW5 := Lib.hid ((HL1.out.2.trans H3.out.2.1).trans k35)
  have HL5 := Lib.hid ((H3.out.2.1.trans k35).at HL1.out.1 (fun h => h))
  have HA5 := Lib.hid (H2.out.1.kp0 (H3.out.2.2.trans k35) (fun _ _ h => h))
  have HB5 := Lib.hid (H4.out.1.kp0 k5 (fun _ _ h => h))
  have l01 := HL1.out.1.lt
  have l12 := H2.out.2.2.size
  have l13 := H3.out.2.1.size
  have l34 := H4.out.2.2.size
  have HLT : Hid (w.heap.size < w2.heap.size ∧ w.heap.size < w4.heap.size) := by show _ ∧ _; omega
  have HOA : Hid (∀ y : Addr, A = some y → y.block = w.heap.size → False) := fun y hy e => by have := H2.out.2.1 y.block (by rw [hy]; rfl); omega
  have HOB : Hid (∀ y : Addr, B = some y → y.block = w.heap.size → False) := fun y hy e => by have := H4.out.2.1 y.block (by rw [hy]; rfl); omega
  clear ha5 hb5 k5 k35 l01 l12 l13 l34
  go_upto_region 8 with (first | (go_at_call 21; (with_reducible refine (CS.out _ _ _ _ _ ?_ ?_).mono ?_); exact HA5.out; exact HB5.out; rintro e w6 ⟨rfl, k6⟩; have K6 := Lib.hid k6; clear k6) | (go_at_call 17; (with_reducible refine (CK.out _ (K6.out.at HL5.out (fun h => h)) (hB.out _ (KW5.out.trans K6.out))).mono ?_); rintro e w7 ⟨rfl, k7⟩; have K7 := Lib.hid (K6.out.trans k7); clear k7) | (go_at_call 16; (with_reducible refine (COV.out _ (K7.out.at HL5.out (fun h => h))).mono ?_); rintro e w8 ⟨rfl, k8⟩; have k58 := (K7.out.mono (S' := fun i => i = w.heap.size) (fun _ _ h => h.elim)).trans k8; have ha8 := k58.at HP5.out.1 (fun e => absurd e (Nat.ne_of_gt HLT.out.1)); have hb8 := k58.at HP5.out.2 (fun e => absurd e (Nat.ne_of_gt HLT.out.2)); have x0 := (ha8.cell 0).trans (show _ = some (.int .i64 ty) from rfl); have x1 := (ha8.cell 1).trans (show _ = some (.int .i64 se) from rfl); have x2 := (ha8.cell 2).trans (show _ = some (.int .i64 bo) from rfl); have x3 := (ha8.cell 3).trans (show _ = some (.int .i64 sq) from rfl); have x4 := (ha8.cell 4).trans (show _ = some (.int .i64 ac) from rfl); have x5 := (ha8.cell 5).trans (show _ = some (.slice A gn cA) from rfl); have y0 := (hb8.cell 0).trans (show _ = some (.int .i64 ty) from rfl); have y1 := (hb8.cell 1).trans (show _ = some (.int .i64 se) from rfl); have y2 := (hb8.cell 2).trans (show _ = some (.int .i64 bo) from rfl); have y3 := (hb8.cell 3).trans (show _ = some (.int .i64 sq) from rfl); have y4 := (hb8.cell 4).trans (show _ = some (.int .i64 ac) from rfl); have y5 := (hb8.cell 5).trans (show _ = some (.slice B gn cB) from rfl); have K8 := Lib.hid k58; clear ha8 hb8 k58 k8))
  go_wp2_with (first | (go_at_call 21; (with_reducible refine (CS.out _ _ _ _ _ ?_ ?_).mono ?_); exact HA5.out.kp K8.out (fun y hy e => HOA.out y hy e); exact HB5.out.kp K8.out (fun y hy e => HOB.out y hy e); rintro e w9 ⟨rfl, k9⟩; have K9 := Lib.hid k9; clear k9) | (go_at_call 18; (with_reducible refine (AW.out _).mono ?_); rintro e w10 ⟨rfl, k10⟩; have K10 := Lib.hid (K9.out.trans k10); clear k10))
  go_ret
  exact ⟨rfl, (KW5.out.then (K8.out.then K10.out (fun _ _ h => h.elim)) (fun i hi e => absurd e (Nat.ne_of_lt hi))).below (fun _ _ h => h)⟩
theorem frameReads_walk (a0 : Option Addr) (len0 cap0 : Nat) (w : World) (r0 : Rdg Try.prog w 22 [.slice a0 len0 cap0]) :
    Calls Try.prog 4 #[.slice a0 len0 cap0] w fun e w' => e = .returned (.bool true) ∧ Below w.heap.size w w' := by
  obtain ⟨_, l, _, e0, h, h1, h2⟩ := r0.bytes Try.underlying22 Try.underlying5 (by kernel_rfl) (by kernel_rfl)
  simp only [List.cons.injEq, Value.slice.injEq, and_true] at e0
  obtain ⟨rfl, rfl, rfl⟩ := e0
  have h3 : cap0 ≤ maxLen := by unfold maxLen; omega
  by_cases hl : l.length ≤ 2000
  · exact reads_main a0 cap0 l w h h1 h3 hl
  · generalize l.length = n at *
    have hn : (2000 : Int) < (n : Int) := by omega
    clear r0 h
    go_enter Try.func4, Try.ntmps4
    go_wp2
    go_ret
    exact ⟨rfl, Below.refl _ _⟩
end Go.Proofs.Ytjjoancnkjlaeaa
