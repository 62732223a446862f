/- Chapter 06: awake. (Written by wip/chkygen.py.) -/
import Derived.Test.YtlabkldpcbmjbaaChkSi
namespace Go.Proofs.Ytlabkldpcbmjbaa
open Go.RowKit
set_option linter.unusedVariables false
set_option linter.unusedSimpArgs false
theorem open_short (l : List Int) (h : l.length < 64) : Open l := fun n h1 h2 => by
  unfold ends
  rw [List.length_take, Nat.min_eq_left h2, decide_eq_false (by omega), decide_eq_false (by omega)]; rfl
theorem chs_short (l : List Int) (h : l.length < 64) : chs [] l = ([], l) := chs_whole l (open_short l h)
theorem chunks_short (l : List Int) (h : l.length < 64) (h0 : l ≠ []) : chunks l = [l] := by unfold chunks; rw [chs_short l h, if_neg h0]; rfl
theorem chunks_nil : chunks [] = [] := by simp [chunks, chs]
theorem zeros_rdb {w : World} {b n : Nat} (h : At w b (zeros (.int .u8 0) n)) (hn : n ≤ 1000000) : RdB w (some ⟨b, 0, none⟩) (List.replicate n 0) :=
  RdB.of_at (pre := []) (post := []) (by rw [zeros_one _ rfl] at h; simpa using h) (fun x hx => by rw [List.eq_of_mem_replicate hx]; omega) (by simp; omega)
theorem rd63 (w : World) (T : TypeId) : Rd (w.alloc (.cells #[.int .i64 63] T)) (some ⟨w.heap.size, 0, none⟩) (ints [63]) := fun i hi => by
  simp [ints] at hi; subst hi
  exact ⟨_, _, rfl, by rw [(At.new w [.int .i64 63] T).cell]; rfl⟩
theorem row_rdb (w : World) (l : List Int) (hb : Byt l) (hl : l.length ≤ 1000000) (T : TypeId) : RdB (w.alloc (.cells (l.map (Value.int .u8)).toArray T)) (some ⟨w.heap.size, 0, none⟩) l :=
  RdB.of_at (pre := []) (post := []) (by have := At.new w (l.map (Value.int .u8)) T; simpa using this) hb (by omega)
set_option maxHeartbeats 4000000 in
set_option maxRecDepth 20000 in
theorem awake_any (w : World) : Calls Try.prog 20 #[] w fun e w' => e = .returned (.bool true) ∧ Kp (fun _ => False) w w' := by
  have CN := Lib.hid (fun w' => cut_any none 0 [] w' (RdB.nil _ _) (by simp) (by simp) (by simp))
  have CM := Lib.hid (fun w' b (h : At w' b (zeros (.int .u8 0) 63)) => cut_any (some ⟨b, 0, none⟩) 63 (List.replicate 63 0) w' (zeros_rdb h (by omega)) (by simp) (by simp) (by unfold maxLen; omega))
  rw [chunks_nil] at CN
  rw [chunks_short _ (by simp) (by simp), List.length_replicate, show lens [List.replicate 63 (0 : Int)] = [63] by simp [lens]] at CM
  have CSI := Lib.hid (fun w' a b c c' (ha : Rd w' a (ints [63])) (hb : Rd w' b (ints [63])) => sameints_eq a b c c' [63] w' ha hb (by simp))
  simp only [List.length_nil, List.length_cons, Nat.zero_add] at CN CM CSI
  go_enter Try.func20, Try.ntmps20
  go_upto_region 2 with (go_at_call 21; (with_reducible refine (new_cut _).mono ?_); rintro e w1 ⟨cb, rfl, hcb, hed, k1⟩; have H1 := Lib.hid (And.intro hcb (And.intro hed k1)); clear hcb hed k1)
  go_upto_region 4 with (first | (go_at_call 13; (with_reducible refine (CN.out _).mono ?_); rintro e w2 ⟨v2, rfl, ho2, _, k2⟩; obtain ⟨A2, c2, rfl, _, _⟩ := ho2.form; have K2 := Lib.hid k2; clear ho2 k2; obtain ⟨w3, hr3, hat3, k3⟩ := run_make_at (P := Try.prog) w2 Try.underlying22 elem_u8 .i64 .i64 63 63 63 (by omega) (by omega) (by omega) (by unfold maxLen; omega); have H3 := Lib.hid (And.intro hat3 (K2.out.trans k3)); clear hat3 k3) | (go_at_call 13; (with_reducible refine (CM.out _ _ H3.out.1).mono ?_); rintro e w4 ⟨v4, rfl, ho4, _, k4⟩; obtain ⟨A4, c4, rfl, _, _⟩ := ho4.form; have H4 := Lib.hid (And.intro ho4 (H3.out.2.trans k4)); clear ho4 k4) | (go_at_call 16; (with_reducible refine (CSI.out _ _ _ _ _ ?_ ?_).mono ?_); exact (H4.out.1.kp ((Kp.refl (fun _ => False) w4).alloc _) (fun _ _ h => h)).rd; exact rd63 w4 _; rintro e w5 ⟨rfl, q5, rfl⟩))
  have K5 := Lib.hid (show Kp (fun _ => False) w1 ((w4.alloc (.cells #[.int .i64 63] 3)).drewN q5) from (H4.out.2.alloc _).drewN q5)
  refine wp_world (fun wx => Kp (fun _ => False) w1 wx) K5.out ?_
  clear K5 H4 H3 K2 hr3
  rintro w6 k6
  have hrow := row_rdb w6 [1, 2] (by intro x hx; simp at hx; omega) (by simp) 5
  have kr := (Kp.refl (fun _ => False) w6).alloc (.cells #[.int .u8 1, .int .u8 2] 5)
  have hed6 := H1.out.2.1.kp (k6.trans kr) (fun h => h)
  have C := push_cut cb [] (.slice none 0 0) (some ⟨w6.heap.size, 0, none⟩) 2 [1, 2] _ hed6 (OwnB.nil' _) Open.nil hrow (by simp) (by simp) (by unfold maxLen; omega) (fun _ y hy => by cases hy; exact ⟨by have := H1.out.2.1.lt; have := k6.size; simp; omega, by simp [Value.ownBlock]⟩)
  rw [chs_short [1, 2] (by simp)] at C
  simp only [List.length_nil, List.length_cons, Nat.zero_add, Nat.reduceAdd] at C
  have CP := Lib.hid C
  have K6 := Lib.hid k6
  clear C hrow kr hed6 k6
  go_upto_region 5 with (go_at_call 26; (with_reducible refine CP.out.mono ?_); rintro e w7 ⟨v7, vs7, left, rfl, hl7, he7, ho7, _, _, hg7, k7⟩; obtain ⟨A7, c7, rfl, _, _⟩ := hl7.own.form; obtain ⟨A8, c8, rfl, _, _⟩ := ho7.form; have H7 := Lib.hid (And.intro he7 (And.intro ho7 k7)); clear hl7 he7 ho7 hg7 k7)
  have CL := Lib.hid (left_cells cb A8 2 c8 w7 (edge_tail H7.out.1 0).1)
  have CE := Lib.hid (end_cut cb [1, 2] (.slice A8 2 c8) w7 H7.out.1)
  go_upto_region 7 with (first | (go_at_call 25; (with_reducible refine CL.out.mono ?_); rintro e w' ⟨rfl, rfl⟩) | (go_at_call 22; (with_reducible refine CE.out.mono ?_); rintro e w9 ⟨rfl, he9, k9⟩; have H9 := Lib.hid k9; clear he9 k9))
  have CS := Lib.hid (fun w' a b c c' (h : RdB w' a [1, 2]) (h' : RdB w' b [1, 2]) => same_any a b c c' [1, 2] [1, 2] w' h h')
  simp only [List.length_nil, List.length_cons, Nat.zero_add, Nat.reduceAdd] at CS
  rw [show decide True = true from rfl] at CS
  have HO := Lib.hid ((H7.out.2.1.kp H9.out (fun g hg e => H7.out.1.notB H7.out.2.1 (by rw [hg, e]))).kp ((Kp.refl (fun _ => False) w9).alloc (.cells #[.int .u8 1, .int .u8 2] 5)) (fun _ _ h => h)).rdb
  have HR := Lib.hid (row_rdb w9 [1, 2] (by intro x hx; simp at hx; omega) (by simp) 5)
  go_wp2_with (go_at_call 24; (with_reducible refine (CS.out _ _ _ _ _ ?_ ?_).mono ?_); exact HO.out; exact HR.out; rintro e w10 ⟨rfl, rfl⟩)
  go_ret
  have kk := ((K6.out.alloc (.cells #[.int .u8 1, .int .u8 2] 5)).mono (S' := fun i => i = cb) (fun _ _ h => h.elim)).then (H7.out.2.2.then H9.out (fun _ _ h => .inl h)) (fun i _ h => h.elim id (fun h => by simp [Value.ownBlock] at h))
  exact ⟨rfl, H1.out.2.2.then (kk.alloc _) (fun i hi h => by have := H1.out.1; omega)⟩
end Go.Proofs.Ytlabkldpcbmjbaa
