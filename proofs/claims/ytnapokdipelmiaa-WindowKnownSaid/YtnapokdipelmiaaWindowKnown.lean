/- WindowKnown: the walk. (Written by wip/winknown.py.) -/
import Derived.Test.YtnapokdipelmiaaWnG
namespace Go.Proofs.Ytnapokdipelmiaa
open Go.RowKit Flt
set_option linter.unusedVariables false
set_option linter.unusedSimpArgs false
/-- Two windows beside one another, in memory made since w0. -/
structure Pair (w0 W : World) (g : Nat) (x : Wn) (v : Nat) (y : Wn) : Prop where
  wx : WinC W g x
  wy : WinC W v y
  dis : ∀ k, Mine g x k → ¬ Mine v y k
  lx : ∀ k, Mine g x k → w0.heap.size ≤ k
  ly : ∀ k, Mine v y k → w0.heap.size ≤ k
  kp : Kp (fun _ => False) w0 W
theorem Pair.swap {w0 W : World} {g v : Nat} {x y : Wn} (h : Pair w0 W g x v y) : Pair w0 W v y g x := ⟨h.wy, h.wx, fun k hy hx => h.dis k hx hy, h.ly, h.lx, h.kp⟩
theorem Pair.kp0 {w0 W W' : World} {g v : Nat} {x y : Wn} (h : Pair w0 W g x v y) (k : Kp (fun _ => False) W W') : Pair w0 W' g x v y := ⟨h.wx.kp0 k, h.wy.kp0 k, h.dis, h.lx, h.ly, h.kp.trans k⟩
theorem Pair.step {w0 W W' : World} {g v : Nat} {x y x' : Wn} (h : Pair w0 W g x v y) (hW : WinC W' g x') (hM : ∀ k, Mine g x' k → Mine g x k ∨ W.heap.size ≤ k) (k : Kp (Mine g x) W W') : Pair w0 W' g x' v y :=
  ⟨hW, h.wy.kp k (fun j hj hx => h.dis j hx hj), fun j hj hy => by
    rcases hM j hj with e | e
    · exact h.dis j e hy
    · have := h.wy.lt hy; omega, fun j hj => by
    rcases hM j hj with e | e
    · exact h.lx j e
    · have := h.kp.size; omega, h.ly, h.kp.then k (fun i hi e => by have := h.lx i e; omega)⟩
theorem Pair.due {w0 W W' : World} {g v : Nat} {x y : Wn} {t : Nat} (h : Pair w0 W g x v y) (hW : WinC W' g (dueW (atW x t))) (k : Kp (Mine g x) W W') : Pair w0 W' g (dueW (atW x t)) v y :=
  h.step hW (fun j hj => .inl ((st_mine g (atW x t) _ j).1 hj)) k
theorem Pair.ack {w0 W W' : World} {g v : Nat} {x y : Wn} {n t : Nat} {V' : Value} (h : Pair w0 W g x v y) (hW : WinC W' g (ackL x n t V')) (hV : V'.ownBlock = x.V.ownBlock) (k : Kp (· = g) W W') : Pair w0 W' g (ackL x n t V') v y :=
  h.step hW (fun j hj => .inl (Mine.pop (x := x) hV hj)) (k.mono (fun i _ e => .inl e))
theorem ack_is {w : World} {b : Nat} {x : Wn} (h : WinC w b x) (hms : Ms x.m x.s) (n now : Nat) (q r : Int) (hq : (n : Int) = q) (hr : (now : Int) = r) (z : Int) (hz : ((goneN x n : Nat) : Int) = z) (hn : n ≤ x.last) (hl : x.last ≤ 4611686018427387904) (ht : now ≤ 2147483647) : Calls Try.prog 12 #[.pointer (some ⟨b, 0, none⟩), .int .i64 q, .int .i64 r] w fun e w' =>
    e = .returned (.tuple #[.int .i64 z, .int .i64 0]) ∧ ∃ V', WinC w' b (ackL x (goneN x n) (max x.now now) V') ∧ V'.ownBlock = x.V.ownBlock ∧ Kp (· = b) w w' := hq ▸ hr ▸ hz ▸ ack_ok h hms n now hn hl ht
theorem due_is {w : World} {b : Nat} {x : Wn} (h : WinC w b x) (now : Nat) (q : Int) (hq : (now : Int) = q) (ht : now ≤ 2147483647) (hts : ∀ i, i < x.l.length → (pk x.l i).times ≤ 4611686018427387900) : Calls Try.prog 13 #[.pointer (some ⟨b, 0, none⟩), .int .i64 q] w fun e w' =>
    ∃ v l, e = .returned v ∧ OwnT w.heap.size w' v l ∧ TelL (atW x now) (dueI (atW x now)) l ∧ WinC w' b (dueW (atW x now)) ∧ Kp (Mine b x) w w' := hq ▸ due_ok h now ht hts
theorem when_is {w : World} {b : Nat} {x : Wn} (h : WinC w b x) (h0 : 0 < x.l.length) (q : Int) (hq : ((whenN x : Nat) : Int) = q) : Calls Try.prog 18 #[.pointer (some ⟨b, 0, none⟩)] w fun e w' => e = .returned (.tuple #[.int .i64 q, .bool true]) ∧ Kp (fun _ => False) w w' := hq ▸ when_some h h0
theorem times_is {w : World} {b : Nat} {x : Wn} (h : WinC w b x) (m s : Nat) (hm : x.m = m) (hs : x.s = s) : Calls Try.prog 21 #[.pointer (some ⟨b, 0, none⟩)] w fun e w' => e = .returned (.tuple #[.float .f64 m, .float .f64 s]) ∧ Kp (fun _ => False) w w' := by
  subst hm; subst hs; exact toKp (wtimes_any h)
theorem open_is {w : World} {b : Nat} {x : Wn} (h : WinC w b x) (q : Int) (hq : (x.l.length : Int) = q) : Calls Try.prog 15 #[.pointer (some ⟨b, 0, none⟩)] w fun e w' => e = .returned (.int .i64 q) ∧ Kp (fun _ => False) w w' := by
  subst hq; exact (wopen_any h).mono fun e w' ⟨h1, h2⟩ => ⟨h1, by rw [← h2]; exact Kp.refl _ _⟩
theorem spread_275 : spreadF 4607182418800017408 4616189618054758400 (floatOfInt .f64 12) = 4613374868287651840 := by decide +kernel
theorem mean_5 : meanF 4616189618054758400 (floatOfInt .f64 12) eighth = 4617315517961601024 := by decide +kernel
set_option maxHeartbeats 4000000 in
set_option maxRecDepth 20000 in
theorem windowKnown_walk (w : World) : Calls Try.prog 6 #[] w fun e w' => e = .returned (.bool true) ∧ Below w.heap.size w w' := by
  have kc := fun (w : World) (C : Array Value) (n c : Nat) => kc_any w C n c
  have hf4 : (FloatKind.f64.format.order 4616189618054758400 4616189618054758400 == some .eq) = true := by decide +kernel
  have hf1 : (FloatKind.f64.format.order 4607182418800017408 4607182418800017408 == some .eq) = true := by decide +kernel
  have hf5 : (FloatKind.f64.format.order 4617315517961601024 4617315517961601024 == some .eq) = true := by decide +kernel
  have hf2 : (FloatKind.f64.format.order 4613374868287651840 4613374868287651840 == some .eq) = true := by decide +kernel
  go_enter Try.func6, Try.ntmps6
  go_wp2_with fail
  go_at_call 10
  refine (wnew_bad 0 _ (by omega)).mono ?_
  rintro e w1 ⟨rfl, rfl⟩
  go_wp2_with fail
  go_at_call 19
  refine (two_any _).mono ?_
  rintro e w1 ⟨g, x, rfl, hW, h2, hM, hk⟩
  have CN := Lib.hid (wnew_is 1 1 rfl w1 (by omega))
  have H1 := Lib.hid (And.intro hW (And.intro h2 (And.intro hM hk)))
  clear hW h2 hM hk
  go_wp2_with fail
  go_at_call 10
  refine CN.out.mono ?_
  rintro e w2 ⟨rfl, hV, kv⟩
  obtain ⟨v, hv⟩ : ∃ v, v = w1.heap.size := ⟨_, rfl⟩
  have hp : Pair w w2 g x v (wnew 1) := by
    obtain ⟨hW, h2, hM, hk⟩ := H1.out
    refine ⟨hW.kp0 kv, by rw [hv]; exact hV, fun k hx hy => ?_, hM, fun k hy => ?_, hk.trans kv⟩
    · have h1 := hW.lt hx
      rw [hv] at hy
      have h3 := mine_new hy
      omega
    · rw [hv] at hy
      have h3 := mine_new hy
      have := hk.size
      omega
  rw [← hv]
  have hT := H1.out.2.1
  have HP := Lib.hid hp
  have HT := Lib.hid hT
  clear hV kv hv hp hT CN H1
  have hp := HP.out
  have h2 := HT.out
  obtain ⟨d1, s1, h3⟩ := h2.due (t := 10) (by omega) (.inl rfl)
  have ra1 : Rd (w2.alloc (.cells #[.int .i64 1, .int .i64 2] 3)) (some ⟨w2.heap.size, 0, none⟩) (ints [1, 2]) := Rd.new w2 (ints [1, 2]) _
  have CD := Lib.hid (wdue_is (hp.wx.kp0 ((Kp.refl _ w2).alloc (.cells #[.int .i64 1, .int .i64 2] 3))) 10 10 rfl (by omega) (fun i hi => by have := (h2.pks i (by rw [h2.len] at hi; exact hi)).2.1; omega) [1, 2] (by rw [d1, s1]) (some ⟨w2.heap.size, 0, none⟩) 2 2 rfl ra1 (fun y hy e => by have e : Mine g x y.block := e; have := hp.wx.lt e; cases hy; exact Nat.lt_irrefl _ this))
  have HP2 := Lib.hid (hp.kp0 ((Kp.refl _ w2).alloc (.cells #[.int .i64 1, .int .i64 2] 3)))
  clear d1 s1 ra1
  have HT2 := Lib.hid h3
  clear hp h2 h3 HP HT
  go_wp2_with fail
  go_at_call 20
  (with_reducible refine CD.out.mono ?_)
  rintro e w3 ⟨rfl, hW, kd⟩
  have hp := HP2.out.due hW kd
  have h2 := HT2.out
  obtain ⟨x1, hx1⟩ : ∃ y, y = dueW (atW x 10) := ⟨_, rfl⟩
  rw [← hx1] at hp h2
  have HP := Lib.hid hp
  have HT := Lib.hid h2
  clear hp h2 hx1 hW kd CD HP2 HT2
  have hp := HP.out
  have h2 := HT.out
  obtain ⟨d1, h3⟩ := h2.not (t := 17) (by omega) ⟨by omega, by decide⟩
  have CD := Lib.hid (wdue_is hp.wx 17 17 rfl (by omega) (fun i hi => by have := (h2.pks i (by rw [h2.len] at hi; exact hi)).2.1; omega) [] (by rw [d1]; rfl) none 0 0 rfl (fun i hi => by cases hi) (fun y hy => by cases hy))
  have HP2 := Lib.hid hp
  clear d1
  have HT2 := Lib.hid h3
  clear hp h2 h3 HP HT
  go_wp2_with fail
  go_at_call 20
  (with_reducible refine CD.out.mono ?_)
  rintro e w4 ⟨rfl, hW, kd⟩
  have hp := HP2.out.due hW kd
  have h2 := HT2.out
  obtain ⟨x2, hx2⟩ : ∃ y, y = dueW (atW x1 17) := ⟨_, rfl⟩
  rw [← hx2] at hp h2
  have HP := Lib.hid hp
  have HT := Lib.hid h2
  clear hp h2 hx2 hW kd CD HP2 HT2
  have hp := HP.out
  have h2 := HT.out
  obtain ⟨d1, s1, h3⟩ := h2.due (t := 18) (by omega) (.inr (by decide))
  have ra1 : Rd (w4.alloc (.cells #[.int .i64 1, .int .i64 2] 3)) (some ⟨w4.heap.size, 0, none⟩) (ints [1, 2]) := Rd.new w4 (ints [1, 2]) _
  have CD := Lib.hid (wdue_is (hp.wx.kp0 ((Kp.refl _ w4).alloc (.cells #[.int .i64 1, .int .i64 2] 3))) 18 18 rfl (by omega) (fun i hi => by have := (h2.pks i (by rw [h2.len] at hi; exact hi)).2.1; omega) [1, 2] (by rw [d1, s1]) (some ⟨w4.heap.size, 0, none⟩) 2 2 rfl ra1 (fun y hy e => by have e : Mine g x2 y.block := e; have := hp.wx.lt e; cases hy; exact Nat.lt_irrefl _ this))
  have HP2 := Lib.hid (hp.kp0 ((Kp.refl _ w4).alloc (.cells #[.int .i64 1, .int .i64 2] 3)))
  clear d1 s1 ra1
  have HT2 := Lib.hid h3
  clear hp h2 h3 HP HT
  go_wp2_with fail
  go_at_call 20
  (with_reducible refine CD.out.mono ?_)
  rintro e w5 ⟨rfl, hW, kd⟩
  have hp := HP2.out.due hW kd
  have h2 := HT2.out
  obtain ⟨x3, hx3⟩ : ∃ y, y = dueW (atW x2 18) := ⟨_, rfl⟩
  rw [← hx3] at hp h2
  have HP := Lib.hid hp
  have HT := Lib.hid h2
  clear hp h2 hx3 hW kd CD HP2 HT2
  have hp := HP.out
  have h2 := HT.out
  obtain ⟨d1, h3⟩ := h2.not (t := 33) (by omega) ⟨by omega, by decide⟩
  have CD := Lib.hid (wdue_is hp.wx 33 33 rfl (by omega) (fun i hi => by have := (h2.pks i (by rw [h2.len] at hi; exact hi)).2.1; omega) [] (by rw [d1]; rfl) none 0 0 rfl (fun i hi => by cases hi) (fun y hy => by cases hy))
  have HP2 := Lib.hid hp
  clear d1
  have HT2 := Lib.hid h3
  clear hp h2 h3 HP HT
  go_wp2_with fail
  go_at_call 20
  (with_reducible refine CD.out.mono ?_)
  rintro e w6 ⟨rfl, hW, kd⟩
  have hp := HP2.out.due hW kd
  have h2 := HT2.out
  obtain ⟨x4, hx4⟩ : ∃ y, y = dueW (atW x3 33) := ⟨_, rfl⟩
  rw [← hx4] at hp h2
  have HP := Lib.hid hp
  have HT := Lib.hid h2
  clear hp h2 hx4 hW kd CD HP2 HT2
  have hp := HP.out
  have h2 := HT.out
  obtain ⟨d1, s1, h3⟩ := h2.due (t := 34) (by omega) (.inr (by decide))
  have ra1 : Rd (w6.alloc (.cells #[.int .i64 1, .int .i64 2] 3)) (some ⟨w6.heap.size, 0, none⟩) (ints [1, 2]) := Rd.new w6 (ints [1, 2]) _
  have CD := Lib.hid (wdue_is (hp.wx.kp0 ((Kp.refl _ w6).alloc (.cells #[.int .i64 1, .int .i64 2] 3))) 34 34 rfl (by omega) (fun i hi => by have := (h2.pks i (by rw [h2.len] at hi; exact hi)).2.1; omega) [1, 2] (by rw [d1, s1]) (some ⟨w6.heap.size, 0, none⟩) 2 2 rfl ra1 (fun y hy e => by have e : Mine g x4 y.block := e; have := hp.wx.lt e; cases hy; exact Nat.lt_irrefl _ this))
  have HP2 := Lib.hid (hp.kp0 ((Kp.refl _ w6).alloc (.cells #[.int .i64 1, .int .i64 2] 3)))
  clear d1 s1 ra1
  have HT2 := Lib.hid h3
  clear hp h2 h3 HP HT
  go_wp2_with fail
  go_at_call 20
  (with_reducible refine CD.out.mono ?_)
  rintro e w7 ⟨rfl, hW, kd⟩
  have hp := HP2.out.due hW kd
  have h2 := HT2.out
  obtain ⟨x5, hx5⟩ : ∃ y, y = dueW (atW x4 34) := ⟨_, rfl⟩
  rw [← hx5] at hp h2
  have HP := Lib.hid hp
  have HT := Lib.hid h2
  clear hp h2 hx5 hW kd CD HP2 HT2
  have hw66 : whenN x5 = 66 := by
    have h2 := HT.out
    have p0 := h2.pks 0 (by omega)
    have p1 := h2.pks 1 (by omega)
    have d0 : dueA (pk x5.l 0) x5.now = 66 := by unfold dueA; rw [p0.2.1, if_neg (by decide), (p0.2.2 (by decide)).1, (p0.2.2 (by decide)).2]; decide
    have d1 : dueA (pk x5.l 1) x5.now = 66 := by unfold dueA; rw [p1.2.1, if_neg (by decide), (p1.2.2 (by decide)).1, (p1.2.2 (by decide)).2]; decide
    have e2 : x5.l = [pk x5.l 0, pk x5.l 1] := pk_ext (by rw [h2.len]; rfl) (fun i hi => by
      rw [h2.len] at hi
      rcases (show i = 0 ∨ i = 1 by omega) with rfl | rfl <;> rfl)
    unfold whenN
    rw [d0, e2]
    unfold leastT
    simp [d0, d1]
  have CW := Lib.hid (when_is HP.out.wx (by rw [HT.out.len]; omega) 66 (by rw [hw66]; rfl))
  clear hw66
  go_wp2_with fail
  go_at_call 18
  refine CW.out.mono ?_
  rintro e w8 ⟨rfl, k8⟩
  have hp := HP.out.kp0 k8
  have h2 := HT.out
  have hms : Ms x5.m x5.s := by rw [h2.m, h2.s]; exact Ms.start
  have hg1 : goneN x5 1 = 1 := by unfold goneN; rw [h2.len, h2.last]
  have CA := Lib.hid (ack_is hp.wx hms 1 40 1 40 rfl rfl 1 (by rw [hg1]; rfl) (by rw [h2.last]; omega) (by rw [h2.last]; omega) (by omega))
  have HP2 := Lib.hid hp
  clear hp k8 CW HP h2 hms
  go_wp2_with fail
  go_at_call 12
  refine CA.out.mono ?_
  rintro e w9 ⟨rfl, V6, hW, hV, ka⟩
  have hp := HP2.out.ack hW hV ka
  obtain ⟨x6, hx6⟩ : ∃ y, y = ackL x5 (goneN x5 1) (max x5.now 40) V6 := ⟨_, rfl⟩
  rw [← hx6] at hp
  rw [hg1] at hx6
  have h6 : x6.size = 2 ∧ x6.last = 2 ∧ x6.l.length = 1 ∧ x6.m = 4616189618054758400 ∧ x6.s = 4607182418800017408 ∧ x6.now = 40 := by
    have h2 := HT.out
    have p0 := h2.pks 0 (by omega)
    have ems : msAck (max x5.now 40) (x5.m, x5.s) (x5.l.take 1) = (x5.m, x5.s) := by
      rw [take_pk (k := 0) (by rw [h2.len]; omega), msAck_snoc]
      show msStep _ (msAck _ _ (x5.l.take 0)) _ = _
      unfold msStep
      rw [if_neg (by rw [p0.2.1]; decide)]
      rfl
    rw [hx6]
    unfold ackL
    rw [ems]
    exact ⟨h2.size, h2.last, by simp [h2.len], h2.m, h2.s, by rw [h2.now]; rfl⟩
  have hms : Ms x6.m x6.s := by rw [h6.2.2.2.1, h6.2.2.2.2.1]; exact Ms.start
  have hg0 : goneN x6 1 = 0 := by unfold goneN; rw [h6.2.2.1, h6.2.1]
  have CA2 := Lib.hid (ack_is hp.wx hms 1 40 1 40 rfl rfl 0 (by rw [hg0]; rfl) (by rw [h6.2.1]; omega) (by rw [h6.2.1]; omega) (by omega))
  have HP := Lib.hid hp
  have H6 := Lib.hid h6
  clear hp HP2 HT hW hV ka hx6 h6 hms CA hg1
  go_wp2_with fail
  go_at_call 12
  refine CA2.out.mono ?_
  rintro e w10 ⟨rfl, V7, hW, hV, ka⟩
  have hp := HP.out.ack hW hV ka
  obtain ⟨x7, hx7⟩ : ∃ y, y = ackL x6 (goneN x6 1) (max x6.now 40) V7 := ⟨_, rfl⟩
  rw [← hx7] at hp
  rw [hg0] at hx7
  have h7 : x7.size = 2 ∧ x7.last = 2 ∧ x7.l.length = 1 ∧ x7.m = 4616189618054758400 ∧ x7.s = 4607182418800017408 := by
    have h6 := H6.out
    rw [hx7]
    exact ⟨h6.1, h6.2.1, h6.2.2.1, h6.2.2.2.1, h6.2.2.2.2.1⟩
  have CA3 := Lib.hid (ack_far hp.wx 3 40 (by omega) (by rw [h7.2.1]; omega))
  have HP2 := Lib.hid hp
  have H7 := Lib.hid h7
  clear hp HP H6 hW hV ka hx7 h7 CA2 hg0
  go_wp2_with fail
  go_at_call 12
  refine CA3.out.mono ?_
  rintro e w10' ⟨rfl, rfl⟩
  obtain ⟨mm, hmm⟩ : ∃ m, m = w10.alloc (.cells #[.int .u8 99] 5 (1, 2)) := ⟨_, rfl⟩
  have km : Kp (fun _ => False) w10 mm := by rw [hmm]; exact (Kp.refl _ w10).alloc _
  have rm : RdB mm (some ⟨w10.heap.size, 0, none⟩) [99] := by rw [hmm]; exact rdb_mark w10 [99] (by intro z hz; simp at hz; omega) (by simp) _ _
  have hp := HP2.out.kp0 km
  have CP := Lib.hid (push_is hp.wx (by rw [H7.out.2.2.1, H7.out.1]; omega) (by rw [H7.out.2.1]; omega) (some ⟨w10.heap.size, 0, none⟩) 1 1 [99] rfl rm (by omega) 3 (by rw [H7.out.2.1]; rfl))
  rw [hmm] at CP hp
  have HP := Lib.hid hp
  clear hp km rm hmm HP2 CA3
  go_wp2_with fail
  go_at_call 11
  refine CP.out.mono ?_
  rintro e w11 ⟨rfl, p8, V8, _, _, _, hW, hM, kq⟩
  have hp := HP.out.step hW hM kq
  obtain ⟨x8, hx8⟩ : ∃ y : Wn, y = { x7 with last := x7.last + 1, V := V8, l := x7.l ++ [p8] } := ⟨_, rfl⟩
  rw [← hx8] at hp
  have h8 : x8.l.length = 2 ∧ x8.m = 4616189618054758400 ∧ x8.s = 4607182418800017408 := by
    rw [hx8]
    exact ⟨by simp [H7.out.2.2.1], H7.out.2.2.2.1, H7.out.2.2.2.2⟩
  have CT := Lib.hid (times_is hp.wx 4616189618054758400 4607182418800017408 h8.2.1 h8.2.2)
  have HP2 := Lib.hid hp
  have H8 := Lib.hid h8.1
  clear hp HP H7 hW hM kq hx8 h8 CP
  go_wp2_with fail
  go_at_call 21
  refine CT.out.mono ?_
  rintro e w12 ⟨rfl, k12⟩
  have hp := HP2.out.kp0 k12
  have CO := Lib.hid (open_is hp.wx 2 (by rw [H8.out]; rfl))
  have HP := Lib.hid hp
  clear hp HP2 k12 CT
  go_wp2_with fail
  go_at_call 15
  refine CO.out.mono ?_
  rintro e w13 ⟨rfl, k13⟩
  obtain ⟨mm, hmm⟩ : ∃ m, m = w13.alloc (.cells #[.int .u8 97] 5 (1, 2)) := ⟨_, rfl⟩
  have km : Kp (fun _ => False) w13 mm := by rw [hmm]; exact (Kp.refl _ w13).alloc _
  have rm : RdB mm (some ⟨w13.heap.size, 0, none⟩) [97] := by rw [hmm]; exact rdb_mark w13 [97] (by intro z hz; simp at hz; omega) (by simp) _ _
  have hp := ((HP.out.kp0 k13).kp0 km).swap
  have CP := Lib.hid (push_is hp.wx (by show 0 < 1; omega) (by show 0 ≤ _; omega) (some ⟨w13.heap.size, 0, none⟩) 1 1 [97] rfl rm (by omega) 1 rfl)
  rw [hmm] at CP hp
  have HP2 := Lib.hid hp
  clear hp km rm hmm HP CO k13 H8
  go_wp2_with fail
  go_at_call 11
  refine CP.out.mono ?_
  rintro e w14 ⟨rfl, p9, V9, hs9, _, ht9, hW, hM, kq⟩
  have hp := HP2.out.step hW hM kq
  obtain ⟨y1, hy1⟩ : ∃ y : Wn, y = { wnew 1 with last := (wnew 1).last + 1, V := V9, l := (wnew 1).l ++ [p9] } := ⟨_, rfl⟩
  rw [← hy1] at hp
  have hyl : y1.l = [p9] := by rw [hy1]; rfl
  have CD := Lib.hid (due_is hp.wx 0 0 rfl (by omega) (fun i hi => by
    rw [hyl] at hi ⊢
    obtain rfl : i = 0 := by simp at hi; omega
    show p9.times ≤ _; omega))
  have HP := Lib.hid hp
  have HY := Lib.hid (And.intro hy1 (And.intro hyl (And.intro ht9 hs9)))
  clear hp HP2 hW hM kq hy1 hyl ht9 hs9 CP
  go_wp2_with fail
  go_at_call 13
  refine CD.out.mono ?_
  rintro e w15 ⟨vd, ld, rfl, _, _, hW, kd⟩
  have hp := HP.out.due hW kd
  obtain ⟨y2, hy2⟩ : ∃ y, y = dueW (atW y1 0) := ⟨_, rfl⟩
  rw [← hy2] at hp
  have hy : y2.l.length = 1 ∧ y2.last = 1 ∧ (pk y2.l 0).times = 1 ∧ (pk y2.l 0).att = 0 ∧ y2.m = 4616189618054758400 ∧ y2.s = 4607182418800017408 ∧ y2.now = 0 := by
    obtain ⟨q1, q2, q3, q4⟩ := HY.out
    have n0 : (atW y1 0).now = 0 := by rw [q1]; rfl
    have l0 : (atW y1 0).l = [p9] := q2
    have e0 : dueI (atW y1 0) = [0] := by
      unfold dueI
      rw [l0, n0]
      show (List.range 1).filter _ = _
      have : dueB (pk [p9] 0) 0 = true := by unfold dueB dueA; rw [show pk [p9] 0 = p9 from rfl, q3]; rfl
      simp [List.range_succ, this]
    have hat := stL_at (x := atW y1 0) (pre := [0]) (i := 0) (by rw [l0]; simp)
    rw [if_pos (by simp)] at hat
    rw [hy2]
    unfold dueW
    rw [e0]
    refine ⟨by show (stL (atW y1 0) [0]).length = 1; rw [stL_len, l0]; rfl, by show y1.last = 1; rw [q1]; rfl, by rw [stW_l, hat, l0]; show p9.times + 1 = 1; omega, by rw [stW_l, hat]; exact n0, by show y1.m = _; rw [q1]; rfl, by show y1.s = _; rw [q1]; rfl, n0⟩
  have hms : Ms y2.m y2.s := by rw [hy.2.2.2.2.1, hy.2.2.2.2.2.1]; exact Ms.start
  have hg1 : goneN y2 1 = 1 := by unfold goneN; rw [hy.1, hy.2.1]
  have CA := Lib.hid (ack_is hp.wx hms 1 12 1 12 rfl rfl 1 (by rw [hg1]; rfl) (by rw [hy.2.1]; omega) (by rw [hy.2.1]; omega) (by omega))
  have HP2 := Lib.hid hp
  have HY2 := Lib.hid hy
  clear hp HP HY hW kd hy2 hy hms CD
  go_wp2_with fail
  go_at_call 12
  refine CA.out.mono ?_
  rintro e w16 ⟨rfl, V10, hW, hV, ka⟩
  have hp := HP2.out.ack hW hV ka
  obtain ⟨y3, hy3⟩ : ∃ y, y = ackL y2 (goneN y2 1) (max y2.now 12) V10 := ⟨_, rfl⟩
  rw [← hy3] at hp
  rw [hg1] at hy3
  have h3 : y3.m = 4617315517961601024 ∧ y3.s = 4613374868287651840 := by
    obtain ⟨q1, q2, q3, q4, q5, q6, q7⟩ := HY2.out
    have ems : msAck (max y2.now 12) (y2.m, y2.s) (y2.l.take 1) = (4617315517961601024, 4613374868287651840) := by
      rw [take_pk (k := 0) (by omega), msAck_snoc]
      show msStep _ (msAck _ _ (y2.l.take 0)) _ = _
      unfold msStep
      rw [if_pos q3]
      show (meanF y2.m (dF _ _) eighth, spreadF y2.s y2.m (dF _ _)) = _
      unfold dF
      rw [q4, q5, q6, q7]
      show (meanF 4616189618054758400 (floatOfInt .f64 12) eighth, spreadF 4607182418800017408 4616189618054758400 (floatOfInt .f64 12)) = _
      rw [spread_275, mean_5]
    rw [hy3]
    unfold ackL
    rw [ems]
    exact ⟨rfl, rfl⟩
  have CT := Lib.hid (times_is hp.wx 4617315517961601024 4613374868287651840 h3.1 h3.2)
  have HP := Lib.hid hp.kp
  clear hp HP2 HY2 hW hV ka hy3 h3 CA hg1
  go_wp2_with fail
  go_at_call 21
  refine CT.out.mono ?_
  rintro e w17 ⟨rfl, k17⟩
  have HP2 := Lib.hid (HP.out.trans k17)
  clear HP k17 CT
  go_wp2_with fail
  go_at_call 8
  refine (awake_any _).mono ?_
  rintro e w18 ⟨rfl, k18⟩
  have HP3 := Lib.hid (HP2.out.trans k18)
  clear HP2 k18
  go_wp2_with fail
  go_ret
  exact ⟨rfl, HP3.out.below (fun _ _ h => h)⟩
end Go.Proofs.Ytnapokdipelmiaa
