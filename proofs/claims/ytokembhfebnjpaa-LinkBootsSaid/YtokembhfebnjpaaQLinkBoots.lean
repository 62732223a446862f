/- LinkBoots: the walk. (Written by wip/lnboots.py.) -/
import Derived.Test.YtokembhfebnjpaaQBsM
import Derived.Test.YtokembhfebnjpaaQLnZ
namespace Go.Proofs.Ytokembhfebnjpaa
set_option maxRecDepth 20000
open Go.RowKit Flt
set_option linter.unusedVariables false
set_option linter.unusedSimpArgs false
theorem lgot_zero {lb o I : Nat} {t : Tk} {ext : List Value} {w : World} (h : LkC w lb 61 o) (hk : TkC w o t ext I) (hst : t.st = 2) (hn : t.i.n = 1) : Calls Try.prog 17 #[.pointer (some ⟨lb, 0, none⟩)] w fun e w' => e = .returned (.int .i64 0) ∧ w = w' := by
  have := lgot_dup h hk hst (by rw [hn]; omega)
  rw [hn] at this
  exact this
/-- Two ends' blocks are moved. -/
structure Mv2 (x : Ae) (y : De) (x' : Ae) (y' : De) (W W' : World) : Prop where
  kp : Kp (fun k => x.F k ∨ y.F k) W W'
  nx : ∀ k, x'.F k → x.F k ∨ W.heap.size ≤ k
  ny : ∀ k, y'.F k → y.F k ∨ W.heap.size ≤ k
theorem mv2_AD {x x' : Ae} {y y' : De} {W W1 W2 : World} (m1 : Mv x.F x'.F W W1) (m2 : Mv y.F y'.F W1 W2) : Mv2 x y x' y' W W2 :=
  ⟨(m1.kp.mono (fun _ _ h => .inl h)).trans (m2.kp.mono (fun _ _ h => .inr h)), m1.nw, fun k hk => (m2.nw k hk).imp_right (fun e => Nat.le_trans m1.kp.size e)⟩
theorem mv2_DA {x x' : Ae} {y y' : De} {W W1 W2 : World} (m1 : Mv y.F y'.F W W1) (m2 : Mv x.F x'.F W1 W2) : Mv2 x y x' y' W W2 :=
  ⟨(m1.kp.mono (fun _ _ h => .inr h)).trans (m2.kp.mono (fun _ _ h => .inl h)), fun k hk => (m2.nw k hk).imp_right (fun e => Nat.le_trans m1.kp.size e), m1.nw⟩
theorem Mv2.post {x x' : Ae} {y y' : De} {W W1 W2 : World} (m : Mv2 x y x' y' W W1) (k : Kp (fun _ => False) W1 W2) : Mv2 x y x' y' W W2 := ⟨m.kp.trans (k.mono (fun _ _ h => h.elim)), m.nx, m.ny⟩
/-- A third end. -/
structure Th (W : World) (B : Nat) (x : Ae) (y z : De) : Prop where
  d : DmS W B z
  dx : Dj x.F z.F
  dy : Dj y.F z.F
theorem Th.step {W W' : World} {B : Nat} {x x' : Ae} {y y' z : De} (h : Th W B x y z) (m : Mv2 x y x' y' W W') : Th W' B x' y' z :=
  ⟨h.d.kp m.kp (fun j hj e => e.elim (fun e => h.dx j e hj) (fun e => h.dy j e hj)), fun k hk hz => (m.nx k hk).elim (fun e => h.dx k e hz) (fun e => by have := h.d.lt k hz; omega), fun k hk hz => (m.ny k hk).elim (fun e => h.dy k e hz) (fun e => by have := h.d.lt k hz; omega)⟩
/-- A Syn goes over; beside a third end. -/
theorem over_syn3 {w W : World} {x : Ae} {y z : De} (h : Two w W x y) (hz : Th W w.heap.size x y z) (la ld : Nat) (hla : x.lb = la) (hld : y.lb = ld) (hst : x.t.st = 1) (hs : x.sent = false) (hse : 1 ≤ x.t.se) (hlt : y.t.se < x.t.se) (now : Nat) (q : Int) (hq : (now : Int) = q) (ht : now ≤ 2147483647) :
    Calls Try.prog 10 #[.pointer (some ⟨la, 0, none⟩), .pointer (some ⟨ld, 0, none⟩), .int .i64 q] W fun e w' => ∃ a c, e = .returned (.tuple #[.slice a 0 c, .bool true]) ∧ ∃ g b, Two w w' { x with sent := true, at_ := now } { y with t := upT { y.t with se := x.t.se } g b, wel := true } ∧ Th w' w.heap.size { x with sent := true, at_ := now } { y with t := upT { y.t with se := x.t.se } g b, wel := true } z := by
  subst hla; subst hld; subst hq
  have hsb := h.a.tk.se
  refine (over_one (now : Int) (layF (synF x.t.se)) [] (Nat.zero_le _) (Q1 := fun w' => Two w w' { x with sent := true, at_ := now } y ∧ Mv x.F (Ae.F { x with sent := true, at_ := now }) W w') (Q2 := fun us w' => ∃ g b, Two w w' { x with sent := true, at_ := now } { y with t := upT { y.t with se := x.t.se } g b, wel := true } ∧ Mv2 x y { x with sent := true, at_ := now } { y with t := upT { y.t with se := x.t.se } g b, wel := true } W w') ?_ ?_).mono ?_
  · refine (ag_tick_first h.a h.sz hst hs now ht).mono ?_
    rintro e w' ⟨v, rfl, vs, h1, h2, h3⟩
    rw [layP_one (errF_syn hse hsb)] at h1
    exact ⟨v, rfl, _, vs, h1, h.stepA h2 h3, h3⟩
  · rintro w1 A c ⟨h1, m1⟩ hr hc hcm
    refine (dm_newer h1.d h1.sz x.t.se hlt hsb now (timeN ht) A c hr hc hcm).mono ?_
    rintro e w' ⟨v, k, rfl, rfl, rfl, g, b, h2, h3⟩
    exact ⟨_, _, rfl, rfl, [], LLu.nil w', g, b, h1.stepD h2 h3, mv2_AD m1 h3⟩
  · rintro e w' ⟨a, c, us, w3, rfl, h1, ⟨g, b, h2, m⟩, h3, h4⟩
    exact ⟨a, c, rfl, g, b, h2.kp0 h3, hz.step (m.post h3)⟩
/-- A Welcome goes over; beside a third end. -/
theorem over_wel3 {w W : World} {x : Ae} {y z : De} (h : Two w W x y) (hz : Th W w.heap.size x y z) (la ld : Nat) (hla : x.lb = la) (hld : y.lb = ld) (hst : x.t.st = 1) (hyt : y.t.st = 2) (hse : 1 ≤ x.t.se) (hss : y.t.se = x.t.se) (hbo : 1 ≤ y.t.bo) (hw : y.wel = true) (hrs : y.rs = []) (ho : y.t.owed = false) (hI : y.I ≤ 1000000) {m : Nat} (hE : WE y.t.i.x m) (now : Nat) (q : Int) (hq : (now : Int) = q) (ht : now ≤ 2147483647) :
    Calls Try.prog 10 #[.pointer (some ⟨ld, 0, none⟩), .pointer (some ⟨la, 0, none⟩), .int .i64 q] W fun e w' => ∃ a c, e = .returned (.tuple #[.slice a 0 c, .bool true]) ∧ ∃ g b y', Two w w' { x with t := upT { x.t with bo := y.t.bo } g b } y' ∧ Th w' w.heap.size { x with t := upT { x.t with bo := y.t.bo } g b } y' z := by
  subst hla; subst hld; subst hq
  have hsb := h.a.tk.se
  have hbb := h.d.dm.tk.bo
  have he := errF_wel hse hsb hbo hbb
  refine (over_one (now : Int) (layF (welF x.t.se y.t.bo)) [] (Nat.zero_le _) (Q1 := fun w' => Two w w' x { y with t := dueT y.t now, wel := false, rv := .slice none 0 0, rs := [], I := y.I + 1 } ∧ Mv y.F (De.F { y with t := dueT y.t now, wel := false, rv := .slice none 0 0, rs := [], I := y.I + 1 }) W w') (Q2 := fun us w' => ∃ g b y', Two w w' { x with t := upT { x.t with bo := y.t.bo } g b } y' ∧ Mv2 x y { x with t := upT { x.t with bo := y.t.bo } g b } y' W w') ?_ ?_).mono ?_
  · refine (dm_tick h.d h.sz hyt hI (fun s hs => by rw [hrs] at hs; cases hs) now ht).mono ?_
    rintro e w' ⟨v, rfl, vs, l8, h0, h1, h2, h3⟩
    rw [(hE.due now).1] at h0
    rw [tel_nil h0, wel_due hw hrs ho (by rw [hss]; exact he), hss] at h1
    exact ⟨v, rfl, _, vs, h1, h.stepD h2 h3, h3⟩
  · rintro w1 A c ⟨h1, m1⟩ hr hc hcm
    refine (ag_welcome h1.a h1.sz hst y.t.bo hse ⟨hbo, hbb⟩ now (timeN ht) A c hr hc hcm).mono ?_
    rintro e w' ⟨v, k, rfl, rfl, rfl, g, b, h2, h3⟩
    exact ⟨_, _, rfl, rfl, [], LLu.nil w', g, b, _, h1.stepA h2 h3, mv2_DA m1 h3⟩
  · rintro e w' ⟨a, c, us, w3, rfl, h1, ⟨g, b, y', h2, m⟩, h3, h4⟩
    exact ⟨a, c, rfl, g, b, y', h2.kp0 h3, hz.step (m.post h3)⟩
theorem put_syn5 (w : World) : Calls Try.prog 13 #[.agg #[.int .i64 1, .int .i64 5, .int .i64 0, .int .i64 0, .int .i64 0, .slice none 0 0]] w fun e w' => ∃ a c, e = .returned (.tuple #[.slice a (layF (synF 5)).length c, .int .i64 0]) ∧ (layF (synF 5)).length ≤ c ∧ c ≤ maxLen ∧ RdB w' a (layF (synF 5)) ∧ Kp (fun _ => False) w w' := by
  refine (fput_ok (synF 5) none 0 w (by unfold frI synF; simp) (RdB.nil _ _) (Nat.le_refl _) (errF_syn (by omega) (by omega))).mono ?_
  rintro e w' ⟨v, rfl, h1, h2, h3⟩
  obtain ⟨a, c, rfl, h4, h5, h6⟩ := h1.form3
  exact ⟨a, c, rfl, h5, h6, h4, h3⟩
set_option maxHeartbeats 8000000 in
theorem boots_same (a2 : Option Addr) (len2 cap2 : Nat) (n0 n1 : Int) (w : World) (h : n0 = n1 ∨ (len2 : Int) > 100) :
    Calls Try.prog 3 #[.int .i64 n0, .int .i64 n1, .slice a2 len2 cap2] w fun e w' => e = .returned (.bool true) ∧ Below w.heap.size w w' := by
  have AW := Lib.hid (fun w => awake_any w)
  by_cases he : n0 = n1
  · have hb : (n0 == n1) = true := by simpa using he
    clear h
    subst he
    go_enter Try.func3, Try.ntmps3
    go_wp2_with fail
    go_at_call 7
    refine (AW.out _).mono ?_
    rintro e w1 ⟨rfl, k1⟩
    have K1 := Lib.hid k1
    clear k1
    go_wp2_with fail
    go_ret
    exact ⟨rfl, K1.out.below (fun _ _ h => h)⟩
  · have hb : (n0 == n1) = false := by simpa using he
    have hl : (len2 : Int) > 100 := h.resolve_left he
    clear h
    go_enter Try.func3, Try.ntmps3
    go_wp2_with fail
    go_at_call 7
    refine (AW.out _).mono ?_
    rintro e w1 ⟨rfl, k1⟩
    have K1 := Lib.hid k1
    clear k1
    go_wp2_with fail
    go_ret
    exact ⟨rfl, K1.out.below (fun _ _ h => h)⟩
set_option maxHeartbeats 8000000 in
theorem boots_bad0 (a2 : Option Addr) (len2 cap2 : Nat) (n0 n1 : Int) (w : World) (hne : ¬ n0 = n1) (hl : ¬ (len2 : Int) > 100) (hf : fitB n0 4 = false) :
    Calls Try.prog 3 #[.int .i64 n0, .int .i64 n1, .slice a2 len2 cap2] w fun e w' => e = .returned (.bool true) ∧ Below w.heap.size w w' := by
  have AW := Lib.hid (fun w => awake_any w)
  have hb : (n0 == n1) = false := by simpa using hne
  have hf5 : fitB (5 : Nat) (4 : Nat) = true := by decide
  have CA := Lib.hid (fun w1 : World => ag_new 5 4 5 4 rfl rfl w1 hf5 w1.heap.size (Nat.le_refl _))
  clear hf5
  have CD := Lib.hid (fun w2 : World => daemon_bad n0 4 w2 hf)
  clear hf
  by_cases hf1 : fitB n1 4 = true
  · obtain ⟨o1, o2, _, _⟩ := fitB_yes hf1
    obtain ⟨b, rfl⟩ := Int.eq_ofNat_of_zero_le (show 0 ≤ n1 by omega)
    have CE := Lib.hid (fun w2 : World => dm_new b 4 b 4 rfl rfl w2 hf1 w2.heap.size (Nat.le_refl _))
    clear hf1 o1 o2
    go_enter Try.func3, Try.ntmps3
    go_wp2_with fail
    go_at_call 7
    refine (AW.out _).mono ?_
    rintro e w1 ⟨rfl, k1⟩
    have K1 := Lib.hid k1
    have CA1 := Lib.hid (CA.out w1)
    clear k1 CA
    go_wp2_with fail
    go_at_call 8
    refine CA1.out.mono ?_
    rintro e w2 ⟨la, oa, rfl, h2, g2, k2⟩
    have H2 := Lib.hid (And.intro h2 (And.intro g2 k2))
    clear h2 g2 k2 CA1
    go_wp2_with fail
    go_at_call 9
    (with_reducible refine (CD.out _).mono ?_)
    rintro e w3 ⟨rfl, rfl⟩
    go_wp2_with fail
    go_at_call 9
    (with_reducible refine (CE.out _).mono ?_)
    rintro e w4 ⟨ln, on, rfl, h4, g4, k4⟩
    have K4 := Lib.hid ((K1.out.trans H2.out.2.2).trans k4)
    clear h4 g4 k4
    go_wp2_with fail
    go_ret
    exact ⟨rfl, K4.out.below (fun _ _ h => h)⟩
  · have hf1 : fitB n1 4 = false := by simpa using hf1
    have CE := Lib.hid (fun w2 : World => daemon_bad n1 4 w2 hf1)
    clear hf1
    go_enter Try.func3, Try.ntmps3
    go_wp2_with fail
    go_at_call 7
    refine (AW.out _).mono ?_
    rintro e w1 ⟨rfl, k1⟩
    have K1 := Lib.hid k1
    have CA1 := Lib.hid (CA.out w1)
    clear k1 CA
    go_wp2_with fail
    go_at_call 8
    refine CA1.out.mono ?_
    rintro e w2 ⟨la, oa, rfl, h2, g2, k2⟩
    have H2 := Lib.hid (And.intro h2 (And.intro g2 k2))
    clear h2 g2 k2 CA1
    go_wp2_with fail
    go_at_call 9
    (with_reducible refine (CD.out _).mono ?_)
    rintro e w3 ⟨rfl, rfl⟩
    go_wp2_with fail
    go_at_call 9
    (with_reducible refine (CE.out _).mono ?_)
    rintro e w4 ⟨rfl, rfl⟩
    go_wp2_with fail
    go_ret
    exact ⟨rfl, (K1.out.trans H2.out.2.2).below (fun _ _ h => h)⟩
set_option maxHeartbeats 8000000 in
theorem boots_bad1 (a2 : Option Addr) (len2 cap2 : Nat) (b : Nat) (n1 : Int) (w : World) (hne : ¬ (b : Int) = n1) (hl : ¬ (len2 : Int) > 100) (hf0 : fitB b (4 : Nat) = true) (hf : fitB n1 4 = false) :
    Calls Try.prog 3 #[.int .i64 (b : Nat), .int .i64 n1, .slice a2 len2 cap2] w fun e w' => e = .returned (.bool true) ∧ Below w.heap.size w w' := by
  obtain ⟨n0, hn0⟩ : ∃ n0 : Int, n0 = (b : Nat) := ⟨_, rfl⟩
  rw [← hn0] at hne ⊢
  have AW := Lib.hid (fun w => awake_any w)
  have hb : (n0 == n1) = false := by simpa using hne
  have hf5 : fitB (5 : Nat) (4 : Nat) = true := by decide
  have CA := Lib.hid (fun w1 : World => ag_new 5 4 5 4 rfl rfl w1 hf5 w1.heap.size (Nat.le_refl _))
  clear hf5
  have CD := Lib.hid (fun w2 : World => dm_new b 4 n0 4 hn0.symm rfl w2 hf0 w2.heap.size (Nat.le_refl _))
  have CE := Lib.hid (fun w2 : World => daemon_bad n1 4 w2 hf)
  clear hf hf0 hn0
  go_enter Try.func3, Try.ntmps3
  go_wp2_with fail
  go_at_call 7
  refine (AW.out _).mono ?_
  rintro e w1 ⟨rfl, k1⟩
  have K1 := Lib.hid k1
  have CA1 := Lib.hid (CA.out w1)
  clear k1 CA
  go_wp2_with fail
  go_at_call 8
  refine CA1.out.mono ?_
  rintro e w2 ⟨la, oa, rfl, h2, g2, k2⟩
  have H2 := Lib.hid (And.intro h2 (And.intro g2 k2))
  clear h2 g2 k2 CA1
  go_wp2_with fail
  go_at_call 9
  (with_reducible refine (CD.out _).mono ?_)
  rintro e w3 ⟨ld, od, rfl, h3, g3, k3⟩
  have K3 := Lib.hid ((K1.out.trans H2.out.2.2).trans k3)
  clear h3 g3 k3
  go_wp2_with fail
  go_at_call 9
  (with_reducible refine (CE.out _).mono ?_)
  rintro e w4 ⟨rfl, rfl⟩
  go_wp2_with fail
  go_ret
  exact ⟨rfl, K3.out.below (fun _ _ h => h)⟩
set_option maxHeartbeats 16000000 in
theorem boots_good (a2 : Option Addr) (len2 cap2 : Nat) (b bn : Nat) (l : List Int) (w : World) (hne : ¬ b = bn) (hlen : l.length = len2) (hl : ¬ (len2 : Int) > 100) (hr : RdB w a2 l) (hf0 : fitB b (4 : Nat) = true) (hf1 : fitB bn (4 : Nat) = true) :
    Calls Try.prog 3 #[.int .i64 (b : Nat), .int .i64 (bn : Nat), .slice a2 len2 cap2] w fun e w' => e = .returned (.bool true) ∧ Below w.heap.size w w' := by
  obtain ⟨o1, o2, _, _⟩ := fitB_yes hf0
  obtain ⟨o3, o4, _, _⟩ := fitB_yes hf1
  have HB := Lib.hid (show 1 ≤ b ∧ b ≤ 2147483647 ∧ 1 ≤ bn ∧ bn ≤ 2147483647 from ⟨by omega, by omega, by omega, by omega⟩)
  have HNE := Lib.hid hne
  have HR := Lib.hid (And.intro hr (And.intro hlen (show l.length ≤ 100 by omega)))
  obtain ⟨n0, hn0⟩ : ∃ n0 : Int, n0 = (b : Nat) := ⟨_, rfl⟩
  obtain ⟨n1, hn1⟩ : ∃ n1 : Int, n1 = (bn : Nat) := ⟨_, rfl⟩
  have hne : ¬ n0 = n1 := by omega
  rw [← hn0, ← hn1]
  have AW := Lib.hid (fun w => awake_any w)
  have hb : (n0 == n1) = false := by simpa using hne
  have hf5 : fitB (5 : Nat) (4 : Nat) = true := by decide
  have CA := Lib.hid (fun w1 : World => ag_new 5 4 5 4 rfl rfl w1 hf5 w1.heap.size (Nat.le_refl _))
  clear hf5
  have CD := Lib.hid (fun (w1 w2 : World) (k : Kp (fun _ => False) w1 w2) => dm_new b 4 n0 4 hn0.symm rfl w2 hf0 w1.heap.size k.size)
  have CE := Lib.hid (fun (w1 w2 : World) (k : Kp (fun _ => False) w1 w2) => dm_new bn 4 n1 4 hn1.symm rfl w2 hf1 w1.heap.size k.size)
  have HN := Lib.hid (And.intro hn0 hn1)
  clear hf0 hf1 hn0 hn1 o1 o2 o3 o4 hr hlen
  go_enter Try.func3, Try.ntmps3
  go_wp2_with fail
  go_at_call 7
  refine (AW.out _).mono ?_
  rintro e w1 ⟨rfl, k1⟩
  have K1 := Lib.hid k1
  have CA1 := Lib.hid (CA.out w1)
  clear k1 CA
  go_wp2_with fail
  go_at_call 8
  refine CA1.out.mono ?_
  rintro e w2 ⟨la, oa, rfl, h2, g2, k2⟩
  have H2 := Lib.hid (And.intro h2 (And.intro g2 k2))
  have CD2 := Lib.hid (CD.out w1 w2 k2)
  clear h2 g2 k2 CA1
  go_wp2_with fail
  go_at_call 9
  (with_reducible refine CD2.out.mono ?_)
  rintro e w3 ⟨ld, od, rfl, h3, g3, k3⟩
  have H3 := Lib.hid (And.intro h3 (And.intro g3 k3))
  have CE3 := Lib.hid (CE.out w1 w3 (H2.out.2.2.trans k3))
  clear h3 g3 k3 CD CE CD2
  go_wp2_with fail
  go_at_call 9
  (with_reducible refine CE3.out.mono ?_)
  rintro e w4 ⟨ln, on, rfl, h4, g4, k4⟩
  have hT : Two w1 w4 (ae0 la oa 5 4) (de0 ld od b 4) := ⟨(H2.out.1.kp0 H3.out.2.2).kp0 k4, H3.out.1.kp0 k4, fun k h1 h2 => by
    have := H2.out.1.lt k h1
    have := H3.out.2.1 k h2
    omega, (H2.out.2.2.trans H3.out.2.2).trans k4⟩
  have hTh : Th w4 w1.heap.size (ae0 la oa 5 4) (de0 ld od b 4) (de0 ln on bn 4) := ⟨h4, fun k h1 h2 => by
    have := (H2.out.1.kp0 H3.out.2.2).lt k h1
    have := g4 k h2
    omega, fun k h1 h2 => by
    have := H3.out.1.lt k h1
    have := g4 k h2
    omega⟩
  have C5 := Lib.hid (over_syn3 hT hTh la ld rfl rfl rfl rfl (by show 1 ≤ 5; omega) (by show 0 < 5; omega) 0 0 rfl (by omega))
  clear h4 g4 k4 hT hTh CE3
  go_wp2_with fail
  go_at_call 10
  refine C5.out.mono ?_
  rintro e w5 ⟨a5, c5, rfl, g1, b1, h5, t5⟩
  have C6 := Lib.hid (over_wel3 h5 t5 la ld rfl rfl rfl rfl (by show 1 ≤ 5; omega) rfl (by exact HB.out.1) rfl rfl rfl (by show 0 ≤ _; omega) (WE.new 4) 0 0 rfl (by omega))
  clear h5 t5 C5
  go_wp2_with fail
  go_at_call 10
  refine C6.out.mono ?_
  rintro e w6 ⟨a6, c6, rfl, g6, b6, y6, h6, t6⟩
  obtain ⟨x6, hx6⟩ : ∃ x6 : Ae, x6 = { ae0 la oa 5 4 with sent := true, at_ := 0, t := upT { (ae0 la oa 5 4).t with bo := b } g6 b6 } := ⟨_, rfl⟩
  have hT : Two w1 w6 x6 (de0 ln on bn 4) := by rw [hx6]; exact ⟨h6.a, t6.d, t6.dx, h6.kp⟩
  have jx : x6.lb = la ∧ x6.t.st = 2 ∧ x6.t.se = 5 ∧ x6.t.bo = b ∧ WE x6.t.i.x 0 ∧ x6.t.i.n = 1 ∧ x6.I = 0 ∧ x6.t.sz = 4 := by rw [hx6]; exact ⟨rfl, rfl, rfl, rfl, WE.new 4, rfl, rfl, rfl⟩
  have CB : Calls Try.prog 11 #[.pointer (some ⟨la, 0, none⟩)] w6 fun e w' => e = .returned (.int .i64 n0) ∧ w6 = w' := by
    have := lboot_a hT.a.lk hT.a.tk
    rw [jx.1, jx.2.2.2.1, ← HN.out.1] at this
    exact this
  have hrb : RdB w6 a2 l := HR.out.1.kp0 (K1.out.trans hT.kp) (fun _ _ h => h)
  have CS : Calls Try.prog 12 #[.pointer (some ⟨la, 0, none⟩), .slice a2 len2 cap2] w6 fun e w' => e = .returned (.int .i64 0) ∧ ∃ x7, Two w1 w' x7 (de0 ln on bn 4) ∧ x7.lb = la ∧ x7.t.st = 2 ∧ x7.t.se = 5 ∧ x7.t.bo = b ∧ W1 x7.t.i.x 1 l 1 ∧ x7.t.i.n = 1 ∧ x7.I = 1 := by
    rw [← jx.1]
    refine (ag_send hT.a hT.sz jx.2.1 (by rw [jx.2.2.2.2.2.2.1]; omega) a2 len2 cap2 l HR.out.2.1.symm hrb (by have := HR.out.2; omega) (by rw [jx.2.2.2.2.1.1, jx.2.2.2.2.2.2.2]; decide)).mono ?_
    rintro e w' ⟨rfl, p, V, q1, q2, q3, q4, q5⟩
    exact ⟨rfl, _, hT.stepA q4 q5, rfl, jx.2.1, jx.2.2.1, jx.2.2.2.1, jx.2.2.2.2.1.push (q := 0) q1 q2 q3, jx.2.2.2.2.2.1, by show x6.I + 1 = 1; rw [jx.2.2.2.2.2.2.1]⟩
  have CB := Lib.hid CB
  have CS := Lib.hid CS
  clear h6 t6 hx6 hT jx hrb C6
  go_wp2_with (first | (go_at_call 11; refine CB.out.mono ?_; rintro e w' ⟨rfl, rfl⟩))
  go_at_call 12
  refine CS.out.mono ?_
  rintro e w7 ⟨rfl, x7, h7, j7⟩
  have H7 := Lib.hid (And.intro h7 j7)
  have CP := Lib.hid (put_syn5 w7)
  clear h7 j7
  go_wp2_with fail
  go_at_call 13
  refine CP.out.mono ?_
  rintro e w8 ⟨as_, cs, rfl, hcs, hcsm, rs8, k8⟩
  have h8 := H7.out.1.kp0 k8
  have CR1 : Tells Try.prog 14 #[.pointer (some ⟨ln, 0, none⟩), .slice as_ (layF (synF 5)).length cs, .int .i64 1] w8 fun v k w' => v = .slice none 0 0 ∧ k = 0 ∧ ∃ g b, Two w1 w' x7 { de0 ln on bn 4 with t := upT { (de0 ln on bn 4).t with se := 5 } g b, wel := true } := by
    refine (dm_newer h8.d h8.sz 5 (by show 0 < 5; omega) (by omega) 1 (timeN (n := 1) (by omega)) as_ cs rs8 hcs hcsm).mono ?_
    rintro e w' ⟨v, k, rfl, rfl, rfl, g, b, q1, q2⟩
    exact ⟨_, _, rfl, rfl, rfl, g, b, h8.stepD q1 q2⟩
  obtain ⟨ns, hns⟩ : ∃ ns, ns = (layF (synF 5)).length := ⟨_, rfl⟩
  rw [← hns] at CR1 ⊢
  have CR1 := Lib.hid CR1
  have HNS := Lib.hid hns
  clear hcs hcsm rs8 k8 h8 CP hns
  go_wp2_with fail
  go_at_call 14
  refine CR1.out.mono ?_
  rintro e w9 ⟨v, k, rfl, rfl, rfl, g9, b9, h9⟩
  have CT1 : Calls Try.prog 15 #[.pointer (some ⟨ln, 0, none⟩), .int .i64 1] w9 fun e w' => ∃ a n c, e = .returned (.slice a n c) ∧ ∃ z, Two w1 w' x7 z ∧ z.lb = ln ∧ z.t.st = 2 ∧ z.t.bo = bn ∧ z.rs = [] ∧ z.wel = false ∧ z.t.owed = false ∧ WE z.t.i.x 0 ∧ z.I = 1 ∧ z.t.i.n = 1 := by
    refine (dm_tick h9.d h9.sz rfl (by show 0 ≤ _; omega) (fun s hs => by cases hs) 1 (by omega)).mono ?_
    rintro e w' ⟨v, rfl, vs, l8, q0, q1, q2, q3⟩
    obtain ⟨a, c, rfl, _⟩ := q1.form
    exact ⟨a, _, c, rfl, _, h9.stepD q2 q3, rfl, rfl, rfl, rfl, rfl, rfl, ((WE.new 4).due 1).2, rfl, rfl⟩
  have CT1 := Lib.hid CT1
  clear h9 CR1
  go_wp2_with fail
  go_at_call 15
  refine CT1.out.mono ?_
  rintro e w10 ⟨a10, n10, c10, rfl, z, h10, j10⟩
  obtain ⟨j1, j2, j3, j4, j5, j6, j7⟩ := H7.out.2
  have he : errF ⟨3, x7.t.se, x7.t.bo, 1, 0, l⟩ = 0 := errF_dat (q := 1) (a := 0) (by rw [j3]; omega) (by rw [j3]; omega) (by rw [j4]; exact HB.out.1) (by rw [j4]; exact HB.out.2.1) (by omega) (by omega) (by omega) (by have := HR.out.2.2; omega)
  obtain ⟨fb, hfb⟩ : ∃ fb, fb = layF ⟨3, x7.t.se, x7.t.bo, 1, 0, l⟩ := ⟨_, rfl⟩
  have CT2 : Calls Try.prog 15 #[.pointer (some ⟨la, 0, none⟩), .int .i64 1] w10 fun e w' => ∃ a c us, e = .returned (.slice a 1 c) ∧ Two w1 w' { x7 with t := dueT x7.t 1, I := x7.I + 1 } z ∧ Hl w' { x7 with t := dueT x7.t 1, I := x7.I + 1 } z (.slice a 1 c) [fb] us := by
    rw [← j1]
    refine (ag_tick_up h10.a h10.sz j2 (by rw [j7]; omega) 1 (by omega)).mono ?_
    rintro e w' ⟨v, rfl, vs, l8, q0, q1, q2, q3⟩
    obtain ⟨u, rfl, hu1, hu2⟩ := (j5.due 1).2.1 l8 q0
    rw [dat_due hu1 hu2 j6 he, ← hfb] at q1
    obtain ⟨a, c, rfl, _⟩ := q1.form
    exact ⟨a, c, vs, rfl, h10.stepA q2 q3, Hl.of q1.u (fun g hg => ⟨fun e => by have := h10.a.lt g (af_due.1 e); have := (hg.elim (q1.ge g) (fun ⟨i, hi, q⟩ => q1.geE i g hi q)); omega, fun e => by have := h10.d.lt g e; have := (hg.elim (q1.ge g) (fun ⟨i, hi, q⟩ => q1.geE i g hi q)); omega⟩)⟩
  have CT2 := Lib.hid CT2
  have H10 := Lib.hid (And.intro j10 (And.intro he hfb))
  clear h10 j10 j1 j2 j3 j4 j5 j6 j7 he hfb CT1
  go_wp2_with fail
  go_at_call 15
  refine CT2.out.mono ?_
  rintro e w11 ⟨al, cl, us, rfl, h11, l11⟩
  obtain ⟨gl, A, cA, rfl, c11, r11, hcA, hcM⟩ := l11.one
  obtain ⟨z1, z2, z3, z4, z5, z6, z7, z8, z9⟩ := H10.out.1
  have CR2 : Tells Try.prog 14 #[.pointer (some ⟨ln, 0, none⟩), .slice A fb.length cA, .int .i64 1] w11 fun v k w' => v = .slice none 0 0 ∧ k = 6 ∧ ∃ rv', Two w1 w' { x7 with t := dueT x7.t 1, I := x7.I + 1 } { z with rv := rv', rs := refL z.rs 5 } := by
    have hfb := H10.out.2.2
    subst hfb
    rw [← z1]
    refine (dm_strange h11.d h11.sz _ 5 H10.out.2.1 rfl (by show (x7.t.se : Int) = _; rw [H7.out.2.2.2.1]) (.inr (.inr (by show ¬ (x7.t.bo : Int) = (z.t.bo : Nat); rw [H7.out.2.2.2.2.1, z3]; have := HNE.out; omega))) 1 (timeN (n := 1) (by omega)) A cA r11 hcA hcM).mono ?_
    rintro e w' ⟨v, k, rfl, rfl, rfl, rv', q1, q2⟩
    exact ⟨_, _, rfl, rfl, rfl, rv', h11.stepD q1 q2⟩
  obtain ⟨nb, hnb⟩ : ∃ nb, nb = fb.length := ⟨_, rfl⟩
  rw [← hnb] at CR2 c11
  have CR2 := Lib.hid CR2
  have HNB := Lib.hid hnb
  clear h11 l11 r11 hcA hcM hnb z1 z2 z3 z4 z5 z6 z7 z8 z9 CT2
  go_wp2_with fail
  go_at_call 14
  refine CR2.out.mono ?_
  rintro e w12 ⟨v, k, rfl, rfl, rfl, rv, h12⟩
  obtain ⟨z1, z2, z3, z4, z5, z6, z7, z8, z9⟩ := H10.out.1
  obtain ⟨j1, j2, j3, j4, j5, j6, j7⟩ := H7.out.2
  have C13 := Lib.hid (over_rst h12 la ln j1 z1 (by show ¬ x7.t.st = 3; rw [j2]; decide) z2 (by show 1 ≤ x7.t.se; rw [j3]; omega) z5 (by show refL z.rs 5 = [x7.t.se]; rw [z4, j3]; simp [refL]) z6 (by show z.I ≤ _; rw [z8]; omega) z7 1 1 rfl (by omega))
  clear h12 z1 z2 z3 z4 z5 z6 z7 z8 z9 j1 j2 j3 j4 j5 j6 j7 CR2 c11
  go_wp2_with fail
  go_at_call 10
  refine C13.out.mono ?_
  rintro e w13 ⟨a13, c13, rfl, h13⟩
  obtain ⟨z1, z2, z3, z4, z5, z6, z7, z8, z9⟩ := H10.out.1
  obtain ⟨j1, j2, j3, j4, j5, j6, j7⟩ := H7.out.2
  have CA13 : Calls Try.prog 16 #[.pointer (some ⟨la, 0, none⟩)] w13 fun e w' => e = .returned (.int .i64 3) ∧ w13 = w' := by
    rw [← j1]
    exact lstate_a h13.a.lk h13.a.tk
  have CG13 : Calls Try.prog 17 #[.pointer (some ⟨ln, 0, none⟩)] w13 fun e w' => e = .returned (.int .i64 0) ∧ w13 = w' := by
    rw [← z1]
    exact lgot_zero h13.d.lk h13.d.dm.tk z2 z9
  have CA13 := Lib.hid CA13
  have CG13 := Lib.hid CG13
  have K13 := Lib.hid (K1.out.trans h13.kp)
  clear h13 z1 z2 z3 z4 z5 z6 z7 z8 z9 j1 j2 j3 j4 j5 j6 j7 C13
  go_wp2_with (first | (go_at_call 16; refine CA13.out.mono ?_; rintro e w' ⟨rfl, rfl⟩) | (go_at_call 17; refine CG13.out.mono ?_; rintro e w' ⟨rfl, rfl⟩))
  go_ret
  exact ⟨rfl, K13.out.below (fun _ _ h => h)⟩
theorem linkBoots_walk (n0 n1 : Int) (a2 : Option Addr) (len2 cap2 : Nat) (w : World) (r0 : Rdg Try.prog w 3 [.int .i64 n0]) (r1 : Rdg Try.prog w 3 [.int .i64 n1]) (r2 : Rdg Try.prog w 22 [.slice a2 len2 cap2]) :
    Calls Try.prog 3 #[.int .i64 n0, .int .i64 n1, .slice a2 len2 cap2] w fun e w' => e = .returned (.bool true) ∧ Below w.heap.size w w' := by
  obtain ⟨_, l, _, e0, hr, h1, h2⟩ := r2.bytes Try.underlying22 Try.underlying5 (by kernel_rfl) (by kernel_rfl)
  simp only [List.cons.injEq, Value.slice.injEq, and_true] at e0
  obtain ⟨rfl, rfl, rfl⟩ := e0
  by_cases hs : n0 = n1 ∨ (l.length : Int) > 100
  · exact boots_same _ _ _ n0 n1 w hs
  · have hne : ¬ n0 = n1 := fun e => hs (.inl e)
    have hl : ¬ (l.length : Int) > 100 := fun e => hs (.inr e)
    cases hf0 : fitB n0 4
    · exact boots_bad0 _ _ _ n0 n1 w hne hl hf0
    · obtain ⟨o1, o2, _, _⟩ := fitB_yes hf0
      obtain ⟨b, rfl⟩ := Int.eq_ofNat_of_zero_le (show 0 ≤ n0 by omega)
      cases hf1 : fitB n1 4
      · exact boots_bad1 _ _ _ b n1 w hne hl hf0 hf1
      · obtain ⟨o3, o4, _, _⟩ := fitB_yes hf1
        obtain ⟨bn, rfl⟩ := Int.eq_ofNat_of_zero_le (show 0 ≤ n1 by omega)
        exact boots_good _ _ _ b bn l w (by omega) rfl hl hr hf0 hf1
end Go.Proofs.Ytokembhfebnjpaa
