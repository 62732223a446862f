/- Package window: Due. (Written by wip/win13e.py.) -/
import Derived.Test.YtnapokdipelmiaaWnD
import Derived.Test.YtnapokdipelmiaaTpk
namespace Go.Proofs.Ytnapokdipelmiaa
open Go.RowKit Flt
set_option linter.unusedVariables false
set_option linter.unusedSimpArgs false
attribute [local go_sem] Oper.semAt_some
variable {w : World} {b : Nat} {x : Wn}
theorem due_late (h : WinC w b x) (now : Int) (ht : timeB now = false) : Calls Try.prog 13 #[.pointer (some ⟨b, 0, none⟩), .int .i64 now] w fun e w' => e = .returned (.slice none 0 0) ∧ w = w' := by
  have C := Lib.hid (wnone_no b x.size w h.c0 h.size_bd.1)
  have CT := (fun w' => wtime_any now w')
  rw [ht] at CT
  have CT := Lib.hid CT
  clear h
  go_enter Try.func13, Try.ntmps13
  go_wp2_with (first | (go_at_call 22; refine C.out.mono ?_; rintro e w' ⟨rfl, rfl⟩) | (go_at_call 23; refine (CT.out _).mono ?_; rintro e w' ⟨rfl, rfl⟩))
  go_ret
  exact ⟨rfl, rfl⟩
theorem zero_pk (u : World) : (zeroValue 36).run Try.prog u = .ok (.agg #[.int .i64 0, .slice none 0 0]) u := by kernel_rfl
/-- The window at a time. -/
def atW (x : Wn) (now : Nat) : Wn := { x with now := max x.now now }
/-- What Due tells: the packets of these places, their bodies in new memory. -/
def TelL (x : Wn) (is : List Nat) (l : List Tp) : Prop := l.length = is.length ∧ ∀ j i, is[j]? = some i → (tp l j).seq = (pk x.l i).seq ∧ (tp l j).body = (pk x.l i).body
theorem TelL.snoc {x : Wn} {is : List Nat} {l : List Tp} (h : TelL x is l) (i : Nat) (t : Tp) (h1 : t.seq = (pk x.l i).seq) (h2 : t.body = (pk x.l i).body) : TelL x (is ++ [i]) (l ++ [t]) := by
  refine ⟨by simp [h.1], fun j k hj => ?_⟩
  have hl := h.1
  by_cases hj' : j < is.length
  · rw [List.getElem?_append_left hj'] at hj
    rw [tp_app_lt (by omega)]
    exact h.2 j k hj
  · have : j = is.length := by
      have := (List.getElem?_eq_some_iff.1 hj).1
      simp at this; omega
    subst this
    rw [List.getElem?_append_right (Nat.le_refl _), Nat.sub_self] at hj
    simp only [List.getElem?_cons_zero, Option.some.injEq] at hj
    subst hj
    rw [← hl, tp_app_at]
    exact ⟨h1, h2⟩
/-- What Due has at hand behind some packets. -/
def DuR (b : Nat) (x : Wn) (w2 : World) (ov : Nat) (pre : List Nat) (W : World) : Prop :=
  ∃ vo l, OwnT w2.heap.size W vo l ∧ TelL x pre l ∧ At W ov [vo] ∧ Kp (fun j => j = ov ∨ Mine b x j) w2 W
set_option maxHeartbeats 4000000 in
set_option maxRecDepth 20000 in
theorem due_ok (h : WinC w b x) (now : Nat) (ht : now ≤ 2147483647) (hts : ∀ i, i < x.l.length → (pk x.l i).times ≤ 4611686018427387900) : Calls Try.prog 13 #[.pointer (some ⟨b, 0, none⟩), .int .i64 now] w fun e w' =>
    ∃ v l, e = .returned v ∧ OwnT w.heap.size w' v l ∧ TelL (atW x now) (dueI (atW x now)) l ∧ WinC w' b (dueW (atW x now)) ∧ Kp (Mine b x) w w' := by
  have h5 := h.c5
  have hf5 := h.hat.frozen 5
  have C := Lib.hid (wnone_no b x.size w h.c0 h.size_bd.1)
  have CT := (fun w' => wtime_any (now : Int) w')
  rw [timeB_of ht] at CT
  have CT := Lib.hid CT
  have hnb := h.now_bd
  have hW0 := h.head (last' := x.last) (m' := x.m) (s' := x.s) (now' := max x.now now) rfl (h.hat.set 5 (.int .i64 (max x.now now : Nat))) ((Kp.refl (· = b) w).setCell (p := ⟨b, 5, none⟩) (fun _ => rfl) _) (by omega) (by omega)
  have k0 : Kp (· = b) w (w.setCell ⟨b, 5, none⟩ (.int .i64 (max x.now now : Nat))) := (Kp.refl (· = b) w).setCell (p := ⟨b, 5, none⟩) (fun _ => rfl) _
  obtain ⟨y, hy⟩ : ∃ y, y = atW x now := ⟨_, rfl⟩
  have hW0 : WinC (w.setCell ⟨b, 5, none⟩ (.int .i64 (max x.now now : Nat))) b y := by rw [hy]; exact hW0
  have hyl : y.l = x.l := by rw [hy]; rfl
  have hym : ∀ k, Mine b y k ↔ Mine b x k := fun k => by rw [hy]; exact Iff.rfl
  rw [← hy]
  have hts' : ∀ i, i < y.l.length → (pk y.l i).times ≤ 4611686018427387900 := by rw [hyl]; exact hts
  obtain ⟨T, hT⟩ : ∃ T, T = max x.now now := ⟨_, rfl⟩
  obtain ⟨xn, hxn⟩ : ∃ xn, xn = x.now := ⟨_, rfl⟩
  have hTb : T ≤ 2147483647 := by omega
  have HT := Lib.hid (show T = max xn now by rw [hT, hxn])
  rw [← hxn] at h5
  rw [← hT] at hW0 k0
  have HW0 := Lib.hid (And.intro hW0 (And.intro k0 (And.intro hym (And.intro hts' hy))))
  have HM := Lib.hid (fun k (hk : Mine b x k) => h.lt hk)
  clear h hW0 k0 hT hxn hnb hyl hym hts' hts hy
  have hbr : (xn < now ∧ T = now) ∨ (¬ xn < now ∧ T = xn) := by have := HT.out; omega
  rcases hbr with ⟨hmx, rfl⟩ | ⟨hmx, rfl⟩
  · refine (callsIn_wide (n := 5)).1 ?_
    refine callsIn_of_wp_marks Try.func13 rfl trivial ?_ rfl
    simp only [Try.ntmps13, List.size_toArray, List.length_cons, List.length_nil, Nat.reduceAdd, Nat.reduceSub, Array.replicate_succ, Array.replicate_zero, List.push_toArray, List.append_toArray, List.nil_append, List.cons_append]
    refine wpIn_wide.2 ?_
    go_upto_region 5 with (first | (go_at_call 22; refine C.out.mono ?_; rintro e w' ⟨rfl, rfl⟩) | (go_at_call 23; refine (CT.out _).mono ?_; rintro e w' ⟨rfl, rfl⟩))
    obtain ⟨ov, hov⟩ : ∃ ov, ov = w.heap.size := ⟨_, rfl⟩
    obtain ⟨w0, hw0⟩ : ∃ w0, w0 = w.setCell ⟨b, 5, none⟩ (.int .i64 (T : Nat)) := ⟨_, rfl⟩
    have hs0 : w0.heap.size = w.heap.size := by rw [hw0]; simp [World.setCell]
    rw [← hw0] at HW0 ⊢
    obtain ⟨w2, hw2⟩ : ∃ w2, w2 = w0.alloc (.cells #[.slice none 0 0] 33) := ⟨_, rfl⟩
    have o2 : At w2 ov [.slice none 0 0] := by rw [hw2, hov, ← hs0]; exact At.new w0 [.slice none 0 0] _
    have k2 : Kp (fun _ => False) w0 w2 := by rw [hw2]; exact (Kp.refl _ w0).alloc _
    rw [← hw2, ← hov]
    have hb0 := HW0.out.1.hat.lt
    have H2 := Lib.hid (And.intro o2 (And.intro k2 (And.intro (show ov = w.heap.size from hov) (And.intro (HW0.out.1.kp0 k2) hs0))))
    have hbo : b < ov := by omega
    clear o2 k2 hov hw0 hw2 hs0 hb0 h5 hf5 C CT HT
    go_wp2
    refine (wpIn_wide (n := 5)).1 ?_
    refine wpIn_rngB (S := Mine b y) rfl (by omega) (gf := 26) (pb := #[.pointer (some ⟨b, 0, none⟩)]) (lb := #[]) rfl trivial (fun args w => by kernel_rfl)
      (sent_gives 4 (by omega) b y HW0.out.2.2.2.1) (fun h => h) (fun i hi => H2.out.2.2.2.1.lt hi) (fun _ => rfl)
      (fun pre W => DuR b y w2 ov pre W) (fun c pre W => False)
      ?hITZ (fun _ _ _ _ h _ => h) ?hTTZ ?hETZ ?hISTZ (fun c s A A' h k => h) ?h0TZ ?hT0TZ
      (fun i W a' W2 => a' = { tmps := #[.pointer (some ⟨b, 0, none⟩), .int .i64 T, undef, undef, .slice none 0 0, .pointer (some ⟨ov, 0, none⟩), .pointer (some ⟨W.heap.size, 0, none⟩), .pointer (some ⟨b, 0, none⟩), .bool false, .bool false, .int .i64 T, .bool true, .bool false, .bool false, .pointer (some ⟨b, 0, none⟩), .pointer (some ⟨b, 0, none⟩), .pointer (some ⟨b, 0, none⟩), .pointer (some ⟨b, 5, none⟩), .int .i64 xn, .int .i64 T, .int .i64 T, .pointer (some ⟨b, 0, none⟩), .pointer (some ⟨b, 5, none⟩), .pointer (some ⟨b, 0, none⟩), .func (.func 26) #[.pointer (some ⟨b, 0, none⟩)] #[], .agg #[.int .i64 (pk y.l i).seq, (pk y.l i).B], undef, undef, undef, undef, undef, undef, undef, undef, undef], defers := [] } ∧ i < y.l.length ∧ W2 = W.alloc (.cells #[.int .i64 (pk y.l i).seq, (pk y.l i).B] 36)) ?hBkTZ ?hIKTZ ?hTKTZ ?assignTZ ?bodyTZ ?doneTZ ?stopTZ
    case hITZ =>
      rintro pre A A' ⟨vo, l, h1, h2, h3, h4⟩ k
      exact ⟨vo, l, h1.notNC k, h2, k.at h3 (NC.not h3), h4.then k (fun j hj e => by have := e.1; omega)⟩
    case hTTZ => exact fun pre A A' h k => h.kp k (fun j hj e => by have := H2.out.2.2.2.1.lt ((st_mine b y pre j).1 hj); have := e.1; omega)
    case hETZ => exact fun _ A A' h k => h.kp k (fun j hj e => by have := H2.out.2.2.2.1.lt ((st_mine b y (dueI y) j).1 hj); have := e.1; omega)
    case hISTZ =>
      rintro pre A A' ⟨vo, l, h1, h2, h3, h4⟩ k
      have hlt := fun j (hj : Mine b y j) => HW0.out.1.lt hj
      have hs0 := H2.out.2.2.2.2
      have hov := H2.out.2.2.1
      have hw2 := H2.out.1.lt
      exact ⟨vo, l, h1.kpN k (fun g hg => H2.out.2.2.2.1.lt hg), h2, k.at h3 (fun e => by have := hlt _ e; omega), h4.trans (k.mono (fun _ _ e => .inr e))⟩
    case h0TZ => exact ⟨.slice none 0 0, [], OwnT.start _ _, ⟨rfl, fun j i hj => by cases hj⟩, H2.out.1, Kp.refl _ _⟩
    case hT0TZ => rw [stW_nil]; exact H2.out.2.2.2.1
    case hBkTZ =>
      rintro i A A' a' ⟨_, _, rfl⟩
      exact (Kp.refl _ A).alloc _
    case hIKTZ =>
      rintro pre A A' ⟨vo, l, h1, h2, h3, h4⟩ k
      exact ⟨vo, l, h1.kp0 k, h2, k.at h3 (fun h => h), h4.trans (k.mono (fun _ _ h => h.elim))⟩
    case hTKTZ => exact fun s A A' h k => h.kp0 k
    case assignTZ =>
      intro yl i W K hi hK
      have hil : i < y.l.length := (preI_lt (x := y) (k := y.l.length) hi).1
      have HK := Lib.hid hK
      have HB := Lib.hid (HW0.out.1.own i hil)
      clear hK
      unfold toldV
      obtain ⟨aB, cB, eB, _, _⟩ := HB.out.form
      obtain ⟨lb, hlb⟩ : ∃ lb, lb = (pk y.l i).body.length := ⟨_, rfl⟩
      rw [← hlb] at eB
      obtain ⟨sq, hsq⟩ : ∃ sq, sq = (pk y.l i).seq := ⟨_, rfl⟩
      rw [eB, ← hsq]
      have HE := Lib.hid (And.intro eB hsq)
      clear eB hsq hlb
      have hz := zero_pk W
      gi_wp2
      exact HK.out _ _ ⟨by rw [HE.out.1, ← HE.out.2], hil, by rw [HE.out.1, ← HE.out.2]⟩
    case stopTZ =>
      rintro D c pre W hD hpre h
      exact h.elim
    case doneTZ =>
      rintro D W hD ⟨vo, l, h1, hte, ha, hk⟩ hE hd
      have co := (ha.cell 0).trans (show _ = some vo from rfl)
      have HR := Lib.hid (And.intro h1 (And.intro hte (And.intro hk hE)))
      obtain ⟨aO, cO, eO, _⟩ := h1.form
      obtain ⟨nO, hnO⟩ : ∃ nO, nO = l.length := ⟨_, rfl⟩
      rw [← hnO] at eO
      subst eO
      clear h1 hte ha hk hE hnO
      go_wp2
      have kx := Kp.putNC hD hd rfl (.deferred none)
      refine ⟨by simp, .inl ⟨_, _, rfl, run_takeDeferred hd, ?_⟩⟩
      have hs2 := H2.out.2.1.size
      have hs0 := H2.out.2.2.2.2
      have hov := H2.out.2.2.1
      have hw2 := H2.out.1.lt
      obtain ⟨h1, hte, hk, hE⟩ := HR.out
      have h1' : OwnT w.heap.size W (.slice aO nO cO) l := { h1 with lo := fun g hg => by have := h1.lo g hg; omega, loB := fun i g hi hg => by have := h1.loB i g hi hg; omega }
      have kk : Kp (Mine b x) w W := ((HW0.out.2.1.mono (S' := Mine b x) (fun j _ e => .inl e)).then (H2.out.2.1.mono (S' := Mine b x) (fun _ _ h => h.elim)) (fun j _ e => e)).then hk (fun j hj e => by
        rcases e with e | e
        · omega
        · exact (HW0.out.2.2.1 j).1 e)
      refine ⟨_, results_tmp rfl _ _ _, .slice aO nO cO, l, rfl, h1'.notNC kx, hte, hE.kp kx (fun j hj e => by have := HW0.out.1.lt ((st_mine b y (dueI y) j).1 hj); have := e.1; omega), kk.then kx (fun j hj e => by have := e.1; omega)⟩
    case bodyTZ =>
      rintro yl pre i W W2 W' a' hpre ⟨vo0, l0, h10, _, ha0, hk0⟩ ⟨rfl, hil, rfl⟩ k2 ⟨vo, l, h1, hte, ha, hk⟩ ht
      have hat2 : At (W.alloc (.cells #[.int .i64 (pk y.l i).seq, (pk y.l i).B] 36)) W.heap.size [.int .i64 (pk y.l i).seq, (pk y.l i).B] := At.new W _ _
      have hat := k2.at hat2 (NC.not hat2)
      have hbxl : W.heap.size < W'.heap.size := hat.lt
      have ha02 := ((Kp.refl (fun _ => False) W).alloc (.cells #[.int .i64 (pk y.l i).seq, (pk y.l i).B] 36)).at ha0 (fun h => h)
      have hvo : vo0 = vo := by
        have := (k2.at ha02 (NC.not ha02)).inj ha
        simpa using this
      have hvlt : ∀ g, vo.ownBlock = some g → g < W.heap.size := fun g hg => h10.lt (hvo ▸ hg)
      have hWs : w2.heap.size ≤ W.heap.size := hk0.size
      have hwo := H2.out.1.lt
      obtain ⟨bx, hbx⟩ : ∃ bx, bx = W.heap.size := ⟨_, rfl⟩
      rw [← hbx] at hat hbxl hvlt hWs ⊢
      have hob := ht.own i (by rw [stW_l, stL_len]; exact hil)
      rw [stW_l, (st_same y (pre ++ [i]) hil).2.1, (st_same y (pre ++ [i]) hil).2.2.2] at hob
      have hbbx : ∀ j, j < l.length → (tp l j).B.ownBlock ≠ some bx := fun j hj => (h1.each j hj).notC hat (u := .int .i64 (pk y.l i).seq) (by simp) (not_isB_i64 _)
      obtain ⟨body, hbody⟩ : ∃ body, body = (pk y.l i).body := ⟨_, rfl⟩
      rw [← hbody] at hob
      obtain ⟨aB, cB, eB, hrB, _⟩ := hob.form
      obtain ⟨lb, hlb⟩ : ∃ lb, lb = body.length := ⟨_, rfl⟩
      rw [← hlb] at eB
      obtain ⟨sq, hsq⟩ : ∃ sq, sq = (pk y.l i).seq := ⟨_, rfl⟩
      rw [eB, ← hsq] at hat
      rw [eB, ← hsq]
      have hbl : body.length ≤ 1000000000 := hob.len
      obtain ⟨vB, w9, r9, o9, k9', b9⟩ := run_append_b (P := Try.prog) (t := 31) (tx := 31) (ty := 31) W' Try.underlying31 elem_u8 Try.underlying31 (OwnB.nil' _) (a := aB) (c := cB) (m := body) hrB (by simpa using hbl)
      rw [← hlb] at r9
      rw [List.nil_append] at o9
      have k9 : Kp (fun _ => False) W' w9 := k9'.mono (fun _ _ h => by cases h)
      obtain ⟨aV, cV, eV, _, _⟩ := o9.form
      rw [← hlb] at eV
      subst eV
      have hat9 := k9.at hat (fun h => h)
      have c1 := hat.cell 1
      have c91 := hat9.cell 1
      have f91 := hat9.frozen 1
      simp only [List.getElem?_cons_zero, List.getElem?_cons_succ] at c1 c91
      obtain ⟨w10, hw10⟩ : ∃ w10, w10 = w9.setCell ⟨bx, 1, none⟩ (.slice aV lb cV) := ⟨_, rfl⟩
      have hat10 : At w10 bx [.int .i64 sq, .slice aV lb cV] := by rw [hw10]; exact hat9.set 1 _
      have k10 : Kp (· = bx) w9 w10 := by rw [hw10]; exact (Kp.refl (· = bx) w9).setCell (p := ⟨bx, 1, none⟩) (fun _ => rfl) _
      have h19 := (h1.kp0 k9).kp k10 (fun g hg e => by have := hvlt g hg; omega) (fun j g hj hg e => hbbx j hj (by rw [hg, e]))
      have o10 : OwnB w10 (.slice aV lb cV) body := o9.kp k10 (fun g hg e => o9.notC hat9 (u := .int .i64 sq) (by simp) (not_isB_i64 _) (by rw [hg, e]))
      have ha10 := k10.at (k9.at ha (fun h => h)) (fun e => by omega)
      have co9 := ((k9.at ha (fun h => h)).cell 0).trans (show _ = some vo from rfl)
      have c90 := hat9.cell 0
      simp only [List.getElem?_cons_zero, List.getElem?_cons_succ] at c90
      obtain ⟨aO, cO, eO, _⟩ := h1.form
      have hll : l.length ≤ 1000000 := by
        have q1 := hte.1
        have q2 := hpre.length_le
        have q3 : (dueI y).length ≤ y.l.length := by unfold dueI; exact Nat.le_trans (List.length_filter_le _ _) (by simp)
        have q4 := HW0.out.1.len
        have q5 := HW0.out.1.size_bd
        simp at q2
        omega
      obtain ⟨w11, hw11⟩ : ∃ w11, w11 = w10.alloc (.cells #[.int .i64 sq, .slice aV lb cV] 36) := ⟨_, rfl⟩
      have k11 : Kp (fun _ => False) w10 w11 := by rw [hw11]; exact (Kp.refl _ w10).alloc _
      have n11 : At w11 w10.heap.size [.int .i64 sq, .slice aV lb cV] := by rw [hw11]; exact At.new w10 _ _
      have hbN : ∀ g, (Value.slice aV lb cV).ownBlock = some g → w2.heap.size ≤ g := fun g hg => by
        rcases b9 with e | e
        · rw [e] at hg; cases hg
        · rw [e] at hg; simp only [Option.some.injEq] at hg; omega
      have hs9 := k9.size
      have hs10 := k10.size
      have hs11 := k11.size
      obtain ⟨v12, w12, r12, o12, k12, b12⟩ := (h19.kp0 k11).app hll ⟨sq, .slice aV lb cV, body⟩ (o10.kp k11 (fun _ _ h => h)) hbN (by omega) n11
      obtain ⟨a12, c12, e12, _⟩ := o12.form
      obtain ⟨n12, hn12⟩ : ∃ n12, n12 = (l ++ [(⟨sq, .slice aV lb cV, body⟩ : Tp)]).length := ⟨_, rfl⟩
      rw [← hn12] at e12
      subst e12
      have ha12 := k12.at (k11.at ha10 (fun h => h)) (fun e => by have := h1.lo ov e; have := H2.out.2.2.1; omega)
      have co12 := (ha12.cell 0).trans (show _ = some vo from rfl)
      have f12 := ha12.frozen 0
      rw [eO] at co9 co12 r12
      obtain ⟨nO, hnO⟩ : ∃ nO, nO = l.length := ⟨_, rfl⟩
      rw [← hnO] at co9 co12 r12
      have hne : ¬ ov = bx := by omega
      have hne2 : ¬ bx = ov := by omega
      have hz10 : w10.heap.size = w9.heap.size := by rw [hw10]; simp [World.setCell]
      rw [hz10, hw11, hw10] at r12
      rw [hw10] at hw11
      have R9 := Lib.hid r9
      have R12 := Lib.hid r12
      have KX := Lib.hid (And.intro h1 (And.intro hte (And.intro ha (And.intro hk (And.intro ht (And.intro k9 (And.intro k10 (And.intro k11 (And.intro k12 o12)))))))))
      have HWW := Lib.hid (And.intro hw10 hw11)
      have KY := Lib.hid (And.intro ha12 (And.intro hvlt (And.intro (show ov < bx ∧ w2.heap.size ≤ bx from ⟨by omega, by omega⟩) (And.intro hsq (And.intro hbody hat)))))
      clear hat2 hat k2 hbxl ha02 hvo hvlt hWs hwo hbx hob hbbx hbody eB hrB hlb hsq hbl r9 o9 k9' b9 k9 hat9 hat10 k10 h19 o10 ha10 hll k11 n11 hbN hs9 hs10 hs11 r12 o12 k12 b12 ha12 h1 hte ha hk ht h10 ha0 hk0 hn12 hnO eO hw10 hw11 hz10
      gi_wp2_with (first | ((try simp only [Act.put, List.setIfInBounds_toArray, List.set_cons_succ, List.set_cons_zero]); refine wpListIn_append_run R9.out rfl rfl rfl rfl ?_) | ((try simp only [Act.put, List.setIfInBounds_toArray, List.set_cons_succ, List.set_cons_zero]); refine wpListIn_append_run R12.out rfl rfl rfl rfl ?_))
      obtain ⟨h1, hte, ha, hk, ht, k9, k10, k11, k12, o12⟩ := KX.out
      obtain ⟨ha12, hvlt, ⟨q1, q2⟩, hsq, hbody, hat⟩ := KY.out
      have ks : Kp (· = ov) w12 (w12.setCell ⟨ov, 0, none⟩ (.slice a12 n12 c12)) := (Kp.refl (· = ov) w12).setCell (p := ⟨ov, 0, none⟩) (fun _ => rfl) _
      have kT : Kp (fun j => j = bx ∨ j = ov ∨ vo.ownBlock = some j) W' (w12.setCell ⟨ov, 0, none⟩ (.slice a12 n12 c12)) :=
        ((((k9.mono (fun _ _ h => h.elim)).trans (k10.mono (fun _ _ h => .inl h))).trans (k11.mono (fun _ _ h => h.elim))).trans (k12.mono (fun _ _ h => .inr (.inr h)))).trans (ks.mono (fun _ _ h => .inr (.inl h)))
      have hw2 := H2.out.1.lt
      have hlo := h1.lo
      have hov := H2.out.2.2.1
      have hs0 := H2.out.2.2.2.2
      have hml : ∀ j, Mine b y j → j < ov := fun j hj => by have := HW0.out.1.lt hj; omega
      refine ⟨KeepsFrom.of_kp kT (fun j hj => ?_), ⟨_, _, o12.kpN ks (fun g e => by have e : g = ov := e; omega), hte.snoc i _ hsq hbody, ha12.set 0 _, hk.then kT (fun j hj e => ?_)⟩, ht.kp kT (fun j hj e => ?_)⟩
      · rcases hj with h | h | h
        · exact .inr ⟨_, h ▸ hat⟩
        · exact .inl (by omega)
        · exact .inr (h1.own.at' h)
      · rcases e with e | e | e
        · omega
        · exact .inl e
        · have := hlo j e; omega
      · have := hml j ((st_mine b y (pre ++ [i]) j).1 hj)
        rcases e with e | e | e
        · omega
        · omega
        · have := hlo j e; omega
  · refine (callsIn_wide (n := 5)).1 ?_
    refine callsIn_of_wp_marks Try.func13 rfl trivial ?_ rfl
    simp only [Try.ntmps13, List.size_toArray, List.length_cons, List.length_nil, Nat.reduceAdd, Nat.reduceSub, Array.replicate_succ, Array.replicate_zero, List.push_toArray, List.append_toArray, List.nil_append, List.cons_append]
    refine wpIn_wide.2 ?_
    go_upto_region 5 with (first | (go_at_call 22; refine C.out.mono ?_; rintro e w' ⟨rfl, rfl⟩) | (go_at_call 23; refine (CT.out _).mono ?_; rintro e w' ⟨rfl, rfl⟩))
    obtain ⟨ov, hov⟩ : ∃ ov, ov = w.heap.size := ⟨_, rfl⟩
    obtain ⟨w0, hw0⟩ : ∃ w0, w0 = w.setCell ⟨b, 5, none⟩ (.int .i64 (T : Nat)) := ⟨_, rfl⟩
    have hs0 : w0.heap.size = w.heap.size := by rw [hw0]; simp [World.setCell]
    rw [← hw0] at HW0 ⊢
    obtain ⟨w2, hw2⟩ : ∃ w2, w2 = w0.alloc (.cells #[.slice none 0 0] 33) := ⟨_, rfl⟩
    have o2 : At w2 ov [.slice none 0 0] := by rw [hw2, hov, ← hs0]; exact At.new w0 [.slice none 0 0] _
    have k2 : Kp (fun _ => False) w0 w2 := by rw [hw2]; exact (Kp.refl _ w0).alloc _
    rw [← hw2, ← hov]
    have hb0 := HW0.out.1.hat.lt
    have H2 := Lib.hid (And.intro o2 (And.intro k2 (And.intro (show ov = w.heap.size from hov) (And.intro (HW0.out.1.kp0 k2) hs0))))
    have hbo : b < ov := by omega
    clear o2 k2 hov hw0 hw2 hs0 hb0 h5 hf5 C CT HT
    go_wp2
    refine (wpIn_wide (n := 5)).1 ?_
    refine wpIn_rngB (S := Mine b y) rfl (by omega) (gf := 26) (pb := #[.pointer (some ⟨b, 0, none⟩)]) (lb := #[]) rfl trivial (fun args w => by kernel_rfl)
      (sent_gives 4 (by omega) b y HW0.out.2.2.2.1) (fun h => h) (fun i hi => H2.out.2.2.2.1.lt hi) (fun _ => rfl)
      (fun pre W => DuR b y w2 ov pre W) (fun c pre W => False)
      ?hInowZ (fun _ _ _ _ h _ => h) ?hTnowZ ?hEnowZ ?hISnowZ (fun c s A A' h k => h) ?h0nowZ ?hT0nowZ
      (fun i W a' W2 => a' = { tmps := #[.pointer (some ⟨b, 0, none⟩), .int .i64 now, undef, undef, .slice none 0 0, .pointer (some ⟨ov, 0, none⟩), .pointer (some ⟨W.heap.size, 0, none⟩), .pointer (some ⟨b, 0, none⟩), .bool false, .bool false, .int .i64 now, .bool true, .bool false, .bool false, .pointer (some ⟨b, 0, none⟩), .pointer (some ⟨b, 0, none⟩), .pointer (some ⟨b, 0, none⟩), .pointer (some ⟨b, 5, none⟩), .int .i64 T, .int .i64 now, .int .i64 T, .pointer (some ⟨b, 0, none⟩), .pointer (some ⟨b, 5, none⟩), .pointer (some ⟨b, 0, none⟩), .func (.func 26) #[.pointer (some ⟨b, 0, none⟩)] #[], .agg #[.int .i64 (pk y.l i).seq, (pk y.l i).B], undef, undef, undef, undef, undef, undef, undef, undef, undef], defers := [] } ∧ i < y.l.length ∧ W2 = W.alloc (.cells #[.int .i64 (pk y.l i).seq, (pk y.l i).B] 36)) ?hBknowZ ?hIKnowZ ?hTKnowZ ?assignnowZ ?bodynowZ ?donenowZ ?stopnowZ
    case hInowZ =>
      rintro pre A A' ⟨vo, l, h1, h2, h3, h4⟩ k
      exact ⟨vo, l, h1.notNC k, h2, k.at h3 (NC.not h3), h4.then k (fun j hj e => by have := e.1; omega)⟩
    case hTnowZ => exact fun pre A A' h k => h.kp k (fun j hj e => by have := H2.out.2.2.2.1.lt ((st_mine b y pre j).1 hj); have := e.1; omega)
    case hEnowZ => exact fun _ A A' h k => h.kp k (fun j hj e => by have := H2.out.2.2.2.1.lt ((st_mine b y (dueI y) j).1 hj); have := e.1; omega)
    case hISnowZ =>
      rintro pre A A' ⟨vo, l, h1, h2, h3, h4⟩ k
      have hlt := fun j (hj : Mine b y j) => HW0.out.1.lt hj
      have hs0 := H2.out.2.2.2.2
      have hov := H2.out.2.2.1
      have hw2 := H2.out.1.lt
      exact ⟨vo, l, h1.kpN k (fun g hg => H2.out.2.2.2.1.lt hg), h2, k.at h3 (fun e => by have := hlt _ e; omega), h4.trans (k.mono (fun _ _ e => .inr e))⟩
    case h0nowZ => exact ⟨.slice none 0 0, [], OwnT.start _ _, ⟨rfl, fun j i hj => by cases hj⟩, H2.out.1, Kp.refl _ _⟩
    case hT0nowZ => rw [stW_nil]; exact H2.out.2.2.2.1
    case hBknowZ =>
      rintro i A A' a' ⟨_, _, rfl⟩
      exact (Kp.refl _ A).alloc _
    case hIKnowZ =>
      rintro pre A A' ⟨vo, l, h1, h2, h3, h4⟩ k
      exact ⟨vo, l, h1.kp0 k, h2, k.at h3 (fun h => h), h4.trans (k.mono (fun _ _ h => h.elim))⟩
    case hTKnowZ => exact fun s A A' h k => h.kp0 k
    case assignnowZ =>
      intro yl i W K hi hK
      have hil : i < y.l.length := (preI_lt (x := y) (k := y.l.length) hi).1
      have HK := Lib.hid hK
      have HB := Lib.hid (HW0.out.1.own i hil)
      clear hK
      unfold toldV
      obtain ⟨aB, cB, eB, _, _⟩ := HB.out.form
      obtain ⟨lb, hlb⟩ : ∃ lb, lb = (pk y.l i).body.length := ⟨_, rfl⟩
      rw [← hlb] at eB
      obtain ⟨sq, hsq⟩ : ∃ sq, sq = (pk y.l i).seq := ⟨_, rfl⟩
      rw [eB, ← hsq]
      have HE := Lib.hid (And.intro eB hsq)
      clear eB hsq hlb
      have hz := zero_pk W
      gi_wp2
      exact HK.out _ _ ⟨by rw [HE.out.1, ← HE.out.2], hil, by rw [HE.out.1, ← HE.out.2]⟩
    case stopnowZ =>
      rintro D c pre W hD hpre h
      exact h.elim
    case donenowZ =>
      rintro D W hD ⟨vo, l, h1, hte, ha, hk⟩ hE hd
      have co := (ha.cell 0).trans (show _ = some vo from rfl)
      have HR := Lib.hid (And.intro h1 (And.intro hte (And.intro hk hE)))
      obtain ⟨aO, cO, eO, _⟩ := h1.form
      obtain ⟨nO, hnO⟩ : ∃ nO, nO = l.length := ⟨_, rfl⟩
      rw [← hnO] at eO
      subst eO
      clear h1 hte ha hk hE hnO
      go_wp2
      have kx := Kp.putNC hD hd rfl (.deferred none)
      refine ⟨by simp, .inl ⟨_, _, rfl, run_takeDeferred hd, ?_⟩⟩
      have hs2 := H2.out.2.1.size
      have hs0 := H2.out.2.2.2.2
      have hov := H2.out.2.2.1
      have hw2 := H2.out.1.lt
      obtain ⟨h1, hte, hk, hE⟩ := HR.out
      have h1' : OwnT w.heap.size W (.slice aO nO cO) l := { h1 with lo := fun g hg => by have := h1.lo g hg; omega, loB := fun i g hi hg => by have := h1.loB i g hi hg; omega }
      have kk : Kp (Mine b x) w W := ((HW0.out.2.1.mono (S' := Mine b x) (fun j _ e => .inl e)).then (H2.out.2.1.mono (S' := Mine b x) (fun _ _ h => h.elim)) (fun j _ e => e)).then hk (fun j hj e => by
        rcases e with e | e
        · omega
        · exact (HW0.out.2.2.1 j).1 e)
      refine ⟨_, results_tmp rfl _ _ _, .slice aO nO cO, l, rfl, h1'.notNC kx, hte, hE.kp kx (fun j hj e => by have := HW0.out.1.lt ((st_mine b y (dueI y) j).1 hj); have := e.1; omega), kk.then kx (fun j hj e => by have := e.1; omega)⟩
    case bodynowZ =>
      rintro yl pre i W W2 W' a' hpre ⟨vo0, l0, h10, _, ha0, hk0⟩ ⟨rfl, hil, rfl⟩ k2 ⟨vo, l, h1, hte, ha, hk⟩ ht
      have hat2 : At (W.alloc (.cells #[.int .i64 (pk y.l i).seq, (pk y.l i).B] 36)) W.heap.size [.int .i64 (pk y.l i).seq, (pk y.l i).B] := At.new W _ _
      have hat := k2.at hat2 (NC.not hat2)
      have hbxl : W.heap.size < W'.heap.size := hat.lt
      have ha02 := ((Kp.refl (fun _ => False) W).alloc (.cells #[.int .i64 (pk y.l i).seq, (pk y.l i).B] 36)).at ha0 (fun h => h)
      have hvo : vo0 = vo := by
        have := (k2.at ha02 (NC.not ha02)).inj ha
        simpa using this
      have hvlt : ∀ g, vo.ownBlock = some g → g < W.heap.size := fun g hg => h10.lt (hvo ▸ hg)
      have hWs : w2.heap.size ≤ W.heap.size := hk0.size
      have hwo := H2.out.1.lt
      obtain ⟨bx, hbx⟩ : ∃ bx, bx = W.heap.size := ⟨_, rfl⟩
      rw [← hbx] at hat hbxl hvlt hWs ⊢
      have hob := ht.own i (by rw [stW_l, stL_len]; exact hil)
      rw [stW_l, (st_same y (pre ++ [i]) hil).2.1, (st_same y (pre ++ [i]) hil).2.2.2] at hob
      have hbbx : ∀ j, j < l.length → (tp l j).B.ownBlock ≠ some bx := fun j hj => (h1.each j hj).notC hat (u := .int .i64 (pk y.l i).seq) (by simp) (not_isB_i64 _)
      obtain ⟨body, hbody⟩ : ∃ body, body = (pk y.l i).body := ⟨_, rfl⟩
      rw [← hbody] at hob
      obtain ⟨aB, cB, eB, hrB, _⟩ := hob.form
      obtain ⟨lb, hlb⟩ : ∃ lb, lb = body.length := ⟨_, rfl⟩
      rw [← hlb] at eB
      obtain ⟨sq, hsq⟩ : ∃ sq, sq = (pk y.l i).seq := ⟨_, rfl⟩
      rw [eB, ← hsq] at hat
      rw [eB, ← hsq]
      have hbl : body.length ≤ 1000000000 := hob.len
      obtain ⟨vB, w9, r9, o9, k9', b9⟩ := run_append_b (P := Try.prog) (t := 31) (tx := 31) (ty := 31) W' Try.underlying31 elem_u8 Try.underlying31 (OwnB.nil' _) (a := aB) (c := cB) (m := body) hrB (by simpa using hbl)
      rw [← hlb] at r9
      rw [List.nil_append] at o9
      have k9 : Kp (fun _ => False) W' w9 := k9'.mono (fun _ _ h => by cases h)
      obtain ⟨aV, cV, eV, _, _⟩ := o9.form
      rw [← hlb] at eV
      subst eV
      have hat9 := k9.at hat (fun h => h)
      have c1 := hat.cell 1
      have c91 := hat9.cell 1
      have f91 := hat9.frozen 1
      simp only [List.getElem?_cons_zero, List.getElem?_cons_succ] at c1 c91
      obtain ⟨w10, hw10⟩ : ∃ w10, w10 = w9.setCell ⟨bx, 1, none⟩ (.slice aV lb cV) := ⟨_, rfl⟩
      have hat10 : At w10 bx [.int .i64 sq, .slice aV lb cV] := by rw [hw10]; exact hat9.set 1 _
      have k10 : Kp (· = bx) w9 w10 := by rw [hw10]; exact (Kp.refl (· = bx) w9).setCell (p := ⟨bx, 1, none⟩) (fun _ => rfl) _
      have h19 := (h1.kp0 k9).kp k10 (fun g hg e => by have := hvlt g hg; omega) (fun j g hj hg e => hbbx j hj (by rw [hg, e]))
      have o10 : OwnB w10 (.slice aV lb cV) body := o9.kp k10 (fun g hg e => o9.notC hat9 (u := .int .i64 sq) (by simp) (not_isB_i64 _) (by rw [hg, e]))
      have ha10 := k10.at (k9.at ha (fun h => h)) (fun e => by omega)
      have co9 := ((k9.at ha (fun h => h)).cell 0).trans (show _ = some vo from rfl)
      have c90 := hat9.cell 0
      simp only [List.getElem?_cons_zero, List.getElem?_cons_succ] at c90
      obtain ⟨aO, cO, eO, _⟩ := h1.form
      have hll : l.length ≤ 1000000 := by
        have q1 := hte.1
        have q2 := hpre.length_le
        have q3 : (dueI y).length ≤ y.l.length := by unfold dueI; exact Nat.le_trans (List.length_filter_le _ _) (by simp)
        have q4 := HW0.out.1.len
        have q5 := HW0.out.1.size_bd
        simp at q2
        omega
      obtain ⟨w11, hw11⟩ : ∃ w11, w11 = w10.alloc (.cells #[.int .i64 sq, .slice aV lb cV] 36) := ⟨_, rfl⟩
      have k11 : Kp (fun _ => False) w10 w11 := by rw [hw11]; exact (Kp.refl _ w10).alloc _
      have n11 : At w11 w10.heap.size [.int .i64 sq, .slice aV lb cV] := by rw [hw11]; exact At.new w10 _ _
      have hbN : ∀ g, (Value.slice aV lb cV).ownBlock = some g → w2.heap.size ≤ g := fun g hg => by
        rcases b9 with e | e
        · rw [e] at hg; cases hg
        · rw [e] at hg; simp only [Option.some.injEq] at hg; omega
      have hs9 := k9.size
      have hs10 := k10.size
      have hs11 := k11.size
      obtain ⟨v12, w12, r12, o12, k12, b12⟩ := (h19.kp0 k11).app hll ⟨sq, .slice aV lb cV, body⟩ (o10.kp k11 (fun _ _ h => h)) hbN (by omega) n11
      obtain ⟨a12, c12, e12, _⟩ := o12.form
      obtain ⟨n12, hn12⟩ : ∃ n12, n12 = (l ++ [(⟨sq, .slice aV lb cV, body⟩ : Tp)]).length := ⟨_, rfl⟩
      rw [← hn12] at e12
      subst e12
      have ha12 := k12.at (k11.at ha10 (fun h => h)) (fun e => by have := h1.lo ov e; have := H2.out.2.2.1; omega)
      have co12 := (ha12.cell 0).trans (show _ = some vo from rfl)
      have f12 := ha12.frozen 0
      rw [eO] at co9 co12 r12
      obtain ⟨nO, hnO⟩ : ∃ nO, nO = l.length := ⟨_, rfl⟩
      rw [← hnO] at co9 co12 r12
      have hne : ¬ ov = bx := by omega
      have hne2 : ¬ bx = ov := by omega
      have hz10 : w10.heap.size = w9.heap.size := by rw [hw10]; simp [World.setCell]
      rw [hz10, hw11, hw10] at r12
      rw [hw10] at hw11
      have R9 := Lib.hid r9
      have R12 := Lib.hid r12
      have KX := Lib.hid (And.intro h1 (And.intro hte (And.intro ha (And.intro hk (And.intro ht (And.intro k9 (And.intro k10 (And.intro k11 (And.intro k12 o12)))))))))
      have HWW := Lib.hid (And.intro hw10 hw11)
      have KY := Lib.hid (And.intro ha12 (And.intro hvlt (And.intro (show ov < bx ∧ w2.heap.size ≤ bx from ⟨by omega, by omega⟩) (And.intro hsq (And.intro hbody hat)))))
      clear hat2 hat k2 hbxl ha02 hvo hvlt hWs hwo hbx hob hbbx hbody eB hrB hlb hsq hbl r9 o9 k9' b9 k9 hat9 hat10 k10 h19 o10 ha10 hll k11 n11 hbN hs9 hs10 hs11 r12 o12 k12 b12 ha12 h1 hte ha hk ht h10 ha0 hk0 hn12 hnO eO hw10 hw11 hz10
      gi_wp2_with (first | ((try simp only [Act.put, List.setIfInBounds_toArray, List.set_cons_succ, List.set_cons_zero]); refine wpListIn_append_run R9.out rfl rfl rfl rfl ?_) | ((try simp only [Act.put, List.setIfInBounds_toArray, List.set_cons_succ, List.set_cons_zero]); refine wpListIn_append_run R12.out rfl rfl rfl rfl ?_))
      obtain ⟨h1, hte, ha, hk, ht, k9, k10, k11, k12, o12⟩ := KX.out
      obtain ⟨ha12, hvlt, ⟨q1, q2⟩, hsq, hbody, hat⟩ := KY.out
      have ks : Kp (· = ov) w12 (w12.setCell ⟨ov, 0, none⟩ (.slice a12 n12 c12)) := (Kp.refl (· = ov) w12).setCell (p := ⟨ov, 0, none⟩) (fun _ => rfl) _
      have kT : Kp (fun j => j = bx ∨ j = ov ∨ vo.ownBlock = some j) W' (w12.setCell ⟨ov, 0, none⟩ (.slice a12 n12 c12)) :=
        ((((k9.mono (fun _ _ h => h.elim)).trans (k10.mono (fun _ _ h => .inl h))).trans (k11.mono (fun _ _ h => h.elim))).trans (k12.mono (fun _ _ h => .inr (.inr h)))).trans (ks.mono (fun _ _ h => .inr (.inl h)))
      have hw2 := H2.out.1.lt
      have hlo := h1.lo
      have hov := H2.out.2.2.1
      have hs0 := H2.out.2.2.2.2
      have hml : ∀ j, Mine b y j → j < ov := fun j hj => by have := HW0.out.1.lt hj; omega
      refine ⟨KeepsFrom.of_kp kT (fun j hj => ?_), ⟨_, _, o12.kpN ks (fun g e => by have e : g = ov := e; omega), hte.snoc i _ hsq hbody, ha12.set 0 _, hk.then kT (fun j hj e => ?_)⟩, ht.kp kT (fun j hj e => ?_)⟩
      · rcases hj with h | h | h
        · exact .inr ⟨_, h ▸ hat⟩
        · exact .inl (by omega)
        · exact .inr (h1.own.at' h)
      · rcases e with e | e | e
        · omega
        · exact .inl e
        · have := hlo j e; omega
      · have := hml j ((st_mine b y (pre ++ [i]) j).1 hj)
        rcases e with e | e | e
        · omega
        · omega
        · have := hlo j e; omega
end Go.Proofs.Ytnapokdipelmiaa
