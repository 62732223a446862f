/- LinkSessions: the walk. (Written by wip/lnsess.py.) -/
import Derived.Test.YtokembhfebnjpaaQLnZ
import Derived.Test.YtokembhfebnjpaaQRdi
import Derived.Deep.CutBlock
namespace Go.Proofs.Ytokembhfebnjpaa
set_option maxRecDepth 20000
open Go.RowKit Flt
set_option linter.unusedVariables false
set_option linter.unusedSimpArgs false
/-- A daemon's end between two rounds: nothing is owed. -/
structure Sd (y : De) (ld best i : Nat) : Prop where
  l : y.lb = ld
  se : y.t.se = best
  bo : y.t.bo = 9
  w : y.wel = false
  rs : y.rs = []
  ow : y.t.owed = false
  E : 1 ≤ best → y.t.st = 2 ∧ WE y.t.i.x 0
  I : y.I ≤ i
  sz : y.t.sz = 4
/-- A Syn of a session that is none elder. -/
theorem dm_syn {w W : World} {x : Ae} {y : De} (h : Two w W x y) {ld best i : Nat} (d : Sd y ld best i) (hi : i ≤ 20) (s : Nat) (hs : best ≤ s) (hs1 : 1 ≤ s) (hsb : s ≤ 30) (A : Option Addr) (c : Nat) (hr : RdB W A (layF (synF s))) (hc : (layF (synF s)).length ≤ c) (hcm : c ≤ maxLen) :
    Tells Try.prog 14 #[.pointer (some ⟨ld, 0, none⟩), .slice A (layF (synF s)).length c, .int .i64 0] W fun v k w' => v = .slice none 0 0 ∧ k = 0 ∧ ∃ y', Two w w' x y' ∧ y'.lb = ld ∧ y'.t.se = s ∧ y'.t.bo = 9 ∧ y'.wel = true ∧ y'.rs = [] ∧ y'.t.owed = false ∧ y'.t.st = 2 ∧ WE y'.t.i.x 0 ∧ y'.I ≤ i ∧ y'.t.sz = 4 := by
  rw [← d.l]
  by_cases e : best = s
  · refine (dm_same h.d h.sz s (by rw [d.se]; exact e.symm) hs1 (by omega) 0 (timeN (n := 0) (by omega)) A c hr hc hcm).mono ?_
    rintro _ w' ⟨v, k, rfl, rfl, rfl, h2, h3⟩
    exact ⟨_, _, rfl, rfl, rfl, _, h.stepD h2 h3, rfl, by show y.t.se = s; rw [d.se]; exact e, d.bo, rfl, d.rs, d.ow, (d.E (by omega)).1, (d.E (by omega)).2, d.I, d.sz⟩
  · refine (dm_newer h.d h.sz s (by rw [d.se]; omega) (by omega) 0 (timeN (n := 0) (by omega)) A c hr hc hcm).mono ?_
    rintro _ w' ⟨v, k, rfl, rfl, rfl, g, b, h2, h3⟩
    exact ⟨_, _, rfl, rfl, rfl, _, h.stepD h2 h3, rfl, rfl, d.bo, rfl, d.rs, rfl, rfl, WE.new _, d.I, d.sz⟩
/-- An agent's Syn, in memory. -/
theorem ag_first {w W : World} {x : Ae} {y : De} (h : Two w W x y) (lb : Nat) (hlb : x.lb = lb) (hst : x.t.st = 1) (hs : x.sent = false) (hse : 1 ≤ x.t.se) (b : List Int) (hb : b = layF (synF x.t.se)) :
    Calls Try.prog 15 #[.pointer (some ⟨lb, 0, none⟩), .int .i64 0] W fun e w' => ∃ a c us, e = .returned (.slice a 1 c) ∧ Two w w' { x with sent := true, at_ := 0 } y ∧ Hl w' { x with sent := true, at_ := 0 } y (.slice a 1 c) [b] us := by
  subst hlb
  refine (ag_tick_first h.a h.sz hst hs 0 (by omega)).mono ?_
  rintro e w' ⟨v, rfl, vs, h1, h2, h3⟩
  rw [layP_one (errF_syn hse h.a.tk.se), ← hb] at h1
  obtain ⟨a, c, rfl, _⟩ := h1.form
  exact ⟨a, c, vs, rfl, h.stepA h2 h3, Hl.of h1.u (fun g hg => ⟨fun e => by have := h.a.lt g e; have := (hg.elim (h1.ge g) (fun ⟨i, hi, q⟩ => h1.geE i g hi q)); omega, fun e => by have := h.d.lt g e; have := (hg.elim (h1.ge g) (fun ⟨i, hi, q⟩ => h1.geE i g hi q)); omega⟩)⟩
/-- A daemon's one frame, in memory. -/
theorem dm_one {w W : World} {x : Ae} {y : De} (h : Two w W x y) (lb : Nat) (hlb : y.lb = lb) (hst : y.t.st = 2) (hI : y.I ≤ 20) (hE : WE y.t.i.x 0) (hrb : ∀ s ∈ y.rs, s ≤ 2147483647) (b : List Int) (hd : dueL y.t (rstL y.t.bo (welL y) y.rs) [] = [b]) :
    Calls Try.prog 15 #[.pointer (some ⟨lb, 0, none⟩), .int .i64 0] W fun e w' => ∃ a c us, e = .returned (.slice a 1 c) ∧ ∃ y', Two w w' x y' ∧ Hl w' x y' (.slice a 1 c) [b] us ∧ y'.lb = lb ∧ y'.t.se = y.t.se ∧ y'.t.bo = y.t.bo ∧ y'.wel = false ∧ y'.rs = [] ∧ y'.t.owed = false ∧ y'.t.st = 2 ∧ WE y'.t.i.x 0 ∧ y'.I = y.I + 1 ∧ y'.t.sz = y.t.sz := by
  subst hlb
  refine (dm_tick h.d h.sz hst (by omega) hrb 0 (by omega)).mono ?_
  rintro e w' ⟨v, rfl, vs, l8, h0, h1, h2, h3⟩
  rw [(hE.due 0).1] at h0
  rw [tel_nil h0, hd] at h1
  obtain ⟨a, c, rfl, _⟩ := h1.form
  refine ⟨a, c, vs, rfl, _, h.stepD h2 h3, Hl.of h1.u (fun g hg => ⟨fun e => ?_, fun e => ?_⟩), rfl, rfl, rfl, rfl, rfl, rfl, hst, (hE.due 0).2, rfl, rfl⟩
  · have := h.a.lt g e; have := (hg.elim (h1.ge g) (fun ⟨i, hi, q⟩ => h1.geE i g hi q)); omega
  · have hg := (hg.elim (h1.ge g) (fun ⟨i, hi, q⟩ => h1.geE i g hi q))
    rcases e with e | e | e
    · have := h.d.lt g (.inl e); omega
    · have := h.d.lt g (.inr (.inl (me_due e))); omega
    · cases e
set_option maxHeartbeats 8000000 in
theorem linkSessions_walk (a0 : Option Addr) (len0 cap0 : Nat) (w : World) (r0 : Rdg Try.prog w 50 [.slice a0 len0 cap0]) :
    Calls Try.prog 6 #[.slice a0 len0 cap0] w fun e w' => e = .returned (.bool true) ∧ Below w.heap.size w w' := by
  obtain ⟨_, l, _, e0, hr, hll⟩ := rdi_in r0
  simp only [List.cons.injEq, Value.slice.injEq, and_true] at e0
  obtain ⟨rfl, hlen, rfl⟩ := e0
  have AW := Lib.hid (fun w => awake_any w)
  have hf9 : fitB (9 : Nat) (4 : Nat) = true := by decide
  have CD := Lib.hid (fun w1 : World => dm_new 9 4 9 4 rfl rfl w1 hf9 w1.heap.size (Nat.le_refl _))
  have HR := Lib.hid (And.intro hr hlen)
  clear hf9 hr hlen r0 hll
  by_cases hl : (len0 : Int) > 20
  · go_enter Try.func6, Try.ntmps6
    go_wp2_with fail
    go_at_call 7
    refine (AW.out _).mono ?_
    rintro e w1 ⟨rfl, k1⟩
    have K1 := Lib.hid k1
    have CD1 := Lib.hid (CD.out w1)
    clear k1 CD
    go_wp2_with fail
    go_at_call 9
    refine CD1.out.mono ?_
    rintro e w2 ⟨ld, od, rfl, h2, g2, k2⟩
    have K2 := Lib.hid (K1.out.trans k2)
    clear h2 g2 k2 CD1
    go_wp2_with fail
    go_ret
    exact ⟨rfl, K2.out.below (fun _ _ h => h)⟩
  · have hl20 : len0 ≤ 20 := by omega
    go_enter Try.func6, Try.ntmps6
    go_wp2_with fail
    go_at_call 7
    refine (AW.out _).mono ?_
    rintro e w1 ⟨rfl, k1⟩
    have K1 := Lib.hid k1
    have CD1 := Lib.hid (CD.out w1)
    clear k1 CD
    go_wp2_with fail
    go_at_call 9
    refine CD1.out.mono ?_
    rintro e w2 ⟨ld, od, rfl, h2, g2, k2⟩
    have H2 := Lib.hid (And.intro h2 k2)
    clear h2 g2 k2 CD1
    go_wp2_with fail
    go_loopw [6, 7] (fun bv iv wr => ∃ (best i : Nat) (y : De), i ≤ len0 ∧ bv = .int .i64 best ∧ iv = .int .i64 i ∧ best ≤ 30 ∧ Sd y ld best i ∧ DmS wr w1.heap.size y ∧ Kp (fun _ => False) w1 wr) (fun _ iv _ => len0 - (intOf iv).toNat)
    case atStart => exact ⟨0, 0, de0 ld od 9 4, by omega, rfl, rfl, by omega, ⟨rfl, rfl, rfl, rfl, rfl, rfl, fun h => absurd h (by omega), Nat.le_refl _, rfl⟩, H2.out.1, H2.out.2⟩
    case round =>
      obtain ⟨best, i, y, hi, rfl, rfl, hbb, hd, hy, hk⟩ := hrel
      by_cases hlt : i < len0
      · have j1 : (i : Int) < len0 := by omega
        obtain ⟨ab, ao, ea, hca, hz⟩ := HR.out.1.kp0 (K1.out.trans hk) (fun _ _ h => h) i (by have := HR.out.2; omega)
        subst ea
        obtain ⟨z, hzz⟩ : ∃ z, z = l.getD i 0 := ⟨_, rfl⟩
        rw [← hzz] at hca hz
        clear hzz
        obtain ⟨p, hp, CPK⟩ := pick_nat z 30 hz (by omega) (by omega)
        have CPK := Lib.hid CPK
        obtain ⟨n, hn⟩ : ∃ n, n = 1 + p := ⟨_, rfl⟩
        have hn1 : 1 ≤ n ∧ n ≤ 30 := by omega
        have m0 : 1 + (p : Int) = (n : Int) := by omega
        have m1 : wrap64 (1 + (p : Int)) = (n : Int) := by rw [m0]; exact IntWalk.wrap64_in _ (by omega)
        clear m0
        have HN := Lib.hid m1
        have hfn : fitB (n : Nat) (4 : Nat) = true := by unfold fitB; simp; omega
        have CA := Lib.hid (ag_new n 4 n 4 rfl rfl wr hfn w1.heap.size hk.size)
        have HD := Lib.hid (And.intro hd (And.intro hy hk))
        clear hd hy hk hz hfn hn m1 hp
        go_upto_region 9 with fail
        go_cut [8] (fun v wx => v = .int .i64 (n : Nat) ∧ wr = wx)
        case first =>
          go_wp2_with (go_at_call 23; refine (CPK.out _).mono ?_; rintro e w' ⟨rfl, rfl⟩)
          go_meet
          exact ⟨congrArg (Value.int .i64) HN.out, rfl⟩
        case rest =>
          obtain ⟨rfl, rfl⟩ := hcut
          clear hca CPK
          by_cases hge : best ≤ n
          · have y1 : (n : Int) ≥ (best : Int) := by omega
            have y1b : decide ((best : Int) ≤ (n : Int)) = true := decide_eq_true (by omega)
            obtain ⟨bs, hbs⟩ : ∃ bs, bs = n := ⟨_, rfl⟩
            have HB2 := Lib.hid hbs
            clear hbs
            go_wp2_with fail
            go_at_call 8
            refine CA.out.mono ?_
            rintro e w3 ⟨la, oa, rfl, h3, g3, k3⟩
            have hT : Two w1 w3 (ae0 la oa n 4) y := ⟨h3, HD.out.2.1.kp0 k3, fun k q1 q2 => by
              have := HD.out.2.1.lt k q2
              have := g3 k q1
              omega, HD.out.2.2.trans k3⟩
            obtain ⟨b1, hb1⟩ : ∃ b1, b1 = layF (synF n) := ⟨_, rfl⟩
            have C4 := Lib.hid (ag_first hT la rfl rfl rfl hn1.1 b1 hb1)
            have HB1 := Lib.hid hb1
            clear h3 g3 k3 hT hb1 CA
            go_wp2_with fail
            go_at_call 15
            refine C4.out.mono ?_
            rintro e w4 ⟨a4, c4, u4, rfl, h4, l4⟩
            obtain ⟨g4, A4, cA4, rfl, q4, r4, hcA, hcM⟩ := l4.one
            have CR : Tells Try.prog 14 #[.pointer (some ⟨ld, 0, none⟩), .slice A4 b1.length cA4, .int .i64 0] w4 fun v k w' => v = .slice none 0 0 ∧ k = 0 ∧ ∃ y', Two w1 w' { ae0 la oa n 4 with sent := true, at_ := 0 } y' ∧ y'.lb = ld ∧ y'.t.se = n ∧ y'.t.bo = 9 ∧ y'.wel = true ∧ y'.rs = [] ∧ y'.t.owed = false ∧ y'.t.st = 2 ∧ WE y'.t.i.x 0 ∧ y'.I ≤ i ∧ y'.t.sz = 4 := by
              have hb1 := HB1.out
              subst hb1
              exact dm_syn h4 HD.out.1 (by omega) n hge hn1.1 hn1.2 A4 cA4 r4 hcA hcM
            obtain ⟨nb, hnb⟩ : ∃ nb, nb = b1.length := ⟨_, rfl⟩
            rw [← hnb] at CR q4
            have CR := Lib.hid CR
            clear h4 l4 r4 hcA hcM hnb C4
            go_wp2_with fail
            go_at_call 14
            refine CR.out.mono ?_
            rintro e w5 ⟨v, k, rfl, rfl, rfl, y5, h5, d5⟩
            have H5 := Lib.hid (And.intro h5 d5)
            clear h5 d5 CR q4
            go_upto_region 19 with fail
            go_cut [6] (fun v wx => v = .int .i64 (bs : Nat) ∧ w5 = wx)
            case first =>
              go_wp2_with fail
              all_goals
                go_meet
                exact ⟨congrArg (Value.int .i64) (by have := HB2.out; omega), rfl⟩
            case rest =>
              obtain ⟨rfl, rfl⟩ := hcut
              obtain ⟨h5, d1, d2, d3, d4, d5, d6, d7, d8, d9, d10⟩ := H5.out
              have he : errF (welF n 9) = 0 := errF_wel hn1.1 (by omega) (by omega) (by omega)
              obtain ⟨b2, hb2⟩ : ∃ b2, b2 = layF (welF n 9) := ⟨_, rfl⟩
              have C6 := Lib.hid (dm_one h5 ld d1 d7 (by omega) d8 (fun s hs => by rw [d5] at hs; cases hs) b2 (by rw [wel_due d4 d5 d6 (by rw [d2, d3]; exact he), d2, d3, hb2]))
              have HB3 := Lib.hid hb2
              clear h5 d1 d2 d3 d4 d5 d6 d7 d8 d9 d10 he hb2
              go_wp2_with fail
              go_at_call 15
              refine C6.out.mono ?_
              rintro e w6 ⟨a6, c6, u6, rfl, y6, h6, l6, d6⟩
              obtain ⟨g6, A6, cA6, rfl, q6, r6, hcA, hcM⟩ := l6.one
              have CS : Calls Try.prog 21 #[.pointer (some ⟨ld, 0, none⟩)] w6 fun e w' => e = .returned (.int .i64 (bs : Nat)) ∧ w6 = w' := by
                have := lsession_d h6.d.lk h6.d.dm.tk
                rw [d6.1, d6.2.1, H5.out.2.2.1, ← HB2.out] at this
                exact this
              have CT : Calls Try.prog 16 #[.pointer (some ⟨ld, 0, none⟩)] w6 fun e w' => e = .returned (.int .i64 2) ∧ w6 = w' := by
                have := lstate_d h6.d.lk h6.d.dm.tk
                rw [d6.1, d6.2.2.2.2.2.2.1] at this
                exact this
              have CW : Tells Try.prog 14 #[.pointer (some ⟨la, 0, none⟩), .slice A6 b2.length cA6, .int .i64 0] w6 fun v k w' => v = .slice none 0 0 ∧ k = 0 ∧ ∃ x7, Two w1 w' x7 y6 ∧ x7.lb = la ∧ x7.t.st = 2 := by
                have hb2 := HB3.out
                subst hb2
                refine (ag_welcome h6.a h6.sz rfl 9 hn1.1 (by omega) 0 (timeN (n := 0) (by omega)) A6 cA6 r6 hcA hcM).mono ?_
                rintro e w' ⟨v, k, rfl, rfl, rfl, g, b, q1, q2⟩
                exact ⟨_, _, rfl, rfl, rfl, _, h6.stepA q1 q2, rfl, rfl⟩
              obtain ⟨nb2, hnb2⟩ : ∃ nb, nb = b2.length := ⟨_, rfl⟩
              rw [← hnb2] at CW q6
              have CS := Lib.hid CS
              have CT := Lib.hid CT
              have CW := Lib.hid CW
              have D6 := Lib.hid d6
              have z1 : ((bs : Int) != (bs : Int)) = false := by simp
              clear h6 l6 r6 hcA hcM hnb2 d6 C6
              go_wp2_with (first | (go_at_call 21; (with_reducible refine CS.out.mono ?_); rintro e w' ⟨rfl, rfl⟩) | (go_at_call 16; (with_reducible refine CT.out.mono ?_); rintro e w' ⟨rfl, rfl⟩))
              go_at_call 14
              refine CW.out.mono ?_
              rintro e w7 ⟨v, k, rfl, rfl, rfl, x7, h7, e1, e2⟩
              have CX : Calls Try.prog 16 #[.pointer (some ⟨la, 0, none⟩)] w7 fun e w' => e = .returned (.int .i64 2) ∧ w7 = w' := by
                have := lstate_a h7.a.lk h7.a.tk
                rw [e1, e2] at this
                exact this
              have CX := Lib.hid CX
              have H7 := Lib.hid h7
              clear h7 e1 e2 CW q6 CS CT
              go_wp2_with (go_at_call 16; (with_reducible refine CX.out.mono ?_); rintro e w' ⟨rfl, rfl⟩)
              go_roundw
              case rel =>
                obtain ⟨f1, f2, f3, f4, f5, f6, f7, f8, f9, f10⟩ := D6.out
                exact ⟨bs, i + 1, y6, by omega, rfl, by go_num, by have := HB2.out; omega, ⟨f1, by rw [f2, H5.out.2.2.1, HB2.out], by rw [f3, H5.out.2.2.2.1], f4, f5, f6, fun _ => ⟨f7, f8⟩, by rw [f9]; have := H5.out.2.2.2.2.2.2.2.2.2.1; omega, by rw [f10, H5.out.2.2.2.2.2.2.2.2.2.2]⟩, H7.out.d, H7.out.kp⟩
              case measure => simp [intOf]; omega
          · have y1 : ¬ (n : Int) ≥ (best : Int) := by omega
            have y1b : decide ((best : Int) ≤ (n : Int)) = false := decide_eq_false (by omega)
            go_wp2_with fail
            go_at_call 8
            refine CA.out.mono ?_
            rintro e w3 ⟨la, oa, rfl, h3, g3, k3⟩
            have hT : Two w1 w3 (ae0 la oa n 4) y := ⟨h3, HD.out.2.1.kp0 k3, fun k q1 q2 => by
              have := HD.out.2.1.lt k q2
              have := g3 k q1
              omega, HD.out.2.2.trans k3⟩
            obtain ⟨b1, hb1⟩ : ∃ b1, b1 = layF (synF n) := ⟨_, rfl⟩
            have C4 := Lib.hid (ag_first hT la rfl rfl rfl hn1.1 b1 hb1)
            have HB1 := Lib.hid hb1
            clear h3 g3 k3 hT hb1 CA
            go_wp2_with fail
            go_at_call 15
            refine C4.out.mono ?_
            rintro e w4 ⟨a4, c4, u4, rfl, h4, l4⟩
            obtain ⟨g4, A4, cA4, rfl, q4, r4, hcA, hcM⟩ := l4.one
            have CR : Tells Try.prog 14 #[.pointer (some ⟨ld, 0, none⟩), .slice A4 b1.length cA4, .int .i64 0] w4 fun v k w' => v = .slice none 0 0 ∧ k = 6 ∧ ∃ rv, Two w1 w' { ae0 la oa n 4 with sent := true, at_ := 0 } { y with rv := rv, rs := refL y.rs n } := by
              have hb1 := HB1.out
              subst hb1
              rw [← HD.out.1.l]
              refine (dm_elder h4.d h4.sz n (by rw [HD.out.1.se]; omega) hn1.1 (by omega) 0 (timeN (n := 0) (by omega)) A4 cA4 r4 hcA hcM).mono ?_
              rintro e w' ⟨v, k, rfl, rfl, rfl, rv, q1, q2⟩
              exact ⟨_, _, rfl, rfl, rfl, rv, h4.stepD q1 q2⟩
            obtain ⟨nb, hnb⟩ : ∃ nb, nb = b1.length := ⟨_, rfl⟩
            rw [← hnb] at CR q4
            have CR := Lib.hid CR
            clear h4 l4 r4 hcA hcM hnb C4
            go_wp2_with fail
            go_at_call 14
            refine CR.out.mono ?_
            rintro e w5 ⟨v, k, rfl, rfl, rfl, rv, h5⟩
            have H5 := Lib.hid h5
            clear h5 CR q4
            go_upto_region 19 with fail
            go_cut [6] (fun v wx => v = .int .i64 (best : Nat) ∧ w5 = wx)
            case first =>
              go_wp2_with fail
              all_goals
                go_meet
                exact ⟨congrArg (Value.int .i64) (by omega), rfl⟩
            case rest =>
              obtain ⟨rfl, rfl⟩ := hcut
              have h5 := H5.out
              have d := HD.out.1
              have hbp : 1 ≤ best := by omega
              have he : errF (rstF 9 n) = 0 := errF_rst hn1.1 (by omega) (by omega)
              obtain ⟨b2, hb2⟩ : ∃ b2, b2 = layF (rstF 9 n) := ⟨_, rfl⟩
              have C6 := Lib.hid (dm_one h5 ld d.l (d.E hbp).1 (by show y.I ≤ 20; have := d.I; omega) (d.E hbp).2 (fun s hs => by have hs : s ∈ refL y.rs n := hs; rw [d.rs] at hs; simp [refL] at hs; omega) b2 (by rw [rst_due (y := { y with rv := rv, rs := refL y.rs n }) (s := n) d.w (by show refL y.rs n = [n]; rw [d.rs]; simp [refL]) d.ow (by show errF (rstF y.t.bo n) = 0; rw [d.bo]; exact he)]; show [layF (rstF y.t.bo n)] = [b2]; rw [d.bo, hb2]))
              have HB3 := Lib.hid hb2
              clear h5 d he hb2
              go_wp2_with fail
              go_at_call 15
              refine C6.out.mono ?_
              rintro e w6 ⟨a6, c6, u6, rfl, y6, h6, l6, d6⟩
              obtain ⟨g6, A6, cA6, rfl, q6, r6, hcA, hcM⟩ := l6.one
              have CS : Calls Try.prog 21 #[.pointer (some ⟨ld, 0, none⟩)] w6 fun e w' => e = .returned (.int .i64 (best : Nat)) ∧ w6 = w' := by
                have := lsession_d h6.d.lk h6.d.dm.tk
                rw [d6.1, d6.2.1, HD.out.1.se] at this
                exact this
              have CT : Calls Try.prog 16 #[.pointer (some ⟨ld, 0, none⟩)] w6 fun e w' => e = .returned (.int .i64 2) ∧ w6 = w' := by
                have := lstate_d h6.d.lk h6.d.dm.tk
                rw [d6.1, d6.2.2.2.2.2.2.1] at this
                exact this
              have CW : Tells Try.prog 14 #[.pointer (some ⟨la, 0, none⟩), .slice A6 b2.length cA6, .int .i64 0] w6 fun v k w' => v = .slice none 0 0 ∧ k = 0 ∧ ∃ x7, Two w1 w' x7 y6 ∧ x7.lb = la ∧ x7.t.st = 3 := by
                have hb2 := HB3.out
                subst hb2
                refine (ag_reset h6.a h6.sz (by show ¬ (1 : Nat) = 3; decide) 9 hn1.1 (by omega) 0 (timeN (n := 0) (by omega)) A6 cA6 r6 hcA hcM).mono ?_
                rintro e w' ⟨v, k, rfl, rfl, rfl, q1, q2⟩
                exact ⟨_, _, rfl, rfl, rfl, _, h6.stepA q1 q2, rfl, rfl⟩
              obtain ⟨nb2, hnb2⟩ : ∃ nb, nb = b2.length := ⟨_, rfl⟩
              rw [← hnb2] at CW q6
              have CS := Lib.hid CS
              have CT := Lib.hid CT
              have CW := Lib.hid CW
              have D6 := Lib.hid d6
              have z1 : ((best : Int) != (best : Int)) = false := by simp
              clear h6 l6 r6 hcA hcM hnb2 d6 C6
              go_wp2_with (first | (go_at_call 21; (with_reducible refine CS.out.mono ?_); rintro e w' ⟨rfl, rfl⟩) | (go_at_call 16; (with_reducible refine CT.out.mono ?_); rintro e w' ⟨rfl, rfl⟩))
              go_at_call 14
              refine CW.out.mono ?_
              rintro e w7 ⟨v, k, rfl, rfl, rfl, x7, h7, e1, e2⟩
              have CX : Calls Try.prog 16 #[.pointer (some ⟨la, 0, none⟩)] w7 fun e w' => e = .returned (.int .i64 3) ∧ w7 = w' := by
                have := lstate_a h7.a.lk h7.a.tk
                rw [e1, e2] at this
                exact this
              have CY : Calls Try.prog 15 #[.pointer (some ⟨la, 0, none⟩), .int .i64 100] w7 fun e w' => e = .returned (.slice none 0 0) ∧ Kp (fun _ => False) w7 w' := by
                rw [← e1]
                refine (ag_tick_shut h7.a e2 100 (by omega)).mono ?_
                rintro e w' ⟨v, rfl, rfl, q⟩
                exact ⟨rfl, q⟩
              have CZ : ∀ w', Kp (fun _ => False) w7 w' → Calls Try.prog 12 #[.pointer (some ⟨la, 0, none⟩), .slice none 0 0] w' fun e w'' => e = .returned (.int .i64 9) ∧ w' = w'' := fun w' k => by
                rw [← e1]
                have h8 := h7.kp0 k
                exact lsend_ashut h8.a.lk h8.a.tk (by rw [e2]; decide) none 0 0
              have CX := Lib.hid CX
              have CY := Lib.hid CY
              have CZ := Lib.hid CZ
              have H7 := Lib.hid h7
              clear h7 e1 e2 CW q6 CS CT
              go_wp2_with (go_at_call 16; (with_reducible refine CX.out.mono ?_); rintro e w' ⟨rfl, rfl⟩)
              go_at_call 15
              refine CY.out.mono ?_
              rintro e w8 ⟨rfl, k8⟩
              have CZ8 := Lib.hid (CZ.out w8 k8)
              have H8 := Lib.hid (H7.out.kp0 k8)
              clear k8 CZ CX CY
              go_wp2_with (go_at_call 12; refine CZ8.out.mono ?_; rintro e w' ⟨rfl, rfl⟩)
              go_roundw
              case rel =>
                obtain ⟨f1, f2, f3, f4, f5, f6, f7, f8, f9, f10⟩ := D6.out
                exact ⟨best, i + 1, y6, by omega, rfl, by go_num, hbb, ⟨f1, by rw [f2]; exact HD.out.1.se, by rw [f3]; exact HD.out.1.bo, f4, f5, f6, fun _ => ⟨f7, f8⟩, by rw [f9]; have := HD.out.1.I; show y.I + 1 ≤ i + 1; omega, by rw [f10]; exact HD.out.1.sz⟩, H8.out.d, H8.out.kp⟩
              case measure => simp [intOf]; omega
      · obtain rfl : i = len0 := by omega
        have j1 : ¬ (i : Int) < i := by omega
        have HK := Lib.hid (K1.out.trans hk)
        clear hd hy hk
        go_wp2_with fail
        go_ret
        exact ⟨rfl, HK.out.below (fun _ _ h => h)⟩
end Go.Proofs.Ytokembhfebnjpaa
