/- The walk of NetKeeps: it returns true, whatever comes in. No condition. (Written by wip/netkeeps.py.) -/
import Derived.Test.YtgcgcdgjooaipaaKpn
import Derived.Test.YtgcgcdgjooaipaaNetKnown
namespace Go.Proofs.Ytgcgcdgjooaipaa
open Go.RowKit
set_option linter.unusedVariables false
set_option linter.unusedSimpArgs false
def acC (kd i k : Int) (is : Bool) (fr tt : Int) (B : Value) : List Value := [.int .i64 kd, .int .i64 i, .int .i64 k, .bool is, .int .i64 fr, .int .i64 tt, B]
set_option maxHeartbeats 8000000 in
set_option maxRecDepth 20000 in
theorem keeps_main (a : Option Addr) (xs : List Ac) (cap n : Nat) (hnn : n = xs.length) (w : World) (hr : RdA w a xs) (hm : ∀ i, (ac xs i).l.length ≤ 140737488351232) (hl : n ≤ 60 ∧ totA xs n ≤ 8000) :
    Calls Try.prog 8 #[.slice a n cap] w fun e w' => e = .returned (.bool true) ∧ Below w.heap.size w w' := by
  have KW := Lib.hid (fun w' => known_any w')
  have CN := Lib.hid (fun w' (k : Kp (fun _ => False) w w') => (st_new w').mono (fun e w'' h => (⟨h.choose, h.choose_spec.choose, h.choose_spec.choose_spec.1, kn_new ⟨h.choose_spec.choose_spec.2.n, fun b hb => Nat.le_trans k.size (h.choose_spec.choose_spec.2.ge b hb), k.trans h.choose_spec.choose_spec.2.k⟩⟩ : ∃ nb mb, e = .returned (.pointer (some ⟨nb, 0, none⟩)) ∧ Kn w w'' nb mb (.slice none 0 0) [] [] 0 0 (fun _ => false) false)))
  have CL := Lib.hid (fun w' (k : Kp (fun _ => False) w w') => large_any a xs cap n hnn w' (hr.kp0 k) hm false (decide_eq_false (by omega)).symm)
  have H := Lib.hid (And.intro hr (And.intro hl hnn))
  have n60 : n ≤ 60 := hl.1
  clear hr hm hl hnn
  go_enter Try.func8, Try.ntmps8
  go_wp2_with (first | (go_at_call 5; (with_reducible refine (KW.out _).mono ?_); rintro e w1 ⟨rfl, k1⟩; have K1 := Lib.hid k1; clear k1) |
    (go_at_call 10; (with_reducible refine (CN.out _ K1.out).mono ?_); rintro e w2 ⟨nb, mb, rfl, s2⟩; have S2 := Lib.hid s2; clear s2) | (go_at_call 25; (with_reducible refine (CL.out _ S2.out.st.k).mono ?_); rintro e w' ⟨rfl, rfl⟩))
  go_loopw [5, 6, 7, 8, 9] (fun sv cv tv bv iv wr => ∃ (i c t : Nat) (b : Bool) (es nds : List Nd) (lost : Int) (N : Nat) (f : Value → Bool) (va : Option Addr) (vn vc : Nat), i ≤ n ∧ sv = .slice va vn vc ∧ cv = .int .i64 c ∧ tv = .int .i64 t ∧ bv = .bool b ∧ iv = .int .i64 i ∧
    Kn w wr nb mb (.slice va vn vc) es nds lost N f b ∧ es.length ≤ i ∧ (c : Int) = t + lost + nds.length ∧ 0 ≤ lost ∧ c ≤ i ∧ N ≤ i) (fun _ _ _ _ iv _ => n - (intOf iv).toNat)
  case atStart => exact ⟨0, 0, 0, false, [], [], 0, 0, _, none, 0, 0, by omega, rfl, rfl, rfl, rfl, rfl, S2.out, by simp, by simp, by omega, by omega, by omega⟩
  case round =>
    obtain ⟨i, c, t, b, es, nds, lost, N, f, va, vn, vc, hin, rfl, rfl, rfl, rfl, rfl, hK, hes, hct, hlo, hci, hNi⟩ := hrel
    have HK := Lib.hid hK
    have HB := Lib.hid (And.intro hes (And.intro hct (And.intro hlo (And.intro hci hNi))))
    clear hK hct
    by_cases hlt : i < n
    · have j1 : (i : Int) < n := by omega
      obtain ⟨b1, o1, ai, ci, rfl, f0, f1, f2, f3, f4, f5, f6, r6, hc6, hi1, hk1⟩ := H.out.1 i (by rw [← H.out.2.2]; exact hlt)
      have cc := fun (p : Addr) (v : Value) (e : w.cell? p = some v) => HK.out.st.k.cell e (fun h => h)
      replace f0 := cc _ _ f0
      replace f1 := cc _ _ f1
      replace f2 := cc _ _ f2
      replace f3 := cc _ _ f3
      replace f4 := cc _ _ f4
      replace f5 := cc _ _ f5
      replace f6 := cc _ _ f6
      clear cc
      have hml := Nat.le_trans (totA_each xs n i hlt) H.out.2.1.2
      obtain ⟨r0, hr0⟩ : ∃ r0, r0 = (ac xs i).l := ⟨_, rfl⟩
      rw [← hr0] at f6 r6 hc6 hml
      generalize (ac xs i).kd = kd at *
      generalize (ac xs i).i = xi at *
      generalize (ac xs i).k = xk at *
      generalize (ac xs i).is = is at *
      generalize (ac xs i).fr = fr at *
      generalize (ac xs i).tt = tt at *
      clear hr0
      obtain ⟨m, hm⟩ : ∃ m, m = r0.length := ⟨_, rfl⟩
      rw [← hm] at f6 hc6 hml
      have R6 := Lib.hid (And.intro r6 (And.intro hm (And.intro hc6 (And.intro hi1 hk1))))
      clear r6 hm hi1 hk1
      go_upto_region 13 with fail
      refine wp_world (fun wx => At wx wr.heap.size (acC kd xi xk is fr tt (.slice ai m ci)) ∧ Kp (fun _ => False) wr wx) ⟨At.new wr (acC kd xi xk is fr tt (.slice ai m ci)) 53, (Kp.refl _ wr).alloc _⟩ ?_
      rintro w4 ⟨hb4, k4⟩
      obtain ⟨bx, hbx⟩ : ∃ bx, bx = wr.heap.size := ⟨_, rfl⟩
      rw [← hbx] at hb4 ⊢
      have x0 : w4.cell? ⟨bx, 0, none⟩ = some (.int .i64 kd) := (hb4.cell 0).trans rfl
      have x1 : w4.cell? ⟨bx, 1, none⟩ = some (.int .i64 xi) := (hb4.cell 1).trans rfl
      have x2 : w4.cell? ⟨bx, 2, none⟩ = some (.int .i64 xk) := (hb4.cell 2).trans rfl
      have x3 : w4.cell? ⟨bx, 3, none⟩ = some (.bool is) := (hb4.cell 3).trans rfl
      have x4 : w4.cell? ⟨bx, 4, none⟩ = some (.int .i64 fr) := (hb4.cell 4).trans rfl
      have x5 : w4.cell? ⟨bx, 5, none⟩ = some (.int .i64 tt) := (hb4.cell 5).trans rfl
      have x6 : w4.cell? ⟨bx, 6, none⟩ = some (.slice ai m ci) := (hb4.cell 6).trans rfl
      have K4 := Lib.hid (HK.out.kp0 k4)
      have HX := Lib.hid (fun j (hj : Mine nb nds j ∨ j = mb) => (by have := HK.out.st.n.lt hj; omega : j < bx))
      have B4 := Lib.hid hb4
      have hll : 0 ≤ lost ∧ lost ≤ 10000 := by have := HB.out.2; omega
      have HLL := Lib.hid hll
      clear hb4 k4 hbx f0 f1 f2 f3 f4 f5 f6 hll
      by_cases e4 : kd = 4
      · subst e4
        go_wp2_with fail
        go_at_call 23
        (with_reducible refine (kn_drop K4.out HLL.out xi).mono ?_)
        rintro e w5 ⟨r, nds5, lost5, rfl, hK5, hl5, hl6⟩
        have K5 := Lib.hid hK5
        clear hK5
        obtain ⟨L, hL⟩ : ∃ L, L = (nds5).length := ⟨_, rfl⟩
        have q1 : ((c : Int) != (t : Int) + lost5 + (L : Int)) = false := by simp; have := HB.out.2.1; omega
        have q2 : (c : Int) = (t : Int) + lost5 + (L : Int) := by have := HB.out.2.1; omega
        have q3 : 0 ≤ lost5 ∧ lost5 ≤ 61 := by have := HB.out.2; omega
        have q4 : L ≤ 61 := by have := HB.out.2; omega
        have q5 : t ≤ 61 := by have := HB.out.2; omega
        have q6 : ((c : Int) == (t : Int) + lost5 + (L : Int)) = true := by simp; have := HB.out.2.1; omega
        have Q := Lib.hid (And.intro q2 hL)
        clear q2
        have CLo := Lib.hid (st_lost K5.out.st)
        have CWa := Lib.hid ((st_waiting K5.out.st).mono (fun e w'' hh => (by obtain ⟨A, C, es', e1, _, _, _, _, k⟩ := hh; rw [← hL] at e1; exact ⟨A, C, e1, k⟩ : ∃ A C, e = .returned (.slice A L C) ∧ Kp (fun _ => False) _ w'')))
        clear hL
        go_wp2_with (first | (go_at_call 20; (with_reducible refine CLo.out.mono ?_); rintro e w' ⟨rfl, rfl⟩) | (go_at_call 13; (with_reducible refine CWa.out.mono ?_); rintro e w9 ⟨A9, C9, rfl, k9⟩; have K9 := Lib.hid k9; clear k9))
        refine ⟨⟨i + 1, c, t, b, es, nds5, lost5, N, f, va, vn, vc, by omega, rfl, by go_num, by go_num, rfl, by go_num, K5.out.kp0 K9.out, by have := HB.out.1; first | omega | (simp; omega), by have := Q.out; omega, by omega, by have := HB.out.2.2.2; omega, by have := HB.out.2.2.2; omega⟩, ?_⟩
        simp [intOf]; omega
      by_cases e7 : kd = 7
      · subst e7
        go_wp2_with fail
        go_at_call 16
        (with_reducible refine (kn_swap K4.out xi xk).mono ?_)
        rintro e w5 ⟨r, nds5, rfl, hK5, hl5⟩
        have K5 := Lib.hid hK5
        clear hK5
        obtain ⟨L, hL⟩ : ∃ L, L = (nds5).length := ⟨_, rfl⟩
        have q1 : ((c : Int) != (t : Int) + lost + (L : Int)) = false := by simp; have := HB.out.2.1; omega
        have q2 : (c : Int) = (t : Int) + lost + (L : Int) := by have := HB.out.2.1; omega
        have q3 : 0 ≤ lost ∧ lost ≤ 61 := by have := HB.out.2; omega
        have q4 : L ≤ 61 := by have := HB.out.2; omega
        have q5 : t ≤ 61 := by have := HB.out.2; omega
        have q6 : ((c : Int) == (t : Int) + lost + (L : Int)) = true := by simp; have := HB.out.2.1; omega
        have Q := Lib.hid (And.intro q2 hL)
        clear q2
        have CLo := Lib.hid (st_lost K5.out.st)
        have CWa := Lib.hid ((st_waiting K5.out.st).mono (fun e w'' hh => (by obtain ⟨A, C, es', e1, _, _, _, _, k⟩ := hh; rw [← hL] at e1; exact ⟨A, C, e1, k⟩ : ∃ A C, e = .returned (.slice A L C) ∧ Kp (fun _ => False) _ w'')))
        clear hL
        go_wp2_with (first | (go_at_call 20; (with_reducible refine CLo.out.mono ?_); rintro e w' ⟨rfl, rfl⟩) | (go_at_call 13; (with_reducible refine CWa.out.mono ?_); rintro e w9 ⟨A9, C9, rfl, k9⟩; have K9 := Lib.hid k9; clear k9))
        refine ⟨⟨i + 1, c, t, b, es, nds5, lost, N, f, va, vn, vc, by omega, rfl, by go_num, by go_num, rfl, by go_num, K5.out.kp0 K9.out, by have := HB.out.1; first | omega | (simp; omega), by have := Q.out; omega, by omega, by have := HB.out.2.2.2; omega, by have := HB.out.2.2.2; omega⟩, ?_⟩
        simp [intOf]; omega
      by_cases e8 : kd = 8
      · subst e8
        go_wp2_with fail
        go_at_call 18
        (with_reducible refine (kn_cut K4.out (by omega) xi xk is).mono ?_)
        rintro e w5 ⟨r, f5, rfl, hK5⟩
        have K5 := Lib.hid hK5
        clear hK5
        obtain ⟨L, hL⟩ : ∃ L, L = (nds).length := ⟨_, rfl⟩
        have q1 : ((c : Int) != (t : Int) + lost + (L : Int)) = false := by simp; have := HB.out.2.1; omega
        have q2 : (c : Int) = (t : Int) + lost + (L : Int) := by have := HB.out.2.1; omega
        have q3 : 0 ≤ lost ∧ lost ≤ 61 := by have := HB.out.2; omega
        have q4 : L ≤ 61 := by have := HB.out.2; omega
        have q5 : t ≤ 61 := by have := HB.out.2; omega
        have q6 : ((c : Int) == (t : Int) + lost + (L : Int)) = true := by simp; have := HB.out.2.1; omega
        have Q := Lib.hid (And.intro q2 hL)
        clear q2
        have CLo := Lib.hid (st_lost K5.out.st)
        have CWa := Lib.hid ((st_waiting K5.out.st).mono (fun e w'' hh => (by obtain ⟨A, C, es', e1, _, _, _, _, k⟩ := hh; rw [← hL] at e1; exact ⟨A, C, e1, k⟩ : ∃ A C, e = .returned (.slice A L C) ∧ Kp (fun _ => False) _ w'')))
        clear hL
        go_wp2_with (first | (go_at_call 20; (with_reducible refine CLo.out.mono ?_); rintro e w' ⟨rfl, rfl⟩) | (go_at_call 13; (with_reducible refine CWa.out.mono ?_); rintro e w9 ⟨A9, C9, rfl, k9⟩; have K9 := Lib.hid k9; clear k9))
        refine ⟨⟨i + 1, c, t, b, es, nds, lost, N + 1, f5, va, vn, vc, by omega, rfl, by go_num, by go_num, rfl, by go_num, K5.out.kp0 K9.out, by have := HB.out.1; first | omega | (simp; omega), by have := Q.out; omega, by omega, by have := HB.out.2.2.2; omega, by have := HB.out.2.2.2; omega⟩, ?_⟩
        simp [intOf]; omega
      by_cases e5 : kd = 5
      · subst e5
        go_wp2_with fail
        go_at_call 29
        (with_reducible refine (kn_copy K4.out xi).mono ?_)
        rintro e w5 ⟨r, nds5, rfl, hK5, (⟨hr5, hl5⟩ | ⟨hr5, hl5⟩)⟩
        · have K5 := Lib.hid hK5
          clear hK5
          obtain ⟨L, hL⟩ : ∃ L, L = (nds5).length := ⟨_, rfl⟩
          have q1 : ((c : Int) != (t : Int) + lost + (L : Int)) = false := by simp; have := HB.out.2.1; omega
          have q2 : (c : Int) = (t : Int) + lost + (L : Int) := by have := HB.out.2.1; omega
          have q3 : 0 ≤ lost ∧ lost ≤ 61 := by have := HB.out.2; omega
          have q4 : L ≤ 61 := by have := HB.out.2; omega
          have q5 : t ≤ 61 := by have := HB.out.2; omega
          have q6 : ((c : Int) == (t : Int) + lost + (L : Int)) = true := by simp; have := HB.out.2.1; omega
          have Q := Lib.hid (And.intro q2 hL)
          clear q2
          have CLo := Lib.hid (st_lost K5.out.st)
          have CWa := Lib.hid ((st_waiting K5.out.st).mono (fun e w'' hh => (by obtain ⟨A, C, es', e1, _, _, _, _, k⟩ := hh; rw [← hL] at e1; exact ⟨A, C, e1, k⟩ : ∃ A C, e = .returned (.slice A L C) ∧ Kp (fun _ => False) _ w'')))
          clear hL
          go_wp2_with (first | (go_at_call 20; (with_reducible refine CLo.out.mono ?_); rintro e w' ⟨rfl, rfl⟩) | (go_at_call 13; (with_reducible refine CWa.out.mono ?_); rintro e w9 ⟨A9, C9, rfl, k9⟩; have K9 := Lib.hid k9; clear k9))
          refine ⟨⟨i + 1, c, t, b, es, nds5, lost, N, f, va, vn, vc, by omega, rfl, by go_num, by go_num, rfl, by go_num, K5.out.kp0 K9.out, by have := HB.out.1; first | omega | (simp; omega), by have := Q.out; omega, by omega, by have := HB.out.2.2.2; omega, by have := HB.out.2.2.2; omega⟩, ?_⟩
          simp [intOf]; omega
        · have K5 := Lib.hid hK5
          clear hK5
          obtain ⟨L, hL⟩ : ∃ L, L = (nds5).length := ⟨_, rfl⟩
          have q1 : (((c : Int) + 1) != (t : Int) + lost + (L : Int)) = false := by simp; have := HB.out.2.1; omega
          have q2 : ((c : Int) + 1) = (t : Int) + lost + (L : Int) := by have := HB.out.2.1; omega
          have q3 : 0 ≤ lost ∧ lost ≤ 61 := by have := HB.out.2; omega
          have q4 : L ≤ 61 := by have := HB.out.2; omega
          have q5 : t ≤ 61 := by have := HB.out.2; omega
          have q6 : (((c : Int) + 1) == (t : Int) + lost + (L : Int)) = true := by simp; have := HB.out.2.1; omega
          have Q := Lib.hid (And.intro q2 hL)
          clear q2
          have CLo := Lib.hid (st_lost K5.out.st)
          have CWa := Lib.hid ((st_waiting K5.out.st).mono (fun e w'' hh => (by obtain ⟨A, C, es', e1, _, _, _, _, k⟩ := hh; rw [← hL] at e1; exact ⟨A, C, e1, k⟩ : ∃ A C, e = .returned (.slice A L C) ∧ Kp (fun _ => False) _ w'')))
          clear hL
          go_wp2_with (first | (go_at_call 20; (with_reducible refine CLo.out.mono ?_); rintro e w' ⟨rfl, rfl⟩) | (go_at_call 13; (with_reducible refine CWa.out.mono ?_); rintro e w9 ⟨A9, C9, rfl, k9⟩; have K9 := Lib.hid k9; clear k9))
          refine ⟨⟨i + 1, c + 1, t, b, es, nds5, lost, N, f, va, vn, vc, by omega, rfl, by go_num, by go_num, rfl, by go_num, K5.out.kp0 K9.out, by have := HB.out.1; first | omega | (simp; omega), by have := Q.out; omega, by omega, by have := HB.out.2.2.2; omega, by have := HB.out.2.2.2; omega⟩, ?_⟩
          simp [intOf]; omega
      by_cases e6 : kd = 6
      · subst e6
        go_wp2_with fail
        go_at_call 17
        (with_reducible refine (kn_turn K4.out xi xk R6.out.2.2.2.2).mono ?_)
        rintro e w5 ⟨r, nds5, rfl, hl5, (⟨hr5, hK5⟩ | ⟨hr5, hK5⟩)⟩
        · have K5 := Lib.hid hK5
          clear hK5
          obtain ⟨L, hL⟩ : ∃ L, L = (nds5).length := ⟨_, rfl⟩
          have q1 : ((c : Int) != (t : Int) + lost + (L : Int)) = false := by simp; have := HB.out.2.1; omega
          have q2 : (c : Int) = (t : Int) + lost + (L : Int) := by have := HB.out.2.1; omega
          have q3 : 0 ≤ lost ∧ lost ≤ 61 := by have := HB.out.2; omega
          have q4 : L ≤ 61 := by have := HB.out.2; omega
          have q5 : t ≤ 61 := by have := HB.out.2; omega
          have q6 : ((c : Int) == (t : Int) + lost + (L : Int)) = true := by simp; have := HB.out.2.1; omega
          have Q := Lib.hid (And.intro q2 hL)
          clear q2
          have CLo := Lib.hid (st_lost K5.out.st)
          have CWa := Lib.hid ((st_waiting K5.out.st).mono (fun e w'' hh => (by obtain ⟨A, C, es', e1, _, _, _, _, k⟩ := hh; rw [← hL] at e1; exact ⟨A, C, e1, k⟩ : ∃ A C, e = .returned (.slice A L C) ∧ Kp (fun _ => False) _ w'')))
          clear hL
          go_wp2_with (first | (go_at_call 20; (with_reducible refine CLo.out.mono ?_); rintro e w' ⟨rfl, rfl⟩) | (go_at_call 13; (with_reducible refine CWa.out.mono ?_); rintro e w9 ⟨A9, C9, rfl, k9⟩; have K9 := Lib.hid k9; clear k9))
          refine ⟨⟨i + 1, c, t, b, es, nds5, lost, N, f, va, vn, vc, by omega, rfl, by go_num, by go_num, rfl, by go_num, K5.out.kp0 K9.out, by have := HB.out.1; first | omega | (simp; omega), by have := Q.out; omega, by omega, by have := HB.out.2.2.2; omega, by have := HB.out.2.2.2; omega⟩, ?_⟩
          simp [intOf]; omega
        · have K5 := Lib.hid hK5
          clear hK5
          obtain ⟨L, hL⟩ : ∃ L, L = (nds5).length := ⟨_, rfl⟩
          have q1 : ((c : Int) != (t : Int) + lost + (L : Int)) = false := by simp; have := HB.out.2.1; omega
          have q2 : (c : Int) = (t : Int) + lost + (L : Int) := by have := HB.out.2.1; omega
          have q3 : 0 ≤ lost ∧ lost ≤ 61 := by have := HB.out.2; omega
          have q4 : L ≤ 61 := by have := HB.out.2; omega
          have q5 : t ≤ 61 := by have := HB.out.2; omega
          have q6 : ((c : Int) == (t : Int) + lost + (L : Int)) = true := by simp; have := HB.out.2.1; omega
          have Q := Lib.hid (And.intro q2 hL)
          clear q2
          have CLo := Lib.hid (st_lost K5.out.st)
          have CWa := Lib.hid ((st_waiting K5.out.st).mono (fun e w'' hh => (by obtain ⟨A, C, es', e1, _, _, _, _, k⟩ := hh; rw [← hL] at e1; exact ⟨A, C, e1, k⟩ : ∃ A C, e = .returned (.slice A L C) ∧ Kp (fun _ => False) _ w'')))
          clear hL
          go_wp2_with (first | (go_at_call 20; (with_reducible refine CLo.out.mono ?_); rintro e w' ⟨rfl, rfl⟩) | (go_at_call 13; (with_reducible refine CWa.out.mono ?_); rintro e w9 ⟨A9, C9, rfl, k9⟩; have K9 := Lib.hid k9; clear k9))
          refine ⟨⟨i + 1, c, t, true, es, nds5, lost, N, f, va, vn, vc, by omega, rfl, by go_num, by go_num, rfl, by go_num, K5.out.kp0 K9.out, by have := HB.out.1; first | omega | (simp; omega), by have := Q.out; omega, by omega, by have := HB.out.2.2.2; omega, by have := HB.out.2.2.2; omega⟩, ?_⟩
          simp [intOf]; omega
      by_cases e3 : kd = 3
      · subst e3
        go_wp2_with fail
        go_at_call 24
        (with_reducible refine (kn_take K4.out xi).mono ?_)
        rintro e w5 ⟨fr5, tt5, a5, n5, c5, r, nds5, rfl, hK5, (⟨hr5, hl5⟩ | ⟨hr5, hl5, l5, hrl, hn5, hn6, p, hp, hm⟩)⟩
        · have K5 := Lib.hid (hK5.kp0 ((Kp.refl _ w5).alloc (.cells #[.int .i64 fr5, .int .i64 tt5, .slice a5 n5 c5] 28)))
          clear hK5
          obtain ⟨L, hL⟩ : ∃ L, L = (nds5).length := ⟨_, rfl⟩
          have q1 : ((c : Int) != (t : Int) + lost + (L : Int)) = false := by simp; have := HB.out.2.1; omega
          have q2 : (c : Int) = (t : Int) + lost + (L : Int) := by have := HB.out.2.1; omega
          have q3 : 0 ≤ lost ∧ lost ≤ 61 := by have := HB.out.2; omega
          have q4 : L ≤ 61 := by have := HB.out.2; omega
          have q5 : t ≤ 61 := by have := HB.out.2; omega
          have q6 : ((c : Int) == (t : Int) + lost + (L : Int)) = true := by simp; have := HB.out.2.1; omega
          have Q := Lib.hid (And.intro q2 hL)
          clear q2
          have CLo := Lib.hid (st_lost K5.out.st)
          have CWa := Lib.hid ((st_waiting K5.out.st).mono (fun e w'' hh => (by obtain ⟨A, C, es', e1, _, _, _, _, k⟩ := hh; rw [← hL] at e1; exact ⟨A, C, e1, k⟩ : ∃ A C, e = .returned (.slice A L C) ∧ Kp (fun _ => False) _ w'')))
          clear hL
          go_wp2_with (first | (go_at_call 20; (with_reducible refine CLo.out.mono ?_); rintro e w' ⟨rfl, rfl⟩) | (go_at_call 13; (with_reducible refine CWa.out.mono ?_); rintro e w9 ⟨A9, C9, rfl, k9⟩; have K9 := Lib.hid k9; clear k9))
          refine ⟨⟨i + 1, c, t, b, es, nds5, lost, N, f, va, vn, vc, by omega, rfl, by go_num, by go_num, rfl, by go_num, K5.out.kp0 K9.out, by have := HB.out.1; first | omega | (simp; omega), by have := Q.out; omega, by omega, by have := HB.out.2.2.2; omega, by have := HB.out.2.2.2; omega⟩, ?_⟩
          simp [intOf]; omega
        · have HN5 := Lib.hid hn5
          clear hn5
          have ka := (Kp.refl (fun _ => False) w5).alloc (.cells #[.int .i64 fr5, .int .i64 tt5, .slice a5 n5 c5] 28)
          have hK6 := hK5.kp0 ka
          obtain ⟨_, _, ev, _, hrd⟩ := hK6.fg.rdd hK6.st.k
          simp only [Value.slice.injEq] at ev
          rw [← ev.1] at hrd
          have hrl6 := hrl.kp0 ka (fun _ _ h => h)
          have CA := Lib.hid (among_any va es vn vc ev.2.1 fr5 tt5 a5 n5 c5 l5 HN5.out b _ hrd hrl6 (by have := HB.out.1; omega) (by omega) p (by omega) hm)
          have K5 := Lib.hid hK6
          have hl7 : nds.length = nds5.length + 1 := hl5
          clear hK5 hK6 hrd hrl hrl6 ka ev hm
          have y5 : t ≤ 61 := by have := HB.out.2; omega
          go_wp2_with fail
          go_at_call 30
          (with_reducible refine CA.out.mono ?_)
          rintro e w7 ⟨rfl, k7⟩
          have K7 := Lib.hid (K5.out.kp0 k7)
          clear k7
          obtain ⟨L, hL⟩ : ∃ L, L = (nds5).length := ⟨_, rfl⟩
          have q1 : ((c : Int) != ((t : Int) + 1) + lost + (L : Int)) = false := by simp; have := HB.out.2.1; omega
          have q2 : (c : Int) = ((t : Int) + 1) + lost + (L : Int) := by have := HB.out.2.1; omega
          have q3 : 0 ≤ lost ∧ lost ≤ 61 := by have := HB.out.2; omega
          have q4 : L ≤ 61 := by have := HB.out.2; omega
          have q5 : t ≤ 61 := by have := HB.out.2; omega
          have q6 : ((c : Int) == ((t : Int) + 1) + lost + (L : Int)) = true := by simp; have := HB.out.2.1; omega
          have Q := Lib.hid (And.intro q2 hL)
          clear q2
          have CLo := Lib.hid (st_lost K7.out.st)
          have CWa := Lib.hid ((st_waiting K7.out.st).mono (fun e w'' hh => (by obtain ⟨A, C, es', e1, _, _, _, _, k⟩ := hh; rw [← hL] at e1; exact ⟨A, C, e1, k⟩ : ∃ A C, e = .returned (.slice A L C) ∧ Kp (fun _ => False) _ w'')))
          clear hL
          go_wp2_with (first | (go_at_call 20; (with_reducible refine CLo.out.mono ?_); rintro e w' ⟨rfl, rfl⟩) | (go_at_call 13; (with_reducible refine CWa.out.mono ?_); rintro e w9 ⟨A9, C9, rfl, k9⟩; have K9 := Lib.hid k9; clear k9))
          refine ⟨⟨i + 1, c, t + 1, b, es, nds5, lost, N, f, va, vn, vc, by omega, rfl, by go_num, by go_num, rfl, by go_num, K7.out.kp0 K9.out, by have := HB.out.1; first | omega | (simp; omega), by have := Q.out; omega, by omega, by have := HB.out.2.2.2; omega, by have := HB.out.2.2.2; omega⟩, ?_⟩
          simp [intOf]; omega
      have z3 : (kd == 3) = false := by simpa using e3
      have z4 : (kd == 4) = false := by simpa using e4
      have z5 : (kd == 5) = false := by simpa using e5
      have z6 : (kd == 6) = false := by simpa using e6
      have z7 : (kd == 7) = false := by simpa using e7
      have z8 : (kd == 8) = false := by simpa using e8
      have y5 : c ≤ 61 := by have := HB.out.2; omega
      clear e3 e4 e5 e6 e7 e8
      go_wp2_with fail
      go_at_call 11
      (with_reducible refine (kn_send K4.out HLL.out (by have := HB.out.1; omega) fr tt ai m ci r0 R6.out.2.1 R6.out.1 R6.out.2.2.1).mono ?_)
      rintro e w5 ⟨r, nds5, lost5, rfl, hl6, k5, (⟨hr5, hl5, hK5⟩ | ⟨hr5, hl5, va5, vn5, vc5, w6, hrun, hK5⟩)⟩
      · have K5 := Lib.hid hK5
        clear hK5
        obtain ⟨L, hL⟩ : ∃ L, L = (nds5).length := ⟨_, rfl⟩
        have q1 : ((c : Int) != (t : Int) + lost5 + (L : Int)) = false := by simp; have := HB.out.2.1; omega
        have q2 : (c : Int) = (t : Int) + lost5 + (L : Int) := by have := HB.out.2.1; omega
        have q3 : 0 ≤ lost5 ∧ lost5 ≤ 61 := by have := HB.out.2; omega
        have q4 : L ≤ 61 := by have := HB.out.2; omega
        have q5 : t ≤ 61 := by have := HB.out.2; omega
        have q6 : ((c : Int) == (t : Int) + lost5 + (L : Int)) = true := by simp; have := HB.out.2.1; omega
        have Q := Lib.hid (And.intro q2 hL)
        clear q2
        have CLo := Lib.hid (st_lost K5.out.st)
        have CWa := Lib.hid ((st_waiting K5.out.st).mono (fun e w'' hh => (by obtain ⟨A, C, es', e1, _, _, _, _, k⟩ := hh; rw [← hL] at e1; exact ⟨A, C, e1, k⟩ : ∃ A C, e = .returned (.slice A L C) ∧ Kp (fun _ => False) _ w'')))
        clear hL
        go_wp2_with (first | (go_at_call 20; (with_reducible refine CLo.out.mono ?_); rintro e w' ⟨rfl, rfl⟩) | (go_at_call 13; (with_reducible refine CWa.out.mono ?_); rintro e w9 ⟨A9, C9, rfl, k9⟩; have K9 := Lib.hid k9; clear k9))
        refine ⟨⟨i + 1, c, t, b, es, nds5, lost5, N, f, va, vn, vc, by omega, rfl, by go_num, by go_num, rfl, by go_num, K5.out.kp0 K9.out, by have := HB.out.1; first | omega | (simp; omega), by have := Q.out; omega, by omega, by have := HB.out.2.2.2; omega, by have := HB.out.2.2.2; omega⟩, ?_⟩
        simp [intOf]; omega
      · have K5 := Lib.hid hK5
        have HR := Lib.hid hrun
        have hb5 := k5.at B4.out (fun hj => Nat.lt_irrefl _ (HX.out _ hj))
        have v4 : w5.cell? ⟨bx, 4, none⟩ = some (.int .i64 fr) := (hb5.cell 4).trans rfl
        have v5 : w5.cell? ⟨bx, 5, none⟩ = some (.int .i64 tt) := (hb5.cell 5).trans rfl
        have v6 : w5.cell? ⟨bx, 6, none⟩ = some (.slice ai m ci) := (hb5.cell 6).trans rfl
        clear hK5 hrun hb5 k5
        obtain ⟨L, hL⟩ : ∃ L, L = (nds5).length := ⟨_, rfl⟩
        have q1 : (((c : Int) + 1) != (t : Int) + lost5 + (L : Int)) = false := by simp; have := HB.out.2.1; omega
        have q2 : ((c : Int) + 1) = (t : Int) + lost5 + (L : Int) := by have := HB.out.2.1; omega
        have q3 : 0 ≤ lost5 ∧ lost5 ≤ 61 := by have := HB.out.2; omega
        have q4 : L ≤ 61 := by have := HB.out.2; omega
        have q5 : t ≤ 61 := by have := HB.out.2; omega
        have q6 : (((c : Int) + 1) == (t : Int) + lost5 + (L : Int)) = true := by simp; have := HB.out.2.1; omega
        have Q := Lib.hid (And.intro q2 hL)
        clear q2
        have CLo := Lib.hid (st_lost K5.out.st)
        have CWa := Lib.hid ((st_waiting K5.out.st).mono (fun e w'' hh => (by obtain ⟨A, C, es', e1, _, _, _, _, k⟩ := hh; rw [← hL] at e1; exact ⟨A, C, e1, k⟩ : ∃ A C, e = .returned (.slice A L C) ∧ Kp (fun _ => False) _ w'')))
        clear hL
        go_wp2_with (first | (go_at_call 20; (with_reducible refine CLo.out.mono ?_); rintro e w' ⟨rfl, rfl⟩) | (go_at_call 13; (with_reducible refine CWa.out.mono ?_); rintro e w9 ⟨A9, C9, rfl, k9⟩; have K9 := Lib.hid k9; clear k9) | (at_builtin; refine wpList_append_run _ HR.out rfl rfl rfl rfl ?_))
        refine ⟨⟨i + 1, c + 1, t, b, _, nds5, lost5, N, f, va5, vn5, vc5, by omega, rfl, by go_num, by go_num, rfl, by go_num, K5.out.kp0 K9.out, by have := HB.out.1; first | omega | (simp; omega), by have := Q.out; omega, by omega, by have := HB.out.2.2.2; omega, by have := HB.out.2.2.2; omega⟩, ?_⟩
        simp [intOf]; omega
    · obtain rfl : i = n := by omega
      clear hlt
      go_wp2
      go_ret
      exact ⟨rfl, HK.out.st.k.below (fun _ _ h => h)⟩
set_option maxHeartbeats 1000000 in
theorem keeps_long (a : Option Addr) (xs : List Ac) (cap n : Nat) (hnn : n = xs.length) (w : World) (hr : RdA w a xs) (hm : ∀ i, (ac xs i).l.length ≤ 140737488351232) (hl : 60 < n ∨ 8000 < totA xs n) :
    Calls Try.prog 8 #[.slice a n cap] w fun e w' => e = .returned (.bool true) ∧ Below w.heap.size w w' := by
  have KW := Lib.hid (fun w' => known_any w')
  have CN := Lib.hid (fun w' (k : Kp (fun _ => False) w w') => (st_new w').mono (fun e w'' h => (⟨h.choose, h.choose_spec.choose, h.choose_spec.choose_spec.1, k.trans h.choose_spec.choose_spec.2.k⟩ : ∃ nb mb, e = .returned (.pointer (some ⟨nb, 0, none⟩)) ∧ Kp (fun _ => False) w w'')))
  have CL := Lib.hid (fun w' (k : Kp (fun _ => False) w w') => large_any a xs cap n hnn w' (hr.kp0 k) hm true (decide_eq_true hl).symm)
  clear hr hm hl hnn
  go_enter Try.func8, Try.ntmps8
  go_wp2_with (first | (go_at_call 5; (with_reducible refine (KW.out _).mono ?_); rintro e w1 ⟨rfl, k1⟩; have K1 := Lib.hid k1; clear k1) |
    (go_at_call 10; (with_reducible refine (CN.out _ K1.out).mono ?_); rintro e w2 ⟨nb, mb, rfl, k2⟩; have K2 := Lib.hid k2; clear k2) | (go_at_call 25; (with_reducible refine (CL.out _ K2.out).mono ?_); rintro e w' ⟨rfl, rfl⟩))
  go_ret
  exact ⟨rfl, K2.out.below (fun _ _ h => h)⟩
theorem netKeeps_walk (a0 : Option Addr) (len0 cap0 : Nat) (w : World) (r0 : Rdg Try.prog w 45 [.slice a0 len0 cap0]) :
    Calls Try.prog 8 #[.slice a0 len0 cap0] w fun e w' => e = .returned (.bool true) ∧ Below w.heap.size w w' := by
  obtain ⟨a, xs, cap, e, hr, hm⟩ := rda_open r0
  simp only [List.cons.injEq, Value.slice.injEq, and_true] at e
  obtain ⟨rfl, rfl, rfl⟩ := e
  by_cases h : 60 < xs.length ∨ 8000 < totA xs xs.length
  · exact keeps_long a0 xs cap0 _ rfl w hr hm h
  · exact keeps_main a0 xs cap0 _ rfl w hr hm (by omega)
end Go.Proofs.Ytgcgcdgjooaipaa
