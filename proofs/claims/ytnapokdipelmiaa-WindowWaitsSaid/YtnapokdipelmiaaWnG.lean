/- Chapter 13: the statements' due, two, awake. (Written by wip/win13g.py.) -/
import Derived.Test.YtnapokdipelmiaaWnF
import Derived.Test.YtnapokdipelmiaaMrk
namespace Go.Proofs.Ytnapokdipelmiaa
open Go.RowKit Flt
set_option linter.unusedVariables false
set_option linter.unusedSimpArgs false
def ints (l : List Nat) : List Value := l.map fun (k : Nat) => Value.int .i64 k
def seqL (x : Wn) (is : List Nat) : List Nat := is.map fun i => (pk x.l i).seq
theorem TelL.seq {x : Wn} {is : List Nat} {l : List Tp} (h : TelL x is l) {j : Nat} (hj : j < l.length) : (seqL x is)[j]? = some (tp l j).seq := by
  have hl := h.1
  have : is[j]? = some (is[j]'(by omega)) := List.getElem?_eq_getElem (by omega)
  unfold seqL
  rw [List.getElem?_map, this, (h.2 j _ this).1]; rfl
set_option maxHeartbeats 1000000 in
theorem wdue_any {w : World} {b : Nat} {x : Wn} (h : WinC w b x) (now : Nat) (ht : now ≤ 2147483647) (hts : ∀ i, i < x.l.length → (pk x.l i).times ≤ 4611686018427387900) (want : List Nat) (hw : seqL (atW x now) (dueI (atW x now)) = want) (a : Option Addr) (n c : Nat) (hn : n = want.length) (hr : Rd w a (ints want)) (hoff : Off (Mine b x) a) :
    Calls Try.prog 20 #[.pointer (some ⟨b, 0, none⟩), .int .i64 now, .slice a n c] w fun e w' => e = .returned (.bool true) ∧ WinC w' b (dueW (atW x now)) ∧ Kp (Mine b x) w w' := by
  have C := Lib.hid (due_ok h now ht hts)
  have HR := Lib.hid (And.intro hr (And.intro hoff hw))
  have hnl : n ≤ 64 := by
    rw [hn, ← hw]; unfold seqL dueI
    rw [List.length_map]
    have := List.length_filter_le (fun i => dueB (pk (atW x now).l i) (atW x now).now) (List.range (atW x now).l.length)
    have q1 := h.len
    have q2 := h.size_bd
    have q3 : (atW x now).l.length = x.l.length := rfl
    rw [List.length_range] at this
    omega
  have HN := Lib.hid hn
  clear h hts hr hoff hw hn
  go_enter Try.func20, Try.ntmps20
  go_wp2_with fail
  go_at_call 13
  refine C.out.mono ?_
  rintro e w1 ⟨v, l, rfl, hl, htl, hW, hk⟩
  obtain ⟨a1, c1, e1, hc1⟩ := hl.form
  have hll : l.length = n := by rw [HN.out, ← HR.out.2.2]; unfold seqL; rw [List.length_map]; exact htl.1
  rw [hll] at e1
  subst e1
  have hr1 := HR.out.1.kp hk HR.out.2.1
  have HL := Lib.hid (And.intro hl (And.intro htl (And.intro hr1 hll)))
  have HW := Lib.hid (And.intro hW hk)
  clear C hl htl hc1 hll hr1 hW hk
  go_wp2_with fail
  go_loopw [8] (fun iv wr => ∃ i : Nat, i ≤ n ∧ iv = .int .i64 i ∧ Kp (fun _ => False) w1 wr) (fun iv _ => n - (intOf iv).toNat)
  case atStart => exact ⟨0, by omega, rfl, Kp.refl _ _⟩
  case round =>
    obtain ⟨i, hi, rfl, hk⟩ := hrel
    have HK := Lib.hid hk
    by_cases hlt : i < n
    · have j1 : (i : Int) < n := by omega
      obtain ⟨g, e1, _, hc, _⟩ := HL.out.1.at' (i := i) (by have := HL.out.2.2.2; omega)
      subst e1
      obtain ⟨g2, o2, e2, hc2⟩ := HL.out.2.2.1 i (by have := HN.out; simp [ints]; omega)
      subst e2
      have hq := HL.out.2.1.seq (j := i) (by have := HL.out.2.2.2; omega)
      rw [HR.out.2.2] at hq
      have hv : (ints want).getD i undef = .int .i64 ((tp l i).seq : Nat) := by
        unfold ints; rw [List.getD_eq_getElem?_getD, List.getElem?_map, hq]; rfl
      rw [hv] at hc2
      have hd1 := hk.cell hc (fun h => h)
      have hd2 := hk.cell hc2 (fun h => h)
      obtain ⟨sq, hsq⟩ : ∃ sq, sq = (tp l i).seq := ⟨_, rfl⟩
      rw [← hsq] at hd1 hd2
      have b1 : ((sq : Int) != sq) = false := by simp
      clear hk hc hc2 hv hq hsq
      go_wp2_with fail
      go_quiet (fail)
      go_wp2_with fail
      go_roundw
      case rel => exact ⟨i + 1, by omega, by go_num, HK.out.drewN _⟩
      case measure => simp [intOf]; omega
    · obtain rfl : i = n := by omega
      clear hk
      go_wp2_with fail
      go_ret
      exact ⟨rfl, HW.out.1.kp0 HK.out, HW.out.2.trans (HK.out.mono (fun _ _ h => h.elim))⟩
/-- A window of two, with two packets that were sent so often, last at that time, and wait so long. -/
structure Two (x : Wn) (ts at_ wt now : Nat) : Prop where
  size : x.size = 2
  last : x.last = 2
  len : x.l.length = 2
  m : x.m = 4616189618054758400
  s : x.s = 4607182418800017408
  now : x.now = now
  pks : ∀ i, i < 2 → (pk x.l i).seq = i + 1 ∧ (pk x.l i).times = ts ∧ (ts ≠ 0 → (pk x.l i).att = at_ ∧ (pk x.l i).wt = wt)
theorem wait8 : waitN 4616189618054758400 4607182418800017408 = 8 := by decide +kernel
theorem Two.due {x : Wn} {ts at_ wt now t : Nat} (h : Two x ts at_ wt now) (ht : now ≤ t) (hd : ts = 0 ∨ at_ + wt ≤ t) : dueI (atW x t) = [0, 1] ∧ seqL (atW x t) [0, 1] = [1, 2] ∧ Two (dueW (atW x t)) (ts + 1) t (wk 8 (ts + 1)) t := by
  have h0 := h.pks 0 (by omega)
  have h1 := h.pks 1 (by omega)
  have hl : (atW x t).l = x.l := rfl
  have hn : (atW x t).now = t := by show max x.now t = t; rw [h.now]; omega
  have d : ∀ i, i < 2 → dueB (pk x.l i) t = true := fun i hi => by
    have := h.pks i hi
    unfold dueB dueA
    rw [this.2.1]
    by_cases h0 : ts = 0
    · rw [if_pos h0]; simp
    · rw [if_neg h0, (this.2.2 h0).1, (this.2.2 h0).2]; simp; omega
  have e : dueI (atW x t) = [0, 1] := by
    unfold dueI
    rw [hl, hn, h.len]
    show (List.range 2).filter _ = _
    simp [List.range_succ, d 0, d 1]
  refine ⟨e, ?_, ?_⟩
  · unfold seqL
    rw [hl]
    simp [h0.1, h1.1]
  · refine ⟨h.size, h.last, by show (stL (atW x t) _).length = 2; rw [stL_len]; exact h.len, h.m, h.s, hn, fun i hi => ?_⟩
    have q := h.pks i hi
    show (pk (stL (atW x t) (dueI (atW x t))) i).seq = i + 1 ∧ (pk (stL (atW x t) (dueI (atW x t))) i).times = ts + 1 ∧ (ts + 1 ≠ 0 → (pk (stL (atW x t) (dueI (atW x t))) i).att = t ∧ (pk (stL (atW x t) (dueI (atW x t))) i).wt = wk 8 (ts + 1))
    have q2 := stL_at (x := atW x t) (pre := dueI (atW x t)) (i := i) (by rw [hl, h.len]; exact hi)
    rw [e, if_pos (by rcases (show i = 0 ∨ i = 1 by omega) with rfl | rfl <;> simp)] at q2
    rw [e, q2]
    simp only [sentP, hl]
    refine ⟨q.1, by rw [q.2.1], fun _ => ⟨hn, ?_⟩⟩
    rw [q.2.1, show (atW x t).m = x.m from rfl, show (atW x t).s = x.s from rfl, h.m, h.s, wait8]
theorem Two.not {x : Wn} {ts at_ wt now t : Nat} (h : Two x ts at_ wt now) (ht : now ≤ t) (hd : ts ≠ 0 ∧ t < at_ + wt) : dueI (atW x t) = [] ∧ Two (dueW (atW x t)) ts at_ wt t := by
  have hl : (atW x t).l = x.l := rfl
  have hn : (atW x t).now = t := by show max x.now t = t; rw [h.now]; omega
  have d : ∀ i, i < 2 → dueB (pk x.l i) t = false := fun i hi => by
    have := h.pks i hi
    unfold dueB dueA
    rw [this.2.1, if_neg hd.1, (this.2.2 hd.1).1, (this.2.2 hd.1).2]
    simp; omega
  have e : dueI (atW x t) = [] := by
    unfold dueI
    rw [hl, hn, h.len]
    show (List.range 2).filter _ = _
    simp [List.range_succ, d 0, d 1]
  refine ⟨e, ?_⟩
  have e2 : dueW (atW x t) = atW x t := by unfold dueW; rw [e, stW_nil]
  rw [e2]
  exact ⟨h.size, h.last, h.len, h.m, h.s, hn, h.pks⟩
theorem push_is {w : World} {b : Nat} {x : Wn} (h : WinC w b x) (hf : x.l.length < x.size) (hl : x.last ≤ 4611686018427387904) (a : Option Addr) (n c : Nat) (body : List Int) (hn : n = body.length) (hr : RdB w a body) (hbl : n ≤ 1000000000) (q : Int) (hq : ((x.last + 1 : Nat) : Int) = q) :
    Calls Try.prog 11 #[.pointer (some ⟨b, 0, none⟩), .slice a n c] w fun e w' => e = .returned (.tuple #[.int .i64 q, .int .i64 0]) ∧
      ∃ p V', p.seq = x.last + 1 ∧ p.body = body ∧ p.times = 0 ∧ WinC w' b { x with last := x.last + 1, V := V', l := x.l ++ [p] } ∧ (∀ k, Mine b { x with last := x.last + 1, V := V', l := x.l ++ [p] } k → Mine b x k ∨ w.heap.size ≤ k) ∧ Kp (Mine b x) w w' := hq ▸ push_ok h hf hl a n c body hn hr hbl
theorem wdue_is {w : World} {b : Nat} {x : Wn} (h : WinC w b x) (now : Nat) (q : Int) (hq : (now : Int) = q) (ht : now ≤ 2147483647) (hts : ∀ i, i < x.l.length → (pk x.l i).times ≤ 4611686018427387900) (want : List Nat) (hw : seqL (atW x now) (dueI (atW x now)) = want) (a : Option Addr) (n c : Nat) (hn : n = want.length) (hr : Rd w a (ints want)) (hoff : Off (Mine b x) a) :
    Calls Try.prog 20 #[.pointer (some ⟨b, 0, none⟩), .int .i64 q, .slice a n c] w fun e w' => e = .returned (.bool true) ∧ WinC w' b (dueW (atW x now)) ∧ Kp (Mine b x) w w' := hq ▸ wdue_any h now ht hts want hw a n c hn hr hoff
theorem wnew_is (s : Nat) (q : Int) (hq : (s : Int) = q) (w : World) (hs : 1 ≤ s ∧ s ≤ 64) :
    Calls Try.prog 10 #[.int .i64 q] w fun e w' => e = .returned (.tuple #[.pointer (some ⟨w.heap.size, 0, none⟩), .int .i64 0]) ∧ WinC w' w.heap.size (wnew s) ∧ Kp (fun _ => False) w w' := hq ▸ wnew_ok s w hs
theorem mine_new {w : World} {s k : Nat} (h : Mine w.heap.size (wnew s) k) : w.heap.size ≤ k := by
  rcases h with h | h | ⟨i, hi, _⟩
  · omega
  · cases h
  · cases hi
set_option maxHeartbeats 1000000 in
theorem two_any (w : World) : Calls Try.prog 19 #[] w fun e w' => ∃ g x, e = .returned (.pointer (some ⟨g, 0, none⟩)) ∧ WinC w' g x ∧ Two x 0 0 0 0 ∧ (∀ k, Mine g x k → w.heap.size ≤ k) ∧ Kp (fun _ => False) w w' := by
  have CN := Lib.hid (wnew_is 2 2 rfl w (by omega))
  have kc := fun (w : World) (C : Array Value) (n c : Nat) => kc_any w C n c
  go_enter Try.func19, Try.ntmps19
  go_wp2_with fail
  go_at_call 10
  refine CN.out.mono ?_
  rintro e w1 ⟨rfl, hW1, k1⟩
  obtain ⟨g, hg⟩ : ∃ g, g = w.heap.size := ⟨_, rfl⟩
  have hM1 : ∀ k, Mine g (wnew 2) k → w.heap.size ≤ k := fun k hk => mine_new (by rwa [hg] at hk)
  rw [← hg] at hW1 ⊢
  obtain ⟨m1, hm1⟩ : ∃ m, m = w1.alloc (.cells #[.int .u8 97] 5 (1, 2)) := ⟨_, rfl⟩
  have km1 : Kp (fun _ => False) w1 m1 := by rw [hm1]; exact (Kp.refl _ w1).alloc _
  have rm1 : RdB m1 (some ⟨w1.heap.size, 0, none⟩) [97] := by rw [hm1]; exact rdb_mark w1 [97] (by intro z hz; simp at hz; omega) (by simp) _ _
  have CP1 := Lib.hid (push_is (hW1.kp0 km1) (by show 0 < 2; omega) (by show 0 ≤ _; omega) (some ⟨w1.heap.size, 0, none⟩) 1 1 [97] rfl rm1 (by omega) 1 rfl)
  rw [hm1] at CP1
  have H1 := Lib.hid (And.intro hM1 (And.intro k1 (And.intro km1 hg)))
  clear CN hW1 k1 hM1 km1 rm1 hm1 hg
  go_wp2_with fail
  go_at_call 11
  refine CP1.out.mono ?_
  rintro e w2 ⟨rfl, p1, V1, hs1, hb1, ht1, hW2, hM2, k2⟩
  have kk2 : Kp (fun _ => False) w w2 := ((H1.out.2.1.alloc _).then k2 (fun i hi e => by have := H1.out.1 i e; omega))
  have hM2' : ∀ k, Mine g { wnew 2 with last := 1, V := V1, l := [p1] } k → w.heap.size ≤ k := fun k hk => by
    rcases hM2 k hk with e | e
    · exact H1.out.1 k e
    · have := H1.out.2.1.size; rw [World.size_alloc] at e; omega
  obtain ⟨x2, hx2⟩ : ∃ x2 : Wn, x2 = { wnew 2 with last := 1, V := V1, l := [p1] } := ⟨_, rfl⟩
  have hW2 : WinC w2 g x2 := by rw [hx2]; exact hW2
  rw [← hx2] at hM2'
  have hl2 : x2.l.length = 1 ∧ x2.size = 2 ∧ x2.last = 1 := by rw [hx2]; exact ⟨rfl, rfl, rfl⟩
  obtain ⟨m2, hm2⟩ : ∃ m, m = w2.alloc (.cells #[.int .u8 98] 5 (1, 2)) := ⟨_, rfl⟩
  have km2 : Kp (fun _ => False) w2 m2 := by rw [hm2]; exact (Kp.refl _ w2).alloc _
  have rm2 : RdB m2 (some ⟨w2.heap.size, 0, none⟩) [98] := by rw [hm2]; exact rdb_mark w2 [98] (by intro z hz; simp at hz; omega) (by simp) _ _
  have CP2 := Lib.hid (push_is (hW2.kp0 km2) (by omega) (by omega) (some ⟨w2.heap.size, 0, none⟩) 1 1 [98] rfl rm2 (by omega) 2 (by rw [hl2.2.2]; rfl))
  rw [hm2] at CP2
  have H2 := Lib.hid (And.intro hM2' (And.intro kk2 (And.intro km2 (And.intro hx2 (And.intro hl2 (And.intro hs1 ht1))))))
  clear hW2 hM2 hM2' k2 kk2 km2 rm2 hm2 hx2 hl2 CP1 hs1 hb1 ht1
  go_wp2_with fail
  go_at_call 11
  refine CP2.out.mono ?_
  rintro e w3 ⟨rfl, p2, V2, hs2, hb2, ht2, hW3, hM3, k3⟩
  have kk3 : Kp (fun _ => False) w w3 := ((H2.out.2.1.alloc _).then k3 (fun i hi e => by have := H2.out.1 i e; omega))
  have hM3' : ∀ k, Mine g { x2 with last := x2.last + 1, V := V2, l := x2.l ++ [p2] } k → w.heap.size ≤ k := fun k hk => by
    rcases hM3 k hk with e | e
    · exact H2.out.1 k e
    · have := H2.out.2.1.size; rw [World.size_alloc] at e; omega
  obtain ⟨x3, hx3⟩ : ∃ x3 : Wn, x3 = { x2 with last := x2.last + 1, V := V2, l := x2.l ++ [p2] } := ⟨_, rfl⟩
  have hW3 : WinC w3 g x3 := by rw [hx3]; exact hW3
  rw [← hx3] at hM3'
  have h2 : Two x3 0 0 0 0 := by
    have q := H2.out.2.2.2
    have hp1 := q.2.2.1
    have e1 : x2.l = [p1] := by rw [q.1]
    have e2 : x3.l = [p1, p2] := by rw [hx3]; show x2.l ++ [p2] = _; rw [e1]; rfl
    have b1 := hW3.bd 0 (by rw [e2]; simp)
    have b2 := hW3.bd 1 (by rw [e2]; simp)
    have n3 : x3.now = 0 := by rw [hx3, q.1] <;> rfl
    have s1 := H2.out.2.2.2.2.2.1
    have t1 := H2.out.2.2.2.2.2.2
    refine ⟨by rw [hx3, q.1] <;> rfl, by rw [hx3, q.1] <;> rfl, by rw [e2] <;> rfl, by rw [hx3, q.1] <;> rfl, by rw [hx3, q.1] <;> rfl, n3, fun i hi => ?_⟩
    rw [e2]
    rcases (show i = 0 ∨ i = 1 by omega) with rfl | rfl
    · exact ⟨s1, t1, fun h => absurd rfl h⟩
    · exact ⟨by show p2.seq = 2; have e8 := q.2.1.2.2; omega, ht2, fun h => absurd rfl h⟩
  have CP3 := Lib.hid (push_full ((hW3.kp0 ((Kp.refl _ w3).alloc (.cells #[.int .u8 99] 5 (1, 2))))) (by rw [h2.len, h2.size]; omega) (some ⟨w3.heap.size, 0, none⟩) 1 1)
  have H3 := Lib.hid (And.intro hW3 (And.intro h2 (And.intro hM3' kk3)))
  clear CP2 hW3 h2 hM3' kk3 hs2 hb2 ht2 hM3 k3 hx3
  go_wp2_with fail
  go_at_call 11
  refine CP3.out.mono ?_
  rintro e w4 ⟨rfl, k, rfl⟩
  clear CP3
  go_wp2
  go_ret
  exact ⟨g, x3, rfl, (H3.out.1.kp0 ((Kp.refl _ w3).alloc _)).drewN k, H3.out.2.1, H3.out.2.2.1, (H3.out.2.2.2.alloc _).drewN k⟩
set_option maxHeartbeats 1000000 in
theorem awake_any (w : World) : Calls Try.prog 8 #[] w fun e w' => e = .returned (.bool true) ∧ Kp (fun _ => False) w w' := by
  go_enter Try.func8, Try.ntmps8
  go_wp2_with fail
  go_at_call 19
  refine (two_any _).mono ?_
  rintro e w1 ⟨g, x, rfl, hW, h2, hM, hk⟩
  obtain ⟨d1, s1, h3⟩ := h2.due (t := 10) (by omega) (.inl rfl)
  have ra1 : Rd (w1.alloc (.cells #[.int .i64 1, .int .i64 2] 3)) (some ⟨w1.heap.size, 0, none⟩) (ints [1, 2]) := Rd.new w1 (ints [1, 2]) _
  have CD1 := Lib.hid (wdue_is (hW.kp0 ((Kp.refl _ w1).alloc (.cells #[.int .i64 1, .int .i64 2] 3))) 10 10 rfl (by omega) (fun i hi => by have := (h2.pks i (by rw [h2.len] at hi; exact hi)).2.1; omega) [1, 2] (by rw [d1, s1]) (some ⟨w1.heap.size, 0, none⟩) 2 2 rfl ra1 (fun y hy e => by have e : Mine g x y.block := e; have := hW.lt e; cases hy; exact Nat.lt_irrefl _ this))
  have H1 := Lib.hid (And.intro h3 (And.intro hM (And.intro hk h2)))
  clear hW hM hk d1 s1 h3 h2 ra1
  go_wp2_with fail
  go_at_call 20
  (with_reducible refine CD1.out.mono ?_)
  rintro e w2 ⟨rfl, hW, k2⟩
  have hk : Kp (fun _ => False) w w2 := (H1.out.2.2.1.alloc _).then k2 (fun i hi e => by have := H1.out.2.1 i e; omega)
  obtain ⟨x2, hx2⟩ : ∃ x2, x2 = dueW (atW x 10) := ⟨_, rfl⟩
  have h3 := H1.out.1
  have hM : ∀ k, Mine g x2 k → w.heap.size ≤ k := fun k hk => H1.out.2.1 k (by rw [hx2] at hk; exact (st_mine g (atW x 10) _ k).1 hk)
  rw [← hx2] at hW h3
  obtain ⟨d2, h4⟩ := h3.not (t := 17) (by omega) ⟨by omega, by decide⟩
  have CD2 := Lib.hid (wdue_is hW 17 17 rfl (by omega) (fun i hi => by have := (h3.pks i (by rw [h3.len] at hi; exact hi)).2.1; omega) [] (by rw [d2]; rfl) none 0 0 rfl (fun i hi => by cases hi) (fun y hy => by cases hy))
  have H2 := Lib.hid (And.intro h4 (And.intro hM hk))
  clear hW hM hk d2 h4 h3 k2 hx2 CD1
  go_wp2_with fail
  go_at_call 20
  (with_reducible refine CD2.out.mono ?_)
  rintro e w3 ⟨rfl, hW, k3⟩
  have hk : Kp (fun _ => False) w w3 := H2.out.2.2.then k3 (fun i hi e => by have := H2.out.2.1 i e; omega)
  obtain ⟨x3, hx3⟩ : ∃ x3, x3 = dueW (atW x2 17) := ⟨_, rfl⟩
  have h3 := H2.out.1
  have hM : ∀ k, Mine g x3 k → w.heap.size ≤ k := fun k hk => H2.out.2.1 k (by rw [hx3] at hk; exact (st_mine g (atW x2 17) _ k).1 hk)
  rw [← hx3] at hW h3
  obtain ⟨d1, s1, h4⟩ := h3.due (t := 18) (by omega) (.inr (by decide))
  have ra1 : Rd (w3.alloc (.cells #[.int .i64 1, .int .i64 2] 3)) (some ⟨w3.heap.size, 0, none⟩) (ints [1, 2]) := Rd.new w3 (ints [1, 2]) _
  have CD3 := Lib.hid (wdue_is (hW.kp0 ((Kp.refl _ w3).alloc (.cells #[.int .i64 1, .int .i64 2] 3))) 18 18 rfl (by omega) (fun i hi => by have := (h3.pks i (by rw [h3.len] at hi; exact hi)).2.1; omega) [1, 2] (by rw [d1, s1]) (some ⟨w3.heap.size, 0, none⟩) 2 2 rfl ra1 (fun y hy e => by have e : Mine g x3 y.block := e; have := hW.lt e; cases hy; exact Nat.lt_irrefl _ this))
  have H3 := Lib.hid (And.intro hM hk)
  clear hW hM hk d1 s1 h3 h4 ra1 k3 hx3 CD2
  go_wp2_with fail
  go_at_call 20
  (with_reducible refine CD3.out.mono ?_)
  rintro e w4 ⟨rfl, hW, k4⟩
  have HK := Lib.hid (show Kp (fun _ => False) w w4 from (H3.out.2.alloc _).then k4 (fun i hi e => by have := H3.out.1 i e; omega))
  clear hW k4 CD3
  go_wp2_with fail
  go_ret
  exact ⟨rfl, HK.out⟩
end Go.Proofs.Ytnapokdipelmiaa
