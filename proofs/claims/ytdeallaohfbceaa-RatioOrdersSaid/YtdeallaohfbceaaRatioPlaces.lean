/- The walk of RatioPlaces: it returns true, whatever comes in. No condition. -/
import Derived.Test.YtdeallaohfbceaaSrtE
import Derived.Test.YtdeallaohfbceaaRatA
import Derived.Test.YtdeallaohfbceaaOpen
namespace Go.Proofs.Ytdeallaohfbceaa
open Go.RowKit Flt
set_option linter.unusedVariables false
/-- the first place is ahead of all others -/
theorem pickAt_first (l : List Nat) (k : Nat) : 0 < k → ∃ j, pickAt l k = (j : Nat) ∧ j < k ∧ ∀ i, i < k → i ≠ j → Rr (ltF l) j i := by
  induction k with
  | zero => intro h; omega
  | succ k ih =>
    intro _
    have hst : pickAt l (k + 1) = if pickAt l k < 0 ∨ bef (l.getD k 0) (l.getD (pickAt l k).toNat 0) = true then (k : Int) else pickAt l k := rfl
    rcases Nat.eq_zero_or_pos k with g | g
    · subst g
      refine ⟨0, ?_, by omega, fun i hi hn => by omega⟩
      rw [hst, (pickAt_bd l 0).1 rfl]
      rfl
    · obtain ⟨j, hj, hjk, hall⟩ := ih g
      rw [hst, hj, Int.toNat_natCast]
      cases hb : bef (l.getD k 0) (l.getD j 0)
      · refine ⟨j, by rw [if_neg (by simp)], by omega, fun i hi hn => ?_⟩
        by_cases hik : i = k
        · subst hik; exact .inr ⟨hb, hjk⟩
        · exact hall i (by omega) hn
      · refine ⟨k, by rw [if_pos (.inr rfl)], by omega, fun i hi hn => ?_⟩
        left
        have hw := ltF_wk l
        have hkj : ltF l k j = true := hb
        by_cases hij : i = j
        · subst hij; exact hkj
        · have h1 := (hall i (by omega) hij).not hw
          cases h2 : ltF l k i
          · have := hw.neg h2 h1
            rw [hkj] at this; cases this
          · rfl
theorem first_pick (l W : List Nat) (hW : W.Pairwise (Rr (ltF l))) (hp : W.Perm (List.range l.length)) (h0 : 0 < l.length) (x : Nat) (W' : List Nat) (e : W = x :: W') : pickAt l l.length = (x : Nat) := by
  obtain ⟨j, hj, hjl, hall⟩ := pickAt_first l l.length h0
  rw [hj]
  have hxl : x < l.length := by have := hp.mem_iff.1 (show x ∈ W by rw [e]; simp); simpa using this
  by_cases hxj : x = j
  · rw [hxj]
  · exfalso
    have h1 := hall x hxl hxj
    have hjW : j ∈ W := hp.mem_iff.2 (by simpa using hjl)
    rw [e] at hjW hW
    rcases List.mem_cons.1 hjW with g | g
    · exact hxj g.symm
    · have h2 := (List.pairwise_cons.1 hW).1 j g
      have hw := ltF_wk l
      have a1 := h1.not hw
      have a2 := h2.not hw
      rcases h1 with h | ⟨_, h⟩
      · rw [h] at a2; cases a2
      · rcases h2 with h' | ⟨_, h'⟩
        · rw [h'] at a1; cases a1
        · omega
theorem order_nil (a : Option Addr) (c : Nat) (w : World) : Calls Try.prog 24 #[.slice a 0 c] w fun e w' => e = .returned (.slice none 0 0) ∧ Kp (fun _ => False) w w' := by
  have CI : Hid (∀ w' fv, Calls Try.prog 49 #[.slice none 0 0, .int .i64 0, .int .i64 0, fv] w' fun e w'' => e = .returned (.tuple #[]) ∧ w' = w'') := fun w' fv => by
    go_enter Try.func49, Try.ntmps49
    go_wp2
    go_loopw [8] (fun i wr => i = .int .i64 1 ∧ wr = w') (fun i _ => 0)
    case atStart => exact ⟨rfl, rfl⟩
    case round =>
      obtain ⟨rfl, rfl⟩ := hrel
      go_wp2
      go_end0
      exact ⟨rfl, rfl⟩
  have CT : Hid (∀ w' fv, Calls Try.prog 47 #[.slice none 0 0, .int .i64 0, fv] w' fun e w'' => e = .returned (.tuple #[]) ∧ w' = w'') := fun w' fv => by
    go_enter Try.func47, Try.ntmps47
    go_wp2
    go_loopw [7, 8] (fun a b wr => a = .int .i64 0 ∧ b = .int .i64 20 ∧ wr = w') (fun _ _ _ => 0)
    case atStart => exact ⟨rfl, rfl, rfl⟩
    case round =>
      obtain ⟨rfl, rfl, rfl⟩ := hrel
      go_wp2_with (go_at_call 49; (with_reducible refine (CI.out _ _).mono ?_); rintro e w2 ⟨rfl, rfl⟩)
      go_loopw [6] (fun b w2 => b = .int .i64 20 ∧ w2 = wr) (fun _ _ => 0)
      case atStart => exact ⟨rfl, rfl⟩
      case round =>
        obtain ⟨rfl, rfl⟩ := hrel
        go_wp2
        go_end0
        exact ⟨rfl, rfl⟩
  have CS : Hid (∀ w' fv, Calls Try.prog 38 #[.slice none 0 0, fv] w' fun e w'' => e = .returned (.tuple #[]) ∧ w' = w'') := fun w' fv => by
    go_enter Try.func38, Try.ntmps38
    go_wp2_with (go_at_call 47; (with_reducible refine (CT.out _ _).mono ?_); rintro e w2 ⟨rfl, rfl⟩)
    go_end0
    exact ⟨rfl, rfl⟩
  have hc0 := (At.new w [.slice a 0 c] 33).cell 0
  have hf0 := (At.new w [.slice a 0 c] 33).frozen 0
  obtain ⟨w0, hw0⟩ : ∃ w0, w0 = w.alloc (.cells #[.slice a 0 c] 33) := ⟨_, rfl⟩
  have k0 : Hid (Kp (fun _ => False) w w0) := by show Kp _ _ _; rw [hw0]; exact (Kp.refl _ w).alloc _
  have HW0 := Lib.hid hw0
  clear hw0
  go_enter Try.func24, Try.ntmps24
  go_wp2
  rw [← HW0.out]
  go_loopw [3, 7] (fun v i wr => v = .slice none 0 0 ∧ i = .int .i64 0 ∧ wr = w0) (fun _ _ _ => 0)
  case atStart => exact ⟨rfl, rfl, rfl⟩
  case round =>
    obtain ⟨rfl, rfl, rfl⟩ := hrel
    go_wp2_with (go_at_call 38; (with_reducible refine (CS.out _ _).mono ?_); rintro e w2 ⟨rfl, rfl⟩)
    go_ret
    exact ⟨rfl, k0.out⟩
theorem open_floats {w : World} {a : Option Addr} {n c : Nat} (h : Rdg Try.prog w 33 [.slice a n c]) : ∃ l : List Nat, n = l.length ∧ RdF w a l ∧ (∀ x ∈ l, x < 18446744073709551616) ∧ n ≤ c ∧ c ≤ maxLen := by
  obtain ⟨a', vs, cap, e, hrd, hall, h1, h2, _⟩ := Rdg.ones Try.underlying33 (by kernel_rfl) h
  simp only [List.cons.injEq, Value.slice.injEq, and_true] at e
  obtain ⟨rfl, rfl, rfl⟩ := e
  have hfl : ∀ v ∈ vs, ∃ x : Nat, v = .float .f64 x ∧ x < 18446744073709551616 := fun v hv => by
    obtain ⟨x, e, hx⟩ := Rdg.float Try.underlying22 (hall v hv)
    exact ⟨x, by simpa using e, by simpa [Lit.wf] using hx⟩
  obtain ⟨l, hl, hp⟩ := list_of (α := Nat) vs.length (fun i x => vs.getD i undef = .float .f64 x ∧ x < 18446744073709551616) (fun i hi => by
    have := hfl (vs.getD i undef) (by rw [List.getD_eq_getElem?_getD, List.getElem?_eq_getElem hi]; exact List.getElem_mem hi)
    exact this)
  refine ⟨l, hl.symm, fun i hi => ?_, fun x hx => ?_, h1, h2⟩
  · obtain ⟨b, off, e1, e2⟩ := hrd i (by omega)
    exact ⟨b, off, e1, by rw [e2, (hp i (by omega) 0).1]⟩
  · obtain ⟨i, hi, rfl⟩ := List.getElem_of_mem hx
    have := (hp i (by omega) 0).2
    rwa [List.getD_eq_getElem?_getD, List.getElem?_eq_getElem hi] at this
theorem elem_bool : Elem Try.prog 4 (.bool false) 1 1 := Elem.mk' (by kernel_rfl) rfl (by omega) (by simp [Value.cells, Value.oneCell'])
def hads (n : Nat) (P : List Nat) : List Value := (List.range n).map fun x => Value.bool (decide (x ∈ P))
theorem hads_set {n x : Nat} {P : List Nat} (hx : x < n) : (hads n P).set x (.bool true) = hads n (P ++ [x]) := by
  apply List.ext_getElem?
  intro i
  rw [List.getElem?_set]
  unfold hads
  by_cases hi : i < n
  · by_cases hxi : x = i
    · subst hxi; simp [hi]
    · have : (i ∈ P ++ [x]) = (i ∈ P) := by simp; intro h; exact absurd h.symm hxi
      simp [hi, hxi]
      intro h; exact absurd h.symm hxi
  · have : ¬ x = i := by omega
    simp [hi, this]
theorem hads_get {n x : Nat} {P : List Nat} (hx : x < n) (h : x ∉ P) : (hads n P)[x]? = some (.bool false) := by
  unfold hads
  simp [hx, h]
theorem places_zero (a : Option Addr) (c : Nat) (w : World) :
    Calls Try.prog 8 #[.slice a 0 c] w fun e w' => e = .returned (.bool true) ∧ Below w.heap.size w w' := by
  have CA := Lib.hid (fun w' => awake_any w')
  have CO := Lib.hid (fun w' => order_nil a c w')
  have CP := fun w' n => Calls.quiet_of_same (n := n) (Calls.turn (pick_any a c [] (World.drewN w' n) (fun i hi => by simp at hi) (by decide)))
  simp only [List.length_nil] at CP
  go_enter Try.func8, Try.ntmps8
  go_upto_region 5 with (first | (go_at_call 10; refine (CA.out _).mono ?_; rintro e w1 ⟨rfl, k1⟩; have K1 := Lib.hid k1; clear k1) | (go_at_call 24; (with_reducible refine (CO.out _).mono ?_); rintro e w2 ⟨rfl, k2⟩; have K2 := Lib.hid (K1.out.trans k2); clear k2))
  go_quiet ((go_at_call 21; with_reducible exact CP _ _))
  have K3 := Lib.hid (K2.out.drewN nq)
  generalize World.drewN _ nq = w5 at *
  obtain ⟨w6, hr6, hat6, k6⟩ := run_make_at (P := Try.prog) w5 Try.underlying39 elem_bool .i64 .i64 0 0 0 rfl rfl (by omega) (by unfold maxLen; omega)
  have K6 := Lib.hid (K3.out.trans k6)
  clear k6 hat6
  go_wp2
  go_loopw [6] (fun i wr => i = .int .i64 0 ∧ wr = w6) (fun _ _ => 0)
  case atStart => exact ⟨rfl, rfl⟩
  case round =>
    obtain ⟨rfl, rfl⟩ := hrel
    go_wp2
    go_ret
    exact ⟨rfl, K6.out.below (fun _ _ h => h)⟩
theorem places_long (a : Option Addr) (n c : Nat) (w : World) (h : 200 < n) :
    Calls Try.prog 8 #[.slice a n c] w fun e w' => e = .returned (.bool true) ∧ Below w.heap.size w w' := by
  have CA := Lib.hid (fun w' => awake_any w')
  have i1 : (200 : Int) < (n : Int) := by omega
  go_enter Try.func8, Try.ntmps8
  go_wp2_with (go_at_call 10; refine (CA.out _).mono ?_; rintro e w1 ⟨rfl, k1⟩; have K1 := Lib.hid k1; clear k1)
  go_ret
  exact ⟨rfl, K1.out.below (fun _ _ h => h)⟩
set_option maxRecDepth 20000 in
set_option maxHeartbeats 1000000 in
theorem places_main (a : Option Addr) (c : Nat) (l : List Nat) (w : World) (hr : RdF w a l) (h0 : 0 < l.length) (hl : l.length ≤ 200) :
    Calls Try.prog 8 #[.slice a l.length c] w fun e w' => e = .returned (.bool true) ∧ Below w.heap.size w w' := by
  have CA := Lib.hid (fun w' => awake_any w')
  have HR := Lib.hid hr
  have CO := Lib.hid (fun w' (k : Kp (fun _ => False) w w') => order_pos a c l w' (hr.kp0 k (fun _ _ h => h)) h0 (by omega))
  have CP := fun w' (hr' : RdF w' a l) n => Calls.quiet_of_same (n := n) (Calls.turn (pick_any a c l (World.drewN w' n) hr' (by omega)))
  have HCP := Lib.hid CP
  have hL : ∃ n, n = l.length := ⟨_, rfl⟩
  obtain ⟨n, hn⟩ := hL
  have HN := Lib.hid hn
  rw [← hn] at CO HCP h0 hl ⊢
  have i1 : ¬ (200 : Int) < (n : Int) := by omega
  have i2 : (0 : Int) < (n : Int) := by omega
  have i3 : ¬ (n : Int) = 0 := by omega
  have i4 : ((n : Int) == 0) = false := by simpa using i3
  have i5 : ¬ n = 0 := by omega
  clear hr CP hn
  go_enter Try.func8, Try.ntmps8
  go_upto_region 5 with (first | (go_at_call 10; refine (CA.out _).mono ?_; rintro e w1 ⟨rfl, k1⟩; have K1 := Lib.hid k1; clear k1) | (go_at_call 24; (with_reducible refine (CO.out _ K1.out).mono ?_); rintro e w2 ⟨v, W, rfl, p1, p2, hv, hvg, k2⟩; obtain ⟨va, vc, rfl, _, _⟩ := hv.form; have K2 := Lib.hid (And.intro (K1.out.trans k2) (And.intro p1 (And.intro p2 (And.intro hv hvg)))); clear k2 p1 p2 hv hvg))
  have hWn : W.length = n := by rw [K2.out.2.2.1.length_eq, List.length_range]
  obtain ⟨x0, W', hW0⟩ : ∃ x0 W', W = x0 :: W' := by
    cases W with
    | nil => simp at hWn; omega
    | cons x0 W' => exact ⟨x0, W', rfl⟩
  have hpk := first_pick l W K2.out.2.1 (by rw [← HN.out]; exact K2.out.2.2.1) (by rw [← HN.out]; exact h0) x0 W' hW0
  rw [← HN.out] at hpk
  rw [hpk] at HCP
  have CPX := HCP.out w2 (HR.out.kp0 K2.out.1 (fun _ _ h => h))
  -- the places, where they lie
  obtain ⟨g, cap, sp, hve, hat, hsp, hcap, hcm⟩ : ∃ g cap sp, Value.slice va n vc = .slice (some ⟨g, 0, none⟩) n cap ∧ At w2 g (nums W ++ sp) ∧ sp.length = (cap - n) * 1 ∧ n ≤ cap ∧ cap ≤ maxLen := by
    rcases K2.out.2.2.2.1.2 with ⟨_, h⟩ | h
    · omega
    · exact h
  simp only [Value.slice.injEq, true_and] at hve
  obtain ⟨rfl, rfl⟩ := hve
  have c0 : w2.cell? ⟨g, 0, none⟩ = some (.int .i64 (x0 : Int)) := by rw [hat.cell, hW0]; rfl
  have HAT := Lib.hid hat
  clear hat hsp hcap hcm hpk
  go_quiet ((go_at_call 21; with_reducible exact CPX _))
  have h5 := HAT.out.drewN nq
  have k5 := K2.out.1.drewN nq
  clear c0 CPX
  generalize World.drewN _ nq = w5 at *
  obtain ⟨w6, hr6, hat6, k6⟩ := run_make_at (P := Try.prog) w5 Try.underlying39 elem_bool .i64 .i64 n n n rfl rfl (by omega) (by unfold maxLen; omega)
  rw [zeros_one _ rfl] at hat6
  have hz : (List.replicate n (Value.bool false)) = hads n [] := by
    apply List.ext_getElem?
    intro i
    unfold hads
    by_cases hi : i < n
    · simp [hi]
    · simp [hi]
  rw [hz] at hat6
  have hgH : g < w5.heap.size := h5.lt
  obtain ⟨H, hH⟩ : ∃ H, H = w5.heap.size := ⟨_, rfl⟩
  rw [← hH] at hr6 hat6 hgH
  have hwH : w.heap.size ≤ H := by rw [hH]; exact k5.size
  have HX := Lib.hid (And.intro (k6.at h5 (fun h => h)) (And.intro (k5.trans k6) (And.intro hat6 (And.intro hgH hwH))))
  have HP := Lib.hid (And.intro K2.out.2.1 (And.intro K2.out.2.2.1 hWn))
  clear h5 k5 hat6 k6 hz hgH hwH hH hW0 HAT HCP CO CA hWn
  go_wp2
  go_loopw [6] (fun i wr => ∃ k : Nat, k ≤ n ∧ i = .int .i64 (k : Nat) ∧ At wr H (hads n (W.take k)) ∧ Kp (· = H) w6 wr) (fun i _ => n - (intOf i).toNat)
  case atStart => exact ⟨0, by omega, rfl, HX.out.2.2.1, Kp.refl _ _⟩
  case round =>
    obtain ⟨k, hkn, rfl, hath, hk⟩ := hrel
    obtain ⟨ho, hkw, _, hgH, hwH⟩ := HX.out
    obtain ⟨hs, hp, hWn⟩ := HP.out
    have hkw2 : Kp (fun _ => False) w wr := hkw.then hk (fun i hi e => by omega)
    by_cases hlt : k < n
    · have hkW : k < W.length := by omega
      obtain ⟨x, hx⟩ : ∃ x, x = W[k] := ⟨_, rfl⟩
      have hxn : x < n := by
        have : x ∈ List.range n := hp.mem_iff.1 (by rw [hx]; exact List.getElem_mem hkW)
        simpa using this
      have eW : W.drop k = x :: W.drop (k + 1) := by rw [hx]; exact List.drop_eq_getElem_cons hkW
      have tW : W.take (k + 1) = W.take k ++ [x] := by rw [hx]; exact List.take_succ_eq_append_getElem hkW
      have hall := hs
      rw [show W = W.take k ++ x :: W.drop (k + 1) by rw [← eW, List.take_append_drop]] at hall
      obtain ⟨s1, s2, s3⟩ := List.pairwise_append.1 hall
      have hxo : x ∉ W.take k := fun hm => by
        have h1 := s3 x hm x (by simp)
        have hw := ltF_wk l
        rcases h1 with h | ⟨_, h⟩
        · rw [hw.irr] at h; cases h
        · omega
      have ho' := hk.at ho (by omega)
      have co : wr.cell? ⟨g, k, none⟩ = some (.int .i64 (x : Int)) := by
        rw [ho'.cell, nums_get W sp k hkW, ← hx]
      have ch : wr.cell? ⟨H, x, none⟩ = some (.bool false) := by rw [hath.cell, hads_get hxn hxo]
      have hfh := fun i => hath.frozen i
      have i6 : (k : Int) < (n : Int) := by omega
      have i7 : (x : Int) < (n : Int) := by omega
      have i8 : ¬ (n : Int) ≤ (x : Int) := by omega
      have hset := hath.set x (.bool true)
      rw [hads_set hxn, ← tW] at hset
      have hko := hk.setCell (p := ⟨H, x, none⟩) (fun _ => rfl) (.bool true)
      have HS := Lib.hid (And.intro hset hko)
      have hne : ¬ g = H := by omega
      have hne2 : ¬ H = g := by omega
      -- the floats of both
      have hr' := HR.out.kp0 (hkw.then hko (fun i hi e => by omega)) (fun _ _ h => h)
      obtain ⟨b, off, rfl, cx⟩ := hr' x (by rw [← HN.out]; exact hxn)
      have co' : (wr.setCell ⟨H, x, none⟩ (.bool true)).cell? ⟨g, k, none⟩ = some (.int .i64 (x : Int)) := by
        rw [(hko.at ho (by omega)).cell, nums_get W sp k hkW, ← hx]
      rcases Nat.eq_zero_or_pos k with hk0 | hk0
      · subst hk0
        clear hath hk hkw ho ho' hs hp hWn s1 s2 s3 hall eW tW hxo hset hko hr' hkW hx hkw2
        go_upto_region 14 with fail
        go_quiet (fail)
        go_wp2
        go_roundw
        case rel => exact ⟨1, by omega, rfl, HS.out.1.drewN _, HS.out.2.drewN _⟩
        case measure => simp [intOf]; omega
      · obtain ⟨k', rfl⟩ : ∃ k', k = k' + 1 := ⟨k - 1, by omega⟩
        have hkW' : k' < W.length := by omega
        obtain ⟨y, hy⟩ : ∃ y, y = W[k'] := ⟨_, rfl⟩
        have hyT : y ∈ W.take (k' + 1) := by rw [List.take_succ_eq_append_getElem hkW', ← hy]; simp
        have hyn : y < n := by
          have : y ∈ List.range n := hp.mem_iff.1 (List.mem_of_mem_take hyT)
          simpa using this
        have hR := s3 y hyT x (by simp)
        obtain ⟨b', off', e', ct⟩ := hr' y (by rw [← HN.out]; exact hyn)
        simp only [Option.some.injEq, Addr.mk.injEq, and_true] at e'
        obtain ⟨rfl, rfl⟩ := e'
        have coy : (wr.setCell ⟨H, x, none⟩ (.bool true)).cell? ⟨g, k', none⟩ = some (.int .i64 (y : Int)) := by
          rw [(hko.at ho (by omega)).cell, nums_get W sp k' hkW', ← hy]
        have f1 : bef (l.getD x 0) (l.getD y 0) = false := hR.not (ltF_wk l)
        have f2 : bef (l.getD y 0) (l.getD x 0) = true ∨ (bef (l.getD y 0) (l.getD x 0) = false ∧ y < x) := by
          cases h : bef (l.getD y 0) (l.getD x 0)
          · right
            rcases hR with h' | ⟨_, h'⟩
            · have : bef (l.getD y 0) (l.getD x 0) = true := h'
              rw [h] at this; cases this
            · exact ⟨rfl, h'⟩
          · exact .inl rfl
        generalize l.getD x 0 = u at *
        generalize l.getD y 0 = t at *
        have C1 := fun w' nn => Calls.quiet_of_same (n := nn) (Calls.turn (before_any u t (World.drewN w' nn)))
        have C2 := fun w' nn => Calls.quiet_of_same (n := nn) (Calls.turn (before_any t u (World.drewN w' nn)))
        rw [f1] at C1
        have i9 : (y : Int) < (n : Int) := by omega
        have i10 : (k' : Int) < (n : Int) := by omega
        have i11 : (k' : Int) + 1 < (n : Int) := by omega
        have i12 : (0 : Int) < (k' : Int) + 1 := by omega
        clear hath hk hkw ho ho' hs hp hWn s1 s2 s3 hall eW tW hxo hset hko hr' hkW hx hkw2 hk0 hyT hR hy hkW' f1
        rcases f2 with f2 | ⟨f2, hyx⟩
        · rw [f2] at C2
          clear f2
          go_upto_region 14 with fail
          generalize World.setCell wr _ _ = w7 at *
          go_quiet (first | (go_at_call 11; with_reducible exact C1 _ _) | (go_at_call 11; with_reducible exact C2 _ _))
          go_wp2
          go_roundw
          case rel => exact ⟨k' + 1 + 1, by omega, by go_num, HS.out.1.drewN _, HS.out.2.drewN _⟩
          case measure => simp [intOf]; omega
        · rw [f2] at C2
          have i13 : ¬ (x : Int) < (y : Int) := by omega
          clear f2
          go_upto_region 14 with fail
          generalize World.setCell wr _ _ = w7 at *
          go_quiet (first | (go_at_call 11; with_reducible exact C1 _ _) | (go_at_call 11; with_reducible exact C2 _ _))
          go_wp2
          go_roundw
          case rel => exact ⟨k' + 1 + 1, by omega, by go_num, HS.out.1.drewN _, HS.out.2.drewN _⟩
          case measure => simp [intOf]; omega
    · obtain rfl : k = n := by omega
      have HK := Lib.hid hkw2
      clear hath hk hkw ho hs hp hWn hkw2
      go_wp2
      go_ret
      exact ⟨rfl, HK.out.below (fun _ _ h => h)⟩
theorem ratioPlaces_walk (a0 : Option Addr) (len0 cap0 : Nat) (w : World) (r0 : Rdg Try.prog w 33 [.slice a0 len0 cap0]) :
    Calls Try.prog 8 #[.slice a0 len0 cap0] w fun e w' => e = .returned (.bool true) ∧ Below w.heap.size w w' := by
  obtain ⟨l, rfl, hr, _, _, _⟩ := open_floats r0
  by_cases h1 : 200 < l.length
  · exact places_long a0 l.length cap0 w h1
  · rcases Nat.eq_zero_or_pos l.length with h | h
    · rw [h]; exact places_zero a0 cap0 w
    · exact places_main a0 cap0 l w hr h (by omega)
end Go.Proofs.Ytdeallaohfbceaa
