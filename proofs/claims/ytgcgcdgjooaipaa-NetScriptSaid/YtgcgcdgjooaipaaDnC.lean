/- The document's net: Swap, Turn. (Written by wip/refnet4.py.) -/
import Derived.Test.YtgcgcdgjooaipaaDnB
namespace Go.Proofs.Ytgcgcdgjooaipaa
open Go.RowKit Go.Maps
set_option linter.unusedVariables false
set_option linter.unusedSimpArgs false
section
variable {w w' : World} {db : Nat} {L O : Value} {ds ds' : List Nd} {os : List (Int × Int)} {lost : Int}
theorem DN.list (h : DN w db L O ds os lost) (hl : DgL 0 w' L ds') (k : Kp (fun j => L.ownBlock = some j) w w') (hof : ∀ b, DgL.Of L ds' b → DgL.Of L ds b ∨ ¬ DMine db L O ds b) : DN w' db L O ds' os lost :=
  ⟨k.at h.hat (fun e => h.dl (.inl e)), hl, h.o.kp k (fun g hg e => h.ol g hg (.inl e)), fun hf => by
    rcases hof db hf with h1 | h1
    · exact h.dl h1
    · exact h1 (.inl rfl), h.dO, fun b hb hf => by
    rcases hof b hf with h1 | h1
    · exact h.ol b hb h1
    · exact h1 (.inr (.inl hb))⟩
theorem dswap_no (h : DN w db L O ds os lost) (i k : Int) (hi : ¬ (0 ≤ i ∧ i < ds.length) ∨ ¬ (0 ≤ k ∧ k < ds.length)) :
    Calls Try.prog 44 #[.pointer (some ⟨db, 0, none⟩), .int .i64 i, .int .i64 k] w fun e w' => e = .returned (.int .i64 6) ∧ w = w' := by
  obtain ⟨aL, cL, hL, hcL, _, c0⟩ := h.lf
  have CT := Lib.hid (dthere_any db ds.length cL aL i w c0)
  have CT2 := Lib.hid (dthere_any db ds.length cL aL k w c0)
  by_cases h1 : 0 ≤ i ∧ i < ds.length
  · have h2 : ¬ (0 ≤ k ∧ k < ds.length) := by rcases hi with h | h; (exact absurd h1 h); exact h
    rw [decide_eq_true h1] at CT
    rw [decide_eq_false h2] at CT2
    clear h hi hL c0 h1 h2
    go_enter Try.func44, Try.ntmps44
    go_wp2_with (first | (go_at_call 50; (with_reducible refine CT.out.mono ?_); rintro e w' ⟨rfl, rfl⟩) | (go_at_call 50; (with_reducible refine CT2.out.mono ?_); rintro e w' ⟨rfl, rfl⟩))
    go_ret
    exact ⟨rfl, rfl⟩
  · rw [decide_eq_false h1] at CT
    clear h hi hL c0 h1 CT2
    go_enter Try.func44, Try.ntmps44
    go_wp2_with (go_at_call 50; (with_reducible refine CT.out.mono ?_); rintro e w' ⟨rfl, rfl⟩)
    go_ret
    exact ⟨rfl, rfl⟩
set_option maxHeartbeats 1000000 in
set_option maxRecDepth 20000 in
theorem dswap_ok (h : DN w db L O ds os lost) (i k : Nat) (hi : i < ds.length) (hk : k < ds.length) (hds : ds.length ≤ 2000) :
    Calls Try.prog 44 #[.pointer (some ⟨db, 0, none⟩), .int .i64 i, .int .i64 k] w fun e w' => e = .returned (.int .i64 0) ∧ DN w' db L O (swp ds i k) os lost ∧ Kp (DMine db L O ds) w w' := by
  obtain ⟨aL, cL, hL, hcL, _, c0⟩ := h.lf
  subst hL
  obtain ⟨lb, ai, ci, rfl, hBi, e0, e1, e2, _⟩ := h.elem hi
  obtain ⟨lb', ak, ck, hlb, hBk, g0, g1, g2, _⟩ := h.elem hk
  simp only [Option.some.injEq, Addr.mk.injEq, and_true] at hlb
  obtain rfl := hlb
  have CT := Lib.hid (dthere_any db ds.length cL (some ⟨lb, 0, none⟩) i w c0)
  have CT2 := Lib.hid (dthere_any db ds.length cL (some ⟨lb, 0, none⟩) k w c0)
  rw [decide_eq_true (show (0 : Int) ≤ i ∧ (i : Int) < ds.length by omega)] at CT
  rw [decide_eq_true (show (0 : Int) ≤ k ∧ (k : Int) < ds.length by omega)] at CT2
  have hlt := h.hat.lt
  have hlbl : lb < w.heap.size := h.lt (.inr (.inr (.inl rfl)))
  have ned : ¬ lb = db := fun e => h.dl (.inl (by rw [e]; rfl))
  obtain ⟨nL, hnL⟩ : ∃ nL, nL = ds.length := ⟨_, rfl⟩
  have b1 : (i : Int) < (nL : Int) := by omega
  have b2 : (k : Int) < (nL : Int) := by omega
  have H := Lib.hid (And.intro h (And.intro hi (And.intro hk (And.intro hBi hBk))))
  rw [← hnL] at c0 hcL
  have HL := Lib.hid hnL
  obtain ⟨fri, hfri⟩ : ∃ x, x = (nd ds i).fr := ⟨_, rfl⟩
  obtain ⟨toi, htoi⟩ : ∃ x, x = (nd ds i).to := ⟨_, rfl⟩
  obtain ⟨mi, hmi⟩ : ∃ x, x = (nd ds i).l.length := ⟨_, rfl⟩
  obtain ⟨frk, hfrk⟩ : ∃ x, x = (nd ds k).fr := ⟨_, rfl⟩
  obtain ⟨tok, htok⟩ : ∃ x, x = (nd ds k).to := ⟨_, rfl⟩
  obtain ⟨mk, hmk⟩ : ∃ x, x = (nd ds k).l.length := ⟨_, rfl⟩
  rw [← hfri] at e0
  rw [← htoi] at e1
  rw [← hmi] at e2
  rw [← hfrk] at g0
  rw [← htok] at g1
  rw [← hmk] at g2
  have HE := Lib.hid (And.intro hfri (And.intro htoi (And.intro hmi (And.intro hfrk (And.intro htok hmk)))))
  clear h hi hk hBi hBk hnL hfri htoi hmi hfrk htok hmk
  go_enter Try.func44, Try.ntmps44
  go_upto_region 4 with (first | (go_at_call 50; (with_reducible refine CT.out.mono ?_); rintro e w' ⟨rfl, rfl⟩) | (go_at_call 50; (with_reducible refine CT2.out.mono ?_); rintro e w' ⟨rfl, rfl⟩))
  refine wp_world (fun wx => At wx w.heap.size (dgC fri toi (.slice ai mi ci)) ∧ Kp (fun _ => False) w wx) ⟨At.new w (dgC fri toi (.slice ai mi ci)) 28, (Kp.refl _ w).alloc _⟩ ?_
  rintro w3 ⟨hb3, k3⟩
  have h3 := H.out.1.kp0 k3
  have h3d := h3.kp0 ((Kp.refl _ w3).drew)
  obtain ⟨g, c, w1, eL, hf1, hw1, hf2, hcs, hd, k1, k2⟩ := h3d.l.swap H.out.2.1 H.out.2.2.1
  simp only [Value.slice.injEq, Option.some.injEq, Addr.mk.injEq, and_true] at eL
  obtain ⟨rfl, hx1, rfl⟩ := eL
  clear hx1
  have x0 := k3.cell c0 (fun h => h)
  have y0 := k3.cell g0 (fun h => h)
  have y1 := k3.cell g1 (fun h => h)
  have y2 := k3.cell g2 (fun h => h)
  have z0 : w3.frozen? ⟨lb, i * 3, none⟩ = false := hf1 (i * 3)
  have z1 : w3.frozen? ⟨lb, i * 3 + 1, none⟩ = false := hf1 (i * 3 + 1)
  have z2 : w3.frozen? ⟨lb, i * 3 + 2, none⟩ = false := hf1 (i * 3 + 2)
  rw [H.out.2.2.2.2, ← HE.out.2.2.2.1, ← HE.out.2.2.2.2.1, ← HE.out.2.2.2.2.2] at hw1
  rw [H.out.2.2.2.1, ← HE.out.1, ← HE.out.2.1, ← HE.out.2.2.1] at hd k2
  have HW := Lib.hid (And.intro hw1 (And.intro hf2 (And.intro hd (And.intro k1 (And.intro k2 (And.intro h3d (And.intro k3 hcs)))))))
  have HB3 := Lib.hid hb3
  have q0 := k3.cell e0 (fun h => h)
  have q1 := k3.cell e1 (fun h => h)
  have q2 := k3.cell e2 (fun h => h)
  clear hf1 hw1 hf2 hd hcs k1 k2 h3d h3 k3 hb3 c0 g0 g1 g2 e0 e1 e2
  go_still_tail 12, (by kernel_rfl)
  change wpList _ _ _ _ _ w3.drew
  go_upto_region 5 with fail
  rw [show (((w3.setCell ⟨lb, i * 3, none⟩ (.int .i64 frk)).setCell ⟨lb, i * 3 + 1, none⟩ (.int .i64 tok)).setCell ⟨lb, i * 3 + 2, none⟩ (.slice ak mk ck)).drew = w1 from HW.out.1.symm]
  have kw := HW.out.2.2.2.1
  have v0 : w1.cell? ⟨db, 0, none⟩ = some (.slice (some ⟨lb, 0, none⟩) nL cL) := kw.cell (p := ⟨db, 0, none⟩) x0 (fun e => ned e.symm)
  have hbw := kw.at (HB3.out.drew) (fun e => by omega)
  have t0 : w1.cell? ⟨w.heap.size, 0, none⟩ = some (.int .i64 fri) := (hbw.cell 0).trans rfl
  have t1 : w1.cell? ⟨w.heap.size, 1, none⟩ = some (.int .i64 toi) := (hbw.cell 1).trans rfl
  have t2 : w1.cell? ⟨w.heap.size, 2, none⟩ = some (.slice ai mi ci) := (hbw.cell 2).trans rfl
  have z0 := HW.out.2.1 (k * 3)
  have z1 := HW.out.2.1 (k * 3 + 1)
  have z2 := HW.out.2.1 (k * 3 + 2)
  obtain ⟨r0, s0⟩ := HW.out.2.2.2.2.2.2.2 (k * 3) (by have := H.out.2.2.1; omega)
  obtain ⟨r1, s1⟩ := HW.out.2.2.2.2.2.2.2 (k * 3 + 1) (by have := H.out.2.2.1; omega)
  obtain ⟨r2, s2⟩ := HW.out.2.2.2.2.2.2.2 (k * 3 + 2) (by have := H.out.2.2.1; omega)
  have KW := Lib.hid kw
  clear kw hbw x0 y0 y1 y2 q0 q1 q2
  go_still_tail 6, (by kernel_rfl)
  change wpList _ _ _ _ _ w1.drew
  go_wp2_with fail
  go_ret
  have k12 := (HW.out.2.2.2.1.trans HW.out.2.2.2.2.1)
  exact ⟨rfl, ((HW.out.2.2.2.2.2.1.list HW.out.2.2.1 (k12.mono (fun j _ e => by rw [e]; rfl)) (fun b hb => .inl (of_swap H.out.2.1 H.out.2.2.1 hb))).kp0 ((Kp.refl _ _).drew)),
    (((HW.out.2.2.2.2.2.2.1.mono (fun _ _ h => h.elim)).drew.trans (k12.mono (S' := DMine db (.slice (some ⟨lb, 0, none⟩) ds.length cL) O ds) (fun j _ e => .inr (.inr (.inl (by rw [e]; rfl)))))).drew)⟩
set_option maxHeartbeats 1000000 in
set_option maxRecDepth 20000 in
theorem dturn_no (h : DN w db L O ds os lost) (i bit : Int) (hi : ¬ (0 ≤ i ∧ i < ds.length)) :
    Calls Try.prog 43 #[.pointer (some ⟨db, 0, none⟩), .int .i64 i, .int .i64 bit] w fun e w' => e = .returned (.int .i64 6) ∧ w = w' := by
  obtain ⟨aL, cL, hL, hcL, _, c0⟩ := h.lf
  have CT := Lib.hid (dthere_any db ds.length cL aL i w c0)
  rw [decide_eq_false hi] at CT
  clear h hi hL c0
  go_enter Try.func43, Try.ntmps43
  go_wp2_with (go_at_call 50; (with_reducible refine CT.out.mono ?_); rintro e w' ⟨rfl, rfl⟩)
  go_ret
  exact ⟨rfl, rfl⟩
set_option maxHeartbeats 1000000 in
set_option maxRecDepth 20000 in
theorem dturn_range (h : DN w db L O ds os lost) (i : Nat) (bit : Int) (hi : i < ds.length) (hw : -9223372036854775808 ≤ bit ∧ bit ≤ 9223372036854775807) (hl : (nd ds i).l.length ≤ 1000000) (hb : bit < 0 ∨ 8 * ((nd ds i).l.length : Int) ≤ bit) :
    Calls Try.prog 43 #[.pointer (some ⟨db, 0, none⟩), .int .i64 i, .int .i64 bit] w fun e w' => e = .returned (.int .i64 5) ∧ w = w' := by
  obtain ⟨aL, cL, hL, hcL, _, c0⟩ := h.lf
  subst hL
  obtain ⟨lb, ai, ci, rfl, hBi, e0, e1, e2, hrb, _⟩ := h.elem hi
  have CT := Lib.hid (dthere_any db ds.length cL (some ⟨lb, 0, none⟩) i w c0)
  rw [decide_eq_true (show (0 : Int) ≤ i ∧ (i : Int) < ds.length by omega)] at CT
  obtain ⟨nL, hnL⟩ : ∃ nL, nL = ds.length := ⟨_, rfl⟩
  have b1 : (i : Int) < (nL : Int) := by omega
  rw [← hnL] at c0 hcL
  obtain ⟨fri, hfri⟩ : ∃ x, x = (nd ds i).fr := ⟨_, rfl⟩
  obtain ⟨toi, htoi⟩ : ∃ x, x = (nd ds i).to := ⟨_, rfl⟩
  obtain ⟨l, hli⟩ : ∃ x, x = (nd ds i).l := ⟨_, rfl⟩
  obtain ⟨m, hm⟩ : ∃ m, m = l.length := ⟨_, rfl⟩
  rw [← hfri] at e0
  rw [← htoi] at e1
  rw [← hli] at e2 hrb hl hb
  rw [← hm] at e2 hl hb
  clear h hi hBi hrb hfri htoi hli hm hnL
  by_cases hn : bit < 0
  · clear hb
    go_enter Try.func43, Try.ntmps43
    go_wp2_with (go_at_call 50; (with_reducible refine CT.out.mono ?_); rintro e w' ⟨rfl, rfl⟩)
    go_ret
    exact ⟨rfl, rfl⟩
  · have b2 : 8 * (m : Int) ≤ bit := by rcases hb with h | h; (exact absurd h hn); exact h
    clear hb
    go_enter Try.func43, Try.ntmps43
    go_wp2_with (go_at_call 50; (with_reducible refine CT.out.mono ?_); rintro e w' ⟨rfl, rfl⟩)
    go_ret
    exact ⟨rfl, rfl⟩
set_option maxHeartbeats 1000000 in
set_option maxRecDepth 20000 in
theorem dturn_yes (h : DN w db L O ds os lost) (i bit : Nat) (hi : i < ds.length) (hds : ds.length ≤ 2000) (hl : (nd ds i).l.length ≤ 1000000) (hb : bit < 8 * (nd ds i).l.length) :
    Calls Try.prog 43 #[.pointer (some ⟨db, 0, none⟩), .int .i64 i, .int .i64 bit] w fun e w' => e = .returned (.int .i64 0) ∧ ∃ d, DN w' db L O (ds.set i d) os lost ∧ d.fr = (nd ds i).fr ∧ d.to = (nd ds i).to ∧ d.l = turnB (nd ds i).l bit ∧ DStp db L O ds w L O (ds.set i d) w' := by
  obtain ⟨aL, cL, hL, hcL, _, c0⟩ := h.lf
  subst hL
  obtain ⟨lb, ai, ci, rfl, hBi, e0, e1, e2, hrb, _⟩ := h.elem hi
  have CT := Lib.hid (dthere_any db ds.length cL (some ⟨lb, 0, none⟩) i w c0)
  rw [decide_eq_true (show (0 : Int) ≤ i ∧ (i : Int) < ds.length by omega)] at CT
  obtain ⟨nL, hnL⟩ : ∃ nL, nL = ds.length := ⟨_, rfl⟩
  have b1 : (i : Int) < (nL : Int) := by omega
  rw [← hnL] at c0 hcL
  obtain ⟨fri, hfri⟩ : ∃ x, x = (nd ds i).fr := ⟨_, rfl⟩
  obtain ⟨toi, htoi⟩ : ∃ x, x = (nd ds i).to := ⟨_, rfl⟩
  obtain ⟨l, hli⟩ : ∃ x, x = (nd ds i).l := ⟨_, rfl⟩
  obtain ⟨m, hm⟩ : ∃ m, m = l.length := ⟨_, rfl⟩
  rw [← hfri] at e0
  rw [← htoi] at e1
  rw [← hli] at e2 hrb hl hb
  rw [← hm] at e2 hl hb
  obtain ⟨q, hq⟩ : ∃ q, q = bit / 8 := ⟨_, rfl⟩
  obtain ⟨r, hr⟩ : ∃ r, r = bit % 8 := ⟨_, rfl⟩
  have hql : q < l.length := by omega
  have hbd := hrb.bd.getD q
  obtain ⟨x, hx⟩ : ∃ x, x = l.getD q 0 := ⟨_, rfl⟩
  rw [← hx] at hbd
  have hfl := flip_bd (k := r) hbd (by omega)
  have b0 : ¬ (bit : Int) < 0 := by omega
  have b2 : ¬ 8 * (m : Int) ≤ (bit : Int) := by omega
  have f1 : (bit : Int) / 8 = (q : Int) := by omega
  have f2 : (bit : Int).tdiv 8 = (q : Int) := by rw [Int.tdiv_eq_ediv_of_nonneg (by omega)]; exact f1
  have f3 : (bit : Int).tmod 8 = (r : Int) := by rw [Int.tmod_eq_emod_of_nonneg (by omega)]; omega
  have f4 : IntKind.i64.wrap (q : Int) = (q : Int) := IntWalk.i64_in _ (by omega)
  have f5 : IntKind.i64.wrap (r : Int) = (r : Int) := IntWalk.i64_in _ (by omega)
  have b3 : ¬ (m : Int) ≤ (q : Int) := by omega
  have b4 : (q : Int) < (m : Int) := by omega
  have b5 : (r : Int) ≤ 8 := by omega
  have hfd : bits .xor .u8 x (IntKind.u8.wrap (2 ^ r)) = flipB x r := rfl
  have HF := Lib.hid hfd
  have HE := Lib.hid (And.intro f2 (And.intro f3 (And.intro f4 (And.intro f5 b5))))
  have CO := Lib.hid (fun w' (k : Kp (fun _ => False) w w') => down_any fri toi ai m ci l hm w' (hrb.kp0 k (fun _ _ h => h)) hl)
  have ned : ¬ lb = db := fun e => h.dl (.inl (by rw [e]; rfl))
  have hlbl : lb < w.heap.size := h.lt (.inr (.inr (.inl rfl)))
  have H := Lib.hid (And.intro h (And.intro hi (And.intro hfri (And.intro htoi (And.intro hli (And.intro hm (And.intro hnL (And.intro hql (And.intro hx hfl)))))))))
  have HQ := Lib.hid (And.intro hq (And.intro hr hds))
  clear h hi hBi hrb hfri htoi hli hm hnL hb hql hbd hx hfl hfd f2 f3 f4 f5 b5 f1 hq hr hds
  go_enter Try.func43, Try.ntmps43
  go_upto_region 6 with (first | (go_at_call 50; (with_reducible refine CT.out.mono ?_); rintro e w' ⟨rfl, rfl⟩) | (go_at_call 51; (with_reducible refine (CO.out _ (Kp.refl _ w)).mono ?_); rintro e w5 ⟨A5, C5, rfl, o5, g5, k5⟩; have H5 := Lib.hid (And.intro o5 (And.intro g5 k5)); clear o5 g5 k5))
  refine wp_world (fun wx => At wx w5.heap.size (dgC fri toi (.slice A5 m C5)) ∧ Kp (fun _ => False) w5 wx) ⟨At.new w5 (dgC fri toi (.slice A5 m C5)) 28, (Kp.refl _ w5).alloc _⟩ ?_
  rintro w6 ⟨hb6, k6⟩
  have o6 := (H5.out.1.kp k6 (fun _ _ h => h)).kp ((Kp.refl (fun _ => False) w6).drew) (fun _ _ h => h)
  obtain ⟨g5, c5, eA, hmc, cx, fx, o7, k7⟩ := o6.setB (q := q) (x := flipB x r) H.out.2.2.2.2.2.2.2.1 ⟨H.out.2.2.2.2.2.2.2.2.2.1, H.out.2.2.2.2.2.2.2.2.2.2.1⟩
  simp only [Value.slice.injEq] at eA
  obtain ⟨rfl, hx1, rfl⟩ := eA
  clear hx1
  rw [← H.out.2.2.2.2.2.2.2.2.1] at cx
  have cx : w6.cell? ⟨g5, q, none⟩ = some (.int .u8 x) := cx
  have fx : w6.frozen? ⟨g5, q, none⟩ = false := fx
  have y0 : w6.cell? ⟨w5.heap.size, 2, none⟩ = some (.slice (some ⟨g5, 0, none⟩) m C5) := (hb6.cell 2).trans rfl
  have hg5 := H5.out.2.1 g5 rfl
  have hg5' := H5.out.1.lt g5 rfl
  obtain ⟨w7, hw7⟩ : ∃ w7, w7 = w6.drew.setCell ⟨g5, q, none⟩ (.int .u8 (flipB x r)) := ⟨_, rfl⟩
  rw [← hw7] at o7 k7
  have k67 : Kp (· = g5) w6 w7 := ((Kp.refl (· = g5) w6).drew).trans (k7.mono (fun j _ e => by simp only [Value.ownBlock, Option.some.injEq] at e; exact e.symm))
  have k06 := H5.out.2.2.trans k6
  have hb7 := k67.at hb6 (fun e => by omega)
  have hs0 := H5.out.2.2.size
  have h7 := (H.out.1.kp0 k06).kp k67 (fun b hb e => by have := H.out.1.lt hb; omega)
  obtain ⟨g8, c8, eL, hf8, hd8, k8⟩ := h7.l.put H.out.2.1 ⟨0, fri, toi, .slice (some ⟨g5, 0, none⟩) m C5, l.set q (flipB x r)⟩ o7 (fun b hb hf => by
    simp only [Value.ownBlock, Option.some.injEq] at hb
    have := H.out.1.lt (.inr (.inr hf)); omega)
  simp only [Value.slice.injEq, Option.some.injEq, Addr.mk.injEq, and_true] at eL
  obtain ⟨rfl, hx1, rfl⟩ := eL
  clear hx1
  have v0 : w7.cell? ⟨db, 0, none⟩ = some (.slice (some ⟨lb, 0, none⟩) nL cL) := k67.cell (p := ⟨db, 0, none⟩) (k06.cell c0 (fun h => h)) (fun e => by have := H.out.1.hat.lt; simp at e; omega)
  have t0 : w7.cell? ⟨w5.heap.size, 0, none⟩ = some (.int .i64 fri) := (hb7.cell 0).trans rfl
  have t1 : w7.cell? ⟨w5.heap.size, 1, none⟩ = some (.int .i64 toi) := (hb7.cell 1).trans rfl
  have t2 : w7.cell? ⟨w5.heap.size, 2, none⟩ = some (.slice (some ⟨g5, 0, none⟩) m C5) := (hb7.cell 2).trans rfl
  have q0 : w7.cell? ⟨lb, i * 3, none⟩ = some (.int .i64 fri) := k67.cell (p := ⟨lb, i * 3, none⟩) (k06.cell e0 (fun h => h)) (fun e => by simp at e; omega)
  have q1 : w7.cell? ⟨lb, i * 3 + 1, none⟩ = some (.int .i64 toi) := k67.cell (p := ⟨lb, i * 3 + 1, none⟩) (k06.cell e1 (fun h => h)) (fun e => by simp at e; omega)
  have q2 : w7.cell? ⟨lb, i * 3 + 2, none⟩ = some (.slice ai m ci) := k67.cell (p := ⟨lb, i * 3 + 2, none⟩) (k06.cell e2 (fun h => h)) (fun e => by simp at e; omega)
  have z0 := hf8 (i * 3)
  have z1 := hf8 (i * 3 + 1)
  have z2 := hf8 (i * 3 + 2)
  have HZ := Lib.hid (And.intro z0 (And.intro z1 (And.intro z2 (And.intro v0 (And.intro t0 (And.intro t1 (And.intro t2 (And.intro q0 (And.intro q1 q2)))))))))
  have HW := Lib.hid (And.intro hd8 (And.intro k8 (And.intro h7 (And.intro (k06.mono (S' := (· = g5)) (fun _ _ h => h.elim) |>.trans k67) (And.intro hg5 hw7)))))
  clear hd8 k8 h7 k67 k06 hb7 hb6 hg5 hg5' o7 k7 o6 k6 hf8 z0 z1 z2 v0 t0 t1 t2 q0 q1 q2 hw7 e0 e1 e2 c0 hs0
  obtain ⟨f2, f3, f4, f5, b5⟩ := HE.out
  have hfd := HF.out
  go_still_tail 14, (by kernel_rfl)
  change wpList _ _ _ _ _ w6.drew
  go_upto_region 7 with fail
  clear f2 f3 f4 f5 b5 hfd cx fx y0
  obtain ⟨z0, z1, z2, v0, t0, t1, t2, q0, q1, q2⟩ := HZ.out
  rw [show (w6.setCell ⟨g5, q, none⟩ (.int .u8 (flipB x r))).drew = w7 from HW.out.2.2.2.2.2.symm]
  go_still_tail 6, (by kernel_rfl)
  change wpList _ _ _ _ _ w7.drew
  go_wp2_with fail
  go_ret
  have hgg := HW.out.2.2.2.2.1
  refine ⟨rfl, _, ((HW.out.2.2.1.list HW.out.1 (HW.out.2.1.mono (fun j _ e => by rw [e]; rfl)) (fun b hb => ?_)).kp0 ((Kp.refl _ _).drew)), H.out.2.2.1, H.out.2.2.2.1, ?_, ?_, fun b hb => ?_⟩
  · rcases of_set H.out.2.1 hb with h1 | h1
    · exact .inl h1
    · simp only [Value.ownBlock, Option.some.injEq] at h1
      exact .inr (fun hm => by have := H.out.1.lt hm; omega)
  · show l.set q (flipB x r) = turnB (nd ds i).l bit
    unfold turnB
    rw [← H.out.2.2.2.2.1, ← HQ.out.1, ← HQ.out.2.1, H.out.2.2.2.2.2.2.2.2.1]
  · exact ((HW.out.2.2.2.1.mono (S' := DMine db (.slice (some ⟨lb, 0, none⟩) ds.length cL) O ds) (fun j hj e => by omega)).trans (HW.out.2.1.mono (fun j _ e => .inr (.inr (.inl (by rw [e]; rfl)))))).drew
  · rcases hb with hb | hb | hb
    · exact .inl (.inl hb)
    · exact .inl (.inr (.inl hb))
    · rcases of_set H.out.2.1 hb with h1 | h1
      · exact .inl (.inr (.inr h1))
      · simp only [Value.ownBlock, Option.some.injEq] at h1
        exact .inr (by omega)
end
end Go.Proofs.Ytgcgcdgjooaipaa
