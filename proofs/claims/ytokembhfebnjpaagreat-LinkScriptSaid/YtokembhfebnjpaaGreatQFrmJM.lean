/- The document's frames: Read past the sum, up to the frame. (Written by wip/freadgen3.py.) -/
import Derived.Test.YtokembhfebnjpaaGreatQRegG
import Derived.Test.YtokembhfebnjpaaGreatQGrdRM
import Derived.Test.YtokembhfebnjpaaGreatQFrmPM
import Derived.Test.YtokembhfebnjpaaGreatQFrmDM
namespace Go.Proofs.YtokembhfebnjpaaGreat
set_option maxRecDepth 20000
open Go.RowKit
set_option linter.unusedVariables false
set_option linter.unusedSimpArgs false
theorem rnum_at {w : World} {b off : Nat} {x : List Int} {m : Nat} (hm : m = x.length) (h : RdB w (some ⟨b, off, none⟩) x) (i : Nat) (hi : i + 4 ≤ m) (cap : Nat) :
 Calls Tryz.prog 63 #[.slice (some ⟨b, off + i, none⟩) (m - i) cap] w fun e w' => e = .returned (.int .i64 ((num ((x.drop i).take 4) : Nat) : Int)) ∧ ∃ k, w' = w.drewN k := by
 have e : ((x.drop i).take (m - i)) = x.drop i := List.take_of_length_le (by rw [List.length_drop, hm]; omega)
 have h1 := h.slice i (m - i)
 rw [e] at h1
 have := rnumber_any (some ⟨b, off + i, none⟩) cap (x.drop i) w h1 (by rw [List.length_drop]; omega)
 rwa [List.length_drop, ← hm] at this
theorem At.newB {w : World} {k : Nat} {t : TypeId} (h : w.heap.size = k) : At (w.alloc (.cells #[] t)) k [] := by subst h; exact At.new w [] t
theorem At.newZ {w : World} {k : Nat} {t : TypeId} (h : w.heap.size = k) : At (w.alloc (.cells #[.int .i64 0, .int .i64 0, .int .i64 0, .int .i64 0, .int .i64 0, .slice none 0 0] t)) k [.int .i64 0, .int .i64 0, .int .i64 0, .int .i64 0, .int .i64 0, .slice none 0 0] := by subst h; exact At.new w [.int .i64 0, .int .i64 0, .int .i64 0, .int .i64 0, .int .i64 0, .slice none 0 0] t
theorem step_append_own {P : Program} {ops : Array Oper} {d : Option Tmp} {ty : TypeId} {ps : String} {af : Array Edge} {gd : Option (Nat × Bool)} {a : Act} {K : Act → World → Prop} {Q : Exit → Act → World → Prop} {E : Prop} {s x : Operand} {t tx e e' : TypeId} {w : World} {b2 n c : Nat} {A : Option Addr} {m : List Int}
 (ht : P.underlying t = some (.slice e)) (he : Elem P e (.int .u8 0) 1 1) (hk : P.underlying tx = some (.slice e')) (hgd : Region.wanted { dst := d, op := .call { callee := .builtin .append, args := #[s, x], argTypes := #[t, tx] }, type := ty, pos := ps, after := af, guard := gd } (yielded ops a.tmps) = true)
 (hs : a.eval s = .slice (some ⟨b2, 0, none⟩) 0 0) (hx : a.eval x = .slice A n c) (hn : m.length = n) (hO : At w b2 []) (hr : RdB w A m) (hb : n ≤ 1000000)
 (h : ∀ A' c' w', OwnB w' (.slice A' n c') m → Kp (fun k => b2 = k) w w' → (∀ g, (Value.slice A' n c').ownBlock = some g → g = b2 ∨ g = w.heap.size) → K (a.put d (.slice A' n c')) w') : if Region.wanted { dst := d, op := .call { callee := .builtin .append, args := #[s, x], argTypes := #[t, tx] }, type := ty, pos := ps, after := af, guard := gd } (yielded ops a.tmps) = true then Oper.wp P { dst := d, op := .call { callee := .builtin .append, args := #[s, x], argTypes := #[t, tx] }, type := ty, pos := ps, after := af, guard := gd } a w K Q else E := by
 subst hn
 have hown : OwnB w (.slice (some ⟨b2, 0, none⟩) 0 0) [] :=
  ⟨⟨by simp, .inr ⟨b2, 0, [], rfl, by simpa using hO, by simp, by simp, by unfold maxLen; omega⟩⟩, fun g hg => ⟨_, by simp [Value.ownBlock] at hg; subst hg; exact hO, fun u hu => by simp at hu⟩, fun x hx => by simp at hx, by simp⟩
 obtain ⟨v', w', h1, h2, h3, h4⟩ := run_append_b (P := P) (ty := ty) w ht he hk hown (c := c) hr (by simp; omega)
 rw [List.nil_append] at h2
 obtain ⟨A', c', e1, _, _⟩ := h2.form
 subst e1
 refine step_append_run (P := P) w h1 hgd rfl hs hx (h A' c' w' h2 (h3.mono (fun _ _ e => by simpa [Value.ownBlock] using e)) (fun g hg => ?_))
 rcases h4 with e | e
 · rw [e] at hg; left; simpa [Value.ownBlock, eq_comm] using hg
 · rw [e] at hg; right; simpa [eq_comm] using hg
theorem wp_append_own {P : Program} {ops : Array Oper} {d : Option Tmp} {ty : TypeId} {ps : String} {af : Array Edge} {a : Act} {K : Act → World → Prop} {Q : Exit → Act → World → Prop} {s x : Operand} {t tx : TypeId} {e e' : TypeId} {w : World} {b2 n c : Nat} {A : Option Addr} {m : List Int}
 (ht : P.underlying t = some (.slice e)) (he : Elem P e (.int .u8 0) 1 1) (hk : P.underlying tx = some (.slice e')) (hgd : Region.wanted { dst := d, op := .call { callee := .builtin .append, args := #[s, x], argTypes := #[t, tx] }, type := ty, pos := ps, after := af, guard := none } (yielded ops a.tmps) = true)
 (hs : a.eval s = .slice (some ⟨b2, 0, none⟩) 0 0) (hx : a.eval x = .slice A n c) (hn : m.length = n) (hO : At w b2 []) (hr : RdB w A m) (hb : n ≤ 1000000)
 (h : ∀ A' c' w', OwnB w' (.slice A' n c') m → Kp (fun k => b2 = k) w w' → (∀ g, (Value.slice A' n c').ownBlock = some g → g = b2 ∨ g = w.heap.size) → K (a.put d (.slice A' n c')) w') : Oper.wp P { dst := d, op := .call { callee := .builtin .append, args := #[s, x], argTypes := #[t, tx] }, type := ty, pos := ps, after := af, guard := none } a w K Q := by
 have := step_append_own (P := P) (ops := ops) (d := d) (ty := ty) (ps := ps) (af := af) (gd := none) (a := a) (K := K) (Q := Q) (E := True) ht he hk hgd hs hx hn hO hr hb h
 rwa [if_pos hgd] at this
theorem OwnB.six {w : World} {g n : Nat} {a : Option Addr} {c : Nat} {l : List Int} (h : OwnB w (.slice a n c) l) (hne : (Value.slice a n c).ownBlock ≠ some g) (k : Nat) (v0 v1 v2 v3 v4 v5 : Value) :
 OwnB (((((((w.drewN k).setCell ⟨g, 0, none⟩ v0).setCell ⟨g, 1, none⟩ v1).setCell ⟨g, 2, none⟩ v2).setCell ⟨g, 3, none⟩ v3).setCell ⟨g, 4, none⟩ v4).setCell ⟨g, 5, none⟩ v5) (.slice a n c) l :=
 h.kp (S := fun i => i = g) ((((((((Kp.refl (fun i => i = g) w).drewN k).setCell (fun _ => rfl) _).setCell (fun _ => rfl) _).setCell (fun _ => rfl) _).setCell (fun _ => rfl) _).setCell (fun _ => rfl) _).setCell (fun _ => rfl) _) (fun y hy e => hne (e ▸ hy))
theorem num_drop2 (x : List Int) (i : Nat) (h : i + 2 ≤ x.length) : num ((x.drop i).take 2) = (x.getD i 0).toNat * 256 + (x.getD (i + 1) 0).toNat := by
 have e0 : (x.drop i).getD 0 0 = x.getD i 0 := by simp [List.getD_eq_getElem?_getD]
 have e1 : (x.drop i).getD 1 0 = x.getD (i + 1) 0 := by simp [List.getD_eq_getElem?_getD]
 have hl : 2 ≤ (x.drop i).length := by rw [List.length_drop]; omega
 rw [← e0, ← e1]
 generalize x.drop i = y at *
 obtain _ | ⟨c0, _ | ⟨c1, y⟩⟩ := y <;> simp at hl
 simp [num]
theorem errX_1 {x : List Int} (h : x.getD 0 0 ≠ 83) : errX x = 211 := by unfold errX; rw [if_pos (Or.inl h)]
theorem errX_1b {x : List Int} (h : x.getD 1 0 ≠ 75) : errX x = 211 := by unfold errX; rw [if_pos (Or.inr h)]
theorem errX_2 {x : List Int} (h4 : x.getD 0 0 = 83) (h5 : x.getD 1 0 = 75) (h6 : x.getD 2 0 ≠ 1) : errX x = 212 := by
 unfold errX; rw [if_neg (by rintro (h | h); exact h h4; exact h h5), if_pos h6]
theorem errX_3 {x : List Int} (h4 : x.getD 0 0 = 83) (h5 : x.getD 1 0 = 75) (h6 : x.getD 2 0 = 1) (h7 : ¬ typedP (x.getD 3 0)) : errX x = 213 := by
 unfold errX; rw [if_neg (by rintro (h | h); exact h h4; exact h h5), if_neg (fun h => h h6), if_pos (show ¬ typedP (parse x).ty from h7)]
set_option maxHeartbeats 0 in
set_option maxRecDepth 20000 in
theorem rread_rest (a : Option Addr) (cap : Nat) (l : List Int) (w : World) (h : RdB w a l) (hcap : l.length ≤ cap) (hcm : cap ≤ maxLen) (h1 : ¬ (1426 : Int) < l.length) (h2 : ¬ (l.length : Int) < 26) (h3 : ck l = 0) :
 Calls Tryz.prog 50 #[.slice a l.length cap] w fun e w' => ∃ A c, e = .returned (.tuple #[.agg (frA (if errX (chk l) = 0 then parse (chk l) else zF) A c), .int .i64 (errX (chk l))]) ∧ RdB w' A (if errX (chk l) = 0 then parse (chk l) else zF).bd ∧ (∀ g, (Value.slice A 0 c).ownBlock = some g → w.heap.size ≤ g) ∧ Kp (fun _ => False) w w' := by
 have C := Lib.hid (fun w' (k : Kp (fun _ => False) w w') => rcheck a cap l w' (h.kp0 k (fun _ _ h => h)) (by omega) hcap hcm)
 rw [h3] at C
 have hxl : (chk l).length + 4 = l.length := by unfold ck at h3; unfold chk; split at h3 <;> simp_all; omega
 have hm : 22 ≤ (chk l).length := by omega
 have hm2 : (chk l).length ≤ 1422 := by omega
 clear h hcm hcap h3 hxl
 generalize chk l = x at *
 obtain ⟨m, hml⟩ : ∃ m, m = x.length := ⟨_, rfl⟩
 rw [← hml] at hm hm2
 have HML := Lib.hid hml
 have HM2 := Lib.hid hm2
 clear hml hm2
 generalize l.length = n at *
 have i3 : 3 < m := by omega
 obtain ⟨nf, hnf⟩ : ∃ nf : Nat → Nat → Nat, Hid (∀ i k, nf i k = num ((x.drop i).take k)) := ⟨_, fun _ _ => rfl⟩
 obtain ⟨FX, hFX⟩ : ∃ FX, Hid ((if errX x = 0 then parse x else zF) = FX) := ⟨_, rfl⟩
 obtain ⟨er, her⟩ : ∃ er, Hid (errX x = er) := ⟨_, rfl⟩
 rw [hFX.out, her.out]
 generalize hc3 : x.getD 3 0 = c3
 go_enter Tryz.func50, Tryz.ntmps50
 go_upto_region 8 with (first | (go_at_call 62; refine (C.out _ ((Kp.refl _ w).alloc _)).mono ?_; rintro e w1 ⟨v, rfl, hv, hg, kq⟩; obtain ⟨xa, xc, rfl, hr, hxc⟩ := hv.form; rw [← HML.out] at hxc hv hg ⊢; have hat := kq.at (At.new w [.int .i64 0, .int .i64 0, .int .i64 0, .int .i64 0, .int .i64 0, .slice none 0 0] 34) (fun h => h); obtain ⟨b, off, rfl, g0⟩ := hr.cell 0 (by have := HML.out; omega); obtain ⟨_, _, q3, g3⟩ := hr.cell 3 (by have := HML.out; omega); cases q3; rw [Nat.add_zero] at g0; have B3 := hr.bd.getD 3; rw [hc3] at g3 B3; have HA := Lib.hid (And.intro hat (And.intro (((Kp.refl (fun _ => False) w).alloc _).trans kq) (And.intro hv hg))); clear hat kq hv hg g0; have HR := Lib.hid hr; clear hr))
 have HC3 := Lib.hid hc3
 clear hc3 h1 h2
 have NQ := fun (w' : World) (kk : Kp (fun _ => False) w1 w') (i : Nat) (hi : i + 4 ≤ m) (cap : Nat) => rnum_at HML.out (HR.out.kp0 kk (fun _ _ h => h)) i hi cap
 simp only [← hnf.out] at NQ
 have HNQ := Lib.hid NQ
 clear NQ
 have n4 : ¬ xc = 4 := by omega
 have n8 : ¬ xc = 8 := by omega
 have n12 : ¬ xc = 12 := by omega
 have n16 : ¬ xc = 16 := by omega
 have y4 : 4 ≤ m := by omega
 have z4 : (4 : Int) ≤ (m : Int) := by omega
 have y8 : 8 ≤ m := by omega
 have z8 : (8 : Int) ≤ (m : Int) := by omega
 have y12 : 12 ≤ m := by omega
 have z12 : (12 : Int) ≤ (m : Int) := by omega
 have y16 : 16 ≤ m := by omega
 have z16 : (16 : Int) ≤ (m : Int) := by omega
 have z3 : (3 : Int) < (m : Int) := by omega
 have zm : (22 : Int) ≤ (m : Int) := by omega
 have ze : (m : Int) ≤ (xc : Int) := by omega
 have hw3 : IntKind.i64.wrap c3 = c3 := IntWalk.i64_in _ (by omega)
 obtain ⟨r, hr⟩ : ∃ r, r = m - 22 := ⟨_, rfl⟩
 have hrl : Hid ((x.drop 22).length = r) := by show _ = _; rw [List.length_drop, ← HML.out, hr]
 have hr6 : r ≤ 1000000 := by have := HM2.out; omega
 have hr' : m - 22 = r := hr.symm
 clear hr
 obtain ⟨A22, hA22⟩ : ∃ A : Option Addr, (if xc = 22 then some (⟨b, off, none⟩ : Addr) else some ⟨b, off + 22, none⟩) = A := ⟨_, rfl⟩
 have HRX : Hid (∀ w', Kp (fun _ => False) w1 w' → RdB w' A22 (x.drop 22)) := fun w' k => by
  have hrx := (HR.out.kp0 k (fun _ _ h => h)).mid2 (cap := xc) 22 (m - 22) (by rw [← HML.out]; omega) (by rw [← HML.out]; omega)
  rwa [hA22, List.take_of_length_le (by rw [List.length_drop, ← HML.out]; omega)] at hrx
 have hS : Hid (∀ w', Kp (fun _ => False) w1 w' → (Kp (fun _ => False) w1 w' ∧ w'.cell? ⟨b, off + 3, none⟩ = some (.int .u8 c3))) := fun w' k => ⟨k, k.cell g3 (fun h => h)⟩
 have KT : Hid (∀ (w' w3 : World) (b2 : Nat), Kp (fun _ => False) w1 w' → Kp (fun k => b2 = k) w' w3 → w1.heap.size ≤ b2 → Kp (fun _ => False) w1 w3) := fun w' w3 b2 k k3 h => k.then k3 (fun i hi e => by omega)
 go_cut [6] (fun s wx => ∃ g A c, s = .pointer (some ⟨g, 0, none⟩) ∧ w1.heap.size ≤ g ∧ At wx g [.int .i64 c3, .int .i64 (nf 4 4 : Nat), .int .i64 (nf 8 4 : Nat), .int .i64 (nf 12 4 : Nat), .int .i64 (nf 16 4 : Nat), .slice A r c] ∧ OwnB wx (.slice A r c) (x.drop 22) ∧ (∀ k, (Value.slice A r c).ownBlock = some k → w1.heap.size ≤ k) ∧ Kp (fun _ => False) w1 wx)
 case first =>
  rename_i JJ KK hJJ hKK
  refine region_G (S := fun w' => Kp (fun _ => False) w1 w' ∧ w'.cell? ⟨b, off + 3, none⟩ = some (.int .u8 c3)) rfl ?_
  have hSd : ∀ w' n, (Kp (fun _ => False) w1 w' ∧ w'.cell? ⟨b, off + 3, none⟩ = some (.int .u8 c3)) → (Kp (fun _ => False) w1 (w'.drewN n) ∧ (w'.drewN n).cell? ⟨b, off + 3, none⟩ = some (.int .u8 c3)) := fun w' n h => ⟨h.1.drewN n, h.2⟩
  have hS1 : Kp (fun _ => False) w1 w1.drew ∧ w1.drew.cell? ⟨b, off + 3, none⟩ = some (.int .u8 c3) := ⟨(Kp.refl _ w1).drew, g3⟩
  refine anyG_takeD (i := 0) (d := 23) (v := .slice (some ⟨b, off, none⟩) m xc) rfl rfl (by kernel_rfl) (by kernel_rfl) (by kernel_rfl) (fun _ _ _ h => h) hSd (.inl (.inl ⟨rfl, fun w' hS => rfl⟩)) hS1 ?_
  simp only [List.setIfInBounds_toArray, List.set_cons_succ, List.set_cons_zero]
  refine anyG_takeD (i := 1) (d := 24) (v := .pointer (some ⟨b, off + 3, none⟩)) rfl rfl (by kernel_rfl) (by kernel_rfl) (by kernel_rfl) (fun _ _ _ h => h) hSd (.inl (.inl ⟨rfl, fun w' hS => by go_simp⟩)) hS1 ?_
  simp only [List.setIfInBounds_toArray, List.set_cons_succ, List.set_cons_zero]
  refine anyG_takeD (i := 2) (d := 25) (v := .int .u8 c3) rfl rfl (by kernel_rfl) (by kernel_rfl) (by kernel_rfl) (fun _ _ _ h => h) hSd (.inl (.inl ⟨rfl, fun w' hS => by have hc := hS.2; go_simp⟩)) hS1 ?_
  simp only [List.setIfInBounds_toArray, List.set_cons_succ, List.set_cons_zero]
  refine anyG_takeD (i := 3) (d := 26) (v := .int .i64 c3) rfl rfl (by kernel_rfl) (by kernel_rfl) (by kernel_rfl) (fun _ _ _ h => h) hSd (.inl (.inl ⟨rfl, fun w' hS => by go_simp⟩)) hS1 ?_
  simp only [List.setIfInBounds_toArray, List.set_cons_succ, List.set_cons_zero]
  refine anyG_takeD (i := 4) (d := 27) (v := .slice (some ⟨b, off, none⟩) m xc) rfl rfl (by kernel_rfl) (by kernel_rfl) (by kernel_rfl) (fun _ _ _ h => h) hSd (.inl (.inl ⟨rfl, fun w' hS => rfl⟩)) hS1 ?_
  simp only [List.setIfInBounds_toArray, List.set_cons_succ, List.set_cons_zero]
  refine anyG_takeD (i := 5) (d := 28) (v := .slice (some ⟨b, off + 4, none⟩) (m - 4) (xc - 4)) rfl rfl (by kernel_rfl) (by kernel_rfl) (by kernel_rfl) (fun _ _ _ h => h) hSd (.inl (.inl ⟨rfl, fun w' hS => by go_simp⟩)) hS1 ?_
  simp only [List.setIfInBounds_toArray, List.set_cons_succ, List.set_cons_zero]
  refine anyG_takeD (i := 6) (d := 29) (v := .int .i64 (nf 4 4 : Nat)) rfl rfl (by kernel_rfl) (by kernel_rfl) (by kernel_rfl) (fun _ _ _ h => h) hSd (.inr ⟨rfl, fun w' hS => ⟨63, #[.slice (some ⟨b, off + 4, none⟩) (m - 4) (xc - 4)], by go_simp, HNQ.out w' hS.1 4 (by omega) _⟩⟩) hS1 ?_
  simp only [List.setIfInBounds_toArray, List.set_cons_succ, List.set_cons_zero]
  refine anyG_takeD (i := 7) (d := 30) (v := .slice (some ⟨b, off, none⟩) m xc) rfl rfl (by kernel_rfl) (by kernel_rfl) (by kernel_rfl) (fun _ _ _ h => h) hSd (.inl (.inl ⟨rfl, fun w' hS => rfl⟩)) hS1 ?_
  simp only [List.setIfInBounds_toArray, List.set_cons_succ, List.set_cons_zero]
  refine anyG_takeD (i := 8) (d := 31) (v := .slice (some ⟨b, off + 8, none⟩) (m - 8) (xc - 8)) rfl rfl (by kernel_rfl) (by kernel_rfl) (by kernel_rfl) (fun _ _ _ h => h) hSd (.inl (.inl ⟨rfl, fun w' hS => by go_simp⟩)) hS1 ?_
  simp only [List.setIfInBounds_toArray, List.set_cons_succ, List.set_cons_zero]
  refine anyG_takeD (i := 9) (d := 32) (v := .int .i64 (nf 8 4 : Nat)) rfl rfl (by kernel_rfl) (by kernel_rfl) (by kernel_rfl) (fun _ _ _ h => h) hSd (.inr ⟨rfl, fun w' hS => ⟨63, #[.slice (some ⟨b, off + 8, none⟩) (m - 8) (xc - 8)], by go_simp, HNQ.out w' hS.1 8 (by omega) _⟩⟩) hS1 ?_
  simp only [List.setIfInBounds_toArray, List.set_cons_succ, List.set_cons_zero]
  refine anyG_takeD (i := 10) (d := 33) (v := .slice (some ⟨b, off, none⟩) m xc) rfl rfl (by kernel_rfl) (by kernel_rfl) (by kernel_rfl) (fun _ _ _ h => h) hSd (.inl (.inl ⟨rfl, fun w' hS => rfl⟩)) hS1 ?_
  simp only [List.setIfInBounds_toArray, List.set_cons_succ, List.set_cons_zero]
  refine anyG_takeD (i := 11) (d := 34) (v := .slice (some ⟨b, off + 12, none⟩) (m - 12) (xc - 12)) rfl rfl (by kernel_rfl) (by kernel_rfl) (by kernel_rfl) (fun _ _ _ h => h) hSd (.inl (.inl ⟨rfl, fun w' hS => by go_simp⟩)) hS1 ?_
  simp only [List.setIfInBounds_toArray, List.set_cons_succ, List.set_cons_zero]
  refine anyG_takeD (i := 12) (d := 35) (v := .int .i64 (nf 12 4 : Nat)) rfl rfl (by kernel_rfl) (by kernel_rfl) (by kernel_rfl) (fun _ _ _ h => h) hSd (.inr ⟨rfl, fun w' hS => ⟨63, #[.slice (some ⟨b, off + 12, none⟩) (m - 12) (xc - 12)], by go_simp, HNQ.out w' hS.1 12 (by omega) _⟩⟩) hS1 ?_
  simp only [List.setIfInBounds_toArray, List.set_cons_succ, List.set_cons_zero]
  refine anyG_takeD (i := 13) (d := 36) (v := .slice (some ⟨b, off, none⟩) m xc) rfl rfl (by kernel_rfl) (by kernel_rfl) (by kernel_rfl) (fun _ _ _ h => h) hSd (.inl (.inl ⟨rfl, fun w' hS => rfl⟩)) hS1 ?_
  simp only [List.setIfInBounds_toArray, List.set_cons_succ, List.set_cons_zero]
  refine anyG_takeD (i := 14) (d := 37) (v := .slice (some ⟨b, off + 16, none⟩) (m - 16) (xc - 16)) rfl rfl (by kernel_rfl) (by kernel_rfl) (by kernel_rfl) (fun _ _ _ h => h) hSd (.inl (.inl ⟨rfl, fun w' hS => by go_simp⟩)) hS1 ?_
  simp only [List.setIfInBounds_toArray, List.set_cons_succ, List.set_cons_zero]
  refine anyG_takeD (i := 15) (d := 38) (v := .int .i64 (nf 16 4 : Nat)) rfl rfl (by kernel_rfl) (by kernel_rfl) (by kernel_rfl) (fun _ _ _ h => h) hSd (.inr ⟨rfl, fun w' hS => ⟨63, #[.slice (some ⟨b, off + 16, none⟩) (m - 16) (xc - 16)], by go_simp, HNQ.out w' hS.1 16 (by omega) _⟩⟩) hS1 ?_
  simp only [List.setIfInBounds_toArray, List.set_cons_succ, List.set_cons_zero]
  refine anyG_takeD (i := 17) (d := 40) (v := .slice (some ⟨b, off, none⟩) m xc) rfl rfl (by kernel_rfl) (by kernel_rfl) (by kernel_rfl) (fun _ _ _ h => h) hSd (.inl (.inl ⟨rfl, fun w' hS => rfl⟩)) hS1 ?_
  simp only [List.setIfInBounds_toArray, List.set_cons_succ, List.set_cons_zero]
  refine anyG_takeD (i := 18) (d := 41) (v := .slice A22 r (xc - 22)) rfl rfl (by kernel_rfl) (by kernel_rfl) (by kernel_rfl) (fun _ _ _ h => h) hSd (.inl (.inl ⟨rfl, fun w' hS => by go_simp⟩)) hS1 ?_
  simp only [List.setIfInBounds_toArray, List.set_cons_succ, List.set_cons_zero]
  refine anyG_all (rs := [16, 21]) (by kernel_rfl) (by simp) ?_
  intro n1 i hi
  simp only [List.mem_cons, List.not_mem_nil, or_false] at hi
  rcases hi with rfl | rfl
  · unfold wpOp
    go_simp
    refine .inl ⟨hS.out _ (by repeat (first | (with_reducible assumption) | (with_reducible exact Kp.refl _ _) | (with_reducible refine Kp.drewN ?_ _) | (with_reducible refine Kp.drew ?_) | (with_reducible refine Kp.alloc ?_ _))), ?_⟩
    refine anyG_world (J := fun w' => Kp (fun _ => False) w1 w' ∧ At w' w1.heap.size []) ⟨(by repeat (first | (with_reducible assumption) | (with_reducible exact Kp.refl _ _) | (with_reducible refine Kp.drewN ?_ _) | (with_reducible refine Kp.drew ?_) | (with_reducible refine Kp.alloc ?_ _))), At.newB rfl⟩ ?_
    intro wa1 hJwa1
    have kwa1 := hJwa1.1
    have abwa1 := hJwa1.2
    have lbwa1 : w1.heap.size ≤ w1.heap.size := Nat.le_refl _
    have lwa1 : w1.heap.size ≤ wa1.heap.size := kwa1.size
    refine anyG_all (rs := [19, 21]) (by kernel_rfl) (by simp) ?_
    intro n2 i hi
    simp only [List.mem_cons, List.not_mem_nil, or_false] at hi
    rcases hi with rfl | rfl
    · refine wpOp_ofG (o := { dst := some 42, op := .call { callee := .builtin .append, args := #[.tmp 39, .tmp 41], argTypes := #[32, 32] }, type := 32, pos := _, after := _, guard := none }) rfl rfl ?_
      refine wp_append_own (ops := #[]) (m := x.drop 22) (n := r) Tryz.underlying32 elem_u8 Tryz.underlying32 (by rfl) (by rfl) (by rfl) hrl.out (abwa1.drewN _) (HRX.out _ (by repeat (first | (with_reducible assumption) | (with_reducible exact Kp.refl _ _) | (with_reducible refine Kp.drewN ?_ _) | (with_reducible refine Kp.drew ?_) | (with_reducible refine Kp.alloc ?_ _)))) hr6 ?_
      intro A1 c1 wp1 owwp1 hkwp1 hbwp1
      have kwp1 : Kp (fun _ => False) w1 wp1 := KT.out _ _ _ (by repeat (first | (with_reducible assumption) | (with_reducible exact Kp.refl _ _) | (with_reducible refine Kp.drewN ?_ _) | (with_reducible refine Kp.drew ?_) | (with_reducible refine Kp.alloc ?_ _))) hkwp1 lbwa1
      refine ⟨hS.out _ kwp1, ?_⟩
      dsimp only [Act.put]
      simp only [List.setIfInBounds_toArray, List.set_cons_succ, List.set_cons_zero]
      refine anyG_takeD (i := 20) (d := 43) (v := .agg #[.int .i64 c3, .int .i64 (nf 4 4 : Nat), .int .i64 (nf 8 4 : Nat), .int .i64 (nf 12 4 : Nat), .int .i64 (nf 16 4 : Nat), .slice A1 r c1]) rfl rfl (by kernel_rfl) (by kernel_rfl) (by kernel_rfl) (fun _ _ _ h => h) hSd (.inl (.inl ⟨rfl, fun w' hS => by go_simp⟩)) (hS.out _ kwp1) ?_
      simp only [List.setIfInBounds_toArray, List.set_cons_succ, List.set_cons_zero]
      have lwp1 : w1.heap.size ≤ wp1.heap.size := kwp1.size
      have frwp1 : ∀ k, (Value.slice A1 r c1).ownBlock = some k → w1.heap.size ≤ k := fun k hk => by rcases hbwp1 k hk with rfl | rfl; exact lbwa1; exact lwa1
      refine anyG_all (rs := [21]) (by kernel_rfl) (by simp) ?_
      intro n3 i hi
      simp only [List.mem_cons, List.not_mem_nil, or_false] at hi
      obtain rfl := hi
      unfold wpOp
      go_simp
      refine .inl ⟨hS.out _ (by repeat (first | (with_reducible assumption) | (with_reducible exact Kp.refl _ _) | (with_reducible refine Kp.drewN ?_ _) | (with_reducible refine Kp.drew ?_) | (with_reducible refine Kp.alloc ?_ _))), ?_⟩
      refine anyG_world (J := fun w' => Kp (fun _ => False) w1 w' ∧ At w' wp1.heap.size [.int .i64 0, .int .i64 0, .int .i64 0, .int .i64 0, .int .i64 0, .slice none 0 0] ∧ OwnB w' (.slice A1 r c1) (x.drop 22)) ⟨(by repeat (first | (with_reducible assumption) | (with_reducible exact Kp.refl _ _) | (with_reducible refine Kp.drewN ?_ _) | (with_reducible refine Kp.drew ?_) | (with_reducible refine Kp.alloc ?_ _))), At.newZ rfl, (owwp1.kp (((Kp.refl (fun _ => False) _).drewN _).alloc _) (fun _ _ h => h))⟩ ?_
      intro wg1 hJwg1
      have kwg1 := hJwg1.1
      have agwg1 := hJwg1.2.1
      have owwg1 := hJwg1.2.2
      have lgwg1 : w1.heap.size ≤ wp1.heap.size := lwp1
      have lwg1 : w1.heap.size ≤ wg1.heap.size := kwg1.size
      refine anyG_all (rs := [22]) (by kernel_rfl) (by simp) ?_
      intro n4 i hi
      simp only [List.mem_cons, List.not_mem_nil, or_false] at hi
      obtain rfl := hi
      have FR1 : (Value.slice A1 r c1).ownBlock ≠ some wp1.heap.size := fun h => by have := owwp1.lt _ h; omega
      have y0 := (agwg1.cell 0).trans (show _ = some (.int .i64 0) from rfl)
      have y1 := (agwg1.cell 1).trans (show _ = some (.int .i64 0) from rfl)
      have y2 := (agwg1.cell 2).trans (show _ = some (.int .i64 0) from rfl)
      have y3 := (agwg1.cell 3).trans (show _ = some (.int .i64 0) from rfl)
      have y4 := (agwg1.cell 4).trans (show _ = some (.int .i64 0) from rfl)
      have y5 := (agwg1.cell 5).trans (show _ = some (.slice none 0 0) from rfl)
      have yf := fun i => agwg1.frozen i
      unfold wpOp
      go_simp
      have H6 := six (agwg1.drewN n4) lgwg1 (kwg1.drewN n4) (.int .i64 c3) (.int .i64 (nf 4 4 : Nat)) (.int .i64 (nf 8 4 : Nat)) (.int .i64 (nf 12 4 : Nat)) (.int .i64 (nf 16 4 : Nat)) (.slice A1 r c1)
      refine .inl ⟨hS.out _ H6.2, anyG_done (by kernel_rfl) (fun nn => ?_) _⟩
      have OW := OwnB.six owwg1 FR1 n4 (.int .i64 c3) (.int .i64 (nf 4 4 : Nat)) (.int .i64 (nf 8 4 : Nat)) (.int .i64 (nf 12 4 : Nat)) (.int .i64 (nf 16 4 : Nat)) (.slice A1 r c1)
      refine hKK _ _ (Met.intro (hJJ _ _ ?_))
      (repeat apply Exists.intro)
      refine ⟨?_, rfl⟩
      exact ⟨_, A1, c1, rfl, lgwg1, H6.1.drewN nn, OW.kp ((Kp.refl (fun _ => False) _).drewN nn) (fun _ _ h => h), frwp1, H6.2.drewN nn⟩
    · unfold wpOp
      go_simp
      refine .inl ⟨hS.out _ (by repeat (first | (with_reducible assumption) | (with_reducible exact Kp.refl _ _) | (with_reducible refine Kp.drewN ?_ _) | (with_reducible refine Kp.drew ?_) | (with_reducible refine Kp.alloc ?_ _))), ?_⟩
      refine anyG_world (J := fun w' => Kp (fun _ => False) w1 w' ∧ At w' wa1.heap.size [.int .i64 0, .int .i64 0, .int .i64 0, .int .i64 0, .int .i64 0, .slice none 0 0] ∧ At w' w1.heap.size []) ⟨(by repeat (first | (with_reducible assumption) | (with_reducible exact Kp.refl _ _) | (with_reducible refine Kp.drewN ?_ _) | (with_reducible refine Kp.drew ?_) | (with_reducible refine Kp.alloc ?_ _))), At.newZ rfl, ((abwa1.drewN _).alloc _)⟩ ?_
      intro wg2 hJwg2
      have kwg2 := hJwg2.1
      have agwg2 := hJwg2.2.1
      have abwg2 := hJwg2.2.2
      have lgwg2 : w1.heap.size ≤ wa1.heap.size := lwa1
      have lwg2 : w1.heap.size ≤ wg2.heap.size := kwg2.size
      refine anyG_all (rs := [19]) (by kernel_rfl) (by simp) ?_
      intro n3 i hi
      simp only [List.mem_cons, List.not_mem_nil, or_false] at hi
      obtain rfl := hi
      have ne2 : ¬ w1.heap.size = wa1.heap.size := fun h => by have := abwa1.lt; omega
      refine wpOp_ofG (o := { dst := some 42, op := .call { callee := .builtin .append, args := #[.tmp 39, .tmp 41], argTypes := #[32, 32] }, type := 32, pos := _, after := _, guard := none }) rfl rfl ?_
      refine wp_append_own (ops := #[]) (m := x.drop 22) (n := r) Tryz.underlying32 elem_u8 Tryz.underlying32 (by rfl) (by rfl) (by rfl) hrl.out (abwg2.drewN _) (HRX.out _ (by repeat (first | (with_reducible assumption) | (with_reducible exact Kp.refl _ _) | (with_reducible refine Kp.drewN ?_ _) | (with_reducible refine Kp.drew ?_) | (with_reducible refine Kp.alloc ?_ _)))) hr6 ?_
      intro A2 c2 wp2 owwp2 hkwp2 hbwp2
      have kwp2 : Kp (fun _ => False) w1 wp2 := KT.out _ _ _ (by repeat (first | (with_reducible assumption) | (with_reducible exact Kp.refl _ _) | (with_reducible refine Kp.drewN ?_ _) | (with_reducible refine Kp.drew ?_) | (with_reducible refine Kp.alloc ?_ _))) hkwp2 lbwa1
      refine ⟨hS.out _ kwp2, ?_⟩
      dsimp only [Act.put]
      simp only [List.setIfInBounds_toArray, List.set_cons_succ, List.set_cons_zero]
      refine anyG_takeD (i := 20) (d := 43) (v := .agg #[.int .i64 c3, .int .i64 (nf 4 4 : Nat), .int .i64 (nf 8 4 : Nat), .int .i64 (nf 12 4 : Nat), .int .i64 (nf 16 4 : Nat), .slice A2 r c2]) rfl rfl (by kernel_rfl) (by kernel_rfl) (by kernel_rfl) (fun _ _ _ h => h) hSd (.inl (.inl ⟨rfl, fun w' hS => by go_simp⟩)) (hS.out _ kwp2) ?_
      simp only [List.setIfInBounds_toArray, List.set_cons_succ, List.set_cons_zero]
      have lwp2 : w1.heap.size ≤ wp2.heap.size := kwp2.size
      have frwp2 : ∀ k, (Value.slice A2 r c2).ownBlock = some k → w1.heap.size ≤ k := fun k hk => by rcases hbwp2 k hk with rfl | rfl; exact lbwa1; exact lwg2
      have agwp2 := hkwp2.at (agwg2.drewN _) (ne2)
      refine anyG_all (rs := [22]) (by kernel_rfl) (by simp) ?_
      intro n4 i hi
      simp only [List.mem_cons, List.not_mem_nil, or_false] at hi
      obtain rfl := hi
      have FR2 : (Value.slice A2 r c2).ownBlock ≠ some wa1.heap.size := fun h => by have h1 := agwg2.lt; rcases hbwp2 _ h with h2 | h2; exact ne2 h2.symm; have : ((wg2.drewN n3).heap.size) = wg2.heap.size := rfl; omega
      have y0 := (agwp2.cell 0).trans (show _ = some (.int .i64 0) from rfl)
      have y1 := (agwp2.cell 1).trans (show _ = some (.int .i64 0) from rfl)
      have y2 := (agwp2.cell 2).trans (show _ = some (.int .i64 0) from rfl)
      have y3 := (agwp2.cell 3).trans (show _ = some (.int .i64 0) from rfl)
      have y4 := (agwp2.cell 4).trans (show _ = some (.int .i64 0) from rfl)
      have y5 := (agwp2.cell 5).trans (show _ = some (.slice none 0 0) from rfl)
      have yf := fun i => agwp2.frozen i
      unfold wpOp
      go_simp
      have H6 := six (agwp2.drewN n4) lgwg2 (kwp2.drewN n4) (.int .i64 c3) (.int .i64 (nf 4 4 : Nat)) (.int .i64 (nf 8 4 : Nat)) (.int .i64 (nf 12 4 : Nat)) (.int .i64 (nf 16 4 : Nat)) (.slice A2 r c2)
      refine .inl ⟨hS.out _ H6.2, anyG_done (by kernel_rfl) (fun nn => ?_) _⟩
      have OW := OwnB.six owwp2 FR2 n4 (.int .i64 c3) (.int .i64 (nf 4 4 : Nat)) (.int .i64 (nf 8 4 : Nat)) (.int .i64 (nf 12 4 : Nat)) (.int .i64 (nf 16 4 : Nat)) (.slice A2 r c2)
      refine hKK _ _ (Met.intro (hJJ _ _ ?_))
      (repeat apply Exists.intro)
      refine ⟨?_, rfl⟩
      exact ⟨_, A2, c2, rfl, lgwg2, H6.1.drewN nn, OW.kp ((Kp.refl (fun _ => False) _).drewN nn) (fun _ _ h => h), frwp2, H6.2.drewN nn⟩
  · unfold wpOp
    go_simp
    refine .inl ⟨hS.out _ (by repeat (first | (with_reducible assumption) | (with_reducible exact Kp.refl _ _) | (with_reducible refine Kp.drewN ?_ _) | (with_reducible refine Kp.drew ?_) | (with_reducible refine Kp.alloc ?_ _))), ?_⟩
    refine anyG_world (J := fun w' => Kp (fun _ => False) w1 w' ∧ At w' w1.heap.size [.int .i64 0, .int .i64 0, .int .i64 0, .int .i64 0, .int .i64 0, .slice none 0 0]) ⟨(by repeat (first | (with_reducible assumption) | (with_reducible exact Kp.refl _ _) | (with_reducible refine Kp.drewN ?_ _) | (with_reducible refine Kp.drew ?_) | (with_reducible refine Kp.alloc ?_ _))), At.newZ rfl⟩ ?_
    intro wg3 hJwg3
    have kwg3 := hJwg3.1
    have agwg3 := hJwg3.2
    have lgwg3 : w1.heap.size ≤ w1.heap.size := Nat.le_refl _
    have lwg3 : w1.heap.size ≤ wg3.heap.size := kwg3.size
    refine anyG_all (rs := [16]) (by kernel_rfl) (by simp) ?_
    intro n2 i hi
    simp only [List.mem_cons, List.not_mem_nil, or_false] at hi
    obtain rfl := hi
    unfold wpOp
    go_simp
    refine .inl ⟨hS.out _ (by repeat (first | (with_reducible assumption) | (with_reducible exact Kp.refl _ _) | (with_reducible refine Kp.drewN ?_ _) | (with_reducible refine Kp.drew ?_) | (with_reducible refine Kp.alloc ?_ _))), ?_⟩
    refine anyG_world (J := fun w' => Kp (fun _ => False) w1 w' ∧ At w' wg3.heap.size [] ∧ At w' w1.heap.size [.int .i64 0, .int .i64 0, .int .i64 0, .int .i64 0, .int .i64 0, .slice none 0 0]) ⟨(by repeat (first | (with_reducible assumption) | (with_reducible exact Kp.refl _ _) | (with_reducible refine Kp.drewN ?_ _) | (with_reducible refine Kp.drew ?_) | (with_reducible refine Kp.alloc ?_ _))), At.newB rfl, ((agwg3.drewN _).alloc _)⟩ ?_
    intro wa3 hJwa3
    have kwa3 := hJwa3.1
    have abwa3 := hJwa3.2.1
    have agwa3 := hJwa3.2.2
    have lbwa3 : w1.heap.size ≤ wg3.heap.size := lwg3
    have lwa3 : w1.heap.size ≤ wa3.heap.size := kwa3.size
    refine anyG_all (rs := [19]) (by kernel_rfl) (by simp) ?_
    intro n3 i hi
    simp only [List.mem_cons, List.not_mem_nil, or_false] at hi
    obtain rfl := hi
    have ne3 : ¬ wg3.heap.size = w1.heap.size := fun h => by have := agwg3.lt; omega
    refine wpOp_ofG (o := { dst := some 42, op := .call { callee := .builtin .append, args := #[.tmp 39, .tmp 41], argTypes := #[32, 32] }, type := 32, pos := _, after := _, guard := none }) rfl rfl ?_
    refine wp_append_own (ops := #[]) (m := x.drop 22) (n := r) Tryz.underlying32 elem_u8 Tryz.underlying32 (by rfl) (by rfl) (by rfl) hrl.out (abwa3.drewN _) (HRX.out _ (by repeat (first | (with_reducible assumption) | (with_reducible exact Kp.refl _ _) | (with_reducible refine Kp.drewN ?_ _) | (with_reducible refine Kp.drew ?_) | (with_reducible refine Kp.alloc ?_ _)))) hr6 ?_
    intro A5 c5 wp5 owwp5 hkwp5 hbwp5
    have kwp5 : Kp (fun _ => False) w1 wp5 := KT.out _ _ _ (by repeat (first | (with_reducible assumption) | (with_reducible exact Kp.refl _ _) | (with_reducible refine Kp.drewN ?_ _) | (with_reducible refine Kp.drew ?_) | (with_reducible refine Kp.alloc ?_ _))) hkwp5 lbwa3
    refine ⟨hS.out _ kwp5, ?_⟩
    dsimp only [Act.put]
    simp only [List.setIfInBounds_toArray, List.set_cons_succ, List.set_cons_zero]
    refine anyG_takeD (i := 20) (d := 43) (v := .agg #[.int .i64 c3, .int .i64 (nf 4 4 : Nat), .int .i64 (nf 8 4 : Nat), .int .i64 (nf 12 4 : Nat), .int .i64 (nf 16 4 : Nat), .slice A5 r c5]) rfl rfl (by kernel_rfl) (by kernel_rfl) (by kernel_rfl) (fun _ _ _ h => h) hSd (.inl (.inl ⟨rfl, fun w' hS => by go_simp⟩)) (hS.out _ kwp5) ?_
    simp only [List.setIfInBounds_toArray, List.set_cons_succ, List.set_cons_zero]
    have lwp5 : w1.heap.size ≤ wp5.heap.size := kwp5.size
    have frwp5 : ∀ k, (Value.slice A5 r c5).ownBlock = some k → w1.heap.size ≤ k := fun k hk => by rcases hbwp5 k hk with rfl | rfl; exact lbwa3; exact lwa3
    have agwp5 := hkwp5.at (agwa3.drewN _) (ne3)
    refine anyG_all (rs := [22]) (by kernel_rfl) (by simp) ?_
    intro n4 i hi
    simp only [List.mem_cons, List.not_mem_nil, or_false] at hi
    obtain rfl := hi
    have FR3 : (Value.slice A5 r c5).ownBlock ≠ some w1.heap.size := fun h => by have h1 := agwa3.lt; rcases hbwp5 _ h with h2 | h2; exact ne3 h2.symm; have : ((wa3.drewN n3).heap.size) = wa3.heap.size := rfl; omega
    have y0 := (agwp5.cell 0).trans (show _ = some (.int .i64 0) from rfl)
    have y1 := (agwp5.cell 1).trans (show _ = some (.int .i64 0) from rfl)
    have y2 := (agwp5.cell 2).trans (show _ = some (.int .i64 0) from rfl)
    have y3 := (agwp5.cell 3).trans (show _ = some (.int .i64 0) from rfl)
    have y4 := (agwp5.cell 4).trans (show _ = some (.int .i64 0) from rfl)
    have y5 := (agwp5.cell 5).trans (show _ = some (.slice none 0 0) from rfl)
    have yf := fun i => agwp5.frozen i
    unfold wpOp
    go_simp
    have H6 := six (agwp5.drewN n4) lgwg3 (kwp5.drewN n4) (.int .i64 c3) (.int .i64 (nf 4 4 : Nat)) (.int .i64 (nf 8 4 : Nat)) (.int .i64 (nf 12 4 : Nat)) (.int .i64 (nf 16 4 : Nat)) (.slice A5 r c5)
    refine .inl ⟨hS.out _ H6.2, anyG_done (by kernel_rfl) (fun nn => ?_) _⟩
    have OW := OwnB.six owwp5 FR3 n4 (.int .i64 c3) (.int .i64 (nf 4 4 : Nat)) (.int .i64 (nf 8 4 : Nat)) (.int .i64 (nf 12 4 : Nat)) (.int .i64 (nf 16 4 : Nat)) (.slice A5 r c5)
    refine hKK _ _ (Met.intro (hJJ _ _ ?_))
    (repeat apply Exists.intro)
    refine ⟨?_, rfl⟩
    exact ⟨_, A5, c5, rfl, lgwg3, H6.1.drewN nn, OW.kp ((Kp.refl (fun _ => False) _).drewN nn) (fun _ _ h => h), frwp5, H6.2.drewN nn⟩

 case rest =>
  obtain ⟨g, A, c, rfl, hgl, hatx, hown, hfr, kx⟩ := hcut
  have HW := Lib.hid (And.intro hown hfr)
  have RX := HR.out.kp0 kx (fun _ _ h => h)
  have hPX : Hid (frA (parse x) A c = #[.int .i64 c3, .int .i64 (nf 4 4 : Nat), .int .i64 (nf 8 4 : Nat), .int .i64 (nf 12 4 : Nat), .int .i64 (nf 16 4 : Nat), .slice A r c]) := by
   show _ = _
   simp only [frA, parse, hnf.out, HC3.out, hrl.out]
  obtain ⟨_, _, p0, P0⟩ := RX.cell 0 (by have := HML.out; omega)
  obtain ⟨_, _, p1, P1⟩ := RX.cell 1 (by have := HML.out; omega)
  obtain ⟨_, _, p2, P2⟩ := RX.cell 2 (by have := HML.out; omega)
  obtain ⟨_, _, p20, P20⟩ := RX.cell 20 (by have := HML.out; omega)
  obtain ⟨_, _, p21, P21⟩ := RX.cell 21 (by have := HML.out; omega)
  cases p0; cases p1; cases p2; cases p20; cases p21
  rw [Nat.add_zero] at P0
  have D20 := RX.bd.getD 20
  have D21 := RX.bd.getD 21
  have hq2 := Lib.hid (num_drop2 x 20 (by rw [← HML.out]; omega))
  have hat2 := kx.at HA.out.1 (fun h => h)
  have kw := HA.out.2.1.trans kx
  have H2 := Lib.hid (And.intro hat2 kw)
  have HX := Lib.hid (And.intro hatx kx)
  have x0 := (hat2.cell 0).trans (show _ = some (.int .i64 0) from rfl)
  have x1 := (hat2.cell 1).trans (show _ = some (.int .i64 0) from rfl)
  have x2 := (hat2.cell 2).trans (show _ = some (.int .i64 0) from rfl)
  have x3 := (hat2.cell 3).trans (show _ = some (.int .i64 0) from rfl)
  have x4 := (hat2.cell 4).trans (show _ = some (.int .i64 0) from rfl)
  have x5 := (hat2.cell 5).trans (show _ = some (.slice none 0 0) from rfl)
  have hf := fun i => hat2.frozen i
  have q0 := (hatx.cell 0).trans (show _ = some (.int .i64 c3) from rfl)
  have q1 := (hatx.cell 1).trans (show _ = some (.int .i64 (nf 4 4 : Nat)) from rfl)
  have q2 := (hatx.cell 2).trans (show _ = some (.int .i64 (nf 8 4 : Nat)) from rfl)
  have q3 := (hatx.cell 3).trans (show _ = some (.int .i64 (nf 12 4 : Nat)) from rfl)
  have q4 := (hatx.cell 4).trans (show _ = some (.int .i64 (nf 16 4 : Nat)) from rfl)
  have q5 := (hatx.cell 5).trans (show _ = some (.slice A r c) from rfl)
  have i0 : 0 < m := by omega
  have i1 : 1 < m := by omega
  have i2 : 2 < m := by omega
  have hgw : w.heap.size < w1.heap.size := HA.out.1.lt
  have HGL := Lib.hid (And.intro hgl hgw)
  clear hat2 kw kx hatx hown hfr RX n4 n8 n12 n16 y4 y8 y12 y16 z4 z8 z12 z16 z3 zm hw3 g3 hA22 hgl hgw hr'
  by_cases h4 : x.getD 0 0 = 83
  rotate_left
  · have EE := Lib.hid (errX_1 h4)
    generalize x.getD 0 0 = c0 at *
    have qq : (c0 == 83) = false := by simpa using h4
    go_wp2
    exact fr_ret rfl (six H2.out.1 (Nat.le_refl _) H2.out.2 _ _ _ _ _ _).1 rfl rfl rfl (fr_bad her.out hFX.out EE.out (by decide) (six H2.out.1 (Nat.le_refl _) H2.out.2 _ _ _ _ _ _).2)
  by_cases h5 : x.getD 1 0 = 75
  rotate_left
  · have EE := Lib.hid (errX_1b h5)
    rw [h4] at P0
    generalize x.getD 1 0 = c1 at *
    have qq : (c1 == 75) = false := by simpa using h5
    clear h4
    go_wp2
    exact fr_ret rfl (six H2.out.1 (Nat.le_refl _) H2.out.2 _ _ _ _ _ _).1 rfl rfl rfl (fr_bad her.out hFX.out EE.out (by decide) (six H2.out.1 (Nat.le_refl _) H2.out.2 _ _ _ _ _ _).2)
  by_cases h6 : x.getD 2 0 = 1
  rotate_left
  · have EE := Lib.hid (errX_2 h4 h5 h6)
    rw [h4] at P0
    rw [h5] at P1
    generalize x.getD 2 0 = c2 at *
    have qq : (c2 == 1) = false := by simpa using h6
    clear h4 h5
    go_wp2
    exact fr_ret rfl (six H2.out.1 (Nat.le_refl _) H2.out.2 _ _ _ _ _ _).1 rfl rfl rfl (fr_bad her.out hFX.out EE.out (by decide) (six H2.out.1 (Nat.le_refl _) H2.out.2 _ _ _ _ _ _).2)
  rw [h4] at P0
  rw [h5] at P1
  rw [h6] at P2
  by_cases h7 : typedP c3
  rotate_left
  · have EE := Lib.hid (errX_3 h4 h5 h6 (by rw [HC3.out]; exact h7))
    have CT := Lib.hid (fun w => (typed_any c3 w).mono (fun e w' (h : e = .returned (.bool (decide (typedP c3))) ∧ w = w') => (⟨h.1.trans (by rw [decide_eq_false h7]), h.2⟩ : e = .returned (.bool false) ∧ w = w')))
    clear h4 h5 h6 h7
    go_wp2_with (go_at_call 64; refine (CT.out _).mono ?_; rintro e w2 ⟨rfl, rfl⟩)
    exact fr_ret rfl (six H2.out.1 (Nat.le_refl _) H2.out.2 _ _ _ _ _ _).1 rfl rfl rfl (fr_bad her.out hFX.out EE.out (by decide) (six H2.out.1 (Nat.le_refl _) H2.out.2 _ _ _ _ _ _).2)
  have HER := Lib.hid (errX_4 h4 h5 h6 (by rw [HC3.out]; exact h7))
  have CT := Lib.hid (fun w => (typed_any c3 w).mono (fun e w' (h : e = .returned (.bool (decide (typedP c3))) ∧ w = w') => (⟨h.1.trans (by rw [decide_eq_true h7]), h.2⟩ : e = .returned (.bool true) ∧ w = w')))
  have h7' := Lib.hid h7
  clear h4 h5 h6 h7
  have hrg : Hid (rangeP (parse x).se (parse x).bo (parse x).sq (parse x).ac ↔ (inR (nf 4 4 : Nat) = true ∧ inR (nf 8 4 : Nat) = true ∧ inR (nf 12 4 : Nat) = true ∧ inR (nf 16 4 : Nat) = true)) := by
   show _ ↔ _
   simp only [parse, rangeP, hnf.out, inR, decide_eq_true_eq]
  have hsplit : inR (nf 4 4 : Nat) = false ∨ (inR (nf 4 4 : Nat) = true ∧ inR (nf 8 4 : Nat) = false) ∨ (inR (nf 4 4 : Nat) = true ∧ inR (nf 8 4 : Nat) = true ∧ inR (nf 12 4 : Nat) = false) ∨ (inR (nf 4 4 : Nat) = true ∧ inR (nf 8 4 : Nat) = true ∧ inR (nf 12 4 : Nat) = true ∧ inR (nf 16 4 : Nat) = false) ∨ (inR (nf 4 4 : Nat) = true ∧ inR (nf 8 4 : Nat) = true ∧ inR (nf 12 4 : Nat) = true ∧ inR (nf 16 4 : Nat) = true) := by
   cases inR (nf 4 4 : Nat) <;> cases inR (nf 8 4 : Nat) <;> cases inR (nf 12 4 : Nat) <;> cases inR (nf 16 4 : Nat) <;> simp
  rcases hsplit with h | ⟨h1, h⟩ | ⟨h1, h2, h⟩ | ⟨h1, h2, h3, h⟩ | ⟨h1, h2, h3, h4⟩
  · have EE : Hid (errX x = 5) := by show _ = _; rw [HER.out, if_pos (fun hr => by obtain ⟨v1, v2, v3, v4⟩ := hrg.out.1 hr; rw [v1] at h; cases h)]
    go_wp2_with (first | (go_at_call 64; refine (CT.out _).mono ?_; rintro e w2 ⟨rfl, rfl⟩) | (go_at_call 65; refine (within_any _ _).mono ?_; rintro e w2 ⟨rfl, rfl⟩))
    exact fr_ret rfl (six H2.out.1 (Nat.le_refl _) H2.out.2 _ _ _ _ _ _).1 rfl rfl rfl (fr_bad her.out hFX.out EE.out (by decide) (six H2.out.1 (Nat.le_refl _) H2.out.2 _ _ _ _ _ _).2)
  · have EE : Hid (errX x = 5) := by show _ = _; rw [HER.out, if_pos (fun hr => by obtain ⟨v1, v2, v3, v4⟩ := hrg.out.1 hr; rw [v2] at h; cases h)]
    go_wp2_with (first | (go_at_call 64; refine (CT.out _).mono ?_; rintro e w2 ⟨rfl, rfl⟩) | (go_at_call 65; refine (within_any _ _).mono ?_; rintro e w2 ⟨rfl, rfl⟩))
    exact fr_ret rfl (six H2.out.1 (Nat.le_refl _) H2.out.2 _ _ _ _ _ _).1 rfl rfl rfl (fr_bad her.out hFX.out EE.out (by decide) (six H2.out.1 (Nat.le_refl _) H2.out.2 _ _ _ _ _ _).2)
  · have EE : Hid (errX x = 5) := by show _ = _; rw [HER.out, if_pos (fun hr => by obtain ⟨v1, v2, v3, v4⟩ := hrg.out.1 hr; rw [v3] at h; cases h)]
    go_wp2_with (first | (go_at_call 64; refine (CT.out _).mono ?_; rintro e w2 ⟨rfl, rfl⟩) | (go_at_call 65; refine (within_any _ _).mono ?_; rintro e w2 ⟨rfl, rfl⟩))
    exact fr_ret rfl (six H2.out.1 (Nat.le_refl _) H2.out.2 _ _ _ _ _ _).1 rfl rfl rfl (fr_bad her.out hFX.out EE.out (by decide) (six H2.out.1 (Nat.le_refl _) H2.out.2 _ _ _ _ _ _).2)
  · have EE : Hid (errX x = 5) := by show _ = _; rw [HER.out, if_pos (fun hr => by obtain ⟨v1, v2, v3, v4⟩ := hrg.out.1 hr; rw [v4] at h; cases h)]
    go_wp2_with (first | (go_at_call 64; refine (CT.out _).mono ?_; rintro e w2 ⟨rfl, rfl⟩) | (go_at_call 65; refine (within_any _ _).mono ?_; rintro e w2 ⟨rfl, rfl⟩))
    exact fr_ret rfl (six H2.out.1 (Nat.le_refl _) H2.out.2 _ _ _ _ _ _).1 rfl rfl rfl (fr_bad her.out hFX.out EE.out (by decide) (six H2.out.1 (Nat.le_refl _) H2.out.2 _ _ _ _ _ _).2)
  have hin := hrg.out.2 ⟨h1, h2, h3, h4⟩
  have HIN := Lib.hid hin
  have e5 : Hid (errX x = if (num ((x.drop 20).take 2) : Int) ≠ ((x.length - 22 : Nat) : Int) then 214 else if says (parse x) = false then 2 else 0) := by show _ = _; rw [HER.out, if_neg (fun h => h hin)]
  clear hin
  generalize x.getD 20 0 = c20 at *
  generalize x.getD (20 + 1) 0 = c21 at *
  obtain ⟨c20, rfl⟩ := Int.eq_ofNat_of_zero_le D20.1
  obtain ⟨c21, rfl⟩ := Int.eq_ofNat_of_zero_le D21.1
  obtain ⟨q, hq⟩ : ∃ q, Hid (c20 * 256 + c21 = q) := ⟨_, rfl⟩
  have e1 : bits .or .i64 ((c20 : Int) * 256) (c21 : Int) = ((q : Nat) : Int) := by
   have := i64_or_sh 8 c20 c21 (by omega) (by omega) (by omega)
   rwa [show ((c20 * 2 ^ 8 : Nat) : Int) = (c20 : Int) * 256 by omega, show c20 * 2 ^ 8 + c21 = q by have := hq.out; omega] at this
  have e6 : Hid (((num ((x.drop 20).take 2) : Nat) : Int) = (q : Int)) := by show _ = _; rw [hq2.out, ← hq.out]; simp
  have e7 : Hid (((x.length - 22 : Nat) : Int) = (r : Int)) := by show _ = _; rw [← hrl.out, List.length_drop]
  have j20 : 20 < m := by omega
  have j21 : 21 < m := by omega
  have J20 : (20 : Int) < m := by omega
  have J21 : (21 : Int) < m := by omega
  by_cases h6 : q = r
  rotate_left
  · have h6' : ¬ (r : Int) = (q : Int) := by omega
    have h6a : ((r : Int) == (q : Int)) = false := by simpa using h6'
    have h6b : ((r : Int) != (q : Int)) = true := by simpa using h6'
    have e8 : Hid (errX x = 214) := by show _ = _; rw [e5.out, e6.out, e7.out, if_pos (fun h => h6' h.symm)]
    go_wp2_with (first | (go_at_call 64; refine (CT.out _).mono ?_; rintro e w2 ⟨rfl, rfl⟩) | (go_at_call 65; refine (within_any _ _).mono ?_; rintro e w2 ⟨rfl, rfl⟩))
    go_quiet (fail)
    go_wp2
    exact fr_ret rfl (six (H2.out.1.drewN _) (Nat.le_refl _) (H2.out.2.drewN _) _ _ _ _ _ _).1 rfl rfl rfl (fr_bad her.out hFX.out e8.out (by decide) (six (H2.out.1.drewN _) (Nat.le_refl _) (H2.out.2.drewN _) _ _ _ _ _ _).2)
  subst h6
  have e8 : Hid (errX x = if says (parse x) = false then 2 else 0) := by show _ = _; rw [e5.out, e6.out, e7.out, if_neg (fun h => h rfl)]
  have CA := Lib.hid (fun w' => says_any (parse x) A c w' (by show typedP (x.getD 3 0); rw [HC3.out]; exact h7'.out) HIN.out (by show (x.drop 22).length ≤ _; rw [hrl.out]; omega))
  rw [hPX.out] at CA
  obtain ⟨sy, hsy⟩ : ∃ sy, Hid (says (parse x) = sy) := ⟨_, rfl⟩
  rw [hsy.out] at CA e8
  have h6a : ((q : Int) == (q : Int)) = true := by simp
  have h6b : ((q : Int) != (q : Int)) = false := by simp
  go_wp2_with (first | (go_at_call 64; refine (CT.out _).mono ?_; rintro e w2 ⟨rfl, rfl⟩) | (go_at_call 65; refine (within_any _ _).mono ?_; rintro e w2 ⟨rfl, rfl⟩))
  go_quiet (fail)
  cases sy with
  | true =>
   have e9 : Hid (errX x = 0) := by show _ = _; rw [e8.out]; rfl
   go_wp2_with (go_at_call 66; refine (CA.out _).mono ?_; rintro e w3 ⟨rfl, k3⟩; have hat3 := k3.at (H2.out.1.drewN _) (fun h => h); have hatx3 := k3.at (HX.out.1.drewN _) (fun h => h); have H3 := Lib.hid (And.intro hat3 ((H2.out.2.drewN _).trans k3)); have k3' := k3; have x0 := (hat3.cell 0).trans (show _ = some (.int .i64 0) from rfl); have x1 := (hat3.cell 1).trans (show _ = some (.int .i64 0) from rfl); have x2 := (hat3.cell 2).trans (show _ = some (.int .i64 0) from rfl); have x3 := (hat3.cell 3).trans (show _ = some (.int .i64 0) from rfl); have x4 := (hat3.cell 4).trans (show _ = some (.int .i64 0) from rfl); have x5 := (hat3.cell 5).trans (show _ = some (.slice none 0 0) from rfl); have hf := fun i => hat3.frozen i; have q0 := (hatx3.cell 0).trans (show _ = some (.int .i64 c3) from rfl); have q1 := (hatx3.cell 1).trans (show _ = some (.int .i64 (nf 4 4 : Nat)) from rfl); have q2 := (hatx3.cell 2).trans (show _ = some (.int .i64 (nf 8 4 : Nat)) from rfl); have q3 := (hatx3.cell 3).trans (show _ = some (.int .i64 (nf 12 4 : Nat)) from rfl); have q4 := (hatx3.cell 4).trans (show _ = some (.int .i64 (nf 16 4 : Nat)) from rfl); have q5 := (hatx3.cell 5).trans (show _ = some (.slice A q c) from rfl); clear hat3 hatx3 k3)
   go_wp2
   refine fr_ret rfl (six H3.out.1 (Nat.le_refl _) H3.out.2 _ _ _ _ _ _).1 rfl rfl rfl ⟨A, c, ?_, ?_, ?_, (six H3.out.1 (Nat.le_refl _) H3.out.2 _ _ _ _ _ _).2⟩
   · rw [← her.out, ← hFX.out, e9.out, if_pos rfl, hPX.out]
   · rw [← hFX.out, e9.out, if_pos rfl]
     obtain ⟨A', c', e', hrd, _⟩ := HW.out.1.form
     have hrd' : RdB wc A (x.drop 22) := by cases e'; exact hrd
     refine hrd'.kp (S := (· = w.heap.size)) ((((((((((Kp.refl _ wc).drewN _).trans k3').mono (S' := (· = w.heap.size)) (fun _ _ h => h.elim)).setCell (fun _ => rfl) _).setCell (fun _ => rfl) _).setCell (fun _ => rfl) _).setCell (fun _ => rfl) _).setCell (fun _ => rfl) _).setCell (fun _ => rfl) _) (fun y hy e => ?_)
     have := HW.out.2 y.block (by rw [hy]; rfl)
     have := HGL.out.2
     omega
   · intro g' hg'
     have := HW.out.2 g' (by cases A <;> simp [Value.ownBlock] at hg' ⊢ <;> exact hg')
     have := HGL.out.2
     omega
  | false =>
   have e9 : Hid (errX x = 2) := by show _ = _; rw [e8.out]; rfl
   go_wp2_with (go_at_call 66; refine (CA.out _).mono ?_; rintro e w3 ⟨rfl, k3⟩; have hat3 := k3.at (H2.out.1.drewN _) (fun h => h); have hatx3 := k3.at (HX.out.1.drewN _) (fun h => h); have H3 := Lib.hid (And.intro hat3 ((H2.out.2.drewN _).trans k3)); have k3' := k3; have x0 := (hat3.cell 0).trans (show _ = some (.int .i64 0) from rfl); have x1 := (hat3.cell 1).trans (show _ = some (.int .i64 0) from rfl); have x2 := (hat3.cell 2).trans (show _ = some (.int .i64 0) from rfl); have x3 := (hat3.cell 3).trans (show _ = some (.int .i64 0) from rfl); have x4 := (hat3.cell 4).trans (show _ = some (.int .i64 0) from rfl); have x5 := (hat3.cell 5).trans (show _ = some (.slice none 0 0) from rfl); have hf := fun i => hat3.frozen i; have q0 := (hatx3.cell 0).trans (show _ = some (.int .i64 c3) from rfl); have q1 := (hatx3.cell 1).trans (show _ = some (.int .i64 (nf 4 4 : Nat)) from rfl); have q2 := (hatx3.cell 2).trans (show _ = some (.int .i64 (nf 8 4 : Nat)) from rfl); have q3 := (hatx3.cell 3).trans (show _ = some (.int .i64 (nf 12 4 : Nat)) from rfl); have q4 := (hatx3.cell 4).trans (show _ = some (.int .i64 (nf 16 4 : Nat)) from rfl); have q5 := (hatx3.cell 5).trans (show _ = some (.slice A q c) from rfl); clear hat3 hatx3 k3)
   go_wp2
   exact fr_ret rfl (six H3.out.1 (Nat.le_refl _) H3.out.2 _ _ _ _ _ _).1 rfl rfl rfl (fr_bad her.out hFX.out e9.out (by decide) (six H3.out.1 (Nat.le_refl _) H3.out.2 _ _ _ _ _ _).2)
set_option maxHeartbeats 2000000 in
set_option maxRecDepth 20000 in
theorem rread_long (a : Option Addr) (cap : Nat) (l : List Int) (w : World) (hl : (1426 : Int) < l.length) (hl2 : l.length ≤ 100000000) :
 Calls Tryz.prog 50 #[.slice a l.length cap] w fun e w' => e = .returned (.tuple #[.agg (frA zF none 0), .int .i64 3]) ∧ Kp (fun _ => False) w w' := by
 generalize l.length = n at *
 go_enter Tryz.func50, Tryz.ntmps50
 go_upto_region 2 with (fail)
 refine wp_world (fun w1 => At w1 w.heap.size [.int .i64 0, .int .i64 0, .int .i64 0, .int .i64 0, .int .i64 0, .slice none 0 0] ∧ Kp (fun _ => False) w w1) ⟨At.newZ rfl, (Kp.refl _ w).alloc _⟩ ?_
 rintro w1 ⟨hat, k1⟩
 have x0 := (hat.cell 0).trans (show _ = some (.int .i64 0) from rfl)
 have x1 := (hat.cell 1).trans (show _ = some (.int .i64 0) from rfl)
 have x2 := (hat.cell 2).trans (show _ = some (.int .i64 0) from rfl)
 have x3 := (hat.cell 3).trans (show _ = some (.int .i64 0) from rfl)
 have x4 := (hat.cell 4).trans (show _ = some (.int .i64 0) from rfl)
 have x5 := (hat.cell 5).trans (show _ = some (.slice none 0 0) from rfl)
 have hf := fun i => hat.frozen i
 have HA := Lib.hid (And.intro hat k1)
 clear hat k1
 go_wp2
 exact fr_ret rfl (six HA.out.1 (Nat.le_refl _) HA.out.2 _ _ _ _ _ _).1 rfl rfl rfl ⟨rfl, (six HA.out.1 (Nat.le_refl _) HA.out.2 _ _ _ _ _ _).2⟩
set_option maxHeartbeats 2000000 in
set_option maxRecDepth 20000 in
theorem rread_short (a : Option Addr) (cap : Nat) (l : List Int) (w : World) (hl : (l.length : Int) < 26) :
 Calls Tryz.prog 50 #[.slice a l.length cap] w fun e w' => e = .returned (.tuple #[.agg (frA zF none 0), .int .i64 4]) ∧ Kp (fun _ => False) w w' := by
 generalize l.length = n at *
 go_enter Tryz.func50, Tryz.ntmps50
 go_upto_region 4 with (fail)
 refine wp_world (fun w1 => At w1 w.heap.size [.int .i64 0, .int .i64 0, .int .i64 0, .int .i64 0, .int .i64 0, .slice none 0 0] ∧ Kp (fun _ => False) w w1) ⟨At.newZ rfl, (Kp.refl _ w).alloc _⟩ ?_
 rintro w1 ⟨hat, k1⟩
 have x0 := (hat.cell 0).trans (show _ = some (.int .i64 0) from rfl)
 have x1 := (hat.cell 1).trans (show _ = some (.int .i64 0) from rfl)
 have x2 := (hat.cell 2).trans (show _ = some (.int .i64 0) from rfl)
 have x3 := (hat.cell 3).trans (show _ = some (.int .i64 0) from rfl)
 have x4 := (hat.cell 4).trans (show _ = some (.int .i64 0) from rfl)
 have x5 := (hat.cell 5).trans (show _ = some (.slice none 0 0) from rfl)
 have hf := fun i => hat.frozen i
 have HA := Lib.hid (And.intro hat k1)
 clear hat k1
 go_wp2
 exact fr_ret rfl (six HA.out.1 (Nat.le_refl _) HA.out.2 _ _ _ _ _ _).1 rfl rfl rfl ⟨rfl, (six HA.out.1 (Nat.le_refl _) HA.out.2 _ _ _ _ _ _).2⟩
set_option maxHeartbeats 2000000 in
set_option maxRecDepth 20000 in
theorem rread_sum (a : Option Addr) (cap : Nat) (l : List Int) (w : World) (h : RdB w a l) (hcap : l.length ≤ cap) (hcm : cap ≤ maxLen) (h1 : ¬ (1426 : Int) < l.length) (h2 : ¬ (l.length : Int) < 26) (h3 : ck l ≠ 0) :
 Calls Tryz.prog 50 #[.slice a l.length cap] w fun e w' => e = .returned (.tuple #[.agg (frA zF none 0), .int .i64 210]) ∧ Kp (fun _ => False) w w' := by
 have C := Lib.hid (fun w' (k : Kp (fun _ => False) w w') => rcheck a cap l w' (h.kp0 k (fun _ _ h => h)) (by omega) hcap hcm)
 have hne : (ck l != 0) = true := by simpa using h3
 have hne' : (ck l == 0) = false := by simpa using h3
 clear h hcm hcap
 generalize ck l = k at *
 generalize l.length = n at *
 go_enter Tryz.func50, Tryz.ntmps50
 go_wp2_with (go_at_call 62; refine (C.out _ ((Kp.refl _ w).alloc _)).mono ?_; rintro e w1 ⟨v, rfl, hv, hg, kq⟩; have hat := kq.at (At.new w [.int .i64 0, .int .i64 0, .int .i64 0, .int .i64 0, .int .i64 0, .slice none 0 0] 34) (fun h => h); have x0 := (hat.cell 0).trans (show _ = some (.int .i64 0) from rfl); have x1 := (hat.cell 1).trans (show _ = some (.int .i64 0) from rfl); have x2 := (hat.cell 2).trans (show _ = some (.int .i64 0) from rfl); have x3 := (hat.cell 3).trans (show _ = some (.int .i64 0) from rfl); have x4 := (hat.cell 4).trans (show _ = some (.int .i64 0) from rfl); have x5 := (hat.cell 5).trans (show _ = some (.slice none 0 0) from rfl); have hf := fun i => hat.frozen i; have HA := Lib.hid (And.intro hat (((Kp.refl (fun _ => False) w).alloc _).trans kq)); clear hat kq hv hg)
 exact fr_ret rfl (six HA.out.1 (by omega) HA.out.2 _ _ _ _ _ _).1 rfl rfl rfl ⟨rfl, (six HA.out.1 (by omega) HA.out.2 _ _ _ _ _ _).2⟩
theorem rread_any (a : Option Addr) (cap : Nat) (l : List Int) (w : World) (h : RdB w a l) (hl : l.length ≤ 100000000) (hcap : l.length ≤ cap) (hcm : cap ≤ maxLen) :
 Calls Tryz.prog 50 #[.slice a l.length cap] w (RdOut l w) := by
 by_cases h1 : (1426 : Int) < l.length
 · exact (rread_long a cap l w h1 hl).mono fun e w' => rdout_bad (by unfold errR; rw [if_pos h1]) (by decide)
 by_cases h2 : (l.length : Int) < 26
 · exact (rread_short a cap l w h2).mono fun e w' => rdout_bad (by unfold errR; rw [if_neg h1, if_pos h2]) (by decide)
 by_cases h3 : ck l = 0
 · have he := errR_x h1 h2 h3
   have := rread_rest a cap l w h hcap hcm h1 h2 h3
   rw [← he] at this
   exact this
 · exact (rread_sum a cap l w h hcap hcm h1 h2 h3).mono fun e w' => rdout_bad (by unfold errR; rw [if_neg h1, if_neg h2, if_pos h3]) (by decide)
end Go.Proofs.YtokembhfebnjpaaGreat
