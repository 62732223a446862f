/- Package inbox: the closure in Take, and Take. -/
import Derived.Test.YtokembhfebnjpaaGreatQMemM
import Derived.Deep.RegionLaw
import Derived.BigRegion
namespace Go.Proofs.YtokembhfebnjpaaGreat
set_option maxRecDepth 20000
open Go.RowKit
set_option linter.unusedVariables false

theorem tell_no (b bx bo : Nat) (c : Nat → Value) (size : Nat) (f : Bodies) (n hd : Nat) (F : Nat → Prop) (w : World) (h : InbC w b c size f n hd F) (hf : f n = none)
 (hx : w.cell? ⟨bx, 0, none⟩ = some (.pointer (some ⟨b, 0, none⟩))) :
 Calls Tryz.prog 128 #[.pointer (some ⟨bx, 0, none⟩), .pointer (some ⟨bo, 0, none⟩)] w fun e w' => e = .returned (.bool false) ∧ ∃ m, w' = w.drewN m := by
 have h1 := h.at_.is (i := 1) (by omega) h.nx
 have hfl := h.at_.is (i := fl n) (sl_lt n).2 (h.flag n (Nat.le_refl _) (by omega))
 rw [hf] at hfl
 have hb := h.n_bd
 have e0 : 0 ≤ (n : Int) % 64 := by omega
 have e1 : (n : Int) % 64 < 64 := by omega
 have e2 : ((n : Int) % 64).toNat = n % 64 := by omega
 have e3 : (n : Int).tmod 64 = (n : Int) % 64 := Int.tmod_eq_emod_of_nonneg (by omega)
 rw [show fl n = 3 + n % 64 * 2 + 1 by unfold fl; omega] at hfl
 clear h hf
 go_enter Tryz.func128, Tryz.ntmps128
 go_wp2_with fail
 go_quiet (fail)
 go_wp2
 go_ret
 exact ⟨rfl, _, rfl⟩
theorem elem_bytes : Elem Tryz.prog 32 (.slice none 0 0) 1 24 := Elem.mk' (by kernel_rfl) rfl (by omega) (by simp [Value.cells, Value.oneCell'])
theorem tell_end {w w2 w3 : World} {b bo : Nat} {c : Nat → Value} {size : Nat} {f : Bodies} {n hd : Nat} {F : Nat → Prop} {l : List Int} {v v' : Value} {m : Nat} {vs : List Value} {sv : Value} {o : Obj}
 (h : InbC w2 b c size f n hd F) (hf : f n = some l) (hk : Kp (fun _ => False) w w2) (es : sl n = 3 + n % 64 * 2) (ef : fl n = 3 + n % 64 * 2 + 1) (hpos : 1 ≤ hd) (hbl : bo < w2.heap.size)
 (hw : Own w3 v' (m + 1) 1 (vs ++ [sv]) ∧ Kp (fun k => v.ownBlock = some k) w2 w3 ∧ At w3 bo [v] ∧ (v'.ownBlock = v.ownBlock ∨ v'.ownBlock = some (w2.drew.alloc o).heap.size)) (hsv : c (sl n) = sv)
 (hob : bo ≠ b) (hFo : ¬ F bo) (hvo : v.ownBlock ≠ some bo) (hFv : ∀ g, v.ownBlock = some g → ¬ F g) :
 Ending.returned (.bool true) = Ending.returned (.bool true) ∧ ∃ c' v'', InbC (((((w3.setCell ⟨bo, 0, none⟩ v').setCell ⟨b, 3 + n % 64 * 2, none⟩ (.slice none 0 0)).setCell ⟨b, 3 + n % 64 * 2 + 1, none⟩ (.bool false)).setCell ⟨b, 1, none⟩ (.int .i64 ((n : Int) + 1))).setCell ⟨b, 2, none⟩ (.int .i64 ((hd : Int) - 1))) b c' size f (n + 1) (hd - 1) (fun k => F k ∧ (c (sl n)).ownBlock ≠ some k) ∧
  At (((((w3.setCell ⟨bo, 0, none⟩ v').setCell ⟨b, 3 + n % 64 * 2, none⟩ (.slice none 0 0)).setCell ⟨b, 3 + n % 64 * 2 + 1, none⟩ (.bool false)).setCell ⟨b, 1, none⟩ (.int .i64 ((n : Int) + 1))).setCell ⟨b, 2, none⟩ (.int .i64 ((hd : Int) - 1))) bo [v''] ∧
  Own (((((w3.setCell ⟨bo, 0, none⟩ v').setCell ⟨b, 3 + n % 64 * 2, none⟩ (.slice none 0 0)).setCell ⟨b, 3 + n % 64 * 2 + 1, none⟩ (.bool false)).setCell ⟨b, 1, none⟩ (.int .i64 ((n : Int) + 1))).setCell ⟨b, 2, none⟩ (.int .i64 ((hd : Int) - 1))) v'' (m + 1) 1 (vs ++ [c (sl n)]) ∧
  (v''.ownBlock = v.ownBlock ∨ ∃ g, v''.ownBlock = some g ∧ w.heap.size ≤ g) ∧
  Kp (fun k => k = b ∨ k = bo ∨ v.ownBlock = some k) w (((((w3.setCell ⟨bo, 0, none⟩ v').setCell ⟨b, 3 + n % 64 * 2, none⟩ (.slice none 0 0)).setCell ⟨b, 3 + n % 64 * 2 + 1, none⟩ (.bool false)).setCell ⟨b, 1, none⟩ (.int .i64 ((n : Int) + 1))).setCell ⟨b, 2, none⟩ (.int .i64 ((hd : Int) - 1))) := by
 obtain ⟨hv', hk2, hbo, hat⟩ := hw
 have hsz := hk.size
 have e1 : (n : Int) + 1 = ((n + 1 : Nat) : Int) := by omega
 have e2 : (hd : Int) - 1 = ((hd - 1 : Nat) : Int) := by omega
 have hbn : b < w2.heap.size := h.at_.lt
 have hnew : v'.ownBlock = some (w2.drew.alloc o).heap.size → v'.ownBlock = some (w2.heap.size + 1) := fun e => by rw [e]; simp
 have hK1 : Kp (fun k => k = bo ∨ v.ownBlock = some k) w2 (w3.setCell ⟨bo, 0, none⟩ v') :=
  (hk2.mono (S' := fun k => k = bo ∨ v.ownBlock = some k) (fun _ _ h => .inr h)).setCell (p := ⟨bo, 0, none⟩) (fun _ => .inl rfl) _
 have R := h.step hf hK1 (fun k hk' e => by rcases e with rfl | e; exact hFo hk'; exact hFv k e hk')
 rw [← ef, ← es, e1, e2]
 have hKb : Kp (· = b) (w3.setCell ⟨bo, 0, none⟩ v') (((((w3.setCell ⟨bo, 0, none⟩ v').setCell ⟨b, sl n, none⟩ (.slice none 0 0)).setCell ⟨b, fl n, none⟩ (.bool false)).setCell ⟨b, 1, none⟩ (.int .i64 (n + 1 : Nat))).setCell ⟨b, 2, none⟩ (.int .i64 (hd - 1 : Nat))) :=
  ((((Kp.refl (· = b) _).setCell (p := ⟨b, sl n, none⟩) (fun _ => rfl) _).setCell (p := ⟨b, fl n, none⟩) (fun _ => rfl) _).setCell (p := ⟨b, 1, none⟩) (fun _ => rfl) _).setCell (p := ⟨b, 2, none⟩) (fun _ => rfl) _
 have hKo : Kp (· = bo) w3 (w3.setCell ⟨bo, 0, none⟩ v') := (Kp.refl (· = bo) w3).setCell (p := ⟨bo, 0, none⟩) (fun _ => rfl) _
 have hvb : v'.ownBlock ≠ some b ∧ v'.ownBlock ≠ some bo := by
  rcases hat with e | e
  · rw [e]; exact ⟨fun e' => hFv b e' h.base, hvo⟩
  · rw [hnew e]
    refine ⟨fun e' => ?_, fun e' => ?_⟩
    · simp at e'; omega
    · simp at e'; omega
 refine ⟨rfl, _, v', R, ?_, ?_, ?_, ?_⟩
 · refine hKb.at ?_ hob
   have := hbo.set 0 v'
   simpa using this
 · rw [hsv]
   exact (hv'.kp hKo (fun g hg e => hvb.2 (by rw [hg, e]))).kp hKb (fun g hg e => hvb.1 (by rw [hg, e]))
 · rcases hat with e | e
   · exact .inl e
   · exact .inr ⟨_, hnew e, by omega⟩
 · exact ((hk.mono (S' := fun k => k = b ∨ k = bo ∨ v.ownBlock = some k) (fun _ _ h => h.elim)).then hK1 (fun i _ e => .inr e)).then hKb (fun i _ e => .inl e)
theorem tell_yes (b bx bo : Nat) (c : Nat → Value) (size : Nat) (f : Bodies) (n hd : Nat) (F : Nat → Prop) (l : List Int) (v : Value) (m : Nat) (vs : List Value) (w : World) (h : InbC w b c size f n hd F) (hf : f n = some l)
 (hx : w.cell? ⟨bx, 0, none⟩ = some (.pointer (some ⟨b, 0, none⟩))) (hxb : bx ≠ b) (hxo : bx ≠ bo) (hxv : v.ownBlock ≠ some bx) (hbo : At w bo [v]) (hv : Own w v m 1 vs) (hm : m ≤ 1000) (hob : bo ≠ b) (hFo : ¬ F bo) (hvo : v.ownBlock ≠ some bo) (hFv : ∀ g, v.ownBlock = some g → ¬ F g) :
 Calls Tryz.prog 128 #[.pointer (some ⟨bx, 0, none⟩), .pointer (some ⟨bo, 0, none⟩)] w fun e w' => e = .returned (.bool true) ∧
  ∃ c' v', InbC w' b c' size f (n + 1) (hd - 1) (fun k => F k ∧ (c (sl n)).ownBlock ≠ some k) ∧ At w' bo [v'] ∧ Own w' v' (m + 1) 1 (vs ++ [c (sl n)]) ∧
   (v'.ownBlock = v.ownBlock ∨ ∃ g, v'.ownBlock = some g ∧ w.heap.size ≤ g) ∧ Kp (fun k => k = b ∨ k = bo ∨ v.ownBlock = some k) w w' := by
 have hb := h.n_bd
 have h1 := h.at_.is (i := 1) (by omega) h.nx
 have hfl := h.at_.is (i := fl n) (sl_lt n).2 (h.flag n (Nat.le_refl _) (by omega))
 rw [hf] at hfl
 have e0 : 0 ≤ (n : Int) % 64 := by omega
 have e1 : (n : Int) % 64 < 64 := by omega
 have e2 : ((n : Int) % 64).toNat = n % 64 := by omega
 have e3 : (n : Int).tmod 64 = (n : Int) % 64 := Int.tmod_eq_emod_of_nonneg (by omega)
 have es : sl n = 3 + n % 64 * 2 := by unfold sl; omega
 have ef : fl n = 3 + n % 64 * 2 + 1 := by unfold fl; omega
 rw [ef] at hfl
 have HH := Lib.hid h
 have Hes := Lib.hid es
 have Hef := Lib.hid ef
 have Hf := Lib.hid hf
 have Hv := Lib.hid hv
 have Hbo := Lib.hid hbo
 have Hx := Lib.hid hx
 clear h hf es ef hv hbo
 go_enter Tryz.func128, Tryz.ntmps128
 go_wp2_with fail
 go_quiet (fail)
 go_wp2_with fail
 refine wp_world (fun w2 => Kp (fun _ => False) w w2) ((Kp.refl _ w).drewN _) ?_
 intro w2 hk
 have h := HH.out.kp hk (fun _ _ h => h)
 have hf := Hf.out
 have hv := Hv.out.kp hk (fun _ _ h => h)
 have hbo := hk.at Hbo.out (fun h => h)
 have hx2 := hk.cell Hx.out (fun h => h)
 obtain ⟨hown, _⟩ := h.body n l (Nat.le_refl _) (by omega) hf
 have hsl := h.at_.cell (i := sl n) (sl_lt n).1
 have hout : w2.cell? ⟨bo, 0, none⟩ = some v := by rw [hbo.cell]; rfl
 have hf1 : w2.frozen? ⟨bo, 0, none⟩ = false := hbo.frozen 0
 obtain ⟨sa, sc, hsv, hsc1, hsc2⟩ := hown.own.form
 rw [hsv, Hes.out] at hsl
 have hone : ∀ u ∈ [Value.slice sa l.length sc], u.oneCell' = true := fun u hu => by simp at hu; subst hu; rfl
 have hrd : Rd (w2.drew.alloc (.cells #[.slice sa l.length sc] 32)) (some ⟨w2.heap.size, 0, none⟩) [.slice sa l.length sc] := Rd.new w2.drew [.slice sa l.length sc] 32
 obtain ⟨v', w3, hrun, hv3, hk3, hat3, hbp⟩ := run_append_at (P := Tryz.prog) (t := 67) (tx := 67) (ty := 67) (w2.drew.alloc (.cells #[.slice sa l.length sc] 32)) Tryz.underlying67 elem_bytes Tryz.underlying67
  (hv.kp ((Kp.refl (fun _ => False) w2).drew.alloc _) (fun _ _ h => h)) (a := some ⟨w2.heap.size, 0, none⟩) (m := 1) (c := 1) (news := [.slice sa l.length sc]) (by simp) hrd hone (by unfold maxLen; omega) (by omega)
 obtain ⟨va, vc, rfl, hvc1, hvc2⟩ := hv3.form
 have hk2 : Kp (fun k => v.ownBlock = some k) w2 w3 := ((Kp.refl (fun k => v.ownBlock = some k) w2).drew.alloc (.cells #[.slice sa l.length sc] 32)).trans hk3
 have h3 := h.kp hk2 (fun k hk e => hFv k e hk)
 have hbo3 := hk2.at hbo hvo
 have hx3 := hk2.cell hx2 hxv
 have c1 := h3.at_.is (i := 1) (by omega) h3.nx
 have c2 := h3.at_.is (i := 2) (by omega) h3.hl
 have c3 := h3.at_.cell (i := sl n) (sl_lt n).1
 have c4 := h3.at_.cell (i := fl n) (sl_lt n).2
 rw [Hes.out] at c3
 rw [Hef.out] at c4
 have c5 : w3.cell? ⟨bo, 0, none⟩ = some v := by rw [hbo3.cell]; rfl
 have f1 := fun i => h3.at_.frozen i
 have f2 := hbo3.frozen 0
 have n1 : ¬ bo = b := hob
 have n2 : ¬ b = bo := fun e => hob e.symm
 have n3 : ¬ bx = bo := hxo
 have n4 : ¬ bo = bx := fun e => hxo e.symm
 have n5 : ¬ b = bx := fun e => hxb e.symm
 have n6 : ¬ bx = b := hxb
 have hpos : 1 ≤ hd := by
  rw [h.cnt]
  have hc := cn_front f n size
  rw [cn, h.high (n + size) (Nat.le_refl _), hf] at hc
  simp at hc; omega
 have hhd : hd ≤ 64 := by rw [h.cnt]; exact Nat.le_trans (cn_le f n size) h.size_bd.2
 have Hrun := Lib.hid hrun
 have Hh := Lib.hid h
 have Hsv := Lib.hid hsv
 have Hhf := Lib.hid hf
 have hbl := hbo.lt
 have Hk := Lib.hid hk
 have Hw := Lib.hid (And.intro hv3 (And.intro hk2 (And.intro hbo3 hat3)))
 clear hk hrun h hf hsv hrd hk3 h3 hbo3 hv3 hat3 hk2
 have a1 : (w2.alloc (.cells #[.slice sa l.length sc] 32)).cell? ⟨bo, 0, none⟩ = some v := ((Kp.refl (fun _ => False) w2).alloc _).cell hout (fun h => h)
 have a2 : (w2.alloc (.cells #[.slice sa l.length sc] 32)).cell? ⟨b, 3 + n % 64 * 2, none⟩ = some (.slice sa l.length sc) := ((Kp.refl (fun _ => False) w2).alloc _).cell hsl (fun h => h)
 go_region_law ((refine step_append_run _ Hrun.out (by rfl) (by rfl) (by rfl) (by rfl) ?_))
 all_goals
  go_wp2
  go_ret
  exact tell_end Hh.out Hhf.out Hk.out Hes.out Hef.out hpos hbl Hw.out Hsv.out hob hFo hvo hFv

theorem take_nil (seq : Int) (a : Option Addr) (n cap : Nat) (w : World) :
 Calls Tryz.prog 119 #[.pointer none, .int .i64 seq, .slice a n cap] w fun e w' => e = .returned (.tuple #[.slice none 0 0, .int .i64 1]) ∧ Kp (fun _ => False) w w' := by
 go_enter Tryz.func119, Tryz.ntmps119
 go_wp2_with (go_at_call 57; refine (inone_nil _).mono ?_; rintro e w' ⟨rfl, rfl⟩)
 go_ret2
 exact ⟨rfl, (Kp.refl _ w).alloc _⟩
section
variable {b size : Nat} {f : Bodies} {n hd : Nat} {F : Nat → Prop} {w : World}
theorem take_range (h : InbAt w b size f n hd F) (seq : Int) (a : Option Addr) (len cap : Nat) (hs : seq < 1 ∨ 2147483647 ≤ seq) :
 Calls Tryz.prog 119 #[.pointer (some ⟨b, 0, none⟩), .int .i64 seq, .slice a len cap] w fun e w' => e = .returned (.tuple #[.slice none 0 0, .int .i64 5]) ∧ Kp (fun _ => False) w w' := by
 obtain ⟨⟨c, h⟩, hn⟩ := h
 have h' := fun o => ((Kp.refl (fun _ => False) w).alloc o).cell (h.at_.is (i := 0) (by omega) h.sz) (fun h => h)
 have hne : ((size : Int) == 0) = false := by have := h.size_bd; simp; omega
 by_cases h1 : seq < 1
 all_goals
  go_enter Tryz.func119, Tryz.ntmps119
  go_wp2_with (go_at_call 57; refine (inone_at b _ _ (h' _)).mono ?_; rintro e w' ⟨rfl, rfl⟩)
  go_ret2
  exact ⟨rfl, (Kp.refl _ w).alloc _⟩
theorem take_there (h : InbAt w b size f n hd F) (q : Nat) (a : Option Addr) (len cap : Nat) (h1 : 1 ≤ q) (h2 : q < 2147483647) (hf : (f q).isSome = true) :
 Calls Tryz.prog 119 #[.pointer (some ⟨b, 0, none⟩), .int .i64 q, .slice a len cap] w fun e w' => e = .returned (.tuple #[.slice none 0 0, .int .i64 7]) ∧ Kp (fun _ => False) w w' := by
 obtain ⟨⟨c, h⟩, hn⟩ := h
 have hA := fun o => h.kp ((Kp.refl (fun _ => False) w).alloc o) (fun _ _ h => h)
 have h0 := fun o => (hA o).at_.is (i := 0) (by omega) h.sz
 have hne : ((size : Int) == 0) = false := by have := h.size_bd; simp; omega
 have hH := fun o => (hA o).hasSpec hn q (by omega)
 have e : hasI f q = true := by simp [hasI, hf]
 rw [e] at hH
 have HA := Lib.hid hA
 have HH := Lib.hid hH
 have g1 : (1 : Int) ≤ q := by omega
 have g2 : (q : Int) < 2147483647 := by omega
 clear hA hH e hf h1 h2
 generalize (q : Int) = seq at *
 go_enter Tryz.func119, Tryz.ntmps119
 go_wp2_with (first | (go_at_call 57; refine (inone_at b _ _ (h0 _)).mono ?_; rintro e w' ⟨rfl, rfl⟩) | (go_at_call 126; refine (HH.out _).mono ?_; rintro e w' ⟨rfl, m, rfl⟩))
 go_ret2
 exact ⟨rfl, ((Kp.refl _ w).alloc _).drewN _⟩
theorem take_full (h : InbAt w b size f n hd F) (q : Nat) (a : Option Addr) (len cap : Nat) (h1 : 1 ≤ q) (h2 : q < 2147483647) (hf : n + size ≤ q) :
 Calls Tryz.prog 119 #[.pointer (some ⟨b, 0, none⟩), .int .i64 q, .slice a len cap] w fun e w' => e = .returned (.tuple #[.slice none 0 0, .int .i64 8]) ∧ Kp (fun _ => False) w w' := by
 obtain ⟨⟨c, h⟩, hn⟩ := h
 have hA := fun o => h.kp ((Kp.refl (fun _ => False) w).alloc o) (fun _ _ h => h)
 have h0 := fun o => (hA o).at_.is (i := 0) (by omega) h.sz
 have hne : ((size : Int) == 0) = false := by have := h.size_bd; simp; omega
 have hH := fun o => (hA o).hasSpec hn q (by omega)
 have e : hasI f q = false := by simp [hasI, h.high q hf]
 rw [e] at hH
 have hB := fun o m => (hA o).kp ((Kp.refl (fun _ => False) (w.alloc o)).drewN m) (fun _ _ h => h)
 have hG := fun o m => ahead_ge b size n q ((w.alloc o).drewN m) ((hB o m).at_.is (i := 0) (by omega) h.sz) ((hB o m).at_.is (i := 1) (by omega) h.nx) (by omega) (by omega) (by omega)
 have e2 : decide ((q : Int) - n < size) = false := by simp; omega
 rw [e2] at hG
 have HH := Lib.hid hH
 have HG := Lib.hid hG
 have g1 : (1 : Int) ≤ q := by omega
 have g2 : (q : Int) < 2147483647 := by omega
 clear hA hH e hf hB hG e2 h1 h2
 generalize (q : Int) = seq at *
 go_enter Tryz.func119, Tryz.ntmps119
 go_wp2_with (first | (go_at_call 57; refine (inone_at b _ _ (h0 _)).mono ?_; rintro e w' ⟨rfl, rfl⟩) | (go_at_call 126; refine (HH.out _).mono ?_; rintro e w' ⟨rfl, m, rfl⟩) | (go_at_call 127; refine (HG.out _ _).mono ?_; rintro e w' ⟨rfl, m', rfl⟩))
 go_ret2
 exact ⟨rfl, ((Kp.refl _ w).alloc _).drewN _⟩
end
end Go.Proofs.YtokembhfebnjpaaGreat
