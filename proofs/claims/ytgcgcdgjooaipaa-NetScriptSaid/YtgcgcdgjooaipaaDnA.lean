/- The document's net in memory: own, link, end, there, cut, First. (Written by wip/refnet.py.) -/
import Derived.Test.YtgcgcdgjooaipaaActs
namespace Go.Proofs.Ytgcgcdgjooaipaa
open Go.RowKit Go.Maps
set_option linter.unusedVariables false
set_option linter.unusedSimpArgs false
/-- Pairs, as cells. -/
def offC : List (Int × Int) → List Value
  | [] => []
  | p :: r => .int .i64 p.1 :: .int .i64 p.2 :: offC r
def pr (os : List (Int × Int)) (k : Nat) : Int × Int := os.getD k (0, 0)
def prOf (a b : Int) : Int × Int := (min a b, max a b)
theorem prOf_V (a b : Int) : pairV a b = .agg #[.int .i64 (prOf a b).1, .int .i64 (prOf a b).2] := rfl
theorem offC_len : ∀ os : List (Int × Int), (offC os).length = os.length * 2
  | [] => rfl
  | p :: r => by rw [offC, List.length_cons, List.length_cons, offC_len r]; simp; omega
theorem offC_app : ∀ a b : List (Int × Int), offC (a ++ b) = offC a ++ offC b
  | [], b => rfl
  | p :: a, b => by rw [List.cons_append, offC, offC, offC_app a b]; rfl
theorem offC_get : ∀ (os : List (Int × Int)) (i : Nat), i < os.length → (offC os)[i * 2]? = some (.int .i64 (pr os i).1) ∧ (offC os)[i * 2 + 1]? = some (.int .i64 (pr os i).2)
  | [], i, h => absurd h (Nat.not_lt_zero _)
  | p :: r, 0, _ => ⟨rfl, rfl⟩
  | p :: r, i + 1, h => by
    have := offC_get r i (by simpa using h)
    rw [show (i + 1) * 2 = i * 2 + 1 + 1 by omega]
    exact this
theorem offC_one : ∀ os : List (Int × Int), ∀ u ∈ offC os, u.oneCell' = true
  | [], u, hu => by cases hu
  | p :: r, u, hu => by
    rw [offC] at hu
    simp only [List.mem_cons] at hu
    rcases hu with rfl | rfl | hu
    · rfl
    · rfl
    · exact offC_one r u hu
/-- The document's net: a block of a list, cut pairs, and how many were lost. -/
structure DN (w : World) (db : Nat) (L O : Value) (ds : List Nd) (os : List (Int × Int)) (lost : Int) : Prop where
  hat : At w db [L, O, .int .i64 lost]
  l : DgL 0 w L ds
  o : Own w O os.length 2 (offC os)
  dl : ¬ DgL.Of L ds db
  dO : O.ownBlock ≠ some db
  ol : ∀ b, O.ownBlock = some b → ¬ DgL.Of L ds b
/-- Its blocks. -/
def DMine (db : Nat) (L O : Value) (ds : List Nd) (b : Nat) : Prop := b = db ∨ O.ownBlock = some b ∨ DgL.Of L ds b
section
variable {w w' : World} {db : Nat} {L O : Value} {ds : List Nd} {os : List (Int × Int)} {lost : Int}
theorem DN.kp {S : Nat → Prop} (h : DN w db L O ds os lost) (k : Kp S w w') (hs : ∀ b, DMine db L O ds b → ¬ S b) : DN w' db L O ds os lost :=
  ⟨k.at h.hat (hs _ (.inl rfl)), h.l.kp k (fun b hb => hs b (.inr (.inr hb))), h.o.kp k (fun b hb => hs b (.inr (.inl hb))), h.dl, h.dO, h.ol⟩
theorem DN.kp0 (h : DN w db L O ds os lost) (k : Kp (fun _ => False) w w') : DN w' db L O ds os lost := h.kp k (fun _ _ h => h)
theorem DN.lt (h : DN w db L O ds os lost) {b : Nat} (hb : DMine db L O ds b) : b < w.heap.size := by
  rcases hb with rfl | hb | hb
  · exact h.hat.lt
  · exact h.o.lt b hb
  · exact h.l.lt hb
theorem DN.c2 (h : DN w db L O ds os lost) : w.cell? ⟨db, 2, none⟩ = some (.int .i64 lost) := (h.hat.cell 2).trans rfl
/-- The list's pointer and room. -/
theorem DN.lf (h : DN w db L O ds os lost) : ∃ a c, L = .slice a ds.length c ∧ ds.length ≤ c ∧ RdD w a ds ∧ w.cell? ⟨db, 0, none⟩ = some (.slice a ds.length c) := by
  obtain ⟨a, c, e, hc, hr⟩ := h.l.rdd
  exact ⟨a, c, e, hc, hr, by rw [← e]; exact (h.hat.cell 0).trans rfl⟩
/-- A slice reads as pairs. -/
def RdO (w : World) (a : Option Addr) (os : List (Int × Int)) : Prop :=
  ∀ k, k < os.length → ∃ b off, a = some ⟨b, off, none⟩ ∧ w.cell? ⟨b, off + k * 2, none⟩ = some (.int .i64 (pr os k).1) ∧ w.cell? ⟨b, off + k * 2 + 1, none⟩ = some (.int .i64 (pr os k).2)
theorem RdO.kp0 {w w' : World} {a : Option Addr} {os : List (Int × Int)} (h : RdO w a os) (k : Kp (fun _ => False) w w') : RdO w' a os := fun i hi => by
  obtain ⟨b, off, e, h1, h2⟩ := h i hi
  exact ⟨b, off, e, k.cell h1 (fun h => h), k.cell h2 (fun h => h)⟩
theorem rdo_of {w : World} {a : Option Addr} {n c : Nat} {os : List (Int × Int)} (h : Own w (.slice a n c) n 2 (offC os)) : RdO w a os := fun k hk => by
  have hr := h.rd
  have hl := offC_len os
  obtain ⟨b, off, e, h1⟩ := hr (k * 2) (by omega)
  obtain ⟨b', off', e', h2⟩ := hr (k * 2 + 1) (by omega)
  rw [e] at e'; cases e'
  have hg := offC_get os k hk
  refine ⟨b, off, e, ?_, ?_⟩
  · rw [h1, List.getD_eq_getElem?_getD, hg.1]; rfl
  · rw [Nat.add_assoc, h2, List.getD_eq_getElem?_getD, hg.2]; rfl
theorem DN.of (h : DN w db L O ds os lost) : ∃ a c, O = .slice a os.length c ∧ os.length ≤ c ∧ RdO w a os ∧ w.cell? ⟨db, 1, none⟩ = some (.slice a os.length c) := by
  obtain ⟨a, c, e, hc, _⟩ := h.o.form
  have ho := h.o
  rw [e] at ho
  exact ⟨a, c, e, hc, rdo_of ho, by rw [← e]; exact (h.hat.cell 1).trans rfl⟩
end
theorem ownb_new (w : World) (T : TypeId) : OwnB (w.alloc (.cells #[] T)) (.slice (some ⟨w.heap.size, 0, none⟩) 0 0) [] :=
  ⟨⟨by simp, .inr ⟨w.heap.size, 0, [], rfl, At.new w [] T, by simp, by simp, by simp⟩⟩, fun g hg => ⟨[], by simp [Value.ownBlock] at hg; subst hg; exact At.new w [] T, by simp⟩, fun x hx => by simp at hx, by simp⟩
theorem dend_any (n : Int) (w : World) :
    Calls Try.prog 52 #[.int .i64 n] w fun e w' => e = .returned (.bool (isEnd n)) ∧ w = w' := by
  go_enter Try.func52, Try.ntmps52
  go_wp2
  all_goals go_ret
  all_goals exact ⟨ret_bool (by unfold isEnd; simp; omega), rfl⟩
theorem dlink_any (a b : Int) (w : World) :
    Calls Try.prog 53 #[.int .i64 a, .int .i64 b] w fun e w' => e = .returned (pairV a b) ∧ Kp (fun _ => False) w w' := by
  have hi : (Try.prog.info? 74).map (·.size) = some 2 := by kernel_rfl
  go_enter Try.func53, Try.ntmps53
  go_wp2
  all_goals
    refine bodyPost_ret (results_cell_row rfl _ _ w.heap.size 74 _ (0, 0) _ rfl (heap_alloc_new w _) Try.underlying74 rfl hi) rfl ⟨?_, (Kp.refl _ w).alloc _⟩
    exact congrArg Ending.returned (pairV_of (by omega) (by omega)).symm
theorem dthere_any (db n c : Nat) (a : Option Addr) (i : Int) (w : World) (c0 : w.cell? ⟨db, 0, none⟩ = some (.slice a n c)) :
    Calls Try.prog 50 #[.pointer (some ⟨db, 0, none⟩), .int .i64 i] w fun e w' => e = .returned (.bool (decide (0 ≤ i ∧ i < n))) ∧ w = w' := by
  go_enter Try.func50, Try.ntmps50
  go_wp2
  all_goals go_ret
  all_goals exact ⟨ret_bool (by simp; omega), rfl⟩
set_option maxHeartbeats 1000000 in
theorem down_any (fr to : Int) (a : Option Addr) (n c : Nat) (l : List Int) (hn : n = l.length) (w : World) (h : RdB w a l) (hl : n ≤ 1000000) :
    Calls Try.prog 51 #[.agg #[.int .i64 fr, .int .i64 to, .slice a n c]] w fun e w' => ∃ A C, e = .returned (.agg #[.int .i64 fr, .int .i64 to, .slice A n C]) ∧ OwnB w' (.slice A n C) l ∧ (∀ g, (Value.slice A n C).ownBlock = some g → w.heap.size ≤ g) ∧ Kp (fun _ => False) w w' := by
  have h0 := (At.new w (dgC fr to (.slice a n c)) 28).alloc (.cells #[.int .i64 0, .int .i64 0, .slice none 0 0] 28)
  have h1 := At.new (w.alloc (.cells #[.int .i64 fr, .int .i64 to, .slice a n c] 28)) [.int .i64 0, .int .i64 0, .slice none 0 0] 28
  have k2 := ((Kp.refl (fun _ => False) w).alloc (.cells #[.int .i64 fr, .int .i64 to, .slice a n c] 28)).alloc (.cells #[.int .i64 0, .int .i64 0, .slice none 0 0] 28)
  rw [World.size_alloc] at h1
  obtain ⟨w2, hw2⟩ : ∃ w2, w2 = (w.alloc (.cells #[.int .i64 fr, .int .i64 to, .slice a n c] 28)).alloc (.cells #[.int .i64 0, .int .i64 0, .slice none 0 0] 28) := ⟨_, rfl⟩
  have hs2 : w2.heap.size = w.heap.size + 1 + 1 := by rw [hw2]; simp
  have h0 : At w2 w.heap.size (dgC fr to (.slice a n c)) := by rw [hw2]; exact h0
  have h1 : At w2 (w.heap.size + 1) [.int .i64 0, .int .i64 0, .slice none 0 0] := by rw [hw2]; exact h1
  have k2 : Kp (fun _ => False) w w2 := by rw [hw2]; exact k2
  obtain ⟨v4, w4, hr4, ho4, hk4, hb4⟩ := run_append_b (P := Try.prog) (t := 26) (tx := 26) (ty := 26) (w2.alloc (.cells #[] 5)) Try.underlying26 elem_u8 Try.underlying26 (ownb_new w2 _) (a := a) (c := c) (m := l) ((h.kp0 k2 (fun _ _ h => h)).kp0 ((Kp.refl (fun _ => False) w2).alloc _) (fun _ _ h => h)) (by simp; omega)
  rw [List.nil_append] at ho4
  obtain ⟨A, C, rfl, _, _⟩ := ho4.form
  rw [← hn] at hr4 ho4 hb4
  have kk : Kp (fun _ => False) w2 w4 := ((Kp.refl (fun _ => False) w2).alloc _).then hk4 (fun i hi e => by simp [Value.ownBlock] at e; omega)
  have hg : ∀ g, (Value.slice A n C).ownBlock = some g → w2.heap.size ≤ g := fun g hg => by
    rcases hb4 with e | e
    · rw [e] at hg; simp [Value.ownBlock] at hg; omega
    · rw [e] at hg; simp at hg; omega
  have a0 := kk.at h0 (fun h => h)
  have a1 := kk.at h1 (fun h => h)
  obtain ⟨bx, hbx⟩ : ∃ bx, bx = w.heap.size := ⟨_, rfl⟩
  rw [← hbx] at h0 h1 a0 a1 hs2
  have x0 : w2.cell? ⟨bx, 0, none⟩ = some (.int .i64 fr) := (h0.cell 0).trans rfl
  have x1 : w2.cell? ⟨bx, 1, none⟩ = some (.int .i64 to) := (h0.cell 1).trans rfl
  have x2 : w2.cell? ⟨bx, 2, none⟩ = some (.slice a n c) := (h0.cell 2).trans rfl
  have y0 : w4.cell? ⟨bx, 0, none⟩ = some (.int .i64 fr) := (a0.cell 0).trans rfl
  have y1 : w4.cell? ⟨bx, 1, none⟩ = some (.int .i64 to) := (a0.cell 1).trans rfl
  have g2 := a0.frozen 2
  have g3 := a1.frozen 0
  have g4 := a1.frozen 1
  have g5 := a1.frozen 2
  have y2 : w4.cell? ⟨bx, 2, none⟩ = some (.slice a n c) := (a0.cell 2).trans rfl
  have H := Lib.hid (And.intro a1 (And.intro ho4 (And.intro (k2.trans kk) (And.intro hg hs2))))
  have HR := Lib.hid hr4
  have HW := Lib.hid hw2
  have HX := Lib.hid hbx
  have hn3 : w4.cell? ⟨bx + 1, 0, none⟩ = some (.int .i64 0) := (a1.cell 0).trans rfl
  have hn4 : w4.cell? ⟨bx + 1, 1, none⟩ = some (.int .i64 0) := (a1.cell 1).trans rfl
  have hn5 : w4.cell? ⟨bx + 1, 2, none⟩ = some (.slice none 0 0) := (a1.cell 2).trans rfl
  have hbl : bx < w2.heap.size := by omega
  clear h0 h1 hr4 ho4 hb4 kk hg a0 a1 h hw2 hn hs2
  go_enter Try.func51, Try.ntmps51
  go_upto_region 1 with fail
  rw [← HW.out]
  rw [← hbx]
  clear hbx
  go_wp2_with (at_builtin; refine wpList_append_run _ HR.out rfl rfl rfl rfl ?_)
  have hfin := ((((H.out.1.setOther (a := ⟨bx, 2, none⟩) (by simp) (.slice A n C)).set 0 (.int .i64 fr)).set 1 (.int .i64 to)).set 2 (.slice A n C))
  obtain ⟨T, hT⟩ := hfin
  refine bodyPost_ret (results_cell_row rfl _ _ (bx + 1) T _ (0, 0) _ rfl hT Try.underlying28 rfl dg_info) rfl ?_
  have kf : Kp (fun j => j = bx ∨ j = bx + 1) w4 ((((w4.setCell ⟨bx, 2, none⟩ (.slice A n C)).setCell ⟨bx + 1, 0, none⟩ (.int .i64 fr)).setCell ⟨bx + 1, 1, none⟩ (.int .i64 to)).setCell ⟨bx + 1, 2, none⟩ (.slice A n C)) :=
    ((((Kp.refl _ w4).setCell (p := ⟨bx, 2, none⟩) (fun _ => .inl rfl) _).setCell (p := ⟨bx + 1, 0, none⟩) (fun _ => .inr rfl) _).setCell (p := ⟨bx + 1, 1, none⟩) (fun _ => .inr rfl) _).setCell (p := ⟨bx + 1, 2, none⟩) (fun _ => .inr rfl) _
  have hxx := HX.out
  have hs2 := H.out.2.2.2.2
  refine ⟨A, C, rfl, H.out.2.1.kp kf (fun g hg e => by have := H.out.2.2.2.1 g hg; omega), fun g hg => by have := H.out.2.2.2.1 g hg; omega, H.out.2.2.1.then kf (fun i hi e => by omega)⟩
theorem run_eq2 (w : World) (p1 p2 q1 q2 : Int) : (Op.equalIn 10000 74 (.agg #[.int .i64 p1, .int .i64 p2]) (.agg #[.int .i64 q1, .int .i64 q2])).run Try.prog w = .ok (p1 == q1 && p2 == q2) w := by
  have hsz : (sizeOf 3).run Try.prog w = .ok 1 w := by kernel_rfl
  have hp0 : ∀ a b : Int, (part 3 #[.int .i64 a, .int .i64 b] 0).run Try.prog w = .ok (.int .i64 a) w := fun a b => by
    simp [part, isAgg, run_underlying Try.underlying3]
  have hp1 : ∀ a b : Int, (part 3 #[.int .i64 a, .int .i64 b] 1).run Try.prog w = .ok (.int .i64 b) w := fun a b => by
    simp [part, isAgg, run_underlying Try.underlying3]
  have hq : ∀ a b : Int, (Op.equalIn 9999 3 (.int .i64 a) (.int .i64 b)).run Try.prog w = .ok (a == b) w := fun a b => by
    exact run_equalIn_int w 9998 3 .i64 .i64 a b Try.underlying3
  rw [show (10000 : Nat) = 9998 + 2 from rfl, Op.equalIn]
  simp only [Sem.run_bind, run_underlying Try.underlying74, Result.andThen_ok, hsz, Std.Legacy.Range.forIn_eq_forIn_range', Std.Legacy.Range.size, Nat.sub_zero, Nat.add_sub_cancel, Nat.div_one]
  rw [show List.range' 0 2 1 = [0, 1] from rfl]
  simp only [List.forIn_cons, Sem.run_bind, Nat.zero_mul, Nat.mul_one, hp0, hp1, hq, Result.andThen_ok]
  cases hb : (p1 == q1)
  · simp
  · cases hc : (p2 == q2) <;> simp [hp1, hq, hc]
section
variable {w w' : World} {db : Nat} {L O : Value} {ds : List Nd} {os : List (Int × Int)} {lost : Int}
theorem pr_mem {os : List (Int × Int)} {k : Nat} (h : k < os.length) : os[k]? = some (pr os k) := by
  unfold pr; rw [List.getD_eq_getElem?_getD, List.getElem?_eq_getElem h]; rfl
set_option maxHeartbeats 1000000 in
set_option maxRecDepth 20000 in
theorem dcut_any (h : DN w db L O ds os lost) (hn : os.length ≤ 10000) (a b : Int) :
    Calls Try.prog 54 #[.pointer (some ⟨db, 0, none⟩), .int .i64 a, .int .i64 b] w fun e w' => e = .returned (.bool (decide (prOf a b ∈ os))) ∧ Kp (fun _ => False) w w' := by
  obtain ⟨ao, co, _, hc, hr, c1⟩ := h.of
  obtain ⟨n, hnn⟩ : ∃ n, n = os.length := ⟨_, rfl⟩
  rw [← hnn] at hn hc c1
  have CL := Lib.hid (fun w' => dlink_any a b w')
  rw [prOf_V] at CL
  obtain ⟨q1, hq1⟩ : ∃ q1, q1 = (prOf a b).1 := ⟨_, rfl⟩
  obtain ⟨q2, hq2⟩ : ∃ q2, q2 = (prOf a b).2 := ⟨_, rfl⟩
  rw [← hq1, ← hq2] at CL
  have HQ := Lib.hid (show prOf a b = (q1, q2) by rw [hq1, hq2])
  clear hq1 hq2
  have H := Lib.hid (And.intro hr (And.intro c1 hnn))
  clear h hr hnn c1
  go_enter Try.func54, Try.ntmps54
  go_wp2
  go_loopw [7] (fun i wr => ∃ k : Nat, k ≤ n ∧ i = .int .i64 k ∧ Kp (fun _ => False) w wr ∧ prOf a b ∉ os.take k) (fun i _ => n - (intOf i).toNat)
  case atStart => exact ⟨0, by omega, rfl, Kp.refl _ _, by simp⟩
  case round =>
    obtain ⟨k, hkn, rfl, hkp, hno⟩ := hrel
    have c1 := hkp.cell H.out.2.1 (fun h => h)
    by_cases hlt : k < n
    · have j1 : (k : Int) < n := by omega
      obtain ⟨bo, off, rfl, o1, o2⟩ := H.out.1.kp0 hkp k (by rw [← H.out.2.2]; exact hlt)
      have hpr := pr_mem (os := os) (k := k) (by rw [← H.out.2.2]; exact hlt)
      obtain ⟨p1, hp1⟩ : ∃ p1, p1 = (pr os k).1 := ⟨_, rfl⟩
      obtain ⟨p2, hp2⟩ : ∃ p2, p2 = (pr os k).2 := ⟨_, rfl⟩
      rw [← hp1] at o1
      rw [← hp2] at o2
      have HP := Lib.hid (And.intro hpr (And.intro hp1 (And.intro hp2 (And.intro hno hkp))))
      clear hpr hp1 hp2 hno hkp
      go_upto_region 4 with fail
      refine region_L (S := fun w' => w'.cell? ⟨db, 1, none⟩ = some (.slice (some ⟨bo, off, none⟩) n co) ∧ w'.cell? ⟨bo, off + k * 2, none⟩ = some (.int .i64 p1) ∧ w'.cell? ⟨bo, off + k * 2 + 1, none⟩ = some (.int .i64 p2) ∧ Kp (fun _ => False) wr w') [] rfl ?_
      have hSd : ∀ (w' : World) (n' : Nat), (w'.cell? ⟨db, 1, none⟩ = some (.slice (some ⟨bo, off, none⟩) n co) ∧ w'.cell? ⟨bo, off + k * 2, none⟩ = some (.int .i64 p1) ∧ w'.cell? ⟨bo, off + k * 2 + 1, none⟩ = some (.int .i64 p2) ∧ Kp (fun _ => False) wr w') → ((w'.drewN n').cell? ⟨db, 1, none⟩ = some (.slice (some ⟨bo, off, none⟩) n co) ∧ (w'.drewN n').cell? ⟨bo, off + k * 2, none⟩ = some (.int .i64 p1) ∧ (w'.drewN n').cell? ⟨bo, off + k * 2 + 1, none⟩ = some (.int .i64 p2) ∧ Kp (fun _ => False) wr (w'.drewN n')) := fun w' n' h => ⟨h.1, h.2.1, h.2.2.1, h.2.2.2.drewN n'⟩
      have hS1 : wr.drew.cell? ⟨db, 1, none⟩ = some (.slice (some ⟨bo, off, none⟩) n co) ∧ wr.drew.cell? ⟨bo, off + k * 2, none⟩ = some (.int .i64 p1) ∧ wr.drew.cell? ⟨bo, off + k * 2 + 1, none⟩ = some (.int .i64 p2) ∧ Kp (fun _ => False) wr wr.drew := ⟨c1, o1, o2, (Kp.refl _ wr).drew⟩
      refine anyL_takeF (i := 0) (d := 17) (v := (.pointer (some ⟨db, 0, none⟩))) rfl rfl (by kernel_rfl) (by kernel_rfl) (by kernel_rfl) (fun _ _ _ h => h) hSd (by kernel_rfl) (.inl (.inl ⟨rfl, fun w' hS => rfl⟩)) (fun _ => hS1) ?_
      try simp only [List.setIfInBounds_toArray, List.set_cons_succ, List.set_cons_zero]
      refine anyL_takeF (i := 1) (d := 18) (v := (.pointer (some ⟨db, 0, none⟩))) rfl rfl (by kernel_rfl) (by kernel_rfl) (by kernel_rfl) (fun _ _ _ h => h) hSd (by kernel_rfl) (.inl (.inl ⟨rfl, fun w' hS => by go_simp⟩)) (fun _ => hS1) ?_
      try simp only [List.setIfInBounds_toArray, List.set_cons_succ, List.set_cons_zero]
      refine anyL_takeF (i := 2) (d := 19) (v := (.pointer (some ⟨db, 1, none⟩))) rfl rfl (by kernel_rfl) (by kernel_rfl) (by kernel_rfl) (fun _ _ _ h => h) hSd (by kernel_rfl) (.inl (.inl ⟨rfl, fun w' hS => by go_simp⟩)) (fun _ => hS1) ?_
      try simp only [List.setIfInBounds_toArray, List.set_cons_succ, List.set_cons_zero]
      refine anyL_takeD (i := 3) (d := 20) (v := (.slice (some ⟨bo, off, none⟩) n co)) rfl rfl (by kernel_rfl) (by kernel_rfl) (by kernel_rfl) (fun _ _ _ h => h) hSd (by kernel_rfl) (.inl (.inl ⟨rfl, fun w' hS => by have hc := hS.1; go_simp⟩)) hS1 ?_
      try simp only [List.setIfInBounds_toArray, List.set_cons_succ, List.set_cons_zero]
      refine anyL_takeF (i := 4) (d := 21) (v := (.int .i64 (k : Nat))) rfl rfl (by kernel_rfl) (by kernel_rfl) (by kernel_rfl) (fun _ _ _ h => h) hSd (by kernel_rfl) (.inl (.inl ⟨rfl, fun w' hS => rfl⟩)) (fun _ => hS1) ?_
      try simp only [List.setIfInBounds_toArray, List.set_cons_succ, List.set_cons_zero]
      refine anyL_takeF (i := 5) (d := 22) (v := (.pointer (some ⟨bo, off + k * 2, none⟩))) rfl rfl (by kernel_rfl) (by kernel_rfl) (by kernel_rfl) (fun _ _ _ h => h) hSd (by kernel_rfl) (.inl (.inl ⟨rfl, fun w' hS => by go_simp⟩)) (fun _ => hS1) ?_
      try simp only [List.setIfInBounds_toArray, List.set_cons_succ, List.set_cons_zero]
      refine anyL_takeD (i := 6) (d := 23) (v := (.agg #[.int .i64 p1, .int .i64 p2])) rfl rfl (by kernel_rfl) (by kernel_rfl) (by kernel_rfl) (fun _ _ _ h => h) hSd (by kernel_rfl) (.inl (.inl ⟨rfl, fun w' hS => by have hc1 := hS.2.1; have hc2 := hS.2.2.1; go_simp⟩)) hS1 ?_
      try simp only [List.setIfInBounds_toArray, List.set_cons_succ, List.set_cons_zero]
      refine anyL_takeF (i := 7) (d := 24) (v := (.int .i64 a)) rfl rfl (by kernel_rfl) (by kernel_rfl) (by kernel_rfl) (fun _ _ _ h => h) hSd (by kernel_rfl) (.inl (.inl ⟨rfl, fun w' hS => rfl⟩)) (fun _ => hS1) ?_
      try simp only [List.setIfInBounds_toArray, List.set_cons_succ, List.set_cons_zero]
      refine anyL_takeF (i := 8) (d := 25) (v := (.int .i64 b)) rfl rfl (by kernel_rfl) (by kernel_rfl) (by kernel_rfl) (fun _ _ _ h => h) hSd (by kernel_rfl) (.inl (.inl ⟨rfl, fun w' hS => rfl⟩)) (fun _ => hS1) ?_
      try simp only [List.setIfInBounds_toArray, List.set_cons_succ, List.set_cons_zero]
      refine anyL_all (rs := [9]) (by kernel_rfl) (by simp) ?_
      intro n9 i hi
      simp only [List.mem_cons, List.not_mem_nil, or_false] at hi
      obtain rfl := hi
      refine wpOp_of rfl rfl ?_
      go_simp
      refine (CL.out _).mono ?_
      rintro e w5 ⟨rfl, k5⟩
      have k15 : Kp (fun _ => False) wr w5 := ((Kp.refl _ wr).drewN _).trans k5
      try dsimp only
      refine ⟨fun _ => ⟨k15.cell c1 (fun h => h), k15.cell o1 (fun h => h), k15.cell o2 (fun h => h), k15⟩, ?_⟩
      try simp only [List.setIfInBounds_toArray, List.set_cons_succ, List.set_cons_zero]
      refine anyL_all (rs := [10]) (by kernel_rfl) (by simp) ?_
      intro n10 i hi
      simp only [List.mem_cons, List.not_mem_nil, or_false] at hi
      obtain rfl := hi
      refine wpOp_of rfl rfl ?_
      go_simp
      rw [run_eq2]
      go_simp
      refine ⟨fun _ => ⟨k15.cell c1 (fun h => h), k15.cell o1 (fun h => h), k15.cell o2 (fun h => h), k15.drewN _⟩, anyL_done (by kernel_rfl) (fun nn => ?_) _⟩
      have K2 := Lib.hid ((k15.drewN n10).drewN nn)
      generalize (w5.drewN n10).drewN nn = w6 at *
      have e1 : prOf a b = pr os k ↔ (p1 == q1 && p2 == q2) = true := by rw [HQ.out, HP.out.2.1, HP.out.2.2.1]; simp only [Bool.and_eq_true, beq_iff_eq]; exact ⟨fun h => by rw [← h]; exact ⟨rfl, rfl⟩, fun h => Prod.ext h.1.symm h.2.symm⟩
      clear hS1 hSd k15 k5 c1 o1 o2
      cases hb : (p1 == q1 && p2 == q2)
      · have HE := Lib.hid (show prOf a b ≠ pr os k from fun e => by rw [e1.1 e] at hb; cases hb)
        clear e1 hb
        go_wp2
        go_roundw
        case rel =>
          refine ⟨k + 1, by omega, by go_num, HP.out.2.2.2.2.trans K2.out, ?_⟩
          have h1 := HP.out.1
          rw [List.take_add_one, h1]
          simp only [Option.toList_some, List.mem_append, List.mem_singleton, not_or]
          exact ⟨HP.out.2.2.2.1, HE.out⟩
        case measure => simp [intOf]; omega
      · have HE := Lib.hid (e1.2 hb)
        clear e1 hb
        go_wp2
        go_ret
        refine ⟨ret_bool ?_, HP.out.2.2.2.2.trans K2.out⟩
        have h1 := HP.out.1
        rw [← HE.out] at h1
        simp [List.mem_of_getElem? h1]
    · obtain rfl : k = n := by omega
      have HP := Lib.hid (And.intro hno hkp)
      clear hno hkp hlt
      go_wp2
      go_ret
      refine ⟨ret_bool ?_, HP.out.2⟩
      have hno := HP.out.1
      rw [H.out.2.2, List.take_length] at hno
      simp [hno]
end
end Go.Proofs.Ytgcgcdgjooaipaa
