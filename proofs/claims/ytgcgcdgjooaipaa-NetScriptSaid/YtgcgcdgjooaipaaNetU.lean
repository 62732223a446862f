/- Package net: Turn. (Written by wip/netu.py.) -/
import Derived.Test.YtgcgcdgjooaipaaNetT
namespace Go.Proofs.Ytgcgcdgjooaipaa
open Go.RowKit Go.Maps
set_option linter.unusedVariables false
set_option linter.unusedSimpArgs false
/-- A bit of a byte is turned. -/
def flipB (c : Int) (k : Nat) : Int := bits .xor .u8 c (IntKind.u8.wrap (2 ^ k))
theorem flipB_bd : ∀ (c : Fin 256) (k : Fin 8), 0 ≤ flipB (c.val : Int) k.val ∧ flipB (c.val : Int) k.val ≤ 255 ∧ flipB (flipB (c.val : Int) k.val) k.val = (c.val : Int) := by decide +kernel
theorem flip_bd {c : Int} {k : Nat} (h : 0 ≤ c ∧ c ≤ 255) (hk : k < 8) : 0 ≤ flipB c k ∧ flipB c k ≤ 255 ∧ flipB (flipB c k) k = c := by
  have := flipB_bd ⟨c.toNat, by omega⟩ ⟨k, hk⟩
  simpa [Int.toNat_of_nonneg h.1] using this
theorem turn_none (p : Option Addr) (i : Int) (bit : Int) (w : World) (hno : ∀ w', Kp (fun _ => False) w w' → Calls Try.prog 31 #[.pointer p] w' fun e w'' => e = .returned (.bool true) ∧ w' = w'') :
    Calls Try.prog 17 #[.pointer p, .int .i64 i, .int .i64 bit] w fun e w' => e = .returned (.int .i64 1) ∧ Kp (fun _ => False) w w' := by
  have HN := Lib.hid hno
  clear hno
  go_enter Try.func17, Try.ntmps17
  go_wp2_with (go_at_call 31; (with_reducible refine (HN.out _ (Kp.refl _ w)).mono ?_); rintro e w' ⟨rfl, rfl⟩)
  go_ret
  exact ⟨rfl, Kp.refl _ w⟩
theorem turn_no (nb mb : Nat) (nds : List Nd) (lost i bit : Int) (w : World) (h : NetC w nb nds nds.length mb lost) (hn : nds.length ≤ 10000) (hi : i < 0 ∨ (nds.length : Int) ≤ i) :
    Calls Try.prog 17 #[.pointer (some ⟨nb, 0, none⟩), .int .i64 i, .int .i64 bit] w fun e w' => e = .returned (.int .i64 6) ∧ Kp (fun _ => False) w w' := by
  have c0 : w.cell? ⟨nb, 0, none⟩ = some (.bool true) := (h.hat.cell 0).trans rfl
  have HN := Lib.hid (fun w' (k : Kp (fun _ => False) w w') => none_at nb w' (k.cell c0 (fun h => h)))
  have CA := Lib.hid (fun w' (k : Kp (fun _ => False) w w') => at_no nb mb nds lost i w' (h.kp k (fun _ _ h => h)) hn hi)
  clear h c0 hi
  go_enter Try.func17, Try.ntmps17
  go_wp2_with (first | (go_at_call 31; (with_reducible refine (HN.out _ (Kp.refl _ w)).mono ?_); rintro e w' ⟨rfl, rfl⟩) | (go_at_call 38; (with_reducible refine (CA.out _ (Kp.refl _ w)).mono ?_); rintro e w1 ⟨rfl, k1⟩; have K1 := Lib.hid k1; clear k1))
  go_ret
  exact ⟨rfl, K1.out⟩
set_option maxHeartbeats 1000000 in
set_option maxRecDepth 20000 in
theorem turn_range (nb mb : Nat) (nds : List Nd) (lost : Int) (i : Nat) (bit : Int) (w : World) (h : NetC w nb nds nds.length mb lost) (hn : nds.length ≤ 10000) (hi : i < nds.length) (hw : -9223372036854775808 ≤ bit ∧ bit ≤ 9223372036854775807) (hb : bit < 0 ∨ 8 * ((nd nds i).l.length : Int) ≤ bit) :
    Calls Try.prog 17 #[.pointer (some ⟨nb, 0, none⟩), .int .i64 i, .int .i64 bit] w fun e w' => e = .returned (.int .i64 5) ∧ Kp (fun _ => False) w w' := by
  have c0 : w.cell? ⟨nb, 0, none⟩ = some (.bool true) := (h.hat.cell 0).trans rfl
  have HN := Lib.hid (fun w' (k : Kp (fun _ => False) w w') => none_at nb w' (k.cell c0 (fun h => h)))
  have CA := Lib.hid (fun w' (k : Kp (fun _ => False) w w') => at_yes nb mb nds lost i w' (h.kp k (fun _ _ h => h)) hn hi)
  obtain ⟨A, c, hB, hR, _⟩ := (h.own i hi).form
  have hx := h.nextCell (i := i) (by omega)
  rw [nx_at hi] at hx
  obtain ⟨n0, n1, n2, _⟩ := nd_cells (h.node i hi)
  rw [hB] at n2
  have HC := Lib.hid (And.intro hx.1 n2)
  have hl := (h.own i hi).len
  generalize (nd nds i).l.length = m at *
  clear h c0 hi hx n0 n1 n2 hR hB
  rcases hb with hb | hb
  · go_enter Try.func17, Try.ntmps17
    go_wp2_with (first | (go_at_call 31; (with_reducible refine (HN.out _ (Kp.refl _ w)).mono ?_); rintro e w' ⟨rfl, rfl⟩) | (go_at_call 38; (with_reducible refine (CA.out _ (Kp.refl _ w)).mono ?_); rintro e w1 ⟨rfl, k1⟩; have x6 := k1.cell HC.out.1 (fun h => h); have x2 := k1.cell HC.out.2 (fun h => h); have K1 := Lib.hid k1; clear k1))
    go_ret
    exact ⟨rfl, K1.out⟩
  · obtain ⟨t, rfl⟩ : ∃ t : Nat, bit = (t : Nat) := ⟨bit.toNat, by omega⟩
    have b0 : ¬ (t : Int) < 0 := by omega
    have b1 : (m : Int) ≤ (t : Int) / 8 := by omega
    go_enter Try.func17, Try.ntmps17
    go_wp2_with (first | (go_at_call 31; (with_reducible refine (HN.out _ (Kp.refl _ w)).mono ?_); rintro e w' ⟨rfl, rfl⟩) | (go_at_call 38; (with_reducible refine (CA.out _ (Kp.refl _ w)).mono ?_); rintro e w1 ⟨rfl, k1⟩; have x6 := k1.cell HC.out.1 (fun h => h); have x2 := k1.cell HC.out.2 (fun h => h); have K1 := Lib.hid k1; clear k1))
    go_ret
    exact ⟨rfl, K1.out⟩
theorem OwnB.setB {w : World} {v : Value} {l : List Int} (h : OwnB w v l) {q : Nat} (hq : q < l.length) {x : Int} (hx : 0 ≤ x ∧ x ≤ 255) : ∃ g c, v = .slice (some ⟨g, 0, none⟩) l.length c ∧ l.length ≤ c ∧
    w.cell? ⟨g, q, none⟩ = some (.int .u8 (l.getD q 0)) ∧ w.frozen? ⟨g, q, none⟩ = false ∧ OwnB (w.setCell ⟨g, q, none⟩ (.int .u8 x)) v (l.set q x) ∧ Kp (fun j => v.ownBlock = some j) w (w.setCell ⟨g, q, none⟩ (.int .u8 x)) := by
  have hl := h.own.1
  rw [Nat.mul_one, List.length_map] at hl
  rcases h.own.2 with ⟨rfl, h0⟩ | ⟨g, cap, sp, rfl, hat, hsp, hle, hcm⟩
  · omega
  · have hset := hat.set q (.int .u8 x)
    have e : (l.map (Value.int .u8) ++ sp).set q (.int .u8 x) = (l.set q x).map (Value.int .u8) ++ sp := by
      rw [List.set_append_left _ _ (by simpa using hq), ← List.map_set]
    rw [e] at hset
    refine ⟨g, cap, rfl, hle, ?_, hat.frozen _, ⟨⟨by simp, .inr ⟨g, cap, sp, by simp, hset, by simpa using hsp, by simpa using hle, hcm⟩⟩, fun g' hg' => ?_, fun y hy => ?_, by simpa using h.len⟩, ?_⟩
    · rw [hat.cell, List.getElem?_append_left (by simpa using hq), List.getElem?_map, List.getD_eq_getElem?_getD, List.getElem?_eq_getElem hq]; rfl
    · simp only [Value.ownBlock, Option.some.injEq] at hg'
      subst hg'
      obtain ⟨cs, hcs, hp⟩ := h.blk g rfl
      have e2 := hat.inj hcs
      subst e2
      refine ⟨_, hset, fun u hu => ?_⟩
      rw [← e] at hu
      rcases List.mem_or_eq_of_mem_set hu with h' | rfl
      · exact hp u h'
      · exact ⟨x, rfl, hx⟩
    · rcases List.mem_or_eq_of_mem_set hy with h' | rfl
      · exact h.byt y h'
      · exact hx
    · exact (Kp.refl (fun j => (Value.slice (some ⟨g, 0, none⟩) l.length cap).ownBlock = some j) w).setCell (p := ⟨g, q, none⟩) (fun _ => rfl) _
theorem NetC.turned {w : World} {nb mb : Nat} {nds : List Nd} {n lost : Int} (h : NetC w nb nds n mb lost) {i : Nat} (hi : i < nds.length) {w' : World} {l' : List Int} (ho : OwnB w' (nd nds i).B l') (k : Kp (fun j => (nd nds i).B.ownBlock = some j) w w') :
    NetC w' nb (nds.set i ⟨(nd nds i).g, (nd nds i).fr, (nd nds i).to, (nd nds i).B, l'⟩) n mb lost := by
  have hs := nd_set hi ⟨(nd nds i).g, (nd nds i).fr, (nd nds i).to, (nd nds i).B, l'⟩
  have hB : ∀ j, (nd (nds.set i ⟨(nd nds i).g, (nd nds i).fr, (nd nds i).to, (nd nds i).B, l'⟩) j).B = (nd nds j).B := fun j => by rw [hs]; split; (rename_i e; rw [e]); rfl
  refine h.data (by simp) (fun j hj => by rw [hs]; split; (rename_i e; rw [e]); rfl) k (fun e => (h.apart hi e).1 rfl) (fun j hj => ?_) (fun j hj => ?_) (fun j q b hj hq e e' => ?_)
  · have := k.at (h.node j hj) (fun e => (h.apart hi e).2 j hj rfl)
    rw [hs]
    split
    · rename_i e; rw [e] at this ⊢; exact this
    · exact this
  · rw [hs]
    split
    · exact ho
    · rename_i hne
      exact (h.own j hj).kp k (fun g hg e => hne (h.binj j i g hj hi hg e))
  · rw [hB] at e e'
    exact h.binj j q b hj hq e e'
theorem setCell_drewN (w : World) (a : Addr) (v : Value) (n : Nat) : (w.setCell a v).drewN n = (w.drewN n).setCell a v := rfl
set_option maxHeartbeats 1000000 in
set_option maxRecDepth 20000 in
theorem turn_core (nb pb po gg g q r m c : Nat) (x : Int) (i : Int) (w : World) (c0 : w.cell? ⟨nb, 0, none⟩ = some (.bool true)) (hA : ∀ w', Kp (fun _ => False) w w' → Calls Try.prog 38 #[.pointer (some ⟨nb, 0, none⟩), .int .i64 i] w' fun e w'' => e = .returned (.pointer (some ⟨pb, po, none⟩)) ∧ Kp (fun _ => False) w' w'')
    (cn : w.cell? ⟨pb, po + 3, none⟩ = some (.pointer (some ⟨gg, 0, none⟩))) (cB : w.cell? ⟨gg, 2, none⟩ = some (.slice (some ⟨g, 0, none⟩) m c)) (cx : w.cell? ⟨g, q, none⟩ = some (.int .u8 x)) (hf : ∀ w', Kp (fun _ => False) w w' → w'.frozen? ⟨g, q, none⟩ = false) (hq : q < m) (hm : m ≤ 1000000) (hr : r < 8) (hx : 0 ≤ x ∧ x ≤ 255) :
    Calls Try.prog 17 #[.pointer (some ⟨nb, 0, none⟩), .int .i64 i, .int .i64 ((8 * q + r : Nat) : Int)] w fun e w' => e = .returned (.int .i64 0) ∧ ∃ w1, Kp (fun _ => False) w w1 ∧ w' = w1.setCell ⟨g, q, none⟩ (.int .u8 (flipB x r)) := by
  have HN := Lib.hid (fun w' (k : Kp (fun _ => False) w w') => none_at nb w' (k.cell c0 (fun h => h)))
  have CA := Lib.hid hA
  have HC := Lib.hid (And.intro cn (And.intro cB (And.intro cx hf)))
  obtain ⟨t, ht⟩ : ∃ t : Nat, t = 8 * q + r := ⟨_, rfl⟩
  rw [← ht]
  have b0 : ¬ (t : Int) < 0 := by omega
  have e1 : (t : Int) / 8 = (q : Int) := by omega
  have e2 : (t : Int).tdiv 8 = (q : Int) := by rw [Int.tdiv_eq_ediv_of_nonneg (by omega)]; exact e1
  have e3 : (t : Int).tmod 8 = (r : Int) := by rw [Int.tmod_eq_emod_of_nonneg (by omega)]; omega
  have e4 : IntKind.i64.wrap (q : Int) = (q : Int) := IntWalk.i64_in _ (by omega)
  have e5 : IntKind.i64.wrap (r : Int) = (r : Int) := IntWalk.i64_in _ (by omega)
  have b1 : ¬ (m : Int) ≤ (q : Int) := by omega
  have b2 : (q : Int) < (m : Int) := by omega
  have b3 : (r : Int) ≤ 8 := by omega
  have HE := Lib.hid (And.intro e2 (And.intro e3 (And.intro e4 (And.intro e5 b3))))
  have hfd : bits .xor .u8 x (IntKind.u8.wrap (2 ^ r)) = flipB x r := rfl
  have HF := Lib.hid hfd
  clear hA c0 cn cB cx hf ht e2 e3 e4 e5 b3 hfd
  go_enter Try.func17, Try.ntmps17
  go_upto_region 9 with (first | (go_at_call 31; (with_reducible refine (HN.out _ (Kp.refl _ w)).mono ?_); rintro e w' ⟨rfl, rfl⟩) | (go_at_call 38; (with_reducible refine (CA.out _ (Kp.refl _ w)).mono ?_); rintro e w1 ⟨rfl, k1⟩; have x6 := k1.cell HC.out.1 (fun h => h); have x2 := k1.cell HC.out.2.1 (fun h => h); have K1 := Lib.hid k1; clear k1))
  have cx := K1.out.cell HC.out.2.2.1 (fun h => h)
  have hf := fun w' (k : Kp (fun _ => False) w1 w') => HC.out.2.2.2 w' (K1.out.trans k)
  obtain ⟨e2, e3, e4, e5, b3⟩ := HE.out
  have hfd := HF.out
  refine region_L (S := fun w' => w'.cell? ⟨g, q, none⟩ = some (.int .u8 x) ∧ Kp (fun _ => False) w1 w') [10] rfl ?_
  have hSd : ∀ (w' : World) (n' : Nat), (w'.cell? ⟨g, q, none⟩ = some (.int .u8 x) ∧ Kp (fun _ => False) w1 w') → ((w'.drewN n').cell? ⟨g, q, none⟩ = some (.int .u8 x) ∧ Kp (fun _ => False) w1 (w'.drewN n')) := fun w' n' h => ⟨h.1, h.2.drewN n'⟩
  have hS1 : w1.drew.cell? ⟨g, q, none⟩ = some (.int .u8 x) ∧ Kp (fun _ => False) w1 w1.drew := ⟨cx, (Kp.refl _ w1).drew⟩
  refine anyL_takeF (i := 0) (d := 33) (v := (.slice (some ⟨g, 0, none⟩) m c)) rfl rfl (by kernel_rfl) (by kernel_rfl) (by kernel_rfl) (fun _ _ _ h => h) hSd (by kernel_rfl) (.inl (.inl ⟨rfl, fun w' hS => rfl⟩)) (fun _ => hS1) ?_
  try simp only [List.setIfInBounds_toArray, List.set_cons_succ, List.set_cons_zero]
  refine anyL_takeF (i := 1) (d := 34) (v := (.int .i64 t)) rfl rfl (by kernel_rfl) (by kernel_rfl) (by kernel_rfl) (fun _ _ _ h => h) hSd (by kernel_rfl) (.inl (.inl ⟨rfl, fun w' hS => rfl⟩)) (fun _ => hS1) ?_
  try simp only [List.setIfInBounds_toArray, List.set_cons_succ, List.set_cons_zero]
  refine anyL_takeF (i := 2) (d := 35) (v := (.int .i64 q)) rfl rfl (by kernel_rfl) (by kernel_rfl) (by kernel_rfl) (fun _ _ _ h => h) hSd (by kernel_rfl) (.inl (.inl ⟨rfl, fun w' hS => by go_simp⟩)) (fun _ => hS1) ?_
  try simp only [List.setIfInBounds_toArray, List.set_cons_succ, List.set_cons_zero]
  refine anyL_takeF (i := 3) (d := 36) (v := (.pointer (some ⟨g, q, none⟩))) rfl rfl (by kernel_rfl) (by kernel_rfl) (by kernel_rfl) (fun _ _ _ h => h) hSd (by kernel_rfl) (.inl (.inl ⟨rfl, fun w' hS => by go_simp⟩)) (fun _ => hS1) ?_
  try simp only [List.setIfInBounds_toArray, List.set_cons_succ, List.set_cons_zero]
  refine anyL_takeD (i := 4) (d := 37) (v := (.int .u8 x)) rfl rfl (by kernel_rfl) (by kernel_rfl) (by kernel_rfl) (fun _ _ _ h => h) hSd (by kernel_rfl) (.inl (.inl ⟨rfl, fun w' hS => by have hc := hS.1; go_simp⟩)) hS1 ?_
  try simp only [List.setIfInBounds_toArray, List.set_cons_succ, List.set_cons_zero]
  refine anyL_takeF (i := 5) (d := 38) (v := (.int .i64 t)) rfl rfl (by kernel_rfl) (by kernel_rfl) (by kernel_rfl) (fun _ _ _ h => h) hSd (by kernel_rfl) (.inl (.inl ⟨rfl, fun w' hS => rfl⟩)) (fun _ => hS1) ?_
  try simp only [List.setIfInBounds_toArray, List.set_cons_succ, List.set_cons_zero]
  refine anyL_takeF (i := 6) (d := 39) (v := (.int .i64 r)) rfl rfl (by kernel_rfl) (by kernel_rfl) (by kernel_rfl) (fun _ _ _ h => h) hSd (by kernel_rfl) (.inl (.inl ⟨rfl, fun w' hS => by go_simp⟩)) (fun _ => hS1) ?_
  try simp only [List.setIfInBounds_toArray, List.set_cons_succ, List.set_cons_zero]
  refine anyL_takeF (i := 7) (d := 40) (v := (.int .u8 (IntKind.u8.wrap (2 ^ r)))) rfl rfl (by kernel_rfl) (by kernel_rfl) (by kernel_rfl) (fun _ _ _ h => h) hSd (by kernel_rfl) (.inl (.inl ⟨rfl, fun w' hS => by go_simp⟩)) (fun _ => hS1) ?_
  try simp only [List.setIfInBounds_toArray, List.set_cons_succ, List.set_cons_zero]
  refine anyL_takeF (i := 8) (d := 41) (v := (.int .u8 (flipB x r))) rfl rfl (by kernel_rfl) (by kernel_rfl) (by kernel_rfl) (fun _ _ _ h => h) hSd (by kernel_rfl) (.inl (.inl ⟨rfl, fun w' hS => by go_simp⟩)) (fun _ => hS1) ?_
  try simp only [List.setIfInBounds_toArray, List.set_cons_succ, List.set_cons_zero]
  refine anyL_takeF (i := 9) (d := 42) (v := (.pointer (some ⟨g, q, none⟩))) rfl rfl (by kernel_rfl) (by kernel_rfl) (by kernel_rfl) (fun _ _ _ h => h) hSd (by kernel_rfl) (.inl (.inl ⟨rfl, fun w' hS => by go_simp⟩)) (fun _ => hS1) ?_
  try simp only [List.setIfInBounds_toArray, List.set_cons_succ, List.set_cons_zero]
  refine anyL_all (rs := [10]) (by kernel_rfl) (by simp) ?_
  intro n10 i hi
  simp only [List.mem_cons, List.not_mem_nil, or_false] at hi
  obtain rfl := hi
  refine wpOp_of rfl rfl ?_
  have cx2 : (w1.drewN (1 + n10)).cell? ⟨g, q, none⟩ = some (.int .u8 x) := cx
  have hf2 := hf (w1.drewN (1 + n10)) ((Kp.refl _ w1).drewN _)
  go_simp
  refine ⟨fun h => Bool.noConfusion (show false = true from h), anyL_done (by kernel_rfl) (fun nn => ?_) _⟩
  have HK := Lib.hid (K1.out.trans (((Kp.refl (fun _ => False) w1).drewN (1 + n10)).drewN nn))
  have hw : ((w1.drewN (1 + n10)).setCell ⟨g, q, none⟩ (.int .u8 (flipB x r))).drewN nn = ((w1.drewN (1 + n10)).drewN nn).setCell ⟨g, q, none⟩ (.int .u8 (flipB x r)) := rfl
  rw [hw]
  generalize (w1.drewN (1 + n10)).drewN nn = w3 at *
  clear cx2 hf2 hw hS1 hSd e2 e3 e4 e5
  go_wp2
  go_ret
  exact ⟨rfl, w3, HK.out, rfl⟩
theorem turn_yes (nb mb : Nat) (nds : List Nd) (lost : Int) (i bit : Nat) (w : World) (h : NetC w nb nds nds.length mb lost) (hn : nds.length ≤ 10000) (hi : i < nds.length) (hl : (nd nds i).l.length ≤ 1000000) (hb : bit < 8 * (nd nds i).l.length) :
    Calls Try.prog 17 #[.pointer (some ⟨nb, 0, none⟩), .int .i64 i, .int .i64 bit] w fun e w' => e = .returned (.int .i64 0) ∧
      NetC w' nb (nds.set i ⟨(nd nds i).g, (nd nds i).fr, (nd nds i).to, (nd nds i).B, (nd nds i).l.set (bit / 8) (flipB ((nd nds i).l.getD (bit / 8) 0) (bit % 8))⟩) nds.length mb lost ∧ Kp (fun j => (nd nds i).B.ownBlock = some j) w w' := by
  have hq : bit / 8 < (nd nds i).l.length := by omega
  have hbd := (h.own i hi).byt.getD (bit / 8)
  have hfl := flip_bd (k := bit % 8) hbd (by omega)
  obtain ⟨g, c, hB, hc, hcell, _⟩ := (h.own i hi).setB hq ⟨hfl.1, hfl.2.1⟩
  have hx := h.nextCell (i := i) (by omega)
  rw [nx_at hi] at hx
  obtain ⟨_, _, n2, _⟩ := nd_cells (h.node i hi)
  rw [hB] at n2
  have hown : (nd nds i).B.ownBlock = some g := by rw [hB]; rfl
  have C := turn_core nb (pB nb nds i) (pO i) (nd nds i).g g (bit / 8) (bit % 8) (nd nds i).l.length c ((nd nds i).l.getD (bit / 8) 0) i w ((h.hat.cell 0).trans rfl) (fun w' k => at_yes nb mb nds lost i w' (h.kp k (fun _ _ h => h)) hn hi) hx.1 n2 hcell
    (fun w' k => by obtain ⟨g', c', hB', _, _, hf, _⟩ := ((h.kp k (fun _ _ h => h)).own i hi).setB hq ⟨hfl.1, hfl.2.1⟩; rw [hB] at hB'; cases hB'; exact hf) hq hl (by omega) hbd
  rw [show 8 * (bit / 8) + bit % 8 = bit by omega] at C
  refine C.mono ?_
  rintro e w' ⟨rfl, w1, k1, rfl⟩
  have hN1 := h.kp k1 (fun _ _ h => h)
  obtain ⟨g', c', hB', _, _, _, ho, k2⟩ := (hN1.own i hi).setB hq ⟨hfl.1, hfl.2.1⟩
  rw [hB] at hB'
  cases hB'
  exact ⟨rfl, hN1.turned hi ho k2, (k1.mono (fun _ _ h => h.elim)).trans k2⟩
end Go.Proofs.Ytgcgcdgjooaipaa
