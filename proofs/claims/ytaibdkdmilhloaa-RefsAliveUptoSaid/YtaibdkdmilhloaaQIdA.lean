/- IDs: their bytes, values, cells and keys; lists of IDs in memory. (Written by wip/ref20a.py.) -/
import Derived.Test.YtaibdkdmilhloaaQMapS
import Derived.Test.YtaibdkdmilhloaaQMemK
import Derived.Stop.BytesEq
namespace Go.Proofs.Ytaibdkdmilhloaa
open Go.RowKit Go.Maps Go.WideMaps
set_option linter.unusedVariables false
set_option linter.unusedSimpArgs false
abbrev Id := List UInt8
def idW (x : Id) : List Value := x.map Extern.Stop.cell
def idV (x : Id) : Value := .agg (idW x).toArray
def idn (l : List Id) (i : Nat) : Id := l.getD i []
def idC : List Id → List Value
  | [] => []
  | x :: r => idW x ++ idC r
/-- Each has 16 bytes. -/
def Ids (l : List Id) : Prop := ∀ x ∈ l, x.length = 16
theorem idW_len (x : Id) : (idW x).length = x.length := by simp [idW]
theorem Ids.idn {l : List Id} (h : Ids l) {i : Nat} (hi : i < l.length) : (idn l i).length = 16 := by
  unfold Proofs.Ytaibdkdmilhloaa.idn
  rw [List.getD_eq_getElem?_getD, List.getElem?_eq_getElem hi]; exact h _ (List.getElem_mem hi)
theorem Ids.app {a b : List Id} (h : Ids a) (k : Ids b) : Ids (a ++ b) := fun x hx => by
  rcases List.mem_append.1 hx with h1 | h1
  · exact h x h1
  · exact k x h1
theorem idC_len : ∀ {l : List Id}, Ids l → (idC l).length = l.length * 16
  | [], _ => rfl
  | x :: r, h => by
    rw [idC, List.length_append, idW_len, h x (by simp), idC_len (fun y hy => h y (by simp [hy]))]; simp; omega
theorem idC_app : ∀ a b : List Id, idC (a ++ b) = idC a ++ idC b
  | [], b => rfl
  | x :: a, b => by rw [List.cons_append, idC, idC, idC_app a b, List.append_assoc]
theorem idC_get : ∀ {l : List Id}, Ids l → ∀ i j, i < l.length → j < 16 → (idC l)[i * 16 + j]? = (idW (idn l i))[j]?
  | [], _, i, _, h, _ => absurd h (Nat.not_lt_zero _)
  | x :: r, h, 0, j, _, hj => by
    have hx := h x (by simp)
    rw [idC, Nat.zero_mul, Nat.zero_add, List.getElem?_append_left (by rw [idW_len, hx]; exact hj)]; rfl
  | x :: r, h, i + 1, j, hi, hj => by
    have hx := h x (by simp)
    rw [idC, List.getElem?_append_right (by rw [idW_len, hx]; omega), idW_len, hx, show (i + 1) * 16 + j - 16 = i * 16 + j by omega]
    exact idC_get (fun y hy => h y (by simp [hy])) i j (by simpa using hi) hj
theorem cell_one (x : UInt8) : (Extern.Stop.cell x).oneCell' = true := rfl
theorem idW_one (x : Id) : ∀ u ∈ idW x, u.oneCell' = true := fun u hu => by
  obtain ⟨b, _, rfl⟩ := List.mem_map.1 hu; rfl
theorem idC_one : ∀ l : List Id, ∀ u ∈ idC l, u.oneCell' = true
  | [], u, hu => by cases hu
  | x :: r, u, hu => by
    rw [idC] at hu
    rcases List.mem_append.1 hu with h | h
    · exact idW_one x u h
    · exact idC_one r u h
theorem cell_inj {a b : UInt8} (h : Extern.Stop.cell a = Extern.Stop.cell b) : a = b := by
  simp only [Extern.Stop.cell, Value.int.injEq, true_and] at h
  exact UInt8.toNat_inj.1 (Int.ofNat_inj.1 h)
theorem idW_inj : ∀ {x y : Id}, idW x = idW y → x = y
  | [], [], _ => rfl
  | [], _ :: _, h => by simp [idW] at h
  | _ :: _, [], h => by simp [idW] at h
  | a :: x, b :: y, h => by
    simp only [idW, List.map_cons, List.cons.injEq] at h
    rw [cell_inj h.1, idW_inj h.2]
theorem idV_inj {x y : Id} (h : idV x = idV y) : x = y := by
  simp only [idV, Value.agg.injEq] at h
  exact idW_inj (by simpa using congrArg Array.toList h)
theorem id_und : Try.prog.underlying 41 = some (.array 16 5) := Try.underlying41
theorem id_size : (Try.prog.info? 41).map (·.size) = some 16 := by kernel_rfl
theorem id_arr : ArrKey Try.prog 41 5 16 := ⟨id_und, by kernel_rfl, by kernel_rfl, by kernel_rfl⟩
theorem id_law : Keyed Try.prog 41 := Keyed.of_law id_arr.law
theorem id_lits : ∀ (L : List Nat) (x : Id) (D : Nat), (∀ i ∈ L, i < x.length) → L.mapM (fun i => Try.prog.keyLits (D + 1) 5 (((idW x).drop (i * 1)).take 1)) = some (L.map fun i => [.int .u8 (Int.ofNat (x.getD i 0).toNat)])
  | [], _, _, _ => rfl
  | i :: L, x, D, h => by
    have hi := h i (by simp)
    have hw : (Lit.int .u8 (Int.ofNat (x.getD i 0).toNat)).wf = true := by
      generalize x.getD i 0 = b
      have := b.toNat_lt
      simp [Lit.wf, IntKind.min, IntKind.max, IntKind.signed, IntKind.bits]
      omega
    have hd : ((idW x).drop (i * 1)).take 1 = [.int .u8 (Int.ofNat (x.getD i 0).toNat)] := by
      rw [Nat.mul_one, List.drop_eq_getElem_cons (by rw [idW_len]; exact hi)]
      simp [idW, Extern.Stop.cell, List.getD, List.getElem?_eq_getElem hi]
    rw [List.mapM_cons, hd, id_lits L x D (fun j hj => h j (by simp [hj]))]
    have hk : Try.prog.keyLits (D + 1) 5 [.int .u8 (Int.ofNat (x.getD i 0).toNat)] = some [.int .u8 (Int.ofNat (x.getD i 0).toNat)] := by
      simp only [Program.keyLits, Try.underlying5]
      exact if_pos ⟨trivial, hw⟩
    rw [hk]
    rfl
theorem id_key {x : Id} (hx : x.length = 16) : ∃ k, keyOf Try.prog 41 (idV x) = some k := by
  have hsz : ∃ m, Try.prog.types.size = m + 1 := ⟨Try.prog.types.size - 1, by kernel_rfl⟩
  have hkt := id_arr.keyType hsz
  obtain ⟨m, hm⟩ := hsz
  have hl : (idW x).length = 16 := by rw [idW_len, hx]
  unfold keyOf
  simp only [id_und]
  rw [if_pos (by simp [hkt, Value.formed, id_und, id_arr.size, idV, hl]), hm]
  unfold Program.keyLits
  simp only [id_und, Value.cells, idV, List.toList_toArray]
  rw [if_pos (by rw [id_arr.size]; exact hl), id_arr.one]
  have := id_lits (List.range 16) x (m) (fun i hi => by rw [hx]; simpa using hi)
  rw [this]
  exact ⟨_, rfl⟩
theorem run_eq_id (w : World) {x y : Id} (hx : x.length = 16) (hy : y.length = 16) : (Op.equalIn 10000 41 (idV x) (idV y)).run Try.prog w = .ok (x == y) w :=
  run_equalIn_bytes w 9998 41 5 16 id_und Try.underlying5 (fun w => by kernel_rfl) x y hx hy
/-- One ID lies here. -/
theorem rangeAt_kp {S : Nat → Prop} {w w' : World} {b o : Nat} {cs : List Value} (h : w.rangeAt b o cs) (k : Kp S w w') (hb : ¬ S b) : w'.rangeAt b o cs := fun j v hv => k.cell (p := ⟨b, o + j, none⟩) (h j v hv) hb
theorem load_id {w : World} {b o : Nat} {x : Id} (h : w.rangeAt b o (idW x)) (hx : x.length = 16) : (Instr.loadAt 41 (.pointer (some ⟨b, o, none⟩))).run Try.prog w = .ok (idV x) w :=
  run_loadAt_mid w b o 41 (idW x) _ h id_und rfl (by rw [idW_len, hx]; exact id_size)
theorem at_range {w : World} {b : Nat} {pre cs post : List Value} (h : At w b (pre ++ cs ++ post)) : w.rangeAt b pre.length cs := fun j v hv => by
  have hj := (List.getElem?_eq_some_iff.1 hv).1
  rw [h.cell, List.append_assoc, List.getElem?_append_right (by omega), Nat.add_sub_cancel_left, List.getElem?_append_left hj, hv]
/-- The slice reads as these IDs. -/
structure RdI (w : World) (a : Option Addr) (l : List Id) : Prop where
  ids : Ids l
  at' : ∀ i, i < l.length → ∃ b off, a = some ⟨b, off, none⟩ ∧ w.rangeAt b (off + i * 16) (idW (idn l i))
theorem RdI.kp {S : Nat → Prop} {w w' : World} {a : Option Addr} {l : List Id} (h : RdI w a l) (k : Kp S w w') (ho : Off S a) : RdI w' a l :=
  ⟨h.ids, fun i hi => by obtain ⟨b, off, e, hc⟩ := h.at' i hi; exact ⟨b, off, e, rangeAt_kp hc k (ho _ e)⟩⟩
theorem RdI.kp0 {w w' : World} {a : Option Addr} {l : List Id} (h : RdI w a l) (k : Kp (fun _ => False) w w') : RdI w' a l := h.kp k (fun _ _ h => h)
theorem RdI.kpge {S : Nat → Prop} {w0 w w' : World} {a : Option Addr} {l : List Id} (h0 : RdI w0 a l) (h : RdI w a l) (k : Kp S w w') (hs : ∀ i, S i → w0.heap.size ≤ i) : RdI w' a l :=
  ⟨h.ids, fun i hi => by
    obtain ⟨b, off, e, hc⟩ := h.at' i hi
    obtain ⟨b0, off0, e0, hc0⟩ := h0.at' i hi
    rw [e] at e0; cases e0
    refine ⟨b, off, e, rangeAt_kp hc k (fun hb => ?_)⟩
    have hx := h.ids.idn hi
    have hlt := World.block_lt_of_cell? w0 _ (hc0 0 _ (List.getElem?_eq_getElem (by rw [idW_len]; omega)))
    have := hs b hb
    exact absurd this (Nat.not_le.2 hlt)⟩
theorem RdI.nil (w : World) (a : Option Addr) : RdI w a [] := ⟨fun x hx => (by cases hx), fun i hi => absurd hi (Nat.not_lt_zero _)⟩
theorem RdI.of_own {w : World} {a : Option Addr} {n c : Nat} {l : List Id} (hl : Ids l) (h : Own w (.slice a n c) n 16 (idC l)) : RdI w a l := ⟨hl, fun i hi => by
  have hr := h.rd
  have hlen := idC_len hl
  have hx := hl.idn hi
  obtain ⟨b, off, e, _⟩ := hr (i * 16) (by omega)
  refine ⟨b, off, e, fun j v hv => ?_⟩
  have hj : j < 16 := by have := (List.getElem?_eq_some_iff.1 hv).1; rw [idW_len, hx] at this; exact this
  obtain ⟨b', off', e', hc⟩ := hr (i * 16 + j) (by omega)
  rw [e] at e'; cases e'
  rw [Nat.add_assoc, hc, List.getD_eq_getElem?_getD, idC_get hl i j hi hj, hv]; rfl⟩
theorem elem_id : Elem Try.prog 41 (.agg (List.replicate 16 (.int .u8 0)).toArray) 16 16 := Elem.mk' (by kernel_rfl) (by simp [Value.cells]) (by omega) (by simp [Value.cells, Value.oneCell'])
/-- IDs of the call's own. -/
structure OwnI (w : World) (v : Value) (l : List Id) : Prop where
  ids : Ids l
  own : Own w v l.length 16 (idC l)
theorem OwnI.nil (w : World) : OwnI w (.slice none 0 0) [] := ⟨fun x hx => (by cases hx), Own.nil w 16⟩
theorem OwnI.kp {S : Nat → Prop} {w w' : World} {v : Value} {l : List Id} (h : OwnI w v l) (k : Kp S w w') (hs : ∀ g, v.ownBlock = some g → ¬ S g) : OwnI w' v l := ⟨h.ids, h.own.kp k hs⟩
theorem OwnI.kp0 {w w' : World} {v : Value} {l : List Id} (h : OwnI w v l) (k : Kp (fun _ => False) w w') : OwnI w' v l := h.kp k (fun _ _ h => h)
theorem OwnI.form {w : World} {v : Value} {l : List Id} (h : OwnI w v l) : ∃ a c, v = .slice a l.length c ∧ RdI w a l ∧ l.length ≤ c := by
  obtain ⟨a, c, rfl, hc, _⟩ := h.own.form
  exact ⟨a, c, rfl, RdI.of_own h.ids h.own, hc⟩
theorem OwnI.app {w : World} {v : Value} {l : List Id} (h : OwnI w v l) (hn : l.length ≤ 1000000) {x : Id} (hx : x.length = 16) {bx : Nat} (hat : At w bx (idW x)) :
    ∃ v' w', (Builtin.append_ #[34, 34] 34 #[v, .slice (some ⟨bx, 0, none⟩) 1 1]).run Try.prog w = .ok v' w' ∧ OwnI w' v' (l ++ [x]) ∧ Kp (fun k => v.ownBlock = some k) w w' ∧ (v'.ownBlock = v.ownBlock ∨ v'.ownBlock = some w.heap.size) := by
  obtain ⟨v', w', hr, ho, k, hb, _⟩ := run_append_at (P := Try.prog) (t := 34) (tx := 34) (ty := 34) w Try.underlying34 elem_id Try.underlying34 h.own (a := some ⟨bx, 0, none⟩) (m := 1) (c := 1) (news := idW x) (by rw [idW_len, hx])
    (fun i hi => ⟨bx, 0, rfl, by rw [hat.cell, Nat.zero_add, List.getD_eq_getElem?_getD, List.getElem?_eq_getElem hi]; rfl⟩) (idW_one x) (by unfold maxLen; omega) (by omega)
  refine ⟨v', w', hr, ⟨h.ids.app (fun y hy => by rw [List.mem_singleton.1 hy]; exact hx), ?_⟩, k, hb⟩
  rw [List.length_append, List.length_singleton, idC_app]
  simpa [idC] using ho
/-- Many at once. -/
theorem OwnI.apps {w : World} {v : Value} {l m : List Id} (h : OwnI w v l) (hn : l.length + m.length ≤ 1000000) {a : Option Addr} (c : Nat) (hr : RdI w a m) :
    ∃ v' w', (Builtin.append_ #[34, 34] 34 #[v, .slice a m.length c]).run Try.prog w = .ok v' w' ∧ OwnI w' v' (l ++ m) ∧ Kp (fun k => v.ownBlock = some k) w w' ∧ (v'.ownBlock = v.ownBlock ∨ v'.ownBlock = some w.heap.size) := by
  have hl := idC_len hr.ids
  obtain ⟨v', w', hr', ho, k, hb, _⟩ := run_append_at (P := Try.prog) (t := 34) (tx := 34) (ty := 34) w Try.underlying34 elem_id Try.underlying34 h.own (a := a) (m := m.length) (c := c) (news := idC m) hl
    (fun i hi => by
      have hq : i / 16 < m.length := by omega
      have hx := hr.ids.idn hq
      obtain ⟨b, off, e, hc⟩ := hr.at' (i / 16) hq
      refine ⟨b, off, e, ?_⟩
      have hg := idC_get hr.ids (i / 16) (i % 16) hq (Nat.mod_lt _ (by omega))
      have hi16 : i / 16 * 16 + i % 16 = i := by omega
      rw [hi16] at hg
      have hs : (idW (idn m (i / 16)))[i % 16]? = some ((idC m).getD i undef) := by
        rw [← hg, List.getD_eq_getElem?_getD, List.getElem?_eq_getElem hi]; rfl
      have := hc _ _ hs
      rw [show off + i / 16 * 16 + i % 16 = off + i by omega] at this
      exact this) (idC_one m) (by unfold maxLen; omega) (by omega)
  refine ⟨v', w', hr', ⟨h.ids.app hr.ids, ?_⟩, k, hb⟩
  rw [List.length_append, idC_app]
  exact ho
end Go.Proofs.Ytaibdkdmilhloaa
