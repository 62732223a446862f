/- Words on worlds and lists that every walk of this seat shares: an object's block, a frame, a slice that reads as a list of bytes. No condition. -/
import Derived.Test.YtokembhfebnjpaaChecked
import Derived.WalkKit
import Derived.WalkLawsBesides
import Derived.WalkSpells
import Derived.Lib.Hide
import Derived.StillTailTactics
import Derived.Deep.RegionHeld3
import Derived.BigQuiet
import Derived.Deep.QuietTactic
import Derived.Laws.CopyOwn
import Derived.Deep.MidRow
import Derived.Deep.AppendSrc
import Derived.Laws.BytesArg
import Derived.OrdersHeld
import Derived.OrdersIn
import Derived.TacticsIn
import Derived.RangeFuncCalls
import Derived.Deep.Draws
import Derived.OwnWalkIn
import Derived.RangeFuncNested
import Derived.RangeFuncBound
import Derived.RangeFuncLeaves
import Derived.Shelf.Abstract
import Derived.Shelf.RegionOpen
import Derived.TacticsInMore
import Derived.LoopNIn
import Derived.LoopIn
import Derived.MapKept
import Derived.Carry
import Derived.Lib.SlBytesConst
import Derived.Deep.Slices
import Derived.SizedLaws
import Derived.ProofKit
namespace Go.Proofs.Ytokembhfebnjpaa
set_option maxRecDepth 20000
open Go.RowKit
set_option linter.unusedVariables false

/-- Block b holds the cells cs, and may be written. -/
def At (w : World) (b : Nat) (cs : List Value) : Prop := ∃ T, w.heap[b]? = some (.cells cs.toArray T (0, 0))

theorem At.lt {w : World} {b : Nat} {cs : List Value} (h : At w b cs) : b < w.heap.size := by
  obtain ⟨T, h⟩ := h; exact (Array.getElem?_eq_some_iff.1 h).1
theorem At.cell {w : World} {b : Nat} {cs : List Value} (h : At w b cs) (i : Nat) : w.cell? ⟨b, i, none⟩ = cs[i]? := by
  obtain ⟨T, h⟩ := h; simp [World.cell?, h]
theorem At.frozen {w : World} {b : Nat} {cs : List Value} (h : At w b cs) (i : Nat) : w.frozen? ⟨b, i, none⟩ = false := by
  obtain ⟨T, h⟩ := h; simp [World.frozen?, h]
theorem At.set {w : World} {b : Nat} {cs : List Value} (h : At w b cs) (i : Nat) (v : Value) : At (w.setCell ⟨b, i, none⟩ v) b (cs.set i v) := by
  obtain ⟨T, h⟩ := h
  refine ⟨T, ?_⟩
  simp [World.setCell, Array.getElem?_modify, h]
theorem At.setOther {w : World} {b : Nat} {cs : List Value} (h : At w b cs) {a : Addr} (ha : a.block ≠ b) (v : Value) : At (w.setCell a v) b cs := by
  obtain ⟨T, h⟩ := h
  exact ⟨T, by rw [Below.heap_setCell _ _ _ _ (fun e => ha e.symm)]; exact h⟩
theorem At.alloc {w : World} {b : Nat} {cs : List Value} (h : At w b cs) (o : Obj) : At (w.alloc o) b cs := by
  have hl := h.lt
  obtain ⟨T, h⟩ := h
  exact ⟨T, by rw [Below.heap_alloc _ _ _ hl]; exact h⟩
theorem At.drew {w : World} {b : Nat} {cs : List Value} (h : At w b cs) : At w.drew b cs := h
theorem At.drewN {w : World} {b : Nat} {cs : List Value} (h : At w b cs) (n : Nat) : At (w.drewN n) b cs := h
theorem At.new (w : World) (cs : List Value) (T : TypeId) : At (w.alloc (.cells cs.toArray T)) w.heap.size cs := ⟨T, heap_alloc_new w _⟩
theorem At.of_block {w w' : World} {b : Nat} {cs : List Value} (h : At w b cs) (hb : w'.heap[b]? = w.heap[b]?) : At w' b cs := by
  obtain ⟨T, h⟩ := h; exact ⟨T, hb.trans h⟩

/-- Block b holds n cells, told by a function. -/
def AtF (w : World) (b n : Nat) (c : Nat → Value) : Prop := At w b ((List.range n).map c)
def upd (c : Nat → Value) (i : Nat) (v : Value) : Nat → Value := fun k => if k = i then v else c k
theorem upd_same (c : Nat → Value) (i : Nat) (v : Value) : upd c i v i = v := by simp [upd]
theorem upd_ne (c : Nat → Value) {i k : Nat} (v : Value) (h : k ≠ i) : upd c i v k = c k := by simp [upd, h]
theorem AtF.cell {w : World} {b n : Nat} {c : Nat → Value} (h : AtF w b n c) {i : Nat} (hi : i < n) : w.cell? ⟨b, i, none⟩ = some (c i) := by
  rw [At.cell h]; simp [hi]
theorem AtF.is {w : World} {b n : Nat} {c : Nat → Value} (h : AtF w b n c) {i : Nat} (hi : i < n) {v : Value} (e : c i = v) : w.cell? ⟨b, i, none⟩ = some v := by
  rw [h.cell hi, e]
theorem AtF.frozen {w : World} {b n : Nat} {c : Nat → Value} (h : AtF w b n c) (i : Nat) : w.frozen? ⟨b, i, none⟩ = false := At.frozen h i
theorem AtF.set {w : World} {b n : Nat} {c : Nat → Value} (h : AtF w b n c) (i : Nat) (v : Value) : AtF (w.setCell ⟨b, i, none⟩ v) b n (upd c i v) := by
  have := At.set h i v
  unfold AtF
  have e : (List.range n).map (upd c i v) = ((List.range n).map c).set i v := by
    apply List.ext_getElem?
    intro k
    rw [List.getElem?_set]
    by_cases hk : k < n
    · by_cases hki : i = k
      · subst hki; simp [hk, upd]
      · simp [hk, hki, upd, show ¬ k = i by omega]
    · simp [hk]; omega
  rw [e]; exact this
theorem AtF.drew {w : World} {b n : Nat} {c : Nat → Value} (h : AtF w b n c) : AtF w.drew b n c := h
theorem AtF.drewN {w : World} {b n : Nat} {c : Nat → Value} (h : AtF w b n c) (k : Nat) : AtF (w.drewN k) b n c := h
theorem AtF.lt {w : World} {b n : Nat} {c : Nat → Value} (h : AtF w b n c) : b < w.heap.size := At.lt h
theorem AtF.setOther {w : World} {b n : Nat} {c : Nat → Value} (h : AtF w b n c) {a : Addr} (ha : a.block ≠ b) (v : Value) : AtF (w.setCell a v) b n c := At.setOther h ha v
theorem AtF.alloc {w : World} {b n : Nat} {c : Nat → Value} (h : AtF w b n c) (o : Obj) : AtF (w.alloc o) b n c := At.alloc h o
theorem AtF.of_list {w : World} {b : Nat} {cs : List Value} (h : At w b cs) : AtF w b cs.length (fun i => cs.getD i undef) := by
  unfold AtF
  have e : (List.range cs.length).map (fun i => cs.getD i undef) = cs := by
    apply List.ext_getElem?
    intro k
    by_cases hk : k < cs.length
    · simp [hk, List.getD_eq_getElem?_getD]
    · simp [hk]
  rw [e]; exact h

/-- Of what was in w only the blocks in S may have turned. -/
structure Kp (S : Nat → Prop) (w w' : World) : Prop where
  os : w'.os = w.os
  tape : w'.tape = w.tape
  output : w'.output = w.output
  size : w.heap.size ≤ w'.heap.size
  block : ∀ k, k < w.heap.size → ¬ S k → w'.heap[k]? = w.heap[k]?

theorem Kp.refl (S : Nat → Prop) (w : World) : Kp S w w := ⟨rfl, rfl, rfl, Nat.le_refl _, fun _ _ _ => rfl⟩
theorem Kp.trans {S : Nat → Prop} {a b c : World} (h : Kp S a b) (k : Kp S b c) : Kp S a c :=
  ⟨k.os.trans h.os, k.tape.trans h.tape, k.output.trans h.output, Nat.le_trans h.size k.size, fun i hi hs => (k.block i (Nat.lt_of_lt_of_le hi h.size) hs).trans (h.block i hi hs)⟩
/-- A step that may turn S' alone, where all of S' that was there at the start lies in S. -/
theorem Kp.then {S S' : Nat → Prop} {a b c : World} (h : Kp S a b) (k : Kp S' b c) (hs : ∀ i, i < a.heap.size → S' i → S i) : Kp S a c :=
  ⟨k.os.trans h.os, k.tape.trans h.tape, k.output.trans h.output, Nat.le_trans h.size k.size, fun i hi hn => (k.block i (Nat.lt_of_lt_of_le hi h.size) (fun h' => hn (hs i hi h'))).trans (h.block i hi hn)⟩
theorem Kp.mono {S S' : Nat → Prop} {a b : World} (h : Kp S a b) (hs : ∀ i, i < a.heap.size → S i → S' i) : Kp S' a b :=
  (Kp.refl S' a).then h hs
theorem Kp.drew {S : Nat → Prop} {a w : World} (h : Kp S a w) : Kp S a w.drew := ⟨h.os, h.tape, h.output, h.size, h.block⟩
theorem Kp.drewN {S : Nat → Prop} {a w : World} (h : Kp S a w) (n : Nat) : Kp S a (w.drewN n) := ⟨h.os, h.tape, h.output, h.size, h.block⟩
theorem Kp.alloc {S : Nat → Prop} {a w : World} (h : Kp S a w) (o : Obj) : Kp S a (w.alloc o) :=
  h.trans ⟨rfl, rfl, rfl, by simp, fun k hk _ => Below.heap_alloc _ _ _ hk⟩
theorem Kp.setCell {S : Nat → Prop} {a w : World} (h : Kp S a w) {p : Addr} (hp : p.block < a.heap.size → S p.block) (u : Value) : Kp S a (w.setCell p u) :=
  ⟨h.os, h.tape, h.output, by simpa [World.setCell] using h.size, fun k hk hs => by
    rw [Below.heap_setCell _ _ _ _ (fun e => hs (by subst e; exact hp hk))]; exact h.block k hk hs⟩
theorem Kp.grown {S : Nat → Prop} {a w w' : World} {row : Option Nat} (h : Kp S a w) (hg : w.grownBy w' row) (hr : ∀ k, row = some k → k < a.heap.size → S k) : Kp S a w' :=
  h.then (S' := fun k => some k = row) ⟨hg.os, hg.tape, hg.output, hg.size, fun k hk hn => hg.block k hk hn⟩ (fun i hi e => hr i e.symm hi)
theorem Kp.below {S : Nat → Prop} {a b : World} (h : Kp S a b) (hs : ∀ i, i < a.heap.size → ¬ S i) : Below a.heap.size a b :=
  ⟨h.os, h.tape, h.output, h.size, fun k hk => h.block k hk (hs k hk)⟩
theorem Kp.of_below {a b : World} (h : Below a.heap.size a b) : Kp (fun _ => False) a b :=
  ⟨h.os, h.tape, h.output, h.size, fun k hk _ => h.block k hk⟩
theorem Kp.at {S : Nat → Prop} {w w' : World} (h : Kp S w w') {b : Nat} {cs : List Value} (ha : At w b cs) (hb : ¬ S b) : At w' b cs :=
  ha.of_block (h.block b ha.lt hb)
theorem Kp.atF {S : Nat → Prop} {w w' : World} (h : Kp S w w') {b n : Nat} {c : Nat → Value} (ha : AtF w b n c) (hb : ¬ S b) : AtF w' b n c := h.at ha hb
theorem Kp.cell {S : Nat → Prop} {w w' : World} (h : Kp S w w') {p : Addr} {v : Value} (hc : w.cell? p = some v) (hb : ¬ S p.block) : w'.cell? p = some v :=
  (World.cell?_of_block (w := w) (h.block p.block (World.block_lt_of_cell? w p hc) hb)).trans hc

/-- All numbers of a list are bytes. -/
def Byt (l : List Int) : Prop := ∀ x ∈ l, 0 ≤ x ∧ x ≤ 255
theorem Byt.getD {l : List Int} (h : Byt l) (i : Nat) : 0 ≤ l.getD i 0 ∧ l.getD i 0 ≤ 255 := by
  rw [List.getD_eq_getElem?_getD]
  rcases Nat.lt_or_ge i l.length with hi | hi
  · rw [List.getElem?_eq_getElem hi]; exact h _ (List.getElem_mem hi)
  · rw [List.getElem?_eq_none hi]; simp
theorem Byt.take {l : List Int} (h : Byt l) (n : Nat) : Byt (l.take n) := fun x hx => h x (List.mem_of_mem_take hx)
theorem Byt.drop {l : List Int} (h : Byt l) (n : Nat) : Byt (l.drop n) := fun x hx => h x (List.mem_of_mem_drop hx)
theorem Byt.append {l m : List Int} (h : Byt l) (k : Byt m) : Byt (l ++ m) := fun x hx => by
  rcases List.mem_append.1 hx with hx | hx
  · exact h x hx
  · exact k x hx

/-- The slice value with this pointer reads, from its first place on, as the values vs (of one cell each). -/
def Rd (w : World) (a : Option Addr) (vs : List Value) : Prop :=
  ∀ i, i < vs.length → ∃ b off, a = some ⟨b, off, none⟩ ∧ w.cell? ⟨b, off + i, none⟩ = some (vs.getD i undef)
theorem Rd.of_at {w : World} {b : Nat} {pre vs post : List Value} (h : At w b (pre ++ vs ++ post)) : Rd w (some ⟨b, pre.length, none⟩) vs := fun i hi =>
  ⟨b, pre.length, rfl, by rw [h.cell, List.append_assoc, List.getElem?_append_right (by omega), Nat.add_sub_cancel_left, List.getElem?_append_left hi, List.getD_eq_getElem?_getD, List.getElem?_eq_getElem hi]; rfl⟩
theorem Rd.new (w : World) (cs : List Value) (T : TypeId) : Rd (w.alloc (.cells cs.toArray T)) (some ⟨w.heap.size, 0, none⟩) cs :=
  Rd.of_at (pre := []) (post := []) (by simpa using At.new w cs T)
/-- Its block is not one of S. -/
def Off (S : Nat → Prop) (a : Option Addr) : Prop := ∀ x, a = some x → ¬ S x.block
theorem Rd.kp {S : Nat → Prop} {w w' : World} {a : Option Addr} {vs : List Value} (h : Rd w a vs) (hk : Kp S w w') (ho : Off S a) : Rd w' a vs := fun i hi => by
  obtain ⟨b, off, ha, hc⟩ := h i hi
  exact ⟨b, off, ha, hk.cell (p := ⟨b, off + i, none⟩) hc (ho ⟨b, off, none⟩ ha)⟩

/-- .. as the bytes l. -/
structure RdB (w : World) (a : Option Addr) (l : List Int) : Prop where
  cell : ∀ i, i < l.length → ∃ b off, a = some ⟨b, off, none⟩ ∧ w.cell? ⟨b, off + i, none⟩ = some (.int .u8 (l.getD i 0))
  bd : Byt l
  len : l.length ≤ 4611686018427387904
theorem RdB.kp {S : Nat → Prop} {w w' : World} {a : Option Addr} {l : List Int} (h : RdB w a l) (hk : Kp S w w') (ho : Off S a) : RdB w' a l :=
  ⟨fun i hi => by obtain ⟨b, off, ha, hc⟩ := h.cell i hi; exact ⟨b, off, ha, hk.cell (p := ⟨b, off + i, none⟩) hc (ho ⟨b, off, none⟩ ha)⟩, h.bd, h.len⟩
theorem RdB.kp0 {S : Nat → Prop} {w w' : World} {a : Option Addr} {l : List Int} (h : RdB w a l) (hk : Kp S w w') (hs : ∀ i, i < w.heap.size → ¬ S i) : RdB w' a l :=
  ⟨fun i hi => by obtain ⟨b, off, ha, hc⟩ := h.cell i hi; exact ⟨b, off, ha, hk.cell (p := ⟨b, off + i, none⟩) hc (hs b (World.block_lt_of_cell? w _ hc))⟩, h.bd, h.len⟩
theorem RdB.drewN {w : World} {a : Option Addr} {l : List Int} (h : RdB w a l) (n : Nat) : RdB (w.drewN n) a l := ⟨h.cell, h.bd, h.len⟩
theorem RdB.nil (w : World) (a : Option Addr) : RdB w a [] := ⟨fun i hi => by simp at hi, fun x hx => by simp at hx, by simp⟩
theorem RdB.slice {w : World} {b off : Nat} {l : List Int} (h : RdB w (some ⟨b, off, none⟩) l) (i n : Nat) : RdB w (some ⟨b, off + i, none⟩) ((l.drop i).take n) :=
  ⟨fun j hj => by
    have hj' : j < n ∧ i + j < l.length := by simp at hj; omega
    obtain ⟨b', off', e, hc⟩ := h.cell (i + j) hj'.2
    simp only [Option.some.injEq, Addr.mk.injEq, and_true] at e
    obtain ⟨rfl, rfl⟩ := e
    refine ⟨_, _, rfl, ?_⟩
    rw [Nat.add_assoc, hc]
    congr 2
    simp [List.getD_eq_getElem?_getD, hj'.1], (h.bd.drop i).take n, Nat.le_trans (by simp; omega) h.len⟩
theorem RdB.of_at {w : World} {b : Nat} {pre l post : List Int} (h : At w b ((pre ++ l ++ post).map (Value.int .u8))) (hb : Byt l) (hl : l.length ≤ 4611686018427387904) :
    RdB w (some ⟨b, pre.length, none⟩) l :=
  ⟨fun i hi => ⟨b, pre.length, rfl, by
    rw [h.cell, List.getElem?_map, List.append_assoc, List.getElem?_append_right (by omega), Nat.add_sub_cancel_left, List.getElem?_append_left hi, List.getD_eq_getElem?_getD, List.getElem?_eq_getElem hi]; rfl⟩, hb, hl⟩

theorem RdB.of_vals {w : World} {b : Nat} {pre : List Value} {l : List Int} {post : List Value} (h : At w b (pre ++ l.map (Value.int .u8) ++ post)) (hb : Byt l) (hl : l.length ≤ 4611686018427387904) :
    RdB w (some ⟨b, pre.length, none⟩) l :=
  ⟨fun i hi => ⟨b, pre.length, rfl, by
    rw [h.cell, List.append_assoc, List.getElem?_append_right (by omega), Nat.add_sub_cancel_left, List.getElem?_append_left (by simpa using hi), List.getElem?_map, List.getD_eq_getElem?_getD, List.getElem?_eq_getElem hi]; rfl⟩, hb, hl⟩
theorem take_snoc {α : Type} (l : List α) (d : α) (k : Nat) (h : k < l.length) : l.take (k + 1) = l.take k ++ [l.getD k d] := by
  rw [List.take_succ_eq_append_getElem h, List.getD_eq_getElem?_getD, List.getElem?_eq_getElem h]; rfl
theorem Calls.turn {P : Program} {f : FuncId} {args : Array Value} {w : World} {v : Value} (h : Calls P f args w fun e w' => e = .returned v ∧ w = w') : Calls P f args w fun e w' => e = .returned v ∧ w' = w :=
  h.mono fun _ _ ⟨h1, h2⟩ => ⟨h1, h2.symm⟩
theorem ret_int {k : IntKind} {a b : Int} (h : a = b) : Ending.returned (.int k a) = .returned (.int k b) := by rw [h]
theorem ret_bool {a b : Bool} (h : a = b) : Ending.returned (.bool a) = .returned (.bool b) := by rw [h]

/-- What the walk is told of a slice of integers that came in. -/
def IsRow (k : IntKind) (w : World) (a : Option Addr) (len cap : Nat) (zs : List Int) : Prop :=
  (a = none ∧ len = 0 ∧ cap = 0 ∧ zs = []) ∨
  ∃ x, a = some x ∧ len ≤ cap ∧ cap ≤ maxLen ∧ zs.length = cap ∧ (∀ i, i < zs.length → w.cell? (x.add i) = some (.int k (zs.getD i 0))) ∧ ∀ n ∈ zs, (Lit.int k n).wf = true

theorem IsRow.bytes {w : World} {a : Option Addr} {len cap : Nat} {zs : List Int} (h : IsRow .u8 w a len cap zs) (hl : len ≤ 4611686018427387904) :
    (zs.take len).length = len ∧ RdB w a (zs.take len) := by
  rcases h with ⟨rfl, rfl, rfl, rfl⟩ | ⟨x, rfl, h1, h2, h3, h4, h5⟩
  · exact ⟨rfl, RdB.nil _ _⟩
  · have hlen : (zs.take len).length = len := by simp; omega
    refine ⟨hlen, ⟨fun i hi => ?_, fun n hn => ?_, by omega⟩⟩
    · have hc := h4 i (by omega)
      obtain ⟨b, off, spot⟩ := x
      have hspot : spot = none := by simpa [Addr.add] using World.cell?_spot (h4 0 (by omega))
      subst hspot
      refine ⟨b, off, rfl, ?_⟩
      have : (zs.take len).getD i 0 = zs.getD i 0 := by
        simp only [List.getD_eq_getElem?_getD, List.getElem?_take]; rw [if_pos (by omega)]
      rw [this, ← Addr.add_mid]
      exact hc
    · have := h5 n (List.mem_of_mem_take hn)
      simp [Lit.wf, IntKind.min, IntKind.max, IntKind.signed, IntKind.bits] at this
      omega
theorem IsRow.lt {k : IntKind} {w : World} {a : Option Addr} {len cap : Nat} {zs : List Int} (h : IsRow k w a len cap zs) (h0 : 0 < len) : ∀ x, a = some x → x.block < w.heap.size := by
  intro x hx
  rcases h with ⟨rfl, rfl, rfl, rfl⟩ | ⟨y, rfl, h1, h2, h3, h4, h5⟩
  · cases hx
  · cases hx
    have := World.block_lt_of_cell? w _ (h4 0 (by omega))
    simpa [Addr.add] using this
theorem IsRow.le {k : IntKind} {w : World} {a : Option Addr} {len cap : Nat} {zs : List Int} (h : IsRow k w a len cap zs) : len ≤ maxLen ∧ len ≤ cap := by
  rcases h with ⟨rfl, rfl, rfl, rfl⟩ | ⟨y, rfl, h1, h2, h3, h4, h5⟩
  · simp
  · omega
/-- Behind a piece of the walk: the world under a new name, and what is known of it. -/
theorem wp_world {P : Program} {c : Code} {Q : Exit → Act → World → Prop} {a : Act} {w : World} (I : World → Prop) (h : I w) (H : ∀ w', I w' → Code.wp P c Q a w') : Code.wp P c Q a w := H w h
end Go.Proofs.Ytokembhfebnjpaa
/- make, copy and append, in words of blocks known whole. No program in sight; no condition but that what is made is not too long. -/
namespace Go.Proofs.Ytokembhfebnjpaa
set_option maxRecDepth 20000
open Go.RowKit
set_option linter.unusedVariables false

theorem At.setCells {b : Nat} : ∀ (vs : List Value) (o : Nat) {w : World} {cs : List Value}, At w b cs → o + vs.length ≤ cs.length →
    At (w.setCells b o vs) b (cs.take o ++ vs ++ cs.drop (o + vs.length))
  | [], o, w, cs, h, hl => by simpa [World.setCells] using h
  | v :: r, o, w, cs, h, hl => by
    simp only [List.length_cons] at hl
    have := At.setCells r (o + 1) (h.set o v) (by simp; omega)
    simp only [World.setCells]
    refine Eq.mp ?_ this
    congr 1
    apply List.ext_getElem?
    intro i
    simp only [List.getElem?_append, List.getElem?_take, List.getElem?_drop, List.getElem?_set, List.length_append, List.length_take, List.length_set, List.length_cons, List.getElem?_cons]
    rcases Nat.lt_trichotomy i o with hi | hi | hi
    · simp [show i < o + 1 by omega, show o ≠ i by omega, show i < o by omega, show i < cs.length by omega, show min (o + 1) cs.length = o + 1 by omega, show min o cs.length = o by omega, show i < o + 1 + r.length by omega, show i < o + (r.length + 1) by omega]
    · subst hi
      simp [show min (i + 1) cs.length = i + 1 by omega, show min i cs.length = i by omega, show i < i + 1 + r.length by omega, show i < cs.length by omega]
    · simp [show ¬ i < o + 1 by omega, show ¬ i < o by omega, show min (o + 1) cs.length = o + 1 by omega, show min o cs.length = o by omega, show o + (r.length + 1) = o + 1 + r.length by omega]
      rw [if_neg (show ¬ i - o = 0 by omega), show i - (o + 1) = i - o - 1 by omega]
      split
      · rfl
      · rw [if_neg (by omega)]
theorem Kp.setCells {S : Nat → Prop} {a : World} {b : Nat} (hb : b < a.heap.size → S b) : ∀ (vs : List Value) (o : Nat) {w : World}, Kp S a w → Kp S a (w.setCells b o vs)
  | [], _, _, h => h
  | v :: r, o, _, h => Kp.setCells hb r (o + 1) (h.setCell (p := ⟨b, o, none⟩) hb v)

/-- What is known of a type: its zero value's cells, how many cells, how many bytes. -/
def Elem (P : Program) (e : TypeId) (z : Value) (size bytes : Nat) : Prop :=
  z.cells.size = size ∧ 0 < size ∧ (∀ u ∈ z.cells, u.oneCell' = true) ∧ ∃ i, P.info? e = some i ∧ i.zero = some z ∧ i.size = size ∧ i.bytes = bytes
theorem Elem.mk' {P : Program} {e : TypeId} {z : Value} {size bytes : Nat} (h : (P.info? e).map (fun i => (i.zero, i.size, i.bytes)) = some (some z, size, bytes))
    (h1 : z.cells.size = size) (h2 : 0 < size) (h3 : ∀ u ∈ z.cells, u.oneCell' = true) : Elem P e z size bytes := by
  cases hi : P.info? e with
  | none => simp [hi] at h
  | some i => simp [hi] at h; exact ⟨h1, h2, h3, i, hi, h⟩

/-- n zero elements, cell by cell. -/
def zeros (z : Value) (n : Nat) : List Value := (Builtin.zeroCells z.cells n).toList
theorem zeros_length (z : Value) (n : Nat) : (zeros z n).length = n * z.cells.size := by simp [zeros, Builtin.zeroCells]
theorem zeros_one (z : Value) (h : z.cells = #[z]) (n : Nat) : zeros z n = List.replicate n z := by
  apply List.ext_getElem
  · simp [zeros_length, h]
  · intro i h1 h2; simp [zeros, Builtin.zeroCells, h, Nat.mod_one]

section
variable {P : Program} (w : World)
theorem run_make_at {t e : TypeId} {z : Value} {size bytes : Nat} (ht : P.underlying t = some (.slice e)) (he : Elem P e z size bytes) (kl kc : IntKind) (L C : Int) (n : Nat) (hL : L = n) (hC : C = n)
    (hn : bytes * n ≤ 281474976710656) (h63 : n ≤ maxLen) :
    ∃ w', (Instr.makeSlice t (.int kl L) (.int kc C)).run P w = .ok (.slice (some ⟨w.heap.size, 0, none⟩) n n) w' ∧ At w' w.heap.size (zeros z n) ∧ Kp (fun _ => False) w w' := by
  obtain ⟨h1, h2, h3, i, hi, hz, hs, hb⟩ := he
  subst hL; subst hC
  obtain ⟨w', hr, ⟨_, ho⟩, hg⟩ := run_make_full (P := P) w w.heap.size t e i z size ht hi hz hs kl kc n (by rw [hb]; exact hn) h63 (Nat.le_refl _)
  refine ⟨w', hr, ?_, (Kp.refl _ w).grown hg (by simp)⟩
  rcases ho with ⟨h, _⟩ | ⟨g, cap, cur, hv, _, hh, _, _, hcs, htk⟩
  · cases h
  · simp only [Value.slice.injEq, Option.some.injEq, Addr.mk.injEq, and_true, true_and] at hv
    obtain ⟨rfl, rfl⟩ := hv
    have e2 : zeros z n = (madeCells z.cells (n * size)).toList := by simp [zeros, Builtin.zeroCells, madeCells, h1]
    have e3 : cur.toList.take (n * size) = cur.toList := List.take_of_length_le (by simp [hcs])
    exact ⟨e, by rw [hh, e2, ← htk, e3]⟩

theorem run_copy_at {dT sT ty elem : TypeId} (hu : P.underlying dT = some (.slice elem)) (hs : (P.info? elem).map (·.size) = some 1) {g off dLen dCap : Nat} {a : Option Addr} {sLen sCap : Nat} {cur cs : List Value}
    (hg : At w g cur) (hn : cs.length = Nat.min sLen dLen) (hsrc : Rd w a cs) (hfit : off + cs.length ≤ cur.length) (h1 : ∀ v ∈ cs, v.oneCell' = true) :
    ∃ w', (Builtin.copy_ #[dT, sT] ty #[.slice (some ⟨g, off, none⟩) dLen dCap, .slice a sLen sCap]).run P w = .ok (goInt cs.length) w' ∧
      At w' g (cur.take off ++ cs ++ cur.drop (off + cs.length)) ∧ Kp (· = g) w w' := by
  by_cases h0 : cs.length = 0
  · obtain rfl : cs = [] := List.eq_nil_of_length_eq_zero h0
    exact ⟨w, run_copy_none (P := P) w dT sT ty elem _ _ dLen dCap sLen sCap hu hs (by simpa using hn.symm), by simpa using hg, Kp.refl _ _⟩
  · obtain ⟨b, o, rfl, _⟩ := hsrc 0 (by omega)
    obtain ⟨T, hg⟩ := hg
    have hsrc' : ∀ j v, cs[j]? = some v → w.cell? ((⟨b, o, none⟩ : Addr).add j) = some v := fun j v hv => by
      have hj : j < cs.length := (List.getElem?_eq_some_iff.1 hv).1
      obtain ⟨b', o', e, hc⟩ := hsrc j hj
      simp only [Option.some.injEq, Addr.mk.injEq, and_true] at e
      obtain ⟨rfl, rfl⟩ := e
      rw [Addr.add_mid, hc, List.getD_eq_getElem?_getD, hv]; rfl
    refine ⟨_, run_copy_row (P := P) w dT sT ty elem g off dLen dCap _ sLen sCap cur.toArray T cs hu hs hg hn hsrc' (by simpa using hfit) h1, ⟨T, ?_⟩, ?_⟩
    · exact setRow_heap w g _ _ T _ hg
    · exact ⟨rfl, rfl, rfl, by simp [World.setRow], fun k hk hne => setRow_other w g k _ hne⟩

/-- A slice of the call's own: nil, or the head of a block that holds its cells, and spare ones. -/
def Own (w : World) (v : Value) (n size : Nat) (vs : List Value) : Prop :=
  vs.length = n * size ∧ ((v = .slice none 0 0 ∧ n = 0) ∨ ∃ g cap sp, v = .slice (some ⟨g, 0, none⟩) n cap ∧ At w g (vs ++ sp) ∧ sp.length = (cap - n) * size ∧ n ≤ cap ∧ cap ≤ maxLen)
theorem Own.nil (w : World) (size : Nat) : Own w (.slice none 0 0) 0 size [] := ⟨by simp, .inl ⟨rfl, rfl⟩⟩
theorem Own.kp {S : Nat → Prop} {w w' : World} {v : Value} {n size : Nat} {vs : List Value} (h : Own w v n size vs) (hk : Kp S w w') (hs : ∀ g, v.ownBlock = some g → ¬ S g) : Own w' v n size vs := by
  refine ⟨h.1, ?_⟩
  rcases h.2 with hn | ⟨g, cap, sp, rfl, hat, r⟩
  · exact .inl hn
  · exact .inr ⟨g, cap, sp, rfl, hk.at hat (hs g rfl), r⟩
theorem Own.lt {w : World} {v : Value} {n size : Nat} {vs : List Value} (h : Own w v n size vs) : ∀ g, v.ownBlock = some g → g < w.heap.size := by
  intro g hg
  rcases h.2 with ⟨rfl, _⟩ | ⟨g', cap, sp, rfl, hat, r⟩
  · simp [Value.ownBlock] at hg
  · simp [Value.ownBlock] at hg; subst hg; exact hat.lt
theorem Own.form {w : World} {v : Value} {n size : Nat} {vs : List Value} (h : Own w v n size vs) : ∃ a c, v = .slice a n c ∧ n ≤ c ∧ c ≤ maxLen := by
  rcases h.2 with ⟨rfl, rfl⟩ | ⟨g', cap, sp, rfl, hat, _, r⟩
  · exact ⟨none, 0, rfl, by simp⟩
  · exact ⟨_, _, rfl, r⟩
theorem Own.rd {w : World} {a : Option Addr} {n c size : Nat} {vs : List Value} (h : Own w (.slice a n c) n size vs) : Rd w a vs := fun i hi => by
  rcases h.2 with ⟨_, rfl⟩ | ⟨g, cap, sp, hv, hat, _⟩
  · have := h.1; simp at this; simp [this] at hi
  · simp only [Value.slice.injEq, true_and] at hv
    obtain ⟨rfl, rfl⟩ := hv
    refine ⟨g, 0, rfl, ?_⟩
    rw [hat.cell, Nat.zero_add, List.getElem?_append_left hi, List.getD_eq_getElem?_getD, List.getElem?_eq_getElem hi]; rfl

/-- All cells of the slice's own block are such. -/
def BlkP (p : Value → Prop) (w : World) (v : Value) : Prop := ∀ g, v.ownBlock = some g → ∃ cs, At w g cs ∧ ∀ u ∈ cs, p u
theorem BlkP.kp {p : Value → Prop} {S : Nat → Prop} {w w' : World} {v : Value} (h : BlkP p w v) (hk : Kp S w w') (hs : ∀ g, v.ownBlock = some g → ¬ S g) : BlkP p w' v := fun g hg => by
  obtain ⟨cs, ha, hp⟩ := h g hg; exact ⟨cs, hk.at ha (hs g hg), hp⟩
theorem BlkP.nil (p : Value → Prop) (w : World) (n c : Nat) : BlkP p w (.slice none n c) := fun g hg => by simp [Value.ownBlock] at hg
theorem At.inj {w : World} {b : Nat} {cs ds : List Value} (h : At w b cs) (k : At w b ds) : cs = ds := by
  obtain ⟨T, h⟩ := h
  obtain ⟨T', k⟩ := k
  rw [h] at k
  simp at k
  exact k.1
theorem zeros_mem (z : Value) (n : Nat) : ∀ u ∈ zeros z n, u ∈ z.cells := fun u hu => by
  simp only [zeros, Builtin.zeroCells, Array.toList_map, Array.toList_range, List.mem_map, List.mem_range] at hu
  obtain ⟨i, hi, rfl⟩ := hu
  have h0 : 0 < z.cells.size := by
    rcases Nat.eq_zero_or_pos z.cells.size with h | h
    · rw [h] at hi; omega
    · exact h
  rw [getElem!_pos z.cells _ (Nat.mod_lt _ h0)]
  exact Array.getElem_mem _

theorem src_of_rd {size : Nat} {tx e' : TypeId} (hk : P.underlying tx = some (.slice e')) {a : Option Addr} {n c : Nat} {news : List Value} (hl : news.length = n * size) (hs : 0 < size) (hr : Rd w a news) (h1 : ∀ u ∈ news, u.oneCell' = true) :
    Src P size tx (.slice a n c) n news w := by
  by_cases h0 : n = 0
  · subst h0
    obtain rfl : news = [] := List.eq_nil_of_length_eq_zero (by simpa using hl)
    rcases a with _ | a
    · exact Src.ofNil w hk c
    · exact Src.ofSlice w hk a 0 c [] (by simp) (by simp) (by simp)
  · obtain ⟨b, o, rfl, _⟩ := hr 0 (by rw [hl]; exact Nat.mul_pos (by omega) hs)
    refine Src.ofSlice w hk _ n c news hl (fun j v hv => ?_) h1
    have hj : j < news.length := (List.getElem?_eq_some_iff.1 hv).1
    obtain ⟨b', o', e, hc⟩ := hr j hj
    simp only [Option.some.injEq, Addr.mk.injEq, and_true] at e
    obtain ⟨rfl, rfl⟩ := e
    rw [Addr.add_mid, hc, List.getD_eq_getElem?_getD, hv]; rfl

theorem run_append_src {t tx ty e : TypeId} {z : Value} {size bytes : Nat} (ht : P.underlying t = some (.slice e)) (he : Elem P e z size bytes) {v : Value} {n : Nat} {vs : List Value} (ho : Own w v n size vs)
    {x : Value} {m : Nat} {news : List Value} (hs : Src P size tx x m news w) (hn : n + m ≤ maxLen) (hb : (n + m) * bytes ≤ 140737488355328) :
    ∃ v' w', (Builtin.append_ #[t, tx] ty #[v, x]).run P w = .ok v' w' ∧ Own w' v' (n + m) size (vs ++ news) ∧ Kp (fun k => v.ownBlock = some k) w w' ∧
      (v'.ownBlock = v.ownBlock ∨ v'.ownBlock = some w.heap.size) ∧ (∀ p : Value → Prop, (∀ u ∈ z.cells, p u) → (∀ u ∈ vs ++ news, p u) → BlkP p w v → BlkP p w' v') := by
  obtain ⟨h1, h2, h3, i, hi, hz, hsz, hby⟩ := he
  subst hsz
  subst hby
  have hlen : (vs ++ news).length = (n + m) * i.size := by rw [List.length_append, ho.1, hs.newsLen, Nat.add_mul]
  have grow : ∀ (base : Option Addr) (cap : Nat), cap < n + m → (Builtin.firstCells i.size n (.slice base n cap)).run P w.drew = .ok vs.toArray w.drew →
      ∃ v' w', (Builtin.append_ #[t, tx] ty #[.slice base n cap, x]).run P w = .ok v' w' ∧ Own w' v' (n + m) i.size (vs ++ news) ∧ Kp (fun _ => False) w w' ∧ v'.ownBlock = some w.heap.size ∧ (∀ p : Value → Prop, (∀ u ∈ z.cells, p u) → (∀ u ∈ vs ++ news, p u) → BlkP p w' v') := by
    intro base cap hlt hf
    have hge := grownCap_ge w (n + m) cap e
    have hcm : grownCap w (n + m) cap e ≤ maxLen := grownCap_le_maxLen w (n + m) cap e hn
    refine ⟨_, _, run_append_grow_src (P := P) w t tx ty e i z ht hi hz base n cap vs hf x m news hs hlt (by simp only [maxLen] at hn; omega) (growslice_fits hlt hb), ⟨hlen, .inr ⟨w.heap.size, _, zeros z (grownCap w (n + m) cap e - (n + m)), rfl, ?_, ?_, hge, hcm⟩⟩, ?_, rfl, ?_⟩
    · refine ⟨e, ?_⟩
      show (w.drew.alloc _).heap[w.drew.heap.size]? = _
      rw [heap_alloc_new w.drew _]
      simp [zeros]
    · rw [zeros_length, h1]
    · exact ((Kp.refl _ w).drew).alloc _
    · intro p hp1 hp2 g hg
      simp only [Value.ownBlock, Option.some.injEq] at hg
      subst hg
      refine ⟨(vs ++ news) ++ zeros z (grownCap w (n + m) cap e - (n + m)), ⟨e, ?_⟩, fun u hu => ?_⟩
      · show (w.drew.alloc _).heap[w.drew.heap.size]? = _
        rw [heap_alloc_new w.drew _]
        simp [zeros]
      · rcases List.mem_append.1 hu with h' | h'
        · exact hp2 u h'
        · exact hp1 u (zeros_mem z _ u h')
  rcases ho.2 with ⟨rfl, rfl⟩ | ⟨g, cap, sp, rfl, hat, hsp, hle, hcm⟩
  · have hvs : vs = [] := List.eq_nil_of_length_eq_zero (by simpa using ho.1)
    subst hvs
    by_cases hm : m = 0
    · subst hm
      have hnn : news = [] := List.eq_nil_of_length_eq_zero (by simpa using hs.newsLen)
      subst hnn
      refine ⟨.slice none 0 0, w, ?_, by simpa using Own.nil w i.size, Kp.refl _ w, .inl rfl, fun _ _ _ h => h⟩
      have hc := hs.cells
      rcases hs.kind with ⟨e', hk⟩ | hk <;> simp [Builtin.append_, run_underlying ht, run_underlying hk, sizeOf, typeInfo, hi, hs.len, hc]
    · obtain ⟨v', w', r1, r2, r3, r4, r5⟩ := grow none 0 (by omega) (run_firstCells_none w.drew i.size 0 0 0)
      exact ⟨v', w', r1, r2, r3.mono (fun _ _ h => h.elim), .inr r4, fun p h1 h2 _ => r5 p h1 h2⟩
  · by_cases hroom : n + m ≤ cap
    · have hfit : n * i.size + news.length ≤ (vs ++ sp).length := by
        rw [List.length_append, ho.1, hs.newsLen, hsp]
        have : m * i.size ≤ (cap - n) * i.size := Nat.mul_le_mul_right _ (by omega)
        omega
      refine ⟨_, _, run_append_room_src (P := P) w t tx ty e i ht hi g 0 n cap x m news hs hroom ?_ ?_, ⟨hlen, .inr ⟨g, cap, sp.drop news.length, rfl, ?_, ?_, hroom, hcm⟩⟩, ?_, .inl rfl, ?_⟩
      · intro j hj
        rw [hat.cell, List.getElem?_eq_getElem (by omega)]; rfl
      · intro j _; exact hat.frozen _
      · have := hat.setCells news (n * i.size) hfit
        rw [Nat.zero_add]
        rw [List.take_append_of_le_length (by rw [ho.1]; exact Nat.le_refl _), List.take_of_length_le (by rw [ho.1]; exact Nat.le_refl _), List.drop_append, List.drop_eq_nil_of_le (by rw [ho.1]; omega), List.nil_append, ho.1, Nat.add_sub_cancel_left] at this
        exact this
      · rw [List.length_drop, hsp, hs.newsLen, ← Nat.sub_mul]; congr 1; omega
      · exact Kp.setCells (S := fun k => (Value.slice (some ⟨g, 0, none⟩) n cap).ownBlock = some k) (fun _ => rfl) _ _ (Kp.refl _ w)
      · intro p hp1 hp2 hbp g' hg'
        simp only [Value.ownBlock, Option.some.injEq] at hg'
        subst hg'
        obtain ⟨cs, hcs, hpc⟩ := hbp g rfl
        have e := hat.inj hcs
        subst e
        refine ⟨_, by rw [Nat.zero_add]; exact hat.setCells news (n * i.size) hfit, fun u hu => ?_⟩
        rcases List.mem_append.1 hu with h' | h'
        · rcases List.mem_append.1 h' with h'' | h''
          · exact hpc u (List.mem_of_mem_take h'')
          · exact hp2 u (List.mem_append.2 (.inr h''))
        · exact hpc u (List.mem_of_mem_drop h')
    · have hcells : ∀ j u, vs[j]? = some u → w.drew.cell? ((⟨g, 0, none⟩ : Addr).add j) = some u := fun j u hu => by
        rw [Addr.add_mid, World.cell?_drew, hat.cell, Nat.zero_add, List.getElem?_append_left (List.getElem?_eq_some_iff.1 hu).1]; exact hu
      obtain ⟨v', w', r1, r2, r3, r4, r5⟩ := grow (some ⟨g, 0, none⟩) cap (by omega) (run_firstCells_some (P := P) w.drew i.size n _ n cap vs ho.1 hcells)
      exact ⟨v', w', r1, r2, r3.mono (fun _ _ h => h.elim), .inr r4, fun p h1 h2 _ => r5 p h1 h2⟩

/-- An append in a plain list of operations, its run laid before. -/
theorem wpList_append_run {ops : Array Oper} {rest : List Oper} {o : Oper} {a : Act} {Q : Exit → Act → World → Prop} {s x : Operand} {t tx : TypeId} {w' : World} {v X v' : Value}
    (hrun : (Builtin.append_ #[t, tx] o.type #[v, X]).run P w = .ok v' w') (hgd : Region.wanted o (yielded ops a.tmps) = true) (ho : o.op = .call { callee := .builtin .append, args := #[s, x], argTypes := #[t, tx] })
    (hs : a.eval s = v) (hx : a.eval x = X) (h : wpList P ops Q rest (a.put o.dst v') w') : wpList P ops Q (o :: rest) a w := by
  refine wpList_step fun K hK => ?_
  rw [if_pos hgd]
  unfold Oper.wp execOp
  simp only [ho, resolve, invoke, builtin, Sem.run_bind, Sem.run_pure, Result.andThen_ok, List.map_toArray, List.map_cons, List.map_nil, hs, hx, hrun]
  exact hK _ _ h
/-- .. and as one step of a region that draws its order. -/
theorem step_append_run {ops : Array Oper} {o : Oper} {a : Act} {K : Act → World → Prop} {Q : Exit → Act → World → Prop} {E : Prop} {s x : Operand} {t tx : TypeId} {w' : World} {v X v' : Value}
    (hrun : (Builtin.append_ #[t, tx] o.type #[v, X]).run P w = .ok v' w') (hgd : Region.wanted o (yielded ops a.tmps) = true) (ho : o.op = .call { callee := .builtin .append, args := #[s, x], argTypes := #[t, tx] })
    (hs : a.eval s = v) (hx : a.eval x = X) (h : K (a.put o.dst v') w') : if Region.wanted o (yielded ops a.tmps) = true then Oper.wp P o a w K Q else E := by
  rw [if_pos hgd]
  unfold Oper.wp execOp
  simp only [ho, resolve, invoke, builtin, Sem.run_bind, Sem.run_pure, Result.andThen_ok, List.map_toArray, List.map_cons, List.map_nil, hs, hx, hrun]
  exact h

theorem run_append_at {t tx ty e e' : TypeId} {z : Value} {size bytes : Nat} (ht : P.underlying t = some (.slice e)) (he : Elem P e z size bytes) (hk : P.underlying tx = some (.slice e')) {v : Value} {n : Nat} {vs : List Value} (ho : Own w v n size vs)
    {a : Option Addr} {m c : Nat} {news : List Value} (hl : news.length = m * size) (hr : Rd w a news) (h1 : ∀ u ∈ news, u.oneCell' = true) (hn : n + m ≤ maxLen) (hb : (n + m) * bytes ≤ 140737488355328) :
    ∃ v' w', (Builtin.append_ #[t, tx] ty #[v, .slice a m c]).run P w = .ok v' w' ∧ Own w' v' (n + m) size (vs ++ news) ∧ Kp (fun k => v.ownBlock = some k) w w' ∧
      (v'.ownBlock = v.ownBlock ∨ v'.ownBlock = some w.heap.size) ∧ (∀ p : Value → Prop, (∀ u ∈ z.cells, p u) → (∀ u ∈ vs ++ news, p u) → BlkP p w v → BlkP p w' v') :=
  run_append_src w ht he ho (src_of_rd w hk hl he.2.1 hr h1) hn hb
end
end Go.Proofs.Ytokembhfebnjpaa
/- Bytes, as values of one cell. -/
namespace Go.Proofs.Ytokembhfebnjpaa
set_option maxRecDepth 20000
open Go.RowKit
set_option linter.unusedVariables false
theorem elem_u8 : Elem Try.prog 5 (.int .u8 0) 1 1 := Elem.mk' (by kernel_rfl) rfl (by omega) (by simp [Value.cells, Value.oneCell'])
theorem RdB.rd {w : World} {a : Option Addr} {l : List Int} (h : RdB w a l) : Rd w a (l.map (Value.int .u8)) := fun i hi => by
  simp at hi
  obtain ⟨b, off, ha, hc⟩ := h.cell i hi
  exact ⟨b, off, ha, by rw [hc]; simp [List.getD_eq_getElem?_getD, List.getElem?_eq_getElem hi]⟩
theorem oneCell_u8 (l : List Int) : ∀ v ∈ l.map (Value.int .u8), v.oneCell' = true := fun v hv => by
  obtain ⟨_, _, rfl⟩ := List.mem_map.1 hv; rfl
end Go.Proofs.Ytokembhfebnjpaa
/- A []byte of the call's own: its bytes, and its whole block, are bytes. No program in sight. -/
namespace Go.Proofs.Ytokembhfebnjpaa
set_option maxRecDepth 20000
open Go.RowKit
set_option linter.unusedVariables false
def isB (u : Value) : Prop := ∃ n : Int, u = .int .u8 n ∧ 0 ≤ n ∧ n ≤ 255
structure OwnB (w : World) (v : Value) (l : List Int) : Prop where
  own : Own w v l.length 1 (l.map (Value.int .u8))
  blk : BlkP isB w v
  byt : Byt l
  len : l.length ≤ 1000000000
theorem OwnB.kp {S : Nat → Prop} {w w' : World} {v : Value} {l : List Int} (h : OwnB w v l) (hk : Kp S w w') (hs : ∀ g, v.ownBlock = some g → ¬ S g) : OwnB w' v l :=
  ⟨h.own.kp hk hs, h.blk.kp hk hs, h.byt, h.len⟩
theorem isB_map {l : List Int} (h : Byt l) : ∀ u ∈ l.map (Value.int .u8), isB u := fun u hu => by
  obtain ⟨n, hn, rfl⟩ := List.mem_map.1 hu
  exact ⟨n, rfl, h n hn⟩
theorem isB_zero : ∀ u ∈ (Value.int .u8 0).cells, isB u := fun u hu => by
  simp [Value.cells] at hu; subst hu; exact ⟨0, rfl, by omega, by omega⟩
theorem OwnB.form {w : World} {v : Value} {l : List Int} (h : OwnB w v l) : ∃ a c, v = .slice a l.length c ∧ RdB w a l ∧ l.length ≤ c := by
  obtain ⟨a, c, rfl, h1, h2⟩ := h.own.form
  have hlen := h.len
  refine ⟨a, c, rfl, ⟨fun i hi => ?_, h.byt, by omega⟩, h1⟩
  obtain ⟨b, off, ha, hc⟩ := h.own.rd i (by simpa using hi)
  exact ⟨b, off, ha, by rw [hc]; simp [List.getD_eq_getElem?_getD, List.getElem?_eq_getElem hi]⟩
theorem OwnB.lt {w : World} {v : Value} {l : List Int} (h : OwnB w v l) : ∀ g, v.ownBlock = some g → g < w.heap.size := h.own.lt
end Go.Proofs.Ytokembhfebnjpaa
/- satchelkit.SameBytes. -/
namespace Go.Proofs.Ytokembhfebnjpaa
set_option maxRecDepth 20000
open Go.RowKit
set_option linter.unusedVariables false
theorem run_bytes_str {P : Program} (w : World) {src e dst : TypeId} (hs : P.underlying src = some (.slice e)) (he : P.underlying e = some (.int .u8)) (hd : P.underlying dst = some .string) {a : Option Addr} {l : List Int} (h : RdB w a l) (cap : Nat) :
    (convert src dst (.slice a l.length cap)).run P w = .ok (.string (strOfNums l)) w := by
  rcases a with _ | ⟨b, off, spot⟩
  · have : l = [] := by
      cases l with
      | nil => rfl
      | cons x r => obtain ⟨_, _, e, _⟩ := h.cell 0 (by simp); cases e
    subst this
    exact run_convert_bytes_nil w src e hs he _ cap dst hd
  · by_cases h0 : l = []
    · subst h0
      rw [run_convert_bytes_string w src dst e _ _ cap hs he hd]
      simp [Conv.bytesToString, loadCells, loadCellsFrom, strOfNums]
      rfl
    · obtain ⟨_, _, e', _⟩ := h.cell 0 (List.length_pos_iff.2 h0)
      cases e'
      refine run_convert_bytes_arg w src e hs he b off l.length cap l rfl (fun i hi => ?_) dst hd
      obtain ⟨_, _, e', hc⟩ := h.cell i hi
      cases e'
      exact hc
theorem strOfNums_inj {l m : List Int} (hl : Byt l) (hm : Byt m) (h : strOfNums l = strOfNums m) : l = m := by
  have h1 : l.map (fun n => UInt8.ofNat n.toNat) = m.map (fun n => UInt8.ofNat n.toNat) := by
    rw [← strOfNums_data, ← strOfNums_data, h]
  have h2 := congrArg (List.map fun c : UInt8 => (c.toNat : Int)) h1
  rw [List.map_map, List.map_map] at h2
  have key : ∀ x : List Int, Byt x → x.map ((fun c : UInt8 => (c.toNat : Int)) ∘ fun n => UInt8.ofNat n.toNat) = x := fun x hx => by
    conv => rhs; rw [← List.map_id x]
    refine List.map_congr_left fun n hn => ?_
    have := hx n hn
    simp [UInt8.toNat_ofNat']
    omega
  rwa [key l hl, key m hm] at h2
theorem same_beq {l m : List Int} (hl : Byt l) (hm : Byt m) : ((strOfNums l).toList == (strOfNums m).toList) = decide (l = m) := by
  rw [ByteArray.toList_eq, ByteArray.toList_eq]
  by_cases h : l = m
  · subst h; simp
  · rw [decide_eq_false h, beq_eq_false_iff_ne]
    intro e
    exact h (strOfNums_inj hl hm (by rcases hA : strOfNums l with ⟨A⟩; rcases hB : strOfNums m with ⟨B⟩; rw [hA, hB] at e; exact congrArg ByteArray.mk (Array.toList_inj.1 e)))
theorem same_any (a b : Option Addr) (ca cb : Nat) (l m : List Int) (w : World) (h : RdB w a l) (h' : RdB w b m) :
    Calls Try.prog 34 #[.slice a l.length ca, .slice b m.length cb] w fun e w' => e = .returned (.bool (decide (l = m))) ∧ w = w' := by
  have h1 := run_bytes_str (P := Try.prog) (src := 22) (dst := 9) w Try.underlying22 Try.underlying5 Try.underlying9 h ca
  have h2 := run_bytes_str (P := Try.prog) (src := 22) (dst := 9) w Try.underlying22 Try.underlying5 Try.underlying9 h' cb
  go_enter Try.func34, Try.ntmps34
  go_wp2
  go_ret
  exact ⟨ret_bool (same_beq h.bd h'.bd), rfl⟩

theorem same_n (a b : Option Addr) (n k ca cb : Nat) (l m : List Int) (w : World) (h : RdB w a l) (h' : RdB w b m) (hn : l.length = n) (hk : m.length = k) :
    Calls Try.prog 34 #[.slice a n ca, .slice b k cb] w fun e w' => e = .returned (.bool (decide (l = m))) ∧ w = w' := by
  subst hn; subst hk; exact same_any a b ca cb l m w h h'
theorem Own.rdB {w : World} {a : Option Addr} {n c : Nat} {l : List Int} (h : Own w (.slice a n c) n 1 (l.map (Value.int .u8))) (hb : Byt l) (hl : n ≤ 4611686018427387904) : RdB w a l :=
  ⟨fun i hi => by
    obtain ⟨b, off, ha, hc⟩ := h.rd i (by simpa using hi)
    exact ⟨b, off, ha, by rw [hc]; simp [List.getD_eq_getElem?_getD, List.getElem?_eq_getElem hi]⟩, hb, by have := h.1; simp at this; omega⟩
end Go.Proofs.Ytokembhfebnjpaa
/- Lists of lists of bytes. No program in sight. -/
namespace Go.Proofs.Ytokembhfebnjpaa
set_option maxRecDepth 20000
open Go.RowKit
set_option linter.unusedVariables false
/-- The slice reads as these lists of bytes. -/
def RdL (w : World) (a : Option Addr) (ls : List (List Int)) : Prop :=
  ∀ i, i < ls.length → ∃ b off ai ci, a = some ⟨b, off, none⟩ ∧ w.cell? ⟨b, off + i, none⟩ = some (.slice ai (ls.getD i []).length ci) ∧ RdB w ai (ls.getD i []) ∧ (ls.getD i []).length ≤ ci
theorem RdL.nil (w : World) (a : Option Addr) : RdL w a [] := fun i hi => by simp at hi
theorem RdL.kp0 {S : Nat → Prop} {w w' : World} {a : Option Addr} {ls : List (List Int)} (h : RdL w a ls) (hk : Kp S w w') (hs : ∀ i, i < w.heap.size → ¬ S i) : RdL w' a ls := fun i hi => by
  obtain ⟨b, off, ai, ci, ha, hc, hr, hl⟩ := h i hi
  exact ⟨b, off, ai, ci, ha, hk.cell (p := ⟨b, off + i, none⟩) hc (hs b (World.block_lt_of_cell? w _ hc)), hr.kp0 hk hs, hl⟩
theorem take_eq_iff {α : Type} [DecidableEq α] (ls ms : List α) (d : α) (k : Nat) (h1 : k < ls.length) (h2 : ls.length = ms.length) (h : ls.take k = ms.take k) : ls.take (k + 1) = ms.take (k + 1) ↔ ls.getD k d = ms.getD k d := by
  rw [take_snoc ls d k h1, take_snoc ms d k (by omega), h]
  simp
end Go.Proofs.Ytokembhfebnjpaa
/- As XRegG, but what the taken operations lean on need not hold behind the operations of L (the stores at the region's end, that all others come ahead of); and the law in a round of a range over a function. -/
namespace Go.Proofs.Ytokembhfebnjpaa
open Go
set_option linter.unusedVariables false
section
variable {P : Program} {ops : Array Oper} {Q : Exit → Act → World → Prop} {md : Region.Mode} {S : World → Prop} {L : List Nat}
/-- Whatever order is picked from here on, however many draws have been made meanwhile, at every step. -/
def fresh (L : List Nat) (listed : Array Bool) : Bool := L.all fun j => !listed.getD j false
theorem fresh_set {L : List Nat} {listed : Array Bool} {i : Nat} (hi : i ∉ L) : fresh L (listed.setIfInBounds i true) = fresh L listed := by
  unfold fresh
  apply Bool.eq_iff_iff.2
  rw [List.all_eq_true, List.all_eq_true]
  constructor
  · intro h j hj
    have := h j hj
    rwa [getD_set_ne false (show i ≠ j from fun e => hi (by rw [e]; exact hj))] at this
  · intro h j hj
    rw [getD_set_ne false (show i ≠ j from fun e => hi (by rw [e]; exact hj))]
    exact h j hj
def AnyL (P : Program) (md : Region.Mode) (ops : Array Oper) (Q : Exit → Act → World → Prop) (S : World → Prop) (L : List Nat) : Nat → Array Bool → Act → World → Prop
  | 0, listed, a, w => Region.ready md ops listed = [] ∧ ∀ n, Q .normal a (w.drewN n)
  | fuel + 1, listed, a, w => ∀ n, (Region.ready md ops listed = [] → Q .normal a (w.drewN n)) ∧
      ∀ i ∈ Region.ready md ops listed, wpOp P ops Q i (fun a' w' => (fresh L (listed.setIfInBounds i true) = true → S w') ∧ AnyL P md ops Q S L fuel (listed.setIfInBounds i true) a' w') a (w.drewN n)
theorem AnyL.drew : ∀ {fuel : Nat} {listed : Array Bool} {a : Act} {w : World} (m : Nat), AnyL P md ops Q S L fuel listed a w → AnyL P md ops Q S L fuel listed a (w.drewN m)
  | 0, _, _, w, m, h => ⟨h.1, fun n => by rw [World.drewN_drewN]; exact h.2 (m + n)⟩
  | fuel + 1, _, _, w, m, h => fun n => by rw [World.drewN_drewN]; exact h (m + n)
theorem any_of_L : ∀ (fuel : Nat) (listed : Array Bool) (a : Act) (w : World), AnyL P md ops Q S L fuel listed a w → wpAny P md ops Q fuel listed a (w.drewN 0)
  | 0, _, _, w, h => ⟨h.1, h.2 0⟩
  | fuel + 1, _, _, w, h => ⟨(h 0).1, fun i hi => wpOp_mono (fun a' w' h' => any_of_L fuel _ a' w' h'.2) ((h 0).2 i hi)⟩
/-- All of L come behind number i. -/
def lateB (md : Region.Mode) (ops : Array Oper) (L : List Nat) (i : Nat) : Bool := L.all fun j => match ops[j]? with | some o => o.after.any (fun e => Region.binds md e && e.on == i) | none => true
theorem lateB_spec {i : Nat} (h : lateB md ops L i = true) {j : Nat} (hj : j ∈ L) {o : Oper} (ho : ops[j]? = some o) : ∃ e ∈ o.after, Region.binds md e = true ∧ e.on = i := by
  have := List.all_eq_true.1 h j hj
  rw [ho] at this
  obtain ⟨k, hk, h2⟩ := Array.any_eq_true.1 this
  exact ⟨_, Array.getElem_mem hk, by simpa using h2⟩
/-- In state 'a', in every world that meets S, operation 'o' leaves 'v' in its temporary and draws, maybe, and does nothing else. -/
def Takes (P : Program) (ops : Array Oper) (S : World → Prop) (o : Oper) (v : Value) (a : Act) : Prop :=
  YieldsIf P ops S o v a ∨ (Region.wanted o (yielded ops a.tmps) = true ∧ ∀ w, S w → ∃ f args, (execOp a.eval o).run P w = .ok (.enter f args) w ∧ Calls P f args w fun e w' => e = .returned v ∧ ∃ k, w' = w.drewN k)
theorem Takes.of_same {o : Oper} {v : Value} {a a' : Act} (hy : Takes P ops S o v a) (he : execOp a'.eval o = execOp a.eval o)
    (hw : Region.wanted o (yielded ops a'.tmps) = Region.wanted o (yielded ops a.tmps)) : Takes P ops S o v a' := by
  rcases hy with h | ⟨h1, h2⟩
  · exact .inl (h.of_same he hw)
  · exact .inr ⟨by rw [hw]; exact h1, fun w hS => by rw [he]; exact h2 w hS⟩
theorem Takes.wpOp {i : Nat} {o : Oper} {v : Value} {a : Act} (hi : ops[i]? = some o) (hy : Takes P ops S o v a)
    {K : Act → World → Prop} {w : World} (hS : S w) (h : ∀ k, K (a.put o.dst v) (w.drewN k)) : wpOp P ops Q i K a w := by
  rcases hy with hy | ⟨hw, hr⟩
  · exact hy.wpOp hi hS (h 0)
  · unfold Go.wpOp
    obtain ⟨f, args, e, c⟩ := hr w hS
    simp only [hi, hw, if_true, Oper.wp, e, Oper.upon]
    refine .inl (Calls.mono c fun e' w' he => ?_)
    obtain ⟨rfl, k, rfl⟩ := he
    exact h k
theorem wpOp_takes {j : Nat} {oi oj : Oper} {v : Value} (hj : ops[j]? = some oj) (hap : oi.apart ops oj = true)
    (hsi : ∀ cs b, oi.op ≠ .select cs b) (hsj : ∀ cs b, oj.op ≠ .select cs b)
    (hQ : ∀ c a w, Q (.panic c) (a.put oi.dst v) w → Q (.panic c) a w) {K : Act → World → Prop} {a : Act} {w : World}
    (hy : Takes P ops S oi v a) (h : wpOp P ops Q j K (a.put oi.dst v) w) :
    wpOp P ops Q j (fun a' w' => Takes P ops S oi v a' ∧ K (a'.put oi.dst v) w') a w := by
  obtain ⟨h1, h2, h3⟩ := Oper.apart_spec hap
  have keep : ∀ (a : Act), Takes P ops S oi v a → ∀ u, Takes P ops S oi v (a.put oj.dst u) := fun a hy u =>
    hy.of_same (execOp_put oi hsi a oj.dst u h3) (wanted_put oi a oj.dst u h3)
  have keepD : ∀ d, Takes P ops S oi v { a with defers := d :: a.defers } := fun d => hy.of_same rfl rfl
  unfold wpOp at *
  simp only [hj] at *
  rw [wanted_put oj a oi.dst v h1] at h
  split
  · rename_i hw
    simp only [hw, if_true] at h
    rcases h with h | ⟨hasks, hlets⟩
    case inr => exact .inr ⟨by unfold Oper.asks at *; rw [execOp_put oj hsj a oi.dst v h1] at hasks; exact hasks, hlets⟩
    refine .inl ?_
    unfold Oper.wp at *
    rw [execOp_put oj hsj a oi.dst v h1] at h
    generalize (execOp a.eval oj).run P w = r at *
    cases r with
    | ok n w' =>
      cases n <;> simp only [Oper.upon] at h ⊢
      case value u => exact ⟨keep a hy u, by rw [← Act.put_comm a v u h2]; exact h⟩
      case skip => exact ⟨keep a hy _, by rw [← Act.put_comm a v undef h2]; exact h⟩
      case defer d =>
        refine ⟨keep _ (keepD d) _, ?_⟩
        rw [← Act.put_comm _ v undef h2, ← Act.put_defers]
        exact h
      case enter f args =>
        refine Calls.mono h fun e w'' he => ?_
        cases e with
        | returned u => exact ⟨keep a hy u, by rw [← Act.put_comm a v u h2]; exact he⟩
        | panicked c => exact hQ _ _ _ he
        | outgrown => exact he
      case row row args => exact Rows.mono h fun u w'' he => ⟨keep a hy u, by rw [← Act.put_comm a v u h2]; exact he⟩
    | halt x w' =>
      cases x <;> simp only [Oper.upon] at h ⊢
      case panic u => exact hQ _ _ _ h
  · rename_i hw
    simp only [hw] at h
    exact ⟨keep a hy _, by rw [← Act.put_comm a v undef h2]; exact h⟩
theorem anyL_first {i : Nat} {oi : Oper} {v : Value} (hi : ops[i]? = some oi) (hsel : ∀ (j : Nat) (o : Oper) cs b, ops[j]? = some o → o.op ≠ .select cs b)
    (hQ : ∀ c a w, Q (.panic c) (a.put oi.dst v) w → Q (.panic c) a w) (S' : World → Prop) (hSd : ∀ w n, S w → S (w.drewN n)) (hSd' : ∀ w n, S' w → S' (w.drewN n)) (hiL : i ∉ L)
    (hdep : (∀ w, S' w) ∨ ((∀ w, S w → S' w) ∧ lateB md ops L i = true)) :
    ∀ (fuel : Nat) (listed : Array Bool) (a : Act) (w : World),
      (∀ j oj, ops[j]? = some oj → j ≠ i → listed.getD j true = false → (∀ e ∈ oj.after, Region.binds md e = true → e.on ≠ i) → oi.apart ops oj = true) →
      i ∈ Region.ready md ops listed → Takes P ops S' oi v a → (fresh L listed = true → S w) → ((∀ w, S' w) ∨ fresh L listed = true) →
      AnyL P md ops Q S L fuel (listed.setIfInBounds i true) (a.put oi.dst v) w → AnyL P md ops Q S L (fuel + 1) listed a w := by
  have hS' : ∀ {listed : Array Bool} {w : World}, (fresh L listed = true → S w) → ((∀ w, S' w) ∨ fresh L listed = true) → S' w := fun {listed w} h1 h2 => by
    rcases h2 with h2 | h2
    · exact h2 w
    · rcases hdep with h3 | h3
      · exact h3 w
      · exact h3.1 w (h1 h2)
  intro fuel
  induction fuel with
  | zero =>
    intro listed a w _ hr hy hS hfr H n
    refine ⟨fun h => (by rw [h] at hr; cases hr), fun j hj => ?_⟩
    by_cases hji : j = i
    · subst hji
      exact hy.wpOp hi (hSd' _ _ (hS' hS hfr)) (fun k => ⟨fun h => hSd _ _ (hSd _ _ (hS (by rwa [fresh_set hiL] at h))), (H.drew n).drew k⟩)
    · have := ready_mono hj hji
      rw [H.1] at this
      cases this
  | succ fuel ih =>
    intro listed a w hfree hr hy hS hfr H n
    refine ⟨fun h => (by rw [h] at hr; cases hr), fun j hj => ?_⟩
    by_cases hji : j = i
    · subst hji
      exact hy.wpOp hi (hSd' _ _ (hS' hS hfr)) (fun k => ⟨fun h => hSd _ _ (hSd _ _ (hS (by rwa [fresh_set hiL] at h))), (H.drew n).drew k⟩)
    · have h1 := (H n).2 j (ready_mono hj hji)
      obtain ⟨hjun, oj, hoj, hall⟩ := mem_ready.1 hj
      have hnot : ∀ e ∈ oj.after, Region.binds md e = true → e.on ≠ i := fun e he hb heq => by
        have h1 := hall e he hb
        have h0 := (mem_ready.1 hr).1
        rw [heq] at h1
        rcases Nat.lt_or_ge i listed.size with h' | h'
        · simp [h'] at h0 h1; rw [h0] at h1; cases h1
        · simp [Array.getElem?_eq_none h'] at h1
      have h2 := wpOp_takes hoj (hfree j oj hoj hji hjun hnot) (fun cs b => hsel i oi cs b hi) (fun cs b => hsel j oj cs b hoj) hQ hy h1
      have hfree' : ∀ k ok, ops[k]? = some ok → k ≠ i → (listed.setIfInBounds j true).getD k true = false →
          (∀ e ∈ ok.after, Region.binds md e = true → e.on ≠ i) → oi.apart ops ok = true := fun k ok hk hki hun hno => by
        refine hfree k ok hk hki ?_ hno
        by_cases hjk : j = k
        · subst hjk; exact hjun
        · rw [getD_set_ne true hjk] at hun; exact hun
      have hfr' : (∀ w, S' w) ∨ fresh L (listed.setIfInBounds j true) = true := by
        rcases hfr with h | h
        · exact .inl h
        · rcases hdep with h3 | h3
          · exact .inl h3
          · refine .inr ?_
            rw [fresh_set (fun hjL => by
              obtain ⟨e, he, hb, hon⟩ := lateB_spec h3.2 hjL hoj
              exact hnot e he hb hon)]
            exact h
      refine wpOp_mono (fun a' w' h3 => ?_) h2
      have hS2 : fresh L (listed.setIfInBounds j true) = true → S w' := fun h => h3.2.1 (by rw [Array.setIfInBounds_comm _ _ (Ne.symm hji), fresh_set hiL]; exact h)
      refine ⟨hS2, ih (listed.setIfInBounds j true) a' w' hfree' (ready_mono hr (Ne.symm hji)) h3.1 hS2 hfr' ?_⟩
      rw [Array.setIfInBounds_comm _ _ hji]
      exact h3.2.2
/-- Take number 'i' first: what it reads holds as long as none of L has come, and all of L come behind it. -/
theorem anyL_takeD {i d : Nat} {oi : Oper} {v : Value} {fuel : Nat} {listed : Array Bool} {T : Array Value} {Ds : List Deferred} {w : World} (hi : ops[i]? = some oi) (hd : oi.dst = some d)
    (hs : Region.noSelect ops = true) (hf : Region.free md ops listed i = true) (hr : (Region.ready md ops listed).contains i = true)
    (hQ : ∀ c a w, Q (.panic c) (a.put oi.dst v) w → Q (.panic c) a w) (hSd : ∀ w n, S w → S (w.drewN n)) (hlate : (lateB md ops L i && !L.contains i && fresh L listed) = true) (hy : Takes P ops S oi v { tmps := T, defers := Ds }) (hS : S w)
    (h : AnyL P md ops Q S L fuel (listed.setIfInBounds i true) { tmps := T.setIfInBounds d v, defers := Ds } w) : AnyL P md ops Q S L (fuel + 1) listed { tmps := T, defers := Ds } w := by
  simp only [Bool.and_eq_true, Bool.not_eq_true', List.contains_eq_mem, decide_eq_false_iff_not] at hlate
  refine anyL_first hi (Region.noSelect_spec hs) hQ S hSd hSd hlate.1.2 (.inr ⟨fun _ h => h, hlate.1.1⟩) fuel listed _ w (Region.free_spec hi hf) (by simpa using hr) hy (fun _ => hS) (.inr hlate.2) ?_
  rw [hd]
  exact h
/-- Take number 'i' first: it reads nothing of the world. -/
theorem anyL_takeF {i d : Nat} {oi : Oper} {v : Value} {fuel : Nat} {listed : Array Bool} {T : Array Value} {Ds : List Deferred} {w : World} (hi : ops[i]? = some oi) (hd : oi.dst = some d)
    (hs : Region.noSelect ops = true) (hf : Region.free md ops listed i = true) (hr : (Region.ready md ops listed).contains i = true)
    (hQ : ∀ c a w, Q (.panic c) (a.put oi.dst v) w → Q (.panic c) a w) (hSd : ∀ w n, S w → S (w.drewN n)) (hiL : (!L.contains i) = true) (hy : Takes P ops (fun _ => True) oi v { tmps := T, defers := Ds }) (hS : fresh L listed = true → S w)
    (h : AnyL P md ops Q S L fuel (listed.setIfInBounds i true) { tmps := T.setIfInBounds d v, defers := Ds } w) : AnyL P md ops Q S L (fuel + 1) listed { tmps := T, defers := Ds } w := by
  simp only [Bool.not_eq_true', List.contains_eq_mem, decide_eq_false_iff_not] at hiL
  refine anyL_first hi (Region.noSelect_spec hs) hQ (fun _ => True) hSd (fun _ _ _ => trivial) hiL (.inl fun _ => trivial) fuel listed _ w (Region.free_spec hi hf) (by simpa using hr) hy hS (.inl fun _ => trivial) ?_
  rw [hd]
  exact h
theorem wpOp_of {i : Nat} {o : Oper} {a : Act} {w : World} {K : Act → World → Prop} (hi : ops[i]? = some o) (hw : Region.wanted o (yielded ops a.tmps) = true) (h : Oper.wp P o a w K Q) : wpOp P ops Q i K a w := by
  unfold wpOp
  simp only [hi, hw, if_true]
  exact .inl h
/-- Whichever of those that may come up comes up. -/
theorem anyL_all {rs : List Nat} {fuel : Nat} {listed : Array Bool} {a : Act} {w : World} (hr : Region.ready md ops listed = rs) (hne : rs ≠ [])
    (h : ∀ n, ∀ i ∈ rs, wpOp P ops Q i (fun a' w' => (fresh L (listed.setIfInBounds i true) = true → S w') ∧ AnyL P md ops Q S L fuel (listed.setIfInBounds i true) a' w') a (w.drewN n)) : AnyL P md ops Q S L (fuel + 1) listed a w :=
  fun n => ⟨fun h0 => absurd (hr ▸ h0) hne, hr ▸ h n⟩
theorem anyL_done {listed : Array Bool} {a : Act} {w : World} (hr : Region.ready md ops listed = []) (h : ∀ n, Q .normal a (w.drewN n)) : ∀ fuel, AnyL P md ops Q S L fuel listed a w
  | 0 => ⟨hr, h⟩
  | _ + 1 => fun n => ⟨fun _ => h n, by rw [hr]; simp⟩
theorem anyL_world {fuel : Nat} {listed : Array Bool} {a : Act} {w : World} (J : World → Prop) (hJ : J w) (h : ∀ w', J w' → AnyL P md ops Q S L fuel listed a w') : AnyL P md ops Q S L fuel listed a w := h w hJ
theorem region_L {id : Nat} {a : Act} {w : World} (L : List Nat) (hm : P.follows .mixedOrders = true)
    (h : AnyL P .any ops Q S L ops.size (Array.replicate ops.size false) a w.drew) : (Code.region id ops true).wp P Q a w :=
  wp_region_any hm (any_of_L _ _ _ _ h)
/-- A walk that ends in the ordinary way alone. -/
def onlyN (Q : Exit → Act → World → Prop) : Exit → Act → World → Prop
  | .normal, a, w => Q .normal a w
  | _, _, _ => False
theorem region_N {id : Nat} {a : Act} {w : World} (L : List Nat) (hm : P.follows .mixedOrders = true)
    (h : AnyL P .any ops (onlyN Q) S L ops.size (Array.replicate ops.size false) a w.drew) : (Code.region id ops true).wp P Q a w :=
  wp_mono (region_L L hm h) (fun e a w h => by cases e <;> first | exact h | exact h.elim)
/-! ### In a round of a range over a function -/
theorem wpOpIn_of {l n i : Nat} {K : Act → World → Prop} {a : Act} {w : World} (hL : ¬ LetsOut Q) (hd : ∀ (j : Nat) (o : Oper) c, ops[j]? = some o → o.op ≠ .defer c)
    (h : wpOp P ops Q i K a w) : wpOpIn (Fence.wide.inRound l) n P ops Q i K a w := by
  unfold wpOp at h
  unfold wpOpIn
  cases ho : ops[i]? with
  | none => simpa [ho] using h
  | some o =>
    simp only [ho] at h ⊢
    split
    · rename_i hw
      simp only [hw, if_true] at h
      rcases h with h | h
      · refine ⟨fun _ _ => trivial, ?_⟩
        rw [show (Fence.wide.inRound l).round = some l from rfl, Oper.semAt_some _ _ _ (hd i o · ho)]
        unfold Oper.wp at h
        generalize (execOp a.eval o).run P w = r at h ⊢
        cases r with
        | ok x w' =>
          cases x <;> simp only [Oper.upon, Oper.uponIn] at h ⊢
          case value => exact h
          case skip => exact h
          case defer => exact h
          case enter f args => exact ⟨fun e => (by cases e), (callsIn_wide.2 h).inRound l⟩
          case row r args => exact ⟨fun e => (by cases e), fun c cs _ => by
            obtain ⟨v, w', r, s⟩ := h c cs
            exact ⟨v, w', r, stepsIn_wide.2 s⟩⟩
        | halt x w' => cases x <;> simp only [Oper.upon, Oper.uponIn] at h ⊢ <;> exact h
      · exact absurd h.2 hL
    · rename_i hw
      simp only [hw] at h
      exact ⟨fun _ _ => trivial, h⟩
theorem wpAnyIn_of {l n : Nat} (hL : ¬ LetsOut Q) (hd : ∀ (j : Nat) (o : Oper) c, ops[j]? = some o → o.op ≠ .defer c) :
    ∀ (fuel : Nat) (listed : Array Bool) (a : Act) (w : World), wpAny P md ops Q fuel listed a w → wpAnyIn (Fence.wide.inRound l) n P md ops Q fuel listed a w
  | 0, _, _, _, h => h
  | fuel + 1, _, _, _, h => ⟨h.1, fun i hi => wpOpIn_mono (fun a' w' h' => wpAnyIn_of hL hd fuel _ a' w' h') (wpOpIn_of hL hd (h.2 i hi))⟩
/-- No operation of the region is a defer statement. -/
def noDefer (ops : Array Oper) : Bool := ops.all fun o => match o.op with | .defer _ => false | _ => true
theorem noDefer_spec (h : noDefer ops = true) (j : Nat) (o : Oper) (c) (ho : ops[j]? = some o) : o.op ≠ .defer c := fun e => by
  obtain ⟨hj, rfl⟩ := Array.getElem?_eq_some_iff.1 ho
  have := Array.all_eq_true.1 h j hj
  rw [e] at this
  cases this
theorem region_L_in {l n id : Nat} {a : Act} {w : World} (L : List Nat) (hm : P.follows .mixedOrders = true) (hd : noDefer ops = true) (hL : ¬ LetsOut Q)
    (h : AnyL P .any ops Q S L ops.size (Array.replicate ops.size false) a w.drew) : (Code.region id ops true).wpIn (Fence.wide.inRound l) n P Q a w :=
  wpIn_region_any hm (wpAnyIn_of hL (fun j o c ho => noDefer_spec hd j o c ho) _ _ _ _ (any_of_L _ _ _ _ h))
end
end Go.Proofs.Ytokembhfebnjpaa
/- A load, a store (of many cells), told by its run laid before: in a plain list of operations, in a round, in a region that draws its order. (Written by wip/ref20r.py.) -/
namespace Go.Proofs.Ytokembhfebnjpaa
set_option linter.unusedVariables false
section
variable {P : Program} {ops : Array Oper} {rest : List Oper} {o : Oper} {a : Act} {w w' : World} {Q : Exit → Act → World → Prop} {K : Act → World → Prop}
theorem exec_load {t : TypeId} {x : Operand} {p v : Value} (ho : o.op = .load t x) (hx : a.eval x = p) (h : (Instr.loadAt t p).run P w = .ok v w) : (execOp a.eval o).run P w = .ok (.value v) w := by
  unfold execOp
  simp only [ho, hx, Sem.run_bind, Sem.run_pure, h, Result.andThen_ok]
theorem exec_store {t : TypeId} {x y : Operand} {p v : Value} (ho : o.op = .store t x y) (hx : a.eval x = p) (hy : a.eval y = v) (h : (Instr.storeAt t p v).run P w = .ok () w') : (execOp a.eval o).run P w = .ok .skip w' := by
  unfold execOp
  simp only [ho, hx, hy, Sem.run_bind, Sem.run_pure, h, Result.andThen_ok]
theorem exec_eql {t t' : TypeId} {x y : Operand} {xs ys : Array Value} {b : Bool} (ho : o.op = .binOp .eql t x y t') (hx : a.eval x = .agg xs) (hy : a.eval y = .agg ys) (hg : P.eqGuardType P.depth t = false) (h : (Op.equalIn 10000 t (.agg xs) (.agg ys)).run P w = .ok b w) : (execOp a.eval o).run P w = .ok (.value (.bool b)) w := by
  have h' : (Op.equal t (.agg xs) (.agg ys)).run P w = .ok b w := h
  unfold execOp
  simp only [ho, hx, hy, Sem.run_bind, Sem.run_pure, run_eqGuard_agg w .eql t x y xs ys hg, Result.andThen_ok, binOp, h']
theorem exec_neq {t t' : TypeId} {x y : Operand} {xs ys : Array Value} {b : Bool} (ho : o.op = .binOp .neq t x y t') (hx : a.eval x = .agg xs) (hy : a.eval y = .agg ys) (hg : P.eqGuardType P.depth t = false) (h : (Op.equalIn 10000 t (.agg xs) (.agg ys)).run P w = .ok b w) : (execOp a.eval o).run P w = .ok (.value (.bool (!b))) w := by
  have h' : (Op.equal t (.agg xs) (.agg ys)).run P w = .ok b w := h
  unfold execOp
  simp only [ho, hx, hy, Sem.run_bind, Sem.run_pure, run_eqGuard_agg w .neq t x y xs ys hg, Result.andThen_ok, binOp, h']
theorem wp_load_run {t : TypeId} {x : Operand} {p v : Value} (hr : (Instr.loadAt t p).run P w = .ok v w) (ho : o.op = .load t x) (hx : a.eval x = p) (h : K (a.put o.dst v) w) : Oper.wp P o a w K Q := by
  unfold Oper.wp
  rw [exec_load ho hx hr]
  exact h
theorem wp_store_run {t : TypeId} {x y : Operand} {p v : Value} (hr : (Instr.storeAt t p v).run P w = .ok () w') (ho : o.op = .store t x y) (hx : a.eval x = p) (hy : a.eval y = v) (h : K (a.put o.dst undef) w') : Oper.wp P o a w K Q := by
  unfold Oper.wp
  rw [exec_store ho hx hy hr]
  exact h
theorem wpList_load_run {t : TypeId} {x : Operand} {p v : Value} (hr : (Instr.loadAt t p).run P w = .ok v w) (hg : o.guard = none) (ho : o.op = .load t x) (hx : a.eval x = p) (h : wpList P ops Q rest (a.put o.dst v) w) : wpList P ops Q (o :: rest) a w :=
  wpList_plain hg fun _ hK => wp_load_run hr ho hx (hK _ _ h)
theorem wpList_store_run {t : TypeId} {x y : Operand} {p v : Value} (hr : (Instr.storeAt t p v).run P w = .ok () w') (hg : o.guard = none) (ho : o.op = .store t x y) (hx : a.eval x = p) (hy : a.eval y = v) (h : wpList P ops Q rest (a.put o.dst undef) w') : wpList P ops Q (o :: rest) a w :=
  wpList_plain hg fun _ hK => wp_store_run hr ho hx hy (hK _ _ h)
variable {F : Fence} {n : Nat}
theorem wpListIn_load_run {t : TypeId} {x : Operand} {p v : Value} (hr : (Instr.loadAt t p).run P w = .ok v w) (hg : o.guard = none) (ho : o.op = .load t x) (hx : a.eval x = p) (h : wpListIn F n P ops Q rest (a.put o.dst v) w) : wpListIn F n P ops Q (o :: rest) a w := by
  refine wpListIn_plain hg fun K hK' => ?_
  unfold Oper.wpIn
  refine ⟨?_, ?_⟩
  · simp [Oper.about, ho]
  · rw [Oper.semAt_plain F _ _ (by rw [ho]; intro c hc'; cases hc')]
    rw [exec_load ho hx hr]
    exact hK' _ _ h
theorem wpListIn_store_run {t : TypeId} {x y : Operand} {p v : Value} (hr : (Instr.storeAt t p v).run P w = .ok () w') (hg : o.guard = none) (ho : o.op = .store t x y) (hx : a.eval x = p) (hy : a.eval y = v) (h : wpListIn F n P ops Q rest (a.put o.dst undef) w') : wpListIn F n P ops Q (o :: rest) a w := by
  refine wpListIn_plain hg fun K hK' => ?_
  unfold Oper.wpIn
  refine ⟨?_, ?_⟩
  · simp [Oper.about, ho]
  · rw [Oper.semAt_plain F _ _ (by rw [ho]; intro c hc'; cases hc')]
    rw [exec_store ho hx hy hr]
    exact hK' _ _ h
theorem exec_mapUpdate {t : TypeId} {m x y : Operand} {M X Y : Value} (ho : o.op = .mapUpdate t m x y) (hm : a.eval m = M) (hx : a.eval x = X) (hy : a.eval y = Y) (h : (Instr.mapUpdate t M X Y).run P w = .ok () w') : (execOp a.eval o).run P w = .ok .skip w' := by
  unfold execOp
  simp only [ho, hm, hx, hy, Sem.run_bind, Sem.run_pure, h, Result.andThen_ok]
theorem wpListIn_mapUpdate_run {t : TypeId} {m x y : Operand} {M X Y : Value} (hr : (Instr.mapUpdate t M X Y).run P w = .ok () w') (hg : o.guard = none) (ho : o.op = .mapUpdate t m x y) (hm : a.eval m = M) (hx : a.eval x = X) (hy : a.eval y = Y) (h : wpListIn F n P ops Q rest (a.put o.dst undef) w') : wpListIn F n P ops Q (o :: rest) a w := by
  refine wpListIn_plain hg fun K hK' => ?_
  unfold Oper.wpIn
  refine ⟨?_, ?_⟩
  · simp [Oper.about, ho]
  · rw [Oper.semAt_plain F _ _ (by rw [ho]; intro c hc'; cases hc')]
    rw [exec_mapUpdate ho hm hx hy hr]
    exact hK' _ _ h
theorem exec_lookup {t : TypeId} {m x : Operand} {c : Bool} {M X v : Value} (ho : o.op = .lookup t m x c) (hm : a.eval m = M) (hx : a.eval x = X) (h : (Instr.lookup t M X c).run P w = .ok v w) : (execOp a.eval o).run P w = .ok (.value v) w := by
  unfold execOp
  simp only [ho, hm, hx, Sem.run_bind, Sem.run_pure, h, Result.andThen_ok]
theorem wpListIn_lookup_run {t : TypeId} {m x : Operand} {c : Bool} {M X v : Value} (hr : (Instr.lookup t M X c).run P w = .ok v w) (hg : o.guard = none) (ho : o.op = .lookup t m x c) (hm : a.eval m = M) (hx : a.eval x = X) (h : wpListIn F n P ops Q rest (a.put o.dst v) w) : wpListIn F n P ops Q (o :: rest) a w := by
  refine wpListIn_plain hg fun K hK' => ?_
  unfold Oper.wpIn
  refine ⟨?_, ?_⟩
  · simp [Oper.about, ho]
  · rw [Oper.semAt_plain F _ _ (by rw [ho]; intro c hc'; cases hc')]
    rw [exec_lookup ho hm hx hr]
    exact hK' _ _ h
theorem wpListIn_append_run {t tx : TypeId} {s x : Operand} {v X v' : Value} (hrun : (Builtin.append_ #[t, tx] o.type #[v, X]).run P w = .ok v' w') (hg : o.guard = none) (hop : o.op = Op.call { callee := Callee.builtin Builtin.append, args := #[s, x], argTypes := #[t, tx] })
    (hs : a.eval s = v) (hx : a.eval x = X) (h : wpListIn F n P ops Q rest (a.put o.dst v') w') : wpListIn F n P ops Q (o :: rest) a w := by
  refine wpListIn_plain hg fun K hK' => ?_
  unfold Oper.wpIn
  refine ⟨?_, ?_⟩
  · simp [Oper.about, hop, resolve, Target.leads, Sem.run_pure]
  · rw [Oper.semAt_plain F _ _ (by rw [hop]; intro c hc'; cases hc')]
    simp [execOp, hop, resolve, invoke, builtin, hs, hx, hrun, Result.andThen]
    exact hK' _ _ h
theorem exec_buildSlice {t : TypeId} {len : Nat} {parts : Array (Nat × Operand)} {ps : Array (Nat × Value)} {v : Value} (ho : o.op = .buildSlice t len parts) (hp : (parts.toList.map fun p => (p.1, a.eval p.2)) = ps.toList) (h : (Instr.buildSlice t len ps).run P w = .ok v w') : (execOp a.eval o).run P w = .ok (.value v) w' := by
  have hp' : (parts.map fun (i, x) => (i, a.eval x)) = ps := Array.toList_inj.1 (by rw [Array.toList_map]; exact hp)
  subst hp'
  unfold execOp
  simp only [ho, Sem.run_bind, Sem.run_pure, h, Result.andThen_ok]
theorem wpList_buildSlice_run {t : TypeId} {len : Nat} {parts : Array (Nat × Operand)} {ps : Array (Nat × Value)} {v : Value} (hg : o.guard = none) (ho : o.op = .buildSlice t len parts) (hp : (parts.toList.map fun p => (p.1, a.eval p.2)) = ps.toList) (hr : (Instr.buildSlice t len ps).run P w = .ok v w') (h : wpList P ops Q rest (a.put o.dst v) w') : wpList P ops Q (o :: rest) a w :=
  wpList_plain hg fun _ hK => by
    unfold Oper.wp
    rw [exec_buildSlice ho hp hr]
    exact hK _ _ h
/-- An operation that is wanted (whatever its guard), as a step of a plain list. -/
theorem wpList_wanted (hw : Region.wanted o (yielded ops a.tmps) = true) (h : Oper.wp P o a w (wpList P ops Q rest) Q) : wpList P ops Q (o :: rest) a w := by
  show (if Region.wanted o (yielded ops a.tmps) then o.wp P a w (wpList P ops Q rest) Q ∨ (o.asks P a w ∧ LetsOut Q) else wpList P ops Q rest (a.put o.dst undef) w)
  rw [if_pos hw]
  exact .inl h
theorem wp_buildSlice_run {t : TypeId} {len : Nat} {parts : Array (Nat × Operand)} {ps : Array (Nat × Value)} {v : Value} (ho : o.op = .buildSlice t len parts) (hp : (parts.toList.map fun p => (p.1, a.eval p.2)) = ps.toList) (hr : (Instr.buildSlice t len ps).run P w = .ok v w') (h : K (a.put o.dst v) w') : Oper.wp P o a w K Q := by
  unfold Oper.wp
  rw [exec_buildSlice ho hp hr]
  exact h
theorem wpListIn_buildSlice_run {t : TypeId} {len : Nat} {parts : Array (Nat × Operand)} {ps : Array (Nat × Value)} {v : Value} (hg : o.guard = none) (ho : o.op = .buildSlice t len parts) (hp : (parts.toList.map fun p => (p.1, a.eval p.2)) = ps.toList) (hr : (Instr.buildSlice t len ps).run P w = .ok v w') (h : wpListIn F n P ops Q rest (a.put o.dst v) w') : wpListIn F n P ops Q (o :: rest) a w := by
  refine wpListIn_plain hg fun K hK' => ?_
  unfold Oper.wpIn
  refine ⟨?_, ?_⟩
  · simp [Oper.about, ho]
  · rw [Oper.semAt_plain F _ _ (by rw [ho]; intro c hc'; cases hc')]
    rw [exec_buildSlice ho hp hr]
    exact hK' _ _ h
theorem exec_build {t : TypeId} {parts : Array (Nat × Operand)} {ps : Array (Nat × Value)} {v : Value} (ho : o.op = .build t parts) (hp : (parts.toList.map fun p => (p.1, a.eval p.2)) = ps.toList) (h : (Instr.build t ps).run P w = .ok v w) : (execOp a.eval o).run P w = .ok (.value v) w := by
  have hp' : (parts.map fun (i, x) => (i, a.eval x)) = ps := Array.toList_inj.1 (by rw [Array.toList_map]; exact hp)
  subst hp'
  unfold execOp
  simp only [ho, Sem.run_bind, Sem.run_pure, h, Result.andThen_ok]
theorem wpList_build_run {t : TypeId} {parts : Array (Nat × Operand)} {ps : Array (Nat × Value)} {v : Value} (hg : o.guard = none) (ho : o.op = .build t parts) (hp : (parts.toList.map fun p => (p.1, a.eval p.2)) = ps.toList) (hr : (Instr.build t ps).run P w = .ok v w) (h : wpList P ops Q rest (a.put o.dst v) w) : wpList P ops Q (o :: rest) a w :=
  wpList_plain hg fun _ hK => by
    unfold Oper.wp
    rw [exec_build ho hp hr]
    exact hK _ _ h
theorem wp_append_run {s x : Operand} {t tx : TypeId} {v X v' : Value} (hrun : (Builtin.append_ #[t, tx] o.type #[v, X]).run P w = .ok v' w') (ho : o.op = .call { callee := .builtin .append, args := #[s, x], argTypes := #[t, tx] })
    (hs : a.eval s = v) (hx : a.eval x = X) (h : K (a.put o.dst v') w') : Oper.wp P o a w K Q := by
  unfold Oper.wp execOp
  simp only [ho, resolve, invoke, builtin, Sem.run_bind, Sem.run_pure, Result.andThen_ok, List.map_toArray, List.map_cons, List.map_nil, hs, hx, hrun]
  exact h
theorem wp_mapEntry_run {t : TypeId} {m x : Operand} {M X v : Value} (hr : (Instr.mapEntry t M X).run P w = .ok v w') (ho : o.op = .mapEntry t m x) (hm : a.eval m = M) (hx : a.eval x = X) (h : K (a.put o.dst v) w') : Oper.wp P o a w K Q := by
  unfold Oper.wp execOp
  simp only [ho, hm, hx, Sem.run_bind, Sem.run_pure, hr, Result.andThen_ok]
  exact h
theorem wp_entryStore_run {t : TypeId} {m s x : Operand} {M T X : Value} (hr : (Instr.entryStore t M T X).run P w = .ok () w') (ho : o.op = .entryStore t m s x) (hm : a.eval m = M) (hs : a.eval s = T) (hx : a.eval x = X) (h : K (a.put o.dst undef) w') : Oper.wp P o a w K Q := by
  unfold Oper.wp execOp
  simp only [ho, hm, hs, hx, Sem.run_bind, Sem.run_pure, hr, Result.andThen_ok]
  exact h
end
end Go.Proofs.Ytokembhfebnjpaa
/- A range over a function that may WRITE memory between two rounds: a law of our own, over the kit's laws on one round and on the loop's record. -/
namespace Go.Proofs.Ytokembhfebnjpaa
set_option maxRecDepth 20000
open Go.RowKit
set_option linter.unusedVariables false

/-- Blocks from B on that are no cells: the loop's book-keeping. -/
def NC (B : Nat) (A : World) : Nat → Prop := fun i => B ≤ i ∧ ∃ o : Obj, A.heap[i]? = some o ∧ o.isCells = false
/-- What abides the loop's book-keeping. -/
def Abd {β : Type} (B : Nat) (I : β → World → Prop) : Prop := ∀ s A A', I s A → Kp (NC B A) A A' → I s A'
theorem Kp.putNC {B : Nat} {A : World} {l : Nat} {o : Obj} (hB : B ≤ l) (h : A.heap[l]? = some o) (ho : o.isCells = false) (o' : Obj) : Kp (NC B A) A (A.putObj l o') :=
  (Kp.refl _ A).grown (grownBy_putObj' A l o') (fun k e _ => by cases e; exact ⟨hB, o, h, ho⟩)
theorem NC.not {B : Nat} {A : World} {b : Nat} {cs : List Value} (h : At A b cs) : ¬ NC B A b := fun ⟨_, o, ho, hc⟩ => by
  obtain ⟨e, he⟩ := h
  rw [ho] at he; cases he; cases hc
/-- What lies below B is kept. -/
theorem Kp.thenNC {S : Nat → Prop} {B : Nat} {w A A' : World} (h : Kp S w A) (k : Kp (NC B A) A A') (hB : w.heap.size ≤ B) : Kp S w A' := h.then k (fun i hi hn => by have := hn.1; omega)

/-- What an iterator owes that goes through xs: T pre: its memory when pre has come; E: its memory at the end; Wr: how it may turn the world. A body may leave it early. -/
def Gives {α : Type} (F : Fence) (n : Nat) (P : Program) (g : Nat) (lb : Array Value) (encs : α → Array Value) (xs : List α) (Wr : World → World → Prop) (T : List α → World → Prop) (E : World → Prop) : Prop :=
  ∀ (l : Nat) (J Jx : List α → World → Prop) (W : World), (∀ s A A', J s A → Wr A A' → J s A') → (∀ s A A', Jx s A → Wr A A' → Jx s A') →
    (∀ pre x W1, pre ++ [x] <+: xs → J pre W1 → T (pre ++ [x]) W1 → YieldAt F (n - 1) P l (encs x) W1 fun e W' =>
      (e = .returned (.bool true) ∧ J (pre ++ [x]) W' ∧ T (pre ++ [x]) W') ∨ (e = .returned (.bool false) ∧ Jx (pre ++ [x]) W')) →
    J [] W → T [] W →
    CallsIn F n P g (#[.func (.yield l) #[] #[]] ++ lb) W fun e W' => (∃ v, e = .returned v) ∧ ((J xs W' ∧ E W') ∨ (∃ pre, pre <+: xs ∧ Jx pre W'))

/-- How the body of a round may be left. -/
def rngPost {α : Type} (B : Nat) (I : List α → World → Prop) (T : List α → World → Prop) (Ix : Code → List α → World → Prop) (xs : List α) (W : World) : Exit → Act → World → Prop
  | .normal, _, W' => KeepsFrom B W W' ∧ I xs W' ∧ T xs W'
  | .ret, _, W' => KeepsFrom B W W' ∧ Ix .ret xs W'
  | .exit id, _, W' => KeepsFrom B W W' ∧ Ix (.exit id) xs W'
  | .goto t, _, W' => KeepsFrom B W W' ∧ Ix (.goto t) xs W'
  | .panic _, _, _ => False
  | .outgrown, _, _ => False

variable {F : Fence} {n : Nat} {P : Program}

/-- The loop's record. -/
def rngRec (fn : Nat) (a : Act) (ps : Array Tmp) (assign body : Code) (D : Nat) (st : LoopState) (pe : Option Code) : Loop :=
  { state := st, pending := pe, fn, tmps := a.tmps, params := ps, assign, body, defers := D }

set_option maxHeartbeats 1000000 in
theorem wpIn_rng {α : Type} {g : Operand} {ps : Array Tmp} {assign body : Code} {Q : Exit → Act → World → Prop} {a : Act} {w : World}
    (hro : F.round = none) (h1 : 1 ≤ n) {gf : Nat} {lb : Array Value} (hg : a.eval g = .func (.func gf) #[] lb) (hFg : F.fn gf) (eg : ∀ args w, (callFunc gf args).run P w = .ok (.enter gf args) w)
    {encs : α → Array Value} {xs : List α} {S : Nat → Prop} {Wr : World → World → Prop} {T : List α → World → Prop} {E : World → Prop} (hit : Gives F (n - 1) P gf lb encs xs Wr T E)
    (hW : ∀ {A A' : World}, Wr A A' → Kp S A A') (hS : ∀ i, S i → i < w.heap.size) (hps : ∀ x, (encs x).size = ps.size)
    (I : List α → World → Prop) (Ix : Code → List α → World → Prop) (hI : Abd w.heap.size I) (hIx : ∀ c, Abd w.heap.size (Ix c)) (hT : Abd w.heap.size T) (hE : Abd w.heap.size (fun (_ : Unit) => E))
    (hIS : ∀ s A A', I s A → Wr A A' → I s A') (hIxS : ∀ c s A A', Ix c s A → Wr A A' → Ix c s A')
    (h0 : I [] w) (hT0 : T [] w) (a₁ : α → Act)
    (hassign : ∀ (l : Nat) (x : α) (W : World) (K : Act → World → Prop), K (a₁ x) W →
      assign.wpIn (F.inRound l) (n - 1 - 1) P (Exit.then K (fun _ _ _ => False)) { tmps := (ps.zip (encs x)).foldl (fun t (p, v) => t.setIfInBounds p v) a.tmps, defers := [] } W)
    (hbody : ∀ (l : Nat) (pre : List α) (x : α) (W : World), pre ++ [x] <+: xs → I pre W → T (pre ++ [x]) W → body.wpIn (F.inRound l) (n - 1 - 1) P (rngPost w.heap.size I T Ix (pre ++ [x]) W) (a₁ x) W)
    (hdone : ∀ (D : Nat) (W : World), w.heap.size ≤ D → I xs W → E W → W.heap[D]? = some (.deferred (some [])) → Q .normal { a with defers := { target := .collected D, args := #[] } :: a.defers } W)
    (hstop : ∀ (D : Nat) (c : Code) (pre : List α) (W : World), w.heap.size ≤ D → pre <+: xs → Ix c pre W → W.heap[D]? = some (.deferred (some [])) → c.wpIn F n P Q { a with defers := { target := .collected D, args := #[] } :: a.defers } W) :
    (Code.rangeFunc g ps assign body).wpIn F n P Q a w := by
  refine wpIn_rangeFunc ?_
  intro fn hfn
  rw [hro]
  obtain ⟨R, hR⟩ : ∃ R : LoopState → Option Code → Loop, R = rngRec fn a ps assign body w.heap.size := ⟨_, rfl⟩
  obtain ⟨W1, hW1⟩ : ∃ W1, (w.alloc (.deferred (some []))).alloc (.loop (R .ready none)) = W1 := ⟨_, rfl⟩
  have kW1 : Kp (fun _ => False) w W1 := by rw [← hW1]; exact ((Kp.refl _ w).alloc _).alloc _
  have hl1 : W1.heap[w.heap.size + 1]? = some (.loop (R .ready none)) := by
    rw [← hW1]; have := World.alloc_heap_new (w.alloc (.deferred (some []))) (.loop (R .ready none)); rwa [World.size_alloc] at this
  have hd1 : W1.heap[w.heap.size]? = some (.deferred (some [])) := by
    rw [← hW1]; exact (Below.heap_alloc _ _ _ (by simp)).trans (World.alloc_heap_new w _)
  refine ⟨w.heap.size + 1, [{ target := .collected w.heap.size, args := #[] }], W1, { target := .fn (.func gf) lb, args := #[.func (.yield (w.heap.size + 1)) #[] #[]] }, W1, gf,
    #[.func (.yield (w.heap.size + 1)) #[] #[]] ++ lb, W1, ?_, ?_, ?_, ?_, fun _ => h1, ?_⟩
  · rw [← hW1, hR]; exact run_enterLoop_outer _ _ _ _ _
  · simp only [resolve, hg]
    simp [go_sem]
  · intro f' hf'
    simp [Target.leads] at hf'
    subst hf'; exact hFg
  · simp [invoke, go_sem, eg]
  -- a block of book-keeping is not among what the iterator writes
  have blkS : ∀ {A A' : World} {i : Nat} {o : Obj}, Kp S A A' → w.heap.size ≤ i → A.heap[i]? = some o → A'.heap[i]? = some o := fun k hi ho =>
    (k.block _ (Array.getElem?_eq_some_iff.1 ho).1 (fun hs => by have := hS _ hs; omega)).trans ho
  have k1 : Kp (NC w.heap.size w) w W1 := kW1.mono (fun _ _ h => h.elim)
  refine (hit (w.heap.size + 1)
    (fun pre W => I pre W ∧ W.heap[w.heap.size + 1]? = some (.loop (R .ready none)) ∧ W.heap[w.heap.size]? = some (.deferred (some [])))
    (fun pre W => ∃ c, Ix c pre W ∧ W.heap[w.heap.size + 1]? = some (.loop (R .done (some c))) ∧ W.heap[w.heap.size]? = some (.deferred (some [])))
    W1 (fun s A A' h k => ⟨hIS s A A' h.1 k, blkS (hW k) (by omega) h.2.1, blkS (hW k) (by omega) h.2.2⟩)
    (fun s A A' ⟨c, h, h2, h3⟩ k => ⟨c, hIxS c s A A' h k, blkS (hW k) (by omega) h2, blkS (hW k) (by omega) h3⟩)
    ?_ ⟨hI _ _ _ h0 k1, hl1, hd1⟩ (hT _ _ _ hT0 k1)).mono ?_
  · -- one round
    rintro pre x W hpre ⟨hi, hl, hd⟩ ht
    have hy := run_yield (P := P) (args := encs x) hl (by rw [hR]; exact hps x)
    refine ⟨_, _, _, _, hy, roundIn_of_wpIn (by rw [hR]; exact hfn) ?_⟩
    rw [hR] at hl ⊢
    refine hassign _ x W _ ⟨_, run_beginRound hl rfl, ?_⟩
    have hlt := (Array.getElem?_eq_some_iff.1 hl).1
    have kb : Kp (NC w.heap.size W) W (W.putObj (w.heap.size + 1) (.loop { rngRec fn a ps assign body w.heap.size .ready none with state := .busy })) := Kp.putNC (by omega) hl rfl _
    have hl2 := World.putObj_heap_same (o := Obj.loop { rngRec fn a ps assign body w.heap.size .ready none with state := .busy }) hlt
    have hd2 : (W.putObj (w.heap.size + 1) (.loop { rngRec fn a ps assign body w.heap.size .ready none with state := .busy })).heap[w.heap.size]? = some (.deferred (some [])) := (World.putObj_heap_other (by omega)).trans hd
    refine wpIn_mono (hbody _ pre x _ hpre (hI _ _ _ hi kb) (hT _ _ _ ht kb)) ?_
    have fin : ∀ (jump : Option Code) (W3 : World), KeepsFrom w.heap.size (W.putObj (w.heap.size + 1) (.loop { rngRec fn a ps assign body w.heap.size .ready none with state := .busy })) W3 →
        ∃ v W4, (Instr.endRound (w.heap.size + 1) jump).run P W3 = .ok v W4 ∧ v = .bool jump.isNone ∧ Kp (NC w.heap.size W3) W3 W4 ∧
        W4.heap[w.heap.size + 1]? = some (.loop (rngRec fn a ps assign body w.heap.size (if jump.isNone then .ready else .done) jump)) ∧ W4.heap[w.heap.size]? = some (.deferred (some [])) := fun jump W3 hk3 => by
      have hl3 := hk3.same _ _ (by omega) hl2 rfl
      have hr3 := run_endRound (P := P) jump hl3
      refine ⟨_, _, hr3, rfl, Kp.putNC (by omega) hl3 rfl _, World.putObj_heap_same (Array.getElem?_eq_some_iff.1 hl3).1, (World.putObj_heap_other (by omega)).trans (hk3.same _ _ (Nat.le_refl _) hd2 rfl)⟩
    rintro e a3 W3 hp
    cases e with
    | normal =>
      obtain ⟨hk3, hi3, ht3⟩ := hp
      obtain ⟨v, W4, hr, rfl, k4, hl4, hd4⟩ := fin none W3 hk3
      exact ⟨_, _, hr, .inl ⟨rfl, ⟨hI _ _ _ hi3 k4, hl4, hd4⟩, hT _ _ _ ht3 k4⟩⟩
    | ret =>
      obtain ⟨v, W4, hr, rfl, k4, hl4, hd4⟩ := fin (some .ret) W3 hp.1
      exact ⟨_, _, hr, .inr ⟨rfl, .ret, hIx _ _ _ _ hp.2 k4, hl4, hd4⟩⟩
    | exit id =>
      obtain ⟨v, W4, hr, rfl, k4, hl4, hd4⟩ := fin (some (.exit id)) W3 hp.1
      exact ⟨_, _, hr, .inr ⟨rfl, .exit id, hIx _ _ _ _ hp.2 k4, hl4, hd4⟩⟩
    | goto t =>
      obtain ⟨v, W4, hr, rfl, k4, hl4, hd4⟩ := fin (some (.goto t)) W3 hp.1
      exact ⟨_, _, hr, .inr ⟨rfl, .goto t, hIx _ _ _ _ hp.2 k4, hl4, hd4⟩⟩
    | panic ch => exact hp.elim
    | outgrown => exact hp.elim
  · -- behind the iterator
    rintro e W2 ⟨⟨v, rfl⟩, (⟨⟨hi, hl, hd⟩, hEE⟩ | ⟨pre, hpre, c, hi, hl, hd⟩)⟩
    · have kx : Kp (NC w.heap.size W2) W2 (W2.putObj (w.heap.size + 1) (.loop { R .ready none with state := .exhausted })) := Kp.putNC (by omega) hl rfl _
      exact ⟨none, _, by have := run_endLoop (P := P) hl (by rw [hR]; simp [rngRec]); rw [hR] at this ⊢; exact this, hdone _ _ (Nat.le_refl _) (hI _ _ _ hi kx) (hE () _ _ hEE kx) ((World.putObj_heap_other (by omega)).trans hd)⟩
    · have kx : Kp (NC w.heap.size W2) W2 (W2.putObj (w.heap.size + 1) (.loop { R .done (some c) with state := .exhausted })) := Kp.putNC (by omega) hl rfl _
      exact ⟨some c, _, by have := run_endLoop (P := P) hl (by rw [hR]; simp [rngRec]); rw [hR] at this ⊢; exact this, hstop _ c pre _ (Nat.le_refl _) hpre (hIx c _ _ _ hi kx) ((World.putObj_heap_other (by omega)).trans hd)⟩
end Go.Proofs.Ytokembhfebnjpaa
/- As XRngA, where the iterator is a method value: its receiver comes ahead of the yield. -/
namespace Go.Proofs.Ytokembhfebnjpaa
set_option maxRecDepth 20000
open Go.RowKit
set_option linter.unusedVariables false
/-- (an iterator that is a method value, its receiver pb) What an iterator owes that goes through xs: T pre: its memory when pre has come; E: its memory at the end; Wr: how it may turn the world. A body may leave it early. -/
def GivesB {α : Type} (F : Fence) (n : Nat) (P : Program) (g : Nat) (pb lb : Array Value) (encs : α → Array Value) (xs : List α) (Wr : World → World → Prop) (T : List α → World → Prop) (E : World → Prop) : Prop :=
  ∀ (l : Nat) (J Jx : List α → World → Prop) (W : World), (∀ s A A', J s A → Wr A A' → J s A') → (∀ s A A', Jx s A → Wr A A' → Jx s A') →
    (∀ pre x W1, pre ++ [x] <+: xs → J pre W1 → T (pre ++ [x]) W1 → YieldAt F (n - 1) P l (encs x) W1 fun e W' =>
      (e = .returned (.bool true) ∧ J (pre ++ [x]) W' ∧ T (pre ++ [x]) W') ∨ (e = .returned (.bool false) ∧ Jx (pre ++ [x]) W')) →
    J [] W → T [] W →
    CallsIn F n P g (pb ++ #[.func (.yield l) #[] #[]] ++ lb) W fun e W' => (∃ v, e = .returned v) ∧ ((J xs W' ∧ E W') ∨ (∃ pre, pre <+: xs ∧ Jx pre W'))

variable {F : Fence} {n : Nat} {P : Program}
set_option maxHeartbeats 1000000 in
theorem wpIn_rngB {α : Type} {g : Operand} {ps : Array Tmp} {assign body : Code} {Q : Exit → Act → World → Prop} {a : Act} {w : World}
    (hro : F.round = none) (h1 : 1 ≤ n) {gf : Nat} {pb lb : Array Value} (hg : a.eval g = .func (.func gf) pb lb) (hFg : F.fn gf) (eg : ∀ args w, (callFunc gf args).run P w = .ok (.enter gf args) w)
    {encs : α → Array Value} {xs : List α} {S : Nat → Prop} {Wr : World → World → Prop} {T : List α → World → Prop} {E : World → Prop} (hit : GivesB F (n - 1) P gf pb lb encs xs Wr T E)
    (hW : ∀ {A A' : World}, Wr A A' → Kp S A A') (hS : ∀ i, S i → i < w.heap.size) (hps : ∀ x, (encs x).size = ps.size)
    (I : List α → World → Prop) (Ix : Code → List α → World → Prop) (hI : Abd w.heap.size I) (hIx : ∀ c, Abd w.heap.size (Ix c)) (hT : Abd w.heap.size T) (hE : Abd w.heap.size (fun (_ : Unit) => E))
    (hIS : ∀ s A A', I s A → Wr A A' → I s A') (hIxS : ∀ c s A A', Ix c s A → Wr A A' → Ix c s A')
    (h0 : I [] w) (hT0 : T [] w) (B : α → World → Act → World → Prop) (hBk : ∀ {x A a' A'}, B x A a' A' → Kp (fun _ => False) A A')
    (hIK : ∀ s A A', I s A → Kp (fun _ => False) A A' → I s A') (hTK : ∀ s A A', T s A → Kp (fun _ => False) A A' → T s A')
    (hassign : ∀ (l : Nat) (x : α) (W : World) (K : Act → World → Prop), x ∈ xs → (∀ a' W', B x W a' W' → K a' W') →
      assign.wpIn (F.inRound l) (n - 1 - 1) P (Exit.then K (fun _ _ _ => False)) { tmps := (ps.zip (encs x)).foldl (fun t (p, v) => t.setIfInBounds p v) a.tmps, defers := [] } W)
    (hbody : ∀ (l : Nat) (pre : List α) (x : α) (W W2 W' : World) (a' : Act), pre ++ [x] <+: xs → I pre W → B x W a' W2 → Kp (NC w.heap.size W2) W2 W' → I pre W' → T (pre ++ [x]) W' → body.wpIn (F.inRound l) (n - 1 - 1) P (rngPost w.heap.size I T Ix (pre ++ [x]) W') a' W')
    (hdone : ∀ (D : Nat) (W : World), w.heap.size ≤ D → I xs W → E W → W.heap[D]? = some (.deferred (some [])) → Q .normal { a with defers := { target := .collected D, args := #[] } :: a.defers } W)
    (hstop : ∀ (D : Nat) (c : Code) (pre : List α) (W : World), w.heap.size ≤ D → pre <+: xs → Ix c pre W → W.heap[D]? = some (.deferred (some [])) → c.wpIn F n P Q { a with defers := { target := .collected D, args := #[] } :: a.defers } W) :
    (Code.rangeFunc g ps assign body).wpIn F n P Q a w := by
  refine wpIn_rangeFunc ?_
  intro fn hfn
  rw [hro]
  obtain ⟨R, hR⟩ : ∃ R : LoopState → Option Code → Loop, R = rngRec fn a ps assign body w.heap.size := ⟨_, rfl⟩
  obtain ⟨W1, hW1⟩ : ∃ W1, (w.alloc (.deferred (some []))).alloc (.loop (R .ready none)) = W1 := ⟨_, rfl⟩
  have kW1 : Kp (fun _ => False) w W1 := by rw [← hW1]; exact ((Kp.refl _ w).alloc _).alloc _
  have hl1 : W1.heap[w.heap.size + 1]? = some (.loop (R .ready none)) := by
    rw [← hW1]; have := World.alloc_heap_new (w.alloc (.deferred (some []))) (.loop (R .ready none)); rwa [World.size_alloc] at this
  have hd1 : W1.heap[w.heap.size]? = some (.deferred (some [])) := by
    rw [← hW1]; exact (Below.heap_alloc _ _ _ (by simp)).trans (World.alloc_heap_new w _)
  refine ⟨w.heap.size + 1, [{ target := .collected w.heap.size, args := #[] }], W1, { target := .fn (.func gf) lb, args := pb ++ #[.func (.yield (w.heap.size + 1)) #[] #[]] }, W1, gf,
    pb ++ #[.func (.yield (w.heap.size + 1)) #[] #[]] ++ lb, W1, ?_, ?_, ?_, ?_, fun _ => h1, ?_⟩
  · rw [← hW1, hR]; exact run_enterLoop_outer _ _ _ _ _
  · simp only [resolve, hg]
    simp [go_sem]
  · intro f' hf'
    simp [Target.leads] at hf'
    subst hf'; exact hFg
  · simp [invoke, go_sem, eg]
  -- a block of book-keeping is not among what the iterator writes
  have blkS : ∀ {A A' : World} {i : Nat} {o : Obj}, Kp S A A' → w.heap.size ≤ i → A.heap[i]? = some o → A'.heap[i]? = some o := fun k hi ho =>
    (k.block _ (Array.getElem?_eq_some_iff.1 ho).1 (fun hs => by have := hS _ hs; omega)).trans ho
  have k1 : Kp (NC w.heap.size w) w W1 := kW1.mono (fun _ _ h => h.elim)
  refine (hit (w.heap.size + 1)
    (fun pre W => I pre W ∧ W.heap[w.heap.size + 1]? = some (.loop (R .ready none)) ∧ W.heap[w.heap.size]? = some (.deferred (some [])))
    (fun pre W => ∃ c, Ix c pre W ∧ W.heap[w.heap.size + 1]? = some (.loop (R .done (some c))) ∧ W.heap[w.heap.size]? = some (.deferred (some [])))
    W1 (fun s A A' h k => ⟨hIS s A A' h.1 k, blkS (hW k) (by omega) h.2.1, blkS (hW k) (by omega) h.2.2⟩)
    (fun s A A' ⟨c, h, h2, h3⟩ k => ⟨c, hIxS c s A A' h k, blkS (hW k) (by omega) h2, blkS (hW k) (by omega) h3⟩)
    ?_ ⟨hI _ _ _ h0 k1, hl1, hd1⟩ (hT _ _ _ hT0 k1)).mono ?_
  · -- one round
    rintro pre x W hpre ⟨hi, hl, hd⟩ ht
    have hy := run_yield (P := P) (args := encs x) hl (by rw [hR]; exact hps x)
    refine ⟨_, _, _, _, hy, roundIn_of_wpIn (by rw [hR]; exact hfn) ?_⟩
    rw [hR] at hl ⊢
    refine hassign _ x W _ (hpre.subset (by simp)) (fun a' W2 hB => ?_)
    have kB := hBk hB
    have hi0 := hi
    replace hl := (kB.block _ (Array.getElem?_eq_some_iff.1 hl).1 (fun h => h)).trans hl
    replace hd := (kB.block _ (Array.getElem?_eq_some_iff.1 hd).1 (fun h => h)).trans hd
    replace hi := hIK _ _ _ hi kB
    replace ht := hTK _ _ _ ht kB
    refine ⟨_, run_beginRound hl rfl, ?_⟩
    have hlt := (Array.getElem?_eq_some_iff.1 hl).1
    have kb : Kp (NC w.heap.size W2) W2 (W2.putObj (w.heap.size + 1) (.loop { rngRec fn a ps assign body w.heap.size .ready none with state := .busy })) := Kp.putNC (by omega) hl rfl _
    have hl2 := World.putObj_heap_same (o := Obj.loop { rngRec fn a ps assign body w.heap.size .ready none with state := .busy }) hlt
    have hd2 : (W2.putObj (w.heap.size + 1) (.loop { rngRec fn a ps assign body w.heap.size .ready none with state := .busy })).heap[w.heap.size]? = some (.deferred (some [])) := (World.putObj_heap_other (by omega)).trans hd
    refine wpIn_mono (hbody _ pre x W W2 _ a' hpre hi0 hB kb (hI _ _ _ hi kb) (hT _ _ _ ht kb)) ?_
    have fin : ∀ (jump : Option Code) (W3 : World), KeepsFrom w.heap.size (W2.putObj (w.heap.size + 1) (.loop { rngRec fn a ps assign body w.heap.size .ready none with state := .busy })) W3 →
        ∃ v W4, (Instr.endRound (w.heap.size + 1) jump).run P W3 = .ok v W4 ∧ v = .bool jump.isNone ∧ Kp (NC w.heap.size W3) W3 W4 ∧
        W4.heap[w.heap.size + 1]? = some (.loop (rngRec fn a ps assign body w.heap.size (if jump.isNone then .ready else .done) jump)) ∧ W4.heap[w.heap.size]? = some (.deferred (some [])) := fun jump W3 hk3 => by
      have hl3 := hk3.same _ _ (by omega) hl2 rfl
      have hr3 := run_endRound (P := P) jump hl3
      refine ⟨_, _, hr3, rfl, Kp.putNC (by omega) hl3 rfl _, World.putObj_heap_same (Array.getElem?_eq_some_iff.1 hl3).1, (World.putObj_heap_other (by omega)).trans (hk3.same _ _ (Nat.le_refl _) hd2 rfl)⟩
    rintro e a3 W3 hp
    cases e with
    | normal =>
      obtain ⟨hk3, hi3, ht3⟩ := hp
      obtain ⟨v, W4, hr, rfl, k4, hl4, hd4⟩ := fin none W3 hk3
      exact ⟨_, _, hr, .inl ⟨rfl, ⟨hI _ _ _ hi3 k4, hl4, hd4⟩, hT _ _ _ ht3 k4⟩⟩
    | ret =>
      obtain ⟨v, W4, hr, rfl, k4, hl4, hd4⟩ := fin (some .ret) W3 hp.1
      exact ⟨_, _, hr, .inr ⟨rfl, .ret, hIx _ _ _ _ hp.2 k4, hl4, hd4⟩⟩
    | exit id =>
      obtain ⟨v, W4, hr, rfl, k4, hl4, hd4⟩ := fin (some (.exit id)) W3 hp.1
      exact ⟨_, _, hr, .inr ⟨rfl, .exit id, hIx _ _ _ _ hp.2 k4, hl4, hd4⟩⟩
    | goto t =>
      obtain ⟨v, W4, hr, rfl, k4, hl4, hd4⟩ := fin (some (.goto t)) W3 hp.1
      exact ⟨_, _, hr, .inr ⟨rfl, .goto t, hIx _ _ _ _ hp.2 k4, hl4, hd4⟩⟩
    | panic ch => exact hp.elim
    | outgrown => exact hp.elim
  · -- behind the iterator
    rintro e W2 ⟨⟨v, rfl⟩, (⟨⟨hi, hl, hd⟩, hEE⟩ | ⟨pre, hpre, c, hi, hl, hd⟩)⟩
    · have kx : Kp (NC w.heap.size W2) W2 (W2.putObj (w.heap.size + 1) (.loop { R .ready none with state := .exhausted })) := Kp.putNC (by omega) hl rfl _
      exact ⟨none, _, by have := run_endLoop (P := P) hl (by rw [hR]; simp [rngRec]); rw [hR] at this ⊢; exact this, hdone _ _ (Nat.le_refl _) (hI _ _ _ hi kx) (hE () _ _ hEE kx) ((World.putObj_heap_other (by omega)).trans hd)⟩
    · have kx : Kp (NC w.heap.size W2) W2 (W2.putObj (w.heap.size + 1) (.loop { R .done (some c) with state := .exhausted })) := Kp.putNC (by omega) hl rfl _
      exact ⟨some c, _, by have := run_endLoop (P := P) hl (by rw [hR]; simp [rngRec]); rw [hR] at this ⊢; exact this, hstop _ c pre _ (Nat.le_refl _) hpre (hIx c _ _ _ hi kx) ((World.putObj_heap_other (by omega)).trans hd)⟩
end Go.Proofs.Ytokembhfebnjpaa
/- What abides a loop's book-keeping. No program in sight. -/
namespace Go.Proofs.Ytokembhfebnjpaa
set_option maxRecDepth 20000
open Go.RowKit
set_option linter.unusedVariables false
theorem Own.at' {w : World} {v : Value} {n size : Nat} {vs : List Value} (h : Own w v n size vs) {g : Nat} (hg : v.ownBlock = some g) : ∃ cs, At w g cs := by
  rcases h.2 with ⟨rfl, _⟩ | ⟨g', cap, sp, rfl, hat, r⟩
  · simp [Value.ownBlock] at hg
  · simp [Value.ownBlock] at hg; subst hg; exact ⟨_, hat⟩
theorem Own.notNC {B : Nat} {w : World} {v : Value} {n size : Nat} {vs : List Value} (h : Own w v n size vs) : ∀ g, v.ownBlock = some g → ¬ NC B w g := fun g hg => by
  obtain ⟨cs, ha⟩ := h.at' hg; exact NC.not ha
theorem KeepsFrom.of_kp {S : Nat → Prop} {B : Nat} {W W' : World} (k : Kp S W W') (h : ∀ i, S i → i < B ∨ ∃ cs, At W i cs) : KeepsFrom B W W' :=
  ⟨k.size, fun i o hB ho hc => by
    by_cases hs : S i
    · rcases h i hs with h1 | ⟨cs, e, h1⟩
      · omega
      · rw [ho] at h1; cases h1; cases hc
    · exact (k.block i (Array.getElem?_eq_some_iff.1 ho).1 hs).trans ho⟩
theorem range_pre {n x : Nat} {pre : List Nat} (h : pre ++ [x] <+: List.range n) : x = pre.length ∧ pre.length < n := by
  obtain ⟨r, hr⟩ := h
  have hl := congrArg List.length hr
  simp at hl
  have := congrArg (fun l => l[pre.length]?) hr
  simp at this
  rw [List.getElem?_range (by omega)] at this
  simp at this
  exact ⟨this, by omega⟩
end Go.Proofs.Ytokembhfebnjpaa
/- satchelkit.SameLists. -/
namespace Go.Proofs.Ytokembhfebnjpaa
set_option maxRecDepth 20000
open Go.RowKit
set_option linter.unusedVariables false
theorem samelists_any (a b : Option Addr) (n m ca cb : Nat) (ls ms : List (List Int)) (w : World) (h : RdL w a ls) (h' : RdL w b ms) (hn : ls.length = n) (hm : ms.length = m) (hn' : n ≤ 4611686018427387904) :
    Calls Try.prog 20 #[.slice a n ca, .slice b m cb] w fun e w' => e = .returned (.bool (decide (ls = ms))) ∧ Kp (fun _ => False) w w' := by
  subst hn; subst hm
  by_cases hl : ls.length = ms.length
  · have h1 : ((ls.length : Int) == ms.length) = true := by simp [hl]
    have h2 : ((ls.length : Int) != ms.length) = false := by simp [hl]
    have HL := Lib.hid hl
    clear hl
    go_enter Try.func20, Try.ntmps20
    go_wp2_with fail
    go_loopw [5] (fun i wr => ∃ k : Nat, k ≤ ls.length ∧ i = .int .i64 k ∧ ls.take k = ms.take k ∧ Kp (fun _ => False) w wr) (fun i _ => ls.length - (intOf i).toNat)
    case atStart => exact ⟨0, by omega, rfl, rfl, Kp.refl _ _⟩
    case round =>
      obtain ⟨k, hkl, rfl, hk, hkp⟩ := hrel
      by_cases hlt : k < ls.length
      · obtain ⟨b1, o1, a1, c1, rfl, q1, r1, _⟩ := h.kp0 hkp (fun _ _ h => h) k hlt
        obtain ⟨b2, o2, a2, c2, rfl, q2, r2, _⟩ := h'.kp0 hkp (fun _ _ h => h) k (by rw [← HL.out]; exact hlt)
        have HT := Lib.hid (take_eq_iff ls ms [] k hlt HL.out hk)
        have i1 : (k : Int) < ls.length := by omega
        have i2 : (k : Int) < ms.length := by have := HL.out; omega
        have Hk := Lib.hid hk
        clear hk h1 h2
        generalize ls.getD k [] = x at *
        generalize ms.getD k [] = y at *
        have C := fun n => Calls.quiet_of_same (n := n) (Calls.turn (same_any a1 a2 c1 c2 x y (wr.drewN n) (r1.drewN n) (r2.drewN n)))
        by_cases hxy : x = y
        · have e : decide (x = y) = true := by simpa using hxy
          rw [e] at C
          have HX := Lib.hid (HT.out.2 hxy)
          clear e hxy
          go_wp2_with fail
          go_quiet ((go_at_call 34; exact C _))
          go_wp2
          go_roundw
          case rel => exact ⟨k + 1, by omega, by go_num, HX.out, hkp.drewN _⟩
          case measure => simp [intOf]; omega
        · have e : decide (x = y) = false := by simpa using hxy
          have hne : decide (ls = ms) = false := by
            simp only [decide_eq_false_iff_not]
            intro e'
            exact hxy (HT.out.1 (by rw [e']))
          rw [e] at C
          have HNE := Lib.hid hne
          clear e hxy hne
          go_wp2_with fail
          go_quiet ((go_at_call 34; exact C _))
          go_wp2
          go_ret
          exact ⟨ret_bool HNE.out.symm, hkp.drewN _⟩
      · obtain rfl : k = ls.length := by omega
        have he : decide (ls = ms) = true := by
          rw [decide_eq_true_eq, ← List.take_length (l := ls), hk, HL.out, List.take_length]
        have HE := Lib.hid he
        clear he hk
        go_wp2
        go_ret
        exact ⟨ret_bool HE.out.symm, hkp⟩
  · have h1 : ((ls.length : Int) == ms.length) = false := by simp; omega
    have h2 : ((ls.length : Int) != ms.length) = true := by simp; omega
    have he : decide (ls = ms) = false := by
      simp only [decide_eq_false_iff_not]; intro e; exact hl (by rw [e])
    rw [he]
    clear hl he
    go_enter Try.func20, Try.ntmps20
    go_wp2
    go_ret
    exact ⟨rfl, Kp.refl _ _⟩
end Go.Proofs.Ytokembhfebnjpaa
/- A map of ints to functions, made and looked up: its entries, as they stand. -/
namespace Go.Proofs.Ytokembhfebnjpaa
set_option maxRecDepth 20000
open Go.RowKit Go.MapKept
set_option linter.unusedVariables false
/-- The map in this block has these entries, in this order. -/
def FnM (w : World) (mb : Nat) (l : List (Int × Value)) : Prop := ∃ es clock, w.heap[mb]? = some (.map es clock) ∧ es.toList.map (fun e => (e.key, e.val)) = l.map (fun p => (Value.int .i64 p.1, p.2))
theorem FnM.made (w : World) : FnM (w.alloc (.map #[] 0)) w.heap.size [] := ⟨#[], 0, heap_alloc_new w _, rfl⟩
theorem findNow_none (n : Int) : ∀ (es : List MapEntry) (l : List (Int × Value)) (i : Nat), es.map (fun e => (e.key, e.val)) = l.map (fun p => (Value.int .i64 p.1, p.2)) → (∀ p ∈ l, p.1 ≠ n) → Instr.findNow (.int .i64) (.int .i64 n) es i = some none
  | [], _, _, _, _ => rfl
  | e :: es, [], _, h, _ => by simp at h
  | e :: es, p :: l, i, h, hn => by
    simp only [List.map_cons, List.cons.injEq, Prod.mk.injEq] at h
    have hp : (n == p.1) = false := by have := hn p (by simp); simp; exact fun e => this e.symm
    simp only [Instr.findNow, h.1.1, Instr.sameNow, if_true, hp]
    exact findNow_none n es l (i + 1) h.2 (fun q hq => hn q (by simp [hq]))
theorem findNow_some (n : Int) (v : Value) : ∀ (es : List MapEntry) (l : List (Int × Value)) (i : Nat), es.map (fun e => (e.key, e.val)) = l.map (fun p => (Value.int .i64 p.1, p.2)) → l.lookup n = some v → ∃ j, Instr.findNow (.int .i64) (.int .i64 n) es i = some (some (j, v))
  | [], [], _, _, hn => by simp at hn
  | [], p :: l, _, h, _ => by simp at h
  | e :: es, [], _, h, _ => by simp at h
  | e :: es, p :: l, i, h, hn => by
    simp only [List.map_cons, List.cons.injEq, Prod.mk.injEq] at h
    obtain ⟨k, u⟩ := p
    by_cases hk : n = k
    · subst hk
      simp only [List.lookup, beq_self_eq_true] at hn
      obtain rfl := Option.some.inj hn
      exact ⟨i, by simp only [Instr.findNow, h.1.1, h.1.2, Instr.sameNow, if_true, beq_self_eq_true]⟩
    · have hb : (n == k) = false := by simpa using hk
      simp only [List.lookup, hb] at hn
      obtain ⟨j, hj⟩ := findNow_some n v es l (i + 1) h.2 hn
      exact ⟨j, by simp only [Instr.findNow, h.1.1, Instr.sameNow, if_true, hb]; exact hj⟩
variable {P : Program} {w : World} {mb : Nat} {l : List (Int × Value)}
theorem FnM.upd (h : FnM w mb l) {T K E : TypeId} (ht : P.underlying T = some (.map K E)) (hK : P.underlying K = some (.int .i64)) (n : Int) (v : Value) (hn : ∀ p ∈ l, p.1 ≠ n) :
    ∃ w', (Instr.mapUpdate T (.map (some mb)) (.int .i64 n) v).run P w = .ok () w' ∧ FnM w' mb (l ++ [(n, v)]) ∧ Kp (fun k => k = mb) w w' := by
  obtain ⟨es, clock, hb, he⟩ := h
  have hf := run_findKey (P := P) (w := w) hK (findNow_none n es.toList l 0 he hn)
  have hc := run_checkKey (P := P) (w := w) (k := .int .i64 n) hK (by simp [IsKey]) false 9999
  have hg := Go.MapKept.run_getObj_map (P := P) hb
  obtain ⟨ob, hob⟩ : ∃ ob, ob = Obj.map (es.push { key := .int .i64 n, val := v, born := clock }) (clock + 1) := ⟨_, rfl⟩
  have hs := Go.MapKept.run_setObj_map (P := P) ob hb
  have h2 := Go.MapKept.heap_set (o' := ob) hb
  refine ⟨{ w with heap := w.heap.setIfInBounds mb ob }, ?_, ⟨es.push { key := .int .i64 n, val := v, born := clock }, clock + 1, by rw [← hob]; exact h2.1, by simp [he]⟩, ⟨rfl, rfl, rfl, by simp, fun i hi hne => h2.2 i hne⟩⟩
  simp only [Instr.mapUpdate, Sem.run_bind, run_underlying ht, hg, hc, hf, Result.andThen]
  rw [← hob]
  exact hs
theorem FnM.look (h : FnM w mb l) {T K E : TypeId} (ht : P.underlying T = some (.map K E)) (hK : P.underlying K = some (.int .i64)) (n : Int) (v : Value) (hn : l.lookup n = some v) :
    (Instr.lookup T (.map (some mb)) (.int .i64 n) false).run P w = .ok v w := by
  obtain ⟨es, clock, hb, he⟩ := h
  obtain ⟨j, hj⟩ := findNow_some n v es.toList l 0 he hn
  have hf := run_findKey (P := P) (w := w) hK hj
  have hc := run_checkKey (P := P) (w := w) (k := .int .i64 n) hK (by simp [IsKey]) es.isEmpty 9999
  have hg := Go.MapKept.run_getObj_map (P := P) hb
  simp only [Instr.lookup, Sem.run_bind, run_underlying ht, hg, hc, hf, Result.andThen, Sem.run_pure]
  rfl
end Go.Proofs.Ytokembhfebnjpaa
/- Reading slices: a slice in the middle. -/
namespace Go.Proofs.Ytokembhfebnjpaa
set_option maxRecDepth 20000
open Go.RowKit
set_option linter.unusedVariables false
theorem RdB.mid2 {w : World} {b off cap : Nat} {l : List Int} (h : RdB w (some ⟨b, off, none⟩) l) (i n : Nat) (hi : i ≤ l.length) (hc : l.length ≤ cap) : RdB w (if cap = i then some ⟨b, off, none⟩ else some ⟨b, off + i, none⟩) ((l.drop i).take n) := by
  by_cases e : cap = i
  · rw [if_pos e, List.drop_of_length_le (by omega), List.take_nil]; exact RdB.nil _ _
  · rw [if_neg e]; exact h.slice i n
end Go.Proofs.Ytokembhfebnjpaa
/- A constant's bytes, converted: a block of bytes. -/
namespace Go.Proofs.Ytokembhfebnjpaa
set_option maxRecDepth 20000
open Go.RowKit
set_option linter.unusedVariables false
theorem rdb_mark (w : World) (l : List Int) (hl : Byt l) (hlen : l.length ≤ 4611686018427387904) (T : TypeId) (m : Nat × Nat) : RdB (w.alloc (.cells (l.map (Value.int .u8)).toArray T m)) (some ⟨w.heap.size, 0, none⟩) l :=
  ⟨fun i hi => ⟨_, _, rfl, by
    have e := heap_alloc_new w (.cells (l.map (Value.int .u8)).toArray T m)
    simp only [World.cell?]
    rw [e]
    simp [List.getD_eq_getElem?_getD, hi]⟩, hl, hlen⟩
/-- The run of []byte of a constant. -/
theorem kc_any (w : World) (C : Array Value) (n c : Nat) : (convert 22 22 (.slice (some ⟨w.heap.size, 0, none⟩) n c)).run Try.prog (w.alloc (.cells C 5)) = .ok (.slice (some ⟨w.heap.size, 0, none⟩) n c) (w.alloc (.cells C 5 (C.size, C.size + 1))) :=
  Lib.run_convert_bytes_const (P := Try.prog) w 22 5 C n c Try.underlying22 Try.underlying5
end Go.Proofs.Ytokembhfebnjpaa
/- What an argument of whatever type reads as: a value that can be read within the form's reach, opened step by step. No program in sight. -/
namespace Go.Proofs.Ytokembhfebnjpaa
set_option maxRecDepth 20000
open Go.RowKit Go.ChangeShapes Go.WideShapes Go.Deep
set_option linter.unusedVariables false

/-- These cells can be read at this type, and nothing that is met is beyond the form's reach. -/
def Rdg (P : Program) (w : World) (t : TypeId) (cs : List Value) : Prop :=
  ∃ (H : Type) (enc : TypeId × Value → H) (spare : Nat → Bool) (held : Bool) (fuel : Nat) (x : DataW H × List MemPlace),
    DataW.trod enc P w 0 spare held fuel t cs = some x ∧ (∀ n ∈ x.1.weights P t, n ≤ reachBytes) ∧ ∀ b, spare b = true
theorem Rdg.of_trod {P : Program} {w : World} {H : Type} {enc : TypeId × Value → H} {t : TypeId} {v : Value} {d : DataW H} {p : List MemPlace} {ts : List TypeId} {ds : List (DataW H)}
    (h : DataW.Trod enc P w 0 (fun _ => true) true t v d p) (hs : (DataW.weightsEach P ts ds).all (· ≤ reachBytes) = true) (j : Nat) (ht : ts[j]? = some t) (hd : ds[j]? = some d) : Rdg P w t v.cells.toList := by
  obtain ⟨fuel, hf⟩ := h
  exact ⟨H, enc, _, true, fuel, _, hf, fun n hn => by simpa using List.all_eq_true.1 hs n (DataW.weights_mem_each ht hd n hn), fun _ => rfl⟩
theorem weights_mem_all {H : Type} {P : Program} {e : TypeId} : ∀ {ds : List (DataW H)} {j : Nat} {d : DataW H}, ds[j]? = some d → ∀ n ∈ d.weights P e, n ∈ DataW.weightsAll P e ds
  | d0 :: ds, 0, d, hd, n, hn => by
    simp only [List.getElem?_cons_zero, Option.some.injEq] at hd
    subst hd
    simp only [DataW.weightsAll, List.mem_append]
    exact Or.inl hn
  | d0 :: ds, j + 1, d, hd, n, hn => by
    simp only [List.getElem?_cons_succ] at hd
    simp only [DataW.weightsAll, List.mem_append]
    exact Or.inr (weights_mem_all hd n hn)
  | [], _, _, hd, _, _ => by simp at hd

section
variable {P : Program} {w : World} {t : TypeId} {cs : List Value}
theorem Rdg.int {k : IntKind} (ht : P.underlying t = some (.int k)) (h : Rdg P w t cs) : ∃ n, cs = [.int k n] ∧ (Lit.int k n).wf = true := by
  obtain ⟨H, enc, sp, held, fuel, x, hx, _, _⟩ := h
  obtain ⟨n, h1, _, h3⟩ := DataW.trod_int ht hx
  exact ⟨n, h1, h3⟩
theorem Rdg.bool (ht : P.underlying t = some .bool) (h : Rdg P w t cs) : ∃ b, cs = [.bool b] := by
  obtain ⟨H, enc, sp, held, fuel, x, hx, _, _⟩ := h
  obtain ⟨b, h1, _⟩ := DataW.trod_bool ht hx
  exact ⟨b, h1⟩
theorem Rdg.float {k : FloatKind} (ht : P.underlying t = some (.float k)) (h : Rdg P w t cs) : ∃ b, cs = [.float k b] ∧ (Lit.float k b).wf = true := by
  obtain ⟨H, enc, sp, held, fuel, x, hx, _, _⟩ := h
  cases fuel with
  | zero => simp [DataW.trod] at hx
  | succ n =>
    unfold DataW.trod at hx
    rw [ht] at hx
    split at hx <;> simp_all
theorem Rdg.string (ht : P.underlying t = some .string) (h : Rdg P w t cs) : ∃ s : ByteArray, cs = [.string s] ∧ s.size ≤ 140737488351232 := by
  obtain ⟨H, enc, sp, held, fuel, x, hx, hw, _⟩ := h
  obtain ⟨s, h1, rfl, _⟩ := DataW.trod_string ht hx
  refine ⟨s, h1, ?_⟩
  have := hw s.data.toList.length (by simp [DataW.weights])
  rw [Array.length_toList] at this
  exact this
theorem Rdg.struct {fs : Array Field} (ht : P.underlying t = some (.struct fs)) (h : Rdg P w t cs) :
    cs.length = P.cellsOf t ∧ ∀ (i : Nat) (f : Field), fs[i]? = some f → Rdg P w f.type ((cs.drop f.offset).take (P.cellsOf f.type)) := by
  obtain ⟨H, enc, sp, held, fuel, x, hx, hw, hsp⟩ := h
  obtain ⟨xs, n, _, rfl, hc, hlen, hf⟩ := DataW.trod_struct ht hx
  refine ⟨hc, fun i f hi => ?_⟩
  have hil : i < xs.length := by rw [hlen]; exact (Array.getElem?_eq_some_iff.1 hi).1
  refine ⟨H, enc, sp, held, n, xs[i], by rw [hf i f hi, List.getElem?_eq_getElem hil], fun m hm => ?_, hsp⟩
  refine hw m ?_
  simp only [DataW.weights, ht]
  exact DataW.weights_mem_each (j := i) (t := f.type) (d := xs[i].1) (by rw [List.getElem?_map, Array.getElem?_toList, hi]; rfl) (by rw [List.getElem?_map, List.getElem?_eq_getElem hil]; rfl) m hm
theorem Rdg.slice {e : TypeId} (ht : P.underlying t = some (.slice e)) (hC : 0 < P.cellsOf e) (h : Rdg P w t cs) :
    ∃ a len cap, cs = [.slice a len cap] ∧ len ≤ cap ∧ cap ≤ maxLen ∧ cap * P.bytesOf e ≤ 140737488351232 ∧
      ∀ i, i < cap → ∃ b off cs', a = some ⟨b, off, none⟩ ∧ b < w.heap.size ∧ cs'.length = P.cellsOf e ∧ (∀ j, j < P.cellsOf e → w.cell? ⟨b, off + (i * P.cellsOf e + j), none⟩ = cs'[j]?) ∧ Rdg P w e cs' := by
  obtain ⟨H, enc, sp, held, fuel, x, hx, hw, hsp⟩ := h
  rcases open_slice ht hx with ⟨rfl, rfl⟩ | ⟨ad, len, cap, m, n, D, Pl, rfl, _, hl, hm, hmm, rfl, hi⟩
  · exact ⟨none, 0, 0, rfl, by omega, by simp, by simp, fun i hi => by omega⟩
  · rw [hsp, if_pos rfl] at hmm
    subst hmm
    have hb : m * P.bytesOf e ≤ 140737488351232 := by
      have := hw ((len + (m - len)) * P.bytesOf e) (by simp [DataW.weights, ht])
      rwa [show len + (m - len) = m by omega] at this
    refine ⟨some ad, len, m, rfl, hl, hm, hb, fun i him => ?_⟩
    obtain ⟨bk, off, spot⟩ := ad
    have hspot : spot = none := by
      obtain ⟨cs0, hc0, _⟩ := hi 0 (by omega)
      obtain ⟨_, hl0, hcell⟩ := World.cells?_some hc0
      have := hcell 0 hC
      rw [List.getElem?_eq_getElem (by omega)] at this
      simpa [Addr.add] using World.cell?_spot this
    subst hspot
    obtain ⟨cs', hc', hr'⟩ := hi i him
    obtain ⟨_, hl', hcell⟩ := World.cells?_some hc'
    have hcell' : ∀ j, j < P.cellsOf e → w.cell? ⟨bk, off + (i * P.cellsOf e + j), none⟩ = cs'[j]? := fun j hj => by
      rw [← hcell j hj, Go.Deep.add_add, Addr.add_mid]
    refine ⟨bk, off, cs', rfl, ?_, hl', hcell', H, enc, sp, held, n, _, hr', fun k hk => ?_, hsp⟩
    · have := hcell' 0 hC
      rw [List.getElem?_eq_getElem (by omega)] at this
      exact World.block_lt_of_cell? w _ this
    · refine hw k ?_
      simp only [DataW.weights, ht, List.mem_cons, List.mem_append]
      by_cases hil : i < len
      · exact .inr (.inl (weights_mem_all (j := i) (by simp [hil]) k hk))
      · exact .inr (.inr (weights_mem_all (j := i - len) (by rw [List.getElem?_map, List.getElem?_range (by omega)]; simp; rw [show len + (i - len) = i by omega]) k hk))
end

/-- A nil slice has no room. -/
theorem Rdg.nil_cap {P : Program} {w : World} {t e : TypeId} {len cap : Nat} (ht : P.underlying t = some (.slice e)) (hC : 0 < P.cellsOf e) (h : Rdg P w t [.slice none len cap]) : len = 0 ∧ cap = 0 := by
  obtain ⟨a, len', cap', e1, hl, _, _, hi⟩ := h.slice ht hC
  simp only [List.cons.injEq, Value.slice.injEq, and_true] at e1
  obtain ⟨rfl, rfl, rfl⟩ := e1
  have : cap = 0 := by
    rcases Nat.eq_zero_or_pos cap with h0 | h0
    · exact h0
    · obtain ⟨_, _, _, e2, _⟩ := hi 0 h0
      cases e2
  omega
/-- A list out of its elements. -/
theorem list_of {α : Type} [Inhabited α] (n : Nat) (p : Nat → α → Prop) (h : ∀ i, i < n → ∃ x, p i x) : ∃ l : List α, l.length = n ∧ ∀ i, i < n → ∀ d, p i (l.getD i d) := by
  obtain ⟨f, hf⟩ := choose_lt h
  refine ⟨(List.range n).map f, by simp, fun i hi d => ?_⟩
  have := hf i hi
  simpa [List.getD_eq_getElem?_getD, hi] using this

section
variable {P : Program} {w : World} {t e : TypeId} {cs : List Value}
/-- A []byte. -/
theorem Rdg.bytes (ht : P.underlying t = some (.slice e)) (he : P.underlying e = some (.int .u8)) (hC : P.cellsOf e = 1) (hB : P.bytesOf e = 1) (h : Rdg P w t cs) :
    ∃ a l cap, cs = [.slice a l.length cap] ∧ RdB w a l ∧ l.length ≤ cap ∧ cap ≤ 140737488351232 := by
  obtain ⟨a, len, cap, rfl, hl, hm, hb, hi⟩ := h.slice ht (by omega)
  rw [hB] at hb
  obtain ⟨l, hlen, hp⟩ := list_of (α := Int) len (fun i n => (∃ b off, a = some ⟨b, off, none⟩ ∧ w.cell? ⟨b, off + i, none⟩ = some (.int .u8 n)) ∧ 0 ≤ n ∧ n ≤ 255) (fun i hil => by
    obtain ⟨b, off, cs', ha, _, hlc, hc, hr⟩ := hi i (by omega)
    obtain ⟨n, rfl, hwf⟩ := hr.int he
    have := hc 0 (by omega)
    rw [hC, Nat.mul_one, Nat.add_zero] at this
    refine ⟨n, ⟨b, off, ha, this⟩, ?_⟩
    simp [Lit.wf, IntKind.min, IntKind.max, IntKind.signed, IntKind.bits] at hwf
    omega)
  subst hlen
  refine ⟨a, l, cap, rfl, ⟨fun i hi => (hp i hi 0).1, fun x hx => ?_, by omega⟩, hl, by omega⟩
  obtain ⟨i, hil, rfl⟩ := List.getElem_of_mem hx
  have := (hp i hil 0).2
  rwa [List.getD_eq_getElem?_getD, List.getElem?_eq_getElem hil] at this
/-- A []T of one-cell elements, whatever they are. -/
theorem Rdg.ones (ht : P.underlying t = some (.slice e)) (hC : P.cellsOf e = 1) (h : Rdg P w t cs) :
    ∃ a vs cap, cs = [.slice a vs.length cap] ∧ Rd w a vs ∧ (∀ v ∈ vs, Rdg P w e [v]) ∧ vs.length ≤ cap ∧ cap ≤ maxLen ∧ cap * P.bytesOf e ≤ 140737488351232 := by
  obtain ⟨a, len, cap, rfl, hl, hm, hb, hi⟩ := h.slice ht (by omega)
  obtain ⟨l, hlen, hp⟩ := list_of (α := Value) len (fun i v => (∃ b off, a = some ⟨b, off, none⟩ ∧ w.cell? ⟨b, off + i, none⟩ = some v) ∧ Rdg P w e [v]) (fun i hil => by
    obtain ⟨b, off, cs', ha, _, hlc, hc, hr⟩ := hi i (by omega)
    rw [hC] at hlc
    match cs', hlc with
    | [v], _ =>
      have := hc 0 (by omega)
      rw [hC, Nat.mul_one, Nat.add_zero] at this
      exact ⟨v, ⟨b, off, ha, this⟩, hr⟩)
  subst hlen
  refine ⟨a, l, cap, rfl, fun i hi => (hp i hi undef).1, fun x hx => ?_, hl, hm, hb⟩
  obtain ⟨i, hil, rfl⟩ := List.getElem_of_mem hx
  have := (hp i hil undef).2
  rwa [List.getD_eq_getElem?_getD, List.getElem?_eq_getElem hil] at this
end
end Go.Proofs.Ytokembhfebnjpaa
