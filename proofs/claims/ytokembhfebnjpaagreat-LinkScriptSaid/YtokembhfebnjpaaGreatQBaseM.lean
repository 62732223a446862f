/- Words on worlds and lists that every walk of this seat shares: an object's block, a frame, a slice that reads as a list of bytes. No condition. -/
import Derived.Test.YtokembhfebnjpaaGreatChecked
import Derived.WalkKit
import Derived.WalkLawsBesides
import Derived.WalkSpells
import Derived.Lib.Hide
import Derived.StillTailTactics
import Derived.Deep.RegionHeld3
import Derived.BigQuiet
import Derived.Deep.QuietTactic
import Derived.Laws.CopyOwn
import Derived.Deep.MidRow
namespace Go.Proofs.YtokembhfebnjpaaGreat
set_option maxRecDepth 20000
open Go.RowKit
set_option linter.unusedVariables false
def At (w : World) (b : Nat) (cs : List Value) : Prop := ∃ T, w.heap[b]? = some (.cells cs.toArray T (0, 0))

theorem At.lt {w : World} {b : Nat} {cs : List Value} (h : At w b cs) : b < w.heap.size := by
 obtain ⟨T, h⟩ := h; exact (Array.getElem?_eq_some_iff.1 h).1
theorem At.cell {w : World} {b : Nat} {cs : List Value} (h : At w b cs) (i : Nat) : w.cell? ⟨b, i, none⟩ = cs[i]? := by
 obtain ⟨T, h⟩ := h; simp [World.cell?, h]
theorem At.frozen {w : World} {b : Nat} {cs : List Value} (h : At w b cs) (i : Nat) : w.frozen? ⟨b, i, none⟩ = false := by
 obtain ⟨T, h⟩ := h; simp [World.frozen?, h]
theorem At.set {w : World} {b : Nat} {cs : List Value} (h : At w b cs) (i : Nat) (v : Value) : At (w.setCell ⟨b, i, none⟩ v) b (cs.set i v) := by
 obtain ⟨T, h⟩ := h
 refine ⟨T, ?_⟩
 simp [World.setCell, Array.getElem?_modify, h]
theorem At.setOther {w : World} {b : Nat} {cs : List Value} (h : At w b cs) {a : Addr} (ha : a.block ≠ b) (v : Value) : At (w.setCell a v) b cs := by
 obtain ⟨T, h⟩ := h
 exact ⟨T, by rw [Below.heap_setCell _ _ _ _ (fun e => ha e.symm)]; exact h⟩
theorem At.alloc {w : World} {b : Nat} {cs : List Value} (h : At w b cs) (o : Obj) : At (w.alloc o) b cs := by
 have hl := h.lt
 obtain ⟨T, h⟩ := h
 exact ⟨T, by rw [Below.heap_alloc _ _ _ hl]; exact h⟩
theorem At.drew {w : World} {b : Nat} {cs : List Value} (h : At w b cs) : At w.drew b cs := h
theorem At.drewN {w : World} {b : Nat} {cs : List Value} (h : At w b cs) (n : Nat) : At (w.drewN n) b cs := h
theorem At.new (w : World) (cs : List Value) (T : TypeId) : At (w.alloc (.cells cs.toArray T)) w.heap.size cs := ⟨T, heap_alloc_new w _⟩
theorem At.of_block {w w' : World} {b : Nat} {cs : List Value} (h : At w b cs) (hb : w'.heap[b]? = w.heap[b]?) : At w' b cs := by
 obtain ⟨T, h⟩ := h; exact ⟨T, hb.trans h⟩
def AtF (w : World) (b n : Nat) (c : Nat → Value) : Prop := At w b ((List.range n).map c)
def upd (c : Nat → Value) (i : Nat) (v : Value) : Nat → Value := fun k => if k = i then v else c k
theorem upd_same (c : Nat → Value) (i : Nat) (v : Value) : upd c i v i = v := by simp [upd]
theorem upd_ne (c : Nat → Value) {i k : Nat} (v : Value) (h : k ≠ i) : upd c i v k = c k := by simp [upd, h]
theorem AtF.cell {w : World} {b n : Nat} {c : Nat → Value} (h : AtF w b n c) {i : Nat} (hi : i < n) : w.cell? ⟨b, i, none⟩ = some (c i) := by
 rw [At.cell h]; simp [hi]
theorem AtF.is {w : World} {b n : Nat} {c : Nat → Value} (h : AtF w b n c) {i : Nat} (hi : i < n) {v : Value} (e : c i = v) : w.cell? ⟨b, i, none⟩ = some v := by
 rw [h.cell hi, e]
theorem AtF.frozen {w : World} {b n : Nat} {c : Nat → Value} (h : AtF w b n c) (i : Nat) : w.frozen? ⟨b, i, none⟩ = false := At.frozen h i
theorem AtF.set {w : World} {b n : Nat} {c : Nat → Value} (h : AtF w b n c) (i : Nat) (v : Value) : AtF (w.setCell ⟨b, i, none⟩ v) b n (upd c i v) := by
 have := At.set h i v
 unfold AtF
 have e : (List.range n).map (upd c i v) = ((List.range n).map c).set i v := by
  apply List.ext_getElem?
  intro k
  rw [List.getElem?_set]
  by_cases hk : k < n
  · by_cases hki : i = k
    · subst hki; simp [hk, upd]
    · simp [hk, hki, upd, show ¬ k = i by omega]
  · simp [hk]; omega
 rw [e]; exact this
theorem AtF.drew {w : World} {b n : Nat} {c : Nat → Value} (h : AtF w b n c) : AtF w.drew b n c := h
theorem AtF.drewN {w : World} {b n : Nat} {c : Nat → Value} (h : AtF w b n c) (k : Nat) : AtF (w.drewN k) b n c := h
theorem AtF.lt {w : World} {b n : Nat} {c : Nat → Value} (h : AtF w b n c) : b < w.heap.size := At.lt h
theorem AtF.setOther {w : World} {b n : Nat} {c : Nat → Value} (h : AtF w b n c) {a : Addr} (ha : a.block ≠ b) (v : Value) : AtF (w.setCell a v) b n c := At.setOther h ha v
theorem AtF.alloc {w : World} {b n : Nat} {c : Nat → Value} (h : AtF w b n c) (o : Obj) : AtF (w.alloc o) b n c := At.alloc h o
theorem AtF.of_list {w : World} {b : Nat} {cs : List Value} (h : At w b cs) : AtF w b cs.length (fun i => cs.getD i undef) := by
 unfold AtF
 have e : (List.range cs.length).map (fun i => cs.getD i undef) = cs := by
  apply List.ext_getElem?
  intro k
  by_cases hk : k < cs.length
  · simp [hk, List.getD_eq_getElem?_getD]
  · simp [hk]
 rw [e]; exact h
structure Kp (S : Nat → Prop) (w w' : World) : Prop where
 os : w'.os = w.os
 tape : w'.tape = w.tape
 output : w'.output = w.output
 size : w.heap.size ≤ w'.heap.size
 block : ∀ k, k < w.heap.size → ¬ S k → w'.heap[k]? = w.heap[k]?

theorem Kp.refl (S : Nat → Prop) (w : World) : Kp S w w := ⟨rfl, rfl, rfl, Nat.le_refl _, fun _ _ _ => rfl⟩
theorem Kp.trans {S : Nat → Prop} {a b c : World} (h : Kp S a b) (k : Kp S b c) : Kp S a c :=
 ⟨k.os.trans h.os, k.tape.trans h.tape, k.output.trans h.output, Nat.le_trans h.size k.size, fun i hi hs => (k.block i (Nat.lt_of_lt_of_le hi h.size) hs).trans (h.block i hi hs)⟩
theorem Kp.then {S S' : Nat → Prop} {a b c : World} (h : Kp S a b) (k : Kp S' b c) (hs : ∀ i, i < a.heap.size → S' i → S i) : Kp S a c :=
 ⟨k.os.trans h.os, k.tape.trans h.tape, k.output.trans h.output, Nat.le_trans h.size k.size, fun i hi hn => (k.block i (Nat.lt_of_lt_of_le hi h.size) (fun h' => hn (hs i hi h'))).trans (h.block i hi hn)⟩
theorem Kp.mono {S S' : Nat → Prop} {a b : World} (h : Kp S a b) (hs : ∀ i, i < a.heap.size → S i → S' i) : Kp S' a b :=
 (Kp.refl S' a).then h hs
theorem Kp.drew {S : Nat → Prop} {a w : World} (h : Kp S a w) : Kp S a w.drew := ⟨h.os, h.tape, h.output, h.size, h.block⟩
theorem Kp.drewN {S : Nat → Prop} {a w : World} (h : Kp S a w) (n : Nat) : Kp S a (w.drewN n) := ⟨h.os, h.tape, h.output, h.size, h.block⟩
theorem Kp.alloc {S : Nat → Prop} {a w : World} (h : Kp S a w) (o : Obj) : Kp S a (w.alloc o) :=
 h.trans ⟨rfl, rfl, rfl, by simp, fun k hk _ => Below.heap_alloc _ _ _ hk⟩
theorem Kp.setCell {S : Nat → Prop} {a w : World} (h : Kp S a w) {p : Addr} (hp : p.block < a.heap.size → S p.block) (u : Value) : Kp S a (w.setCell p u) :=
 ⟨h.os, h.tape, h.output, by simpa [World.setCell] using h.size, fun k hk hs => by
  rw [Below.heap_setCell _ _ _ _ (fun e => hs (by subst e; exact hp hk))]; exact h.block k hk hs⟩
theorem Kp.grown {S : Nat → Prop} {a w w' : World} {row : Option Nat} (h : Kp S a w) (hg : w.grownBy w' row) (hr : ∀ k, row = some k → k < a.heap.size → S k) : Kp S a w' :=
 h.then (S' := fun k => some k = row) ⟨hg.os, hg.tape, hg.output, hg.size, fun k hk hn => hg.block k hk hn⟩ (fun i hi e => hr i e.symm hi)
theorem Kp.below {S : Nat → Prop} {a b : World} (h : Kp S a b) (hs : ∀ i, i < a.heap.size → ¬ S i) : Below a.heap.size a b :=
 ⟨h.os, h.tape, h.output, h.size, fun k hk => h.block k hk (hs k hk)⟩
theorem Kp.at {S : Nat → Prop} {w w' : World} (h : Kp S w w') {b : Nat} {cs : List Value} (ha : At w b cs) (hb : ¬ S b) : At w' b cs :=
 ha.of_block (h.block b ha.lt hb)
theorem Kp.atF {S : Nat → Prop} {w w' : World} (h : Kp S w w') {b n : Nat} {c : Nat → Value} (ha : AtF w b n c) (hb : ¬ S b) : AtF w' b n c := h.at ha hb
theorem Kp.cell {S : Nat → Prop} {w w' : World} (h : Kp S w w') {p : Addr} {v : Value} (hc : w.cell? p = some v) (hb : ¬ S p.block) : w'.cell? p = some v :=
 (World.cell?_of_block (w := w) (h.block p.block (World.block_lt_of_cell? w p hc) hb)).trans hc
def Byt (l : List Int) : Prop := ∀ x ∈ l, 0 ≤ x ∧ x ≤ 255
theorem Byt.getD {l : List Int} (h : Byt l) (i : Nat) : 0 ≤ l.getD i 0 ∧ l.getD i 0 ≤ 255 := by
 rw [List.getD_eq_getElem?_getD]
 rcases Nat.lt_or_ge i l.length with hi | hi
 · rw [List.getElem?_eq_getElem hi]; exact h _ (List.getElem_mem hi)
 · rw [List.getElem?_eq_none hi]; simp
theorem Byt.take {l : List Int} (h : Byt l) (n : Nat) : Byt (l.take n) := fun x hx => h x (List.mem_of_mem_take hx)
theorem Byt.drop {l : List Int} (h : Byt l) (n : Nat) : Byt (l.drop n) := fun x hx => h x (List.mem_of_mem_drop hx)
theorem Byt.append {l m : List Int} (h : Byt l) (k : Byt m) : Byt (l ++ m) := fun x hx => by
 rcases List.mem_append.1 hx with hx | hx
 · exact h x hx
 · exact k x hx
def Rd (w : World) (a : Option Addr) (vs : List Value) : Prop :=
 ∀ i, i < vs.length → ∃ b off, a = some ⟨b, off, none⟩ ∧ w.cell? ⟨b, off + i, none⟩ = some (vs.getD i undef)
theorem Rd.of_at {w : World} {b : Nat} {pre vs post : List Value} (h : At w b (pre ++ vs ++ post)) : Rd w (some ⟨b, pre.length, none⟩) vs := fun i hi =>
 ⟨b, pre.length, rfl, by rw [h.cell, List.append_assoc, List.getElem?_append_right (by omega), Nat.add_sub_cancel_left, List.getElem?_append_left hi, List.getD_eq_getElem?_getD, List.getElem?_eq_getElem hi]; rfl⟩
theorem Rd.new (w : World) (cs : List Value) (T : TypeId) : Rd (w.alloc (.cells cs.toArray T)) (some ⟨w.heap.size, 0, none⟩) cs :=
 Rd.of_at (pre := []) (post := []) (by simpa using At.new w cs T)
def Off (S : Nat → Prop) (a : Option Addr) : Prop := ∀ x, a = some x → ¬ S x.block
theorem Rd.kp {S : Nat → Prop} {w w' : World} {a : Option Addr} {vs : List Value} (h : Rd w a vs) (hk : Kp S w w') (ho : Off S a) : Rd w' a vs := fun i hi => by
 obtain ⟨b, off, ha, hc⟩ := h i hi
 exact ⟨b, off, ha, hk.cell (p := ⟨b, off + i, none⟩) hc (ho ⟨b, off, none⟩ ha)⟩
structure RdB (w : World) (a : Option Addr) (l : List Int) : Prop where
 cell : ∀ i, i < l.length → ∃ b off, a = some ⟨b, off, none⟩ ∧ w.cell? ⟨b, off + i, none⟩ = some (.int .u8 (l.getD i 0))
 bd : Byt l
 len : l.length ≤ 4611686018427387904
theorem RdB.kp {S : Nat → Prop} {w w' : World} {a : Option Addr} {l : List Int} (h : RdB w a l) (hk : Kp S w w') (ho : Off S a) : RdB w' a l :=
 ⟨fun i hi => by obtain ⟨b, off, ha, hc⟩ := h.cell i hi; exact ⟨b, off, ha, hk.cell (p := ⟨b, off + i, none⟩) hc (ho ⟨b, off, none⟩ ha)⟩, h.bd, h.len⟩
theorem RdB.kp0 {S : Nat → Prop} {w w' : World} {a : Option Addr} {l : List Int} (h : RdB w a l) (hk : Kp S w w') (hs : ∀ i, i < w.heap.size → ¬ S i) : RdB w' a l :=
 ⟨fun i hi => by obtain ⟨b, off, ha, hc⟩ := h.cell i hi; exact ⟨b, off, ha, hk.cell (p := ⟨b, off + i, none⟩) hc (hs b (World.block_lt_of_cell? w _ hc))⟩, h.bd, h.len⟩
theorem RdB.drewN {w : World} {a : Option Addr} {l : List Int} (h : RdB w a l) (n : Nat) : RdB (w.drewN n) a l := ⟨h.cell, h.bd, h.len⟩
theorem RdB.nil (w : World) (a : Option Addr) : RdB w a [] := ⟨fun i hi => by simp at hi, fun x hx => by simp at hx, by simp⟩
theorem RdB.slice {w : World} {b off : Nat} {l : List Int} (h : RdB w (some ⟨b, off, none⟩) l) (i n : Nat) : RdB w (some ⟨b, off + i, none⟩) ((l.drop i).take n) :=
 ⟨fun j hj => by
  have hj' : j < n ∧ i + j < l.length := by simp at hj; omega
  obtain ⟨b', off', e, hc⟩ := h.cell (i + j) hj'.2
  simp only [Option.some.injEq, Addr.mk.injEq, and_true] at e
  obtain ⟨rfl, rfl⟩ := e
  refine ⟨_, _, rfl, ?_⟩
  rw [Nat.add_assoc, hc]
  congr 2
  simp [List.getD_eq_getElem?_getD, hj'.1], (h.bd.drop i).take n, Nat.le_trans (by simp; omega) h.len⟩
theorem RdB.of_at {w : World} {b : Nat} {pre l post : List Int} (h : At w b ((pre ++ l ++ post).map (Value.int .u8))) (hb : Byt l) (hl : l.length ≤ 4611686018427387904) :
 RdB w (some ⟨b, pre.length, none⟩) l :=
 ⟨fun i hi => ⟨b, pre.length, rfl, by
  rw [h.cell, List.getElem?_map, List.append_assoc, List.getElem?_append_right (by omega), Nat.add_sub_cancel_left, List.getElem?_append_left hi, List.getD_eq_getElem?_getD, List.getElem?_eq_getElem hi]; rfl⟩, hb, hl⟩

theorem take_snoc {α : Type} (l : List α) (d : α) (k : Nat) (h : k < l.length) : l.take (k + 1) = l.take k ++ [l.getD k d] := by
 rw [List.take_succ_eq_append_getElem h, List.getD_eq_getElem?_getD, List.getElem?_eq_getElem h]; rfl
theorem Calls.turn {P : Program} {f : FuncId} {args : Array Value} {w : World} {v : Value} (h : Calls P f args w fun e w' => e = .returned v ∧ w = w') : Calls P f args w fun e w' => e = .returned v ∧ w' = w :=
 h.mono fun _ _ ⟨h1, h2⟩ => ⟨h1, h2.symm⟩
theorem ret_int {k : IntKind} {a b : Int} (h : a = b) : Ending.returned (.int k a) = .returned (.int k b) := by rw [h]
theorem ret_bool {a b : Bool} (h : a = b) : Ending.returned (.bool a) = .returned (.bool b) := by rw [h]
def IsRow (k : IntKind) (w : World) (a : Option Addr) (len cap : Nat) (zs : List Int) : Prop :=
 (a = none ∧ len = 0 ∧ cap = 0 ∧ zs = []) ∨
 ∃ x, a = some x ∧ len ≤ cap ∧ cap ≤ maxLen ∧ zs.length = cap ∧ (∀ i, i < zs.length → w.cell? (x.add i) = some (.int k (zs.getD i 0))) ∧ ∀ n ∈ zs, (Lit.int k n).wf = true

theorem IsRow.bytes {w : World} {a : Option Addr} {len cap : Nat} {zs : List Int} (h : IsRow .u8 w a len cap zs) (hl : len ≤ 4611686018427387904) :
 (zs.take len).length = len ∧ RdB w a (zs.take len) := by
 rcases h with ⟨rfl, rfl, rfl, rfl⟩ | ⟨x, rfl, h1, h2, h3, h4, h5⟩
 · exact ⟨rfl, RdB.nil _ _⟩
 · have hlen : (zs.take len).length = len := by simp; omega
   refine ⟨hlen, ⟨fun i hi => ?_, fun n hn => ?_, by omega⟩⟩
   · have hc := h4 i (by omega)
     obtain ⟨b, off, spot⟩ := x
     have hspot : spot = none := by simpa [Addr.add] using World.cell?_spot (h4 0 (by omega))
     subst hspot
     refine ⟨b, off, rfl, ?_⟩
     have : (zs.take len).getD i 0 = zs.getD i 0 := by
      simp only [List.getD_eq_getElem?_getD, List.getElem?_take]; rw [if_pos (by omega)]
     rw [this, ← Addr.add_mid]
     exact hc
   · have := h5 n (List.mem_of_mem_take hn)
     simp [Lit.wf, IntKind.min, IntKind.max, IntKind.signed, IntKind.bits] at this
     omega
theorem IsRow.lt {k : IntKind} {w : World} {a : Option Addr} {len cap : Nat} {zs : List Int} (h : IsRow k w a len cap zs) (h0 : 0 < len) : ∀ x, a = some x → x.block < w.heap.size := by
 intro x hx
 rcases h with ⟨rfl, rfl, rfl, rfl⟩ | ⟨y, rfl, h1, h2, h3, h4, h5⟩
 · cases hx
 · cases hx
   have := World.block_lt_of_cell? w _ (h4 0 (by omega))
   simpa [Addr.add] using this
theorem wp_world {P : Program} {c : Code} {Q : Exit → Act → World → Prop} {a : Act} {w : World} (I : World → Prop) (h : I w) (H : ∀ w', I w' → Code.wp P c Q a w') : Code.wp P c Q a w := H w h
theorem RdB.mid2 {w : World} {b off cap : Nat} {l : List Int} (h : RdB w (some ⟨b, off, none⟩) l) (i n : Nat) (hi : i ≤ l.length) (hc : l.length ≤ cap) : RdB w (if cap = i then some ⟨b, off, none⟩ else some ⟨b, off + i, none⟩) ((l.drop i).take n) := by
 by_cases e : cap = i
 · rw [if_pos e, List.drop_of_length_le (by omega), List.take_nil]; exact RdB.nil _ _
 · rw [if_neg e]; exact h.slice i n
def RdL (w : World) (a : Option Addr) (ls : List (List Int)) : Prop :=
 ∀ i, i < ls.length → ∃ b off ai ci, a = some ⟨b, off, none⟩ ∧ w.cell? ⟨b, off + i, none⟩ = some (.slice ai (ls.getD i []).length ci) ∧ RdB w ai (ls.getD i []) ∧ (ls.getD i []).length ≤ ci
theorem RdL.nil (w : World) (a : Option Addr) : RdL w a [] := fun i hi => by simp at hi
theorem RdL.kp0 {S : Nat → Prop} {w w' : World} {a : Option Addr} {ls : List (List Int)} (h : RdL w a ls) (hk : Kp S w w') (hs : ∀ i, i < w.heap.size → ¬ S i) : RdL w' a ls := fun i hi => by
 obtain ⟨b, off, ai, ci, ha, hc, hr, hl⟩ := h i hi
 exact ⟨b, off, ai, ci, ha, hk.cell (p := ⟨b, off + i, none⟩) hc (hs b (World.block_lt_of_cell? w _ hc)), hr.kp0 hk hs, hl⟩
theorem take_eq_iff {α : Type} [DecidableEq α] (ls ms : List α) (d : α) (k : Nat) (h1 : k < ls.length) (h2 : ls.length = ms.length) (h : ls.take k = ms.take k) : ls.take (k + 1) = ms.take (k + 1) ↔ ls.getD k d = ms.getD k d := by
 rw [take_snoc ls d k h1, take_snoc ms d k (by omega), h]
 simp
end Go.Proofs.YtokembhfebnjpaaGreat
