/- Chapter 12: a net in memory: a head, and links, each behind the one ahead. No program in sight. -/
import Derived.Test.YtgcgcdgjooaipaaBytes
namespace Go.Proofs.Ytgcgcdgjooaipaa
open Go.RowKit
set_option linter.unusedVariables false
/-- A link: where it lies, from where, where to, its bytes' slice, its bytes. -/
structure Nd where
  g : Nat
  fr : Int
  to : Int
  B : Value
  l : List Int
instance : Inhabited Nd := ⟨⟨0, 0, 0, .slice none 0 0, []⟩⟩
def nd (nds : List Nd) (i : Nat) : Nd := nds.getD i default
/-- The pointer to link i; none, where there is none. -/
def nx (nds : List Nd) (i : Nat) : Option Addr := if i < nds.length then some ⟨(nd nds i).g, 0, none⟩ else none
/-- What is ahead of link i: the head, or link i - 1. -/
def pB (nb : Nat) (nds : List Nd) : Nat → Nat
  | 0 => nb
  | i + 1 => (nd nds i).g
def pO : Nat → Nat
  | 0 => 1
  | _ + 1 => 0
def pA (nb : Nat) (nds : List Nd) (i : Nat) : Addr := ⟨pB nb nds i, pO i, none⟩
def ndC (d : Nd) (t : Option Addr) : List Value := [.int .i64 d.fr, .int .i64 d.to, d.B, .pointer t]
def netC (t : Option Addr) (n : Int) (mb : Nat) (lost : Int) : List Value := [.bool true, .int .i64 0, .int .i64 0, .slice none 0 0, .pointer t, .int .i64 n, .map (some mb), .int .i64 lost]
structure NetC (w : World) (nb : Nat) (nds : List Nd) (n : Int) (mb : Nat) (lost : Int) : Prop where
  hat : At w nb (netC (nx nds 0) n mb lost)
  node : ∀ i, i < nds.length → At w (nd nds i).g (ndC (nd nds i) (nx nds (i + 1)))
  own : ∀ i, i < nds.length → OwnB w (nd nds i).B (nd nds i).l
  gne : ∀ i, i < nds.length → (nd nds i).g ≠ nb
  ginj : ∀ i j, i < nds.length → j < nds.length → (nd nds i).g = (nd nds j).g → i = j
  binj : ∀ i j b, i < nds.length → j < nds.length → (nd nds i).B.ownBlock = some b → (nd nds j).B.ownBlock = some b → i = j
/-- The blocks of a net. -/
def Mine (nb : Nat) (nds : List Nd) (b : Nat) : Prop := b = nb ∨ ∃ i, i < nds.length ∧ ((nd nds i).g = b ∨ (nd nds i).B.ownBlock = some b)
theorem nx_at {nds : List Nd} {i : Nat} (h : i < nds.length) : nx nds i = some ⟨(nd nds i).g, 0, none⟩ := if_pos h
theorem nx_end {nds : List Nd} {i : Nat} (h : nds.length ≤ i) : nx nds i = none := if_neg (by omega)
theorem nd_app_lt {a b : List Nd} {i : Nat} (h : i < a.length) : nd (a ++ b) i = nd a i := by
  unfold nd; rw [List.getD_eq_getElem?_getD, List.getElem?_append_left h, List.getD_eq_getElem?_getD]
theorem nd_app_at (a : List Nd) (d : Nd) : nd (a ++ [d]) a.length = d := by
  unfold nd; rw [List.getD_eq_getElem?_getD, List.getElem?_append_right (Nat.le_refl _), Nat.sub_self]; rfl
theorem nd_erase {nds : List Nd} {i : Nat} (h : i < nds.length) (j : Nat) : nd (nds.eraseIdx i) j = if j < i then nd nds j else nd nds (j + 1) := by
  unfold nd
  rw [List.getD_eq_getElem?_getD, List.getElem?_eraseIdx]
  split <;> rw [List.getD_eq_getElem?_getD]
theorem nd_set {nds : List Nd} {i : Nat} (h : i < nds.length) (d : Nd) (j : Nat) : nd (nds.set i d) j = if j = i then d else nd nds j := by
  unfold nd
  rw [List.getD_eq_getElem?_getD, List.getElem?_set]
  by_cases hj : i = j
  · subst hj; simp [h]
  · rw [if_neg hj, if_neg (fun e => hj e.symm), List.getD_eq_getElem?_getD]
theorem OwnB.notC {w : World} {v : Value} {l : List Int} {b : Nat} {cs : List Value} (h : OwnB w v l) (ha : At w b cs) {u : Value} (hu : u ∈ cs) (hn : ¬ isB u) : v.ownBlock ≠ some b := fun e => by
  obtain ⟨ds, hd, hp⟩ := h.blk b e
  rw [ha.inj hd] at hu
  exact hn (hp u hu)
theorem not_isB_i64 (n : Int) : ¬ isB (.int .i64 n) := fun ⟨m, e, _⟩ => by cases e
variable {w w' : World} {nb mb : Nat} {nds : List Nd} {n lost : Int}
theorem Mine.hd (nb : Nat) (nds : List Nd) : Mine nb nds nb := .inl rfl
theorem Mine.g {nb : Nat} {nds : List Nd} {i : Nat} (h : i < nds.length) : Mine nb nds (nd nds i).g := .inr ⟨i, h, .inl rfl⟩
theorem Mine.B {nb : Nat} {nds : List Nd} {i b : Nat} (h : i < nds.length) (hb : (nd nds i).B.ownBlock = some b) : Mine nb nds b := .inr ⟨i, h, .inr hb⟩
theorem NetC.lt (h : NetC w nb nds n mb lost) {b : Nat} (hb : Mine nb nds b) : b < w.heap.size := by
  rcases hb with rfl | ⟨i, hi, rfl | hb⟩
  · exact h.hat.lt
  · exact (h.node i hi).lt
  · exact (h.own i hi).lt b hb
theorem NetC.kp {S : Nat → Prop} (h : NetC w nb nds n mb lost) (k : Kp S w w') (hs : ∀ b, Mine nb nds b → ¬ S b) : NetC w' nb nds n mb lost :=
  ⟨k.at h.hat (hs _ (Mine.hd _ _)), fun i hi => k.at (h.node i hi) (hs _ (Mine.g hi)), fun i hi => (h.own i hi).kp k (fun g hg => hs _ (Mine.B hi hg)), h.gne, h.ginj, h.binj⟩
/-- A link's bytes lie in no link, and not in the head. -/
theorem NetC.apart (h : NetC w nb nds n mb lost) {i b : Nat} (hi : i < nds.length) (hb : (nd nds i).B.ownBlock = some b) : b ≠ nb ∧ ∀ j, j < nds.length → b ≠ (nd nds j).g :=
  ⟨fun e => (h.own i hi).notC h.hat (u := .int .i64 n) (by simp [netC]) (not_isB_i64 _) (by rw [hb, e]), fun j hj e => (h.own i hi).notC (h.node j hj) (u := .int .i64 (nd nds j).fr) (by simp [ndC]) (not_isB_i64 _) (by rw [hb, e])⟩
/-- The head alone turns. -/
theorem NetC.head (h : NetC w nb nds n mb lost) {n' lost' : Int} (ha : At w' nb (netC (nx nds 0) n' mb lost')) (k : Kp (· = nb) w w') : NetC w' nb nds n' mb lost' :=
  ⟨ha, fun i hi => k.at (h.node i hi) (h.gne i hi), fun i hi => (h.own i hi).kp k (fun g hg => (h.apart hi hg).1), h.gne, h.ginj, h.binj⟩
theorem NetC.setN (h : NetC w nb nds n mb lost) (n' : Int) : NetC (w.setCell ⟨nb, 5, none⟩ (.int .i64 n')) nb nds n' mb lost ∧ Kp (· = nb) w (w.setCell ⟨nb, 5, none⟩ (.int .i64 n')) := by
  have k := (Kp.refl (· = nb) w).setCell (p := ⟨nb, 5, none⟩) (fun _ => rfl) (.int .i64 n')
  exact ⟨h.head (h.hat.set 5 _) k, k⟩
theorem NetC.setLost (h : NetC w nb nds n mb lost) (l' : Int) : NetC (w.setCell ⟨nb, 7, none⟩ (.int .i64 l')) nb nds n mb l' ∧ Kp (· = nb) w (w.setCell ⟨nb, 7, none⟩ (.int .i64 l')) := by
  have k := (Kp.refl (· = nb) w).setCell (p := ⟨nb, 7, none⟩) (fun _ => rfl) (.int .i64 l')
  exact ⟨h.head (h.hat.set 7 _) k, k⟩
/-- What the cell holds that leads on behind place i. -/
theorem NetC.nextCell (h : NetC w nb nds n mb lost) {i : Nat} (hi : i ≤ nds.length) : w.cell? ⟨pB nb nds i, pO i + 3, none⟩ = some (.pointer (nx nds i)) ∧ w.frozen? ⟨pB nb nds i, pO i + 3, none⟩ = false := by
  cases i with
  | zero => exact ⟨(h.hat.cell 4).trans rfl, h.hat.frozen 4⟩
  | succ i => exact ⟨((h.node i hi).cell 3).trans rfl, (h.node i hi).frozen 3⟩
theorem pB_lt (h : NetC w nb nds n mb lost) {i : Nat} (hi : i ≤ nds.length) : Mine nb nds (pB nb nds i) := by
  cases i with
  | zero => exact Mine.hd _ _
  | succ i => exact Mine.g hi
/-- What is behind place i is changed: the links of nds', of which those ahead are the same. -/
theorem NetC.relink (h : NetC w nb nds n mb lost) {i : Nat} {nds' : List Nd} (hi : i ≤ nds.length) (hi' : i ≤ nds'.length) (hpre : ∀ j, j < i → nd nds' j = nd nds j)
    (hnode : ∀ j, i ≤ j → j < nds'.length → At w (nd nds' j).g (ndC (nd nds' j) (nx nds' (j + 1)))) (hown : ∀ j, i ≤ j → j < nds'.length → OwnB w (nd nds' j).B (nd nds' j).l)
    (gne : ∀ j, j < nds'.length → (nd nds' j).g ≠ nb) (ginj : ∀ j k, j < nds'.length → k < nds'.length → (nd nds' j).g = (nd nds' k).g → j = k)
    (binj : ∀ j k b, j < nds'.length → k < nds'.length → (nd nds' j).B.ownBlock = some b → (nd nds' k).B.ownBlock = some b → j = k) :
    NetC (w.setCell ⟨pB nb nds i, pO i + 3, none⟩ (.pointer (nx nds' i))) nb nds' n mb lost ∧ Kp (· = pB nb nds i) w (w.setCell ⟨pB nb nds i, pO i + 3, none⟩ (.pointer (nx nds' i))) := by
  have k := (Kp.refl (· = pB nb nds i) w).setCell (p := ⟨pB nb nds i, pO i + 3, none⟩) (fun _ => rfl) (.pointer (nx nds' i))
  have hnx : ∀ j, j < i → nx nds' j = nx nds j := fun j hj => by rw [nx_at (by omega), nx_at (by omega), hpre j hj]
  have hown' : ∀ j, j < nds'.length → OwnB w (nd nds' j).B (nd nds' j).l := fun j hj => by
    rcases Nat.lt_or_ge j i with hlt | hge
    · rw [hpre j hlt]; exact h.own j (by omega)
    · exact hown j hge hj
  refine ⟨⟨?_, fun j hj => ?_, fun j hj => (hown' j hj).kp k (fun g hg => ?_), gne, ginj, binj⟩, k⟩
  · cases i with
    | zero => exact h.hat.set 4 _
    | succ i =>
      rw [hnx 0 (by omega)]
      exact k.at h.hat (fun e => h.gne i hi e.symm)
  · rcases Nat.lt_trichotomy (j + 1) i with hlt | heq | hgt
    · rw [hpre j (by omega), hnx (j + 1) hlt]
      refine k.at (h.node j (by omega)) (fun e => ?_)
      cases i with
      | zero => omega
      | succ i => have := h.ginj j i (by omega) hi e; omega
    · subst heq
      rw [hpre j (by omega)]
      exact (h.node j (by omega)).set 3 _
    · refine k.at (hnode j (by omega) hj) (fun e => ?_)
      cases i with
      | zero => exact gne j hj e
      | succ i =>
        have e2 : (nd nds' j).g = (nd nds' i).g := by rw [hpre i (by omega)]; exact e
        have := ginj j i hj (by omega) e2; omega
  · intro e
    cases i with
    | zero => exact (hown' j hj).notC h.hat (u := .int .i64 n) (by simp [netC]) (not_isB_i64 _) (by rw [hg, e]; rfl)
    | succ i => exact (hown' j hj).notC (h.node i hi) (u := .int .i64 (nd nds i).fr) (by simp [ndC]) (not_isB_i64 _) (by rw [hg, e]; rfl)
/-- A link behind all others. -/
theorem NetC.app (h : NetC w nb nds n mb lost) (d : Nd) (hd : At w d.g (ndC d none)) (ho : OwnB w d.B d.l) (h1 : ¬ Mine nb nds d.g) (h2 : ∀ b, d.B.ownBlock = some b → ¬ Mine nb nds b) :
    NetC (w.setCell ⟨pB nb nds nds.length, pO nds.length + 3, none⟩ (.pointer (some ⟨d.g, 0, none⟩))) nb (nds ++ [d]) n mb lost ∧ Kp (· = pB nb nds nds.length) w (w.setCell ⟨pB nb nds nds.length, pO nds.length + 3, none⟩ (.pointer (some ⟨d.g, 0, none⟩))) := by
  have hlen : (nds ++ [d]).length = nds.length + 1 := by simp
  have hat := nd_app_at nds d
  have := h.relink (i := nds.length) (nds' := nds ++ [d]) (Nat.le_refl _) (by omega) (fun j hj => nd_app_lt hj)
    (fun j h1 h2 => by
      obtain rfl : j = nds.length := by omega
      rw [hat, nx_end (by omega)]; exact hd)
    (fun j h1 h2 => by
      obtain rfl : j = nds.length := by omega
      rw [hat]; exact ho)
    (fun j hj => by
      rcases Nat.lt_or_ge j nds.length with hlt | hge
      · rw [nd_app_lt hlt]; exact h.gne j hlt
      · obtain rfl : j = nds.length := by omega
        rw [hat]; exact fun e => h1 (.inl e))
    (fun j k hj hk e => by
      rcases Nat.lt_or_ge j nds.length with hlt | hge <;> rcases Nat.lt_or_ge k nds.length with hlt' | hge'
      · rw [nd_app_lt hlt, nd_app_lt hlt'] at e; exact h.ginj j k hlt hlt' e
      · obtain rfl : k = nds.length := by omega
        rw [nd_app_lt hlt, hat] at e; exact absurd (.inr ⟨j, hlt, .inl e⟩) h1
      · obtain rfl : j = nds.length := by omega
        rw [nd_app_lt hlt', hat] at e; exact absurd (.inr ⟨k, hlt', .inl e.symm⟩) h1
      · omega)
    (fun j k b hj hk e e' => by
      rcases Nat.lt_or_ge j nds.length with hlt | hge <;> rcases Nat.lt_or_ge k nds.length with hlt' | hge'
      · rw [nd_app_lt hlt] at e; rw [nd_app_lt hlt'] at e'; exact h.binj j k b hlt hlt' e e'
      · obtain rfl : k = nds.length := by omega
        rw [nd_app_lt hlt] at e; rw [hat] at e'; exact absurd (.inr ⟨j, hlt, .inr e⟩) (h2 b e')
      · obtain rfl : j = nds.length := by omega
        rw [nd_app_lt hlt'] at e'; rw [hat] at e; exact absurd (.inr ⟨k, hlt', .inr e'⟩) (h2 b e)
      · omega)
  rw [nx_at (show nds.length < (nds ++ [d]).length by omega), hat] at this
  exact this
theorem len_erase {nds : List Nd} {i : Nat} (h : i < nds.length) : (nds.eraseIdx i).length + 1 = nds.length := by rw [List.length_eraseIdx]; simp [h]; omega
theorem nx_erase {nds : List Nd} {i j : Nat} (h : i < nds.length) (hj : i ≤ j) : nx (nds.eraseIdx i) j = nx nds (j + 1) := by
  have := len_erase h
  unfold nx
  rw [nd_erase h, if_neg (show ¬ j < i by omega)]
  by_cases hl : j + 1 < nds.length
  · rw [if_pos (show j < (nds.eraseIdx i).length by omega), if_pos hl]
  · rw [if_neg (show ¬ j < (nds.eraseIdx i).length by omega), if_neg hl]
/-- Link i goes. -/
theorem NetC.erase (h : NetC w nb nds n mb lost) {i : Nat} (hi : i < nds.length) :
    NetC (w.setCell ⟨pB nb nds i, pO i + 3, none⟩ (.pointer (nx nds (i + 1)))) nb (nds.eraseIdx i) n mb lost ∧ Kp (· = pB nb nds i) w (w.setCell ⟨pB nb nds i, pO i + 3, none⟩ (.pointer (nx nds (i + 1)))) := by
  have hl := len_erase hi
  have hnd := nd_erase hi
  have hidx : ∀ j, j < (nds.eraseIdx i).length → ∃ k, k < nds.length ∧ nd (nds.eraseIdx i) j = nd nds k ∧ k = (if j < i then j else j + 1) := fun j hj => by
    rw [hnd]
    by_cases hji : j < i
    · exact ⟨j, by omega, by rw [if_pos hji], by rw [if_pos hji]⟩
    · exact ⟨j + 1, by omega, by rw [if_neg hji], by rw [if_neg hji]⟩
  have := h.relink (i := i) (nds' := nds.eraseIdx i) (by omega) (by omega) (fun j hj => by rw [hnd, if_pos hj])
    (fun j h1 h2 => by rw [hnd, if_neg (by omega), nx_erase hi (by omega)]; exact h.node (j + 1) (by omega))
    (fun j h1 h2 => by rw [hnd, if_neg (by omega)]; exact h.own (j + 1) (by omega))
    (fun j hj => by obtain ⟨k, hk, e, _⟩ := hidx j hj; rw [e]; exact h.gne k hk)
    (fun j k hj hk e => by
      obtain ⟨j', hj', ej, ejj⟩ := hidx j hj
      obtain ⟨k', hk', ek, ekk⟩ := hidx k hk
      rw [ej, ek] at e
      have := h.ginj j' k' hj' hk' e
      split at ejj <;> split at ekk <;> omega)
    (fun j k b hj hk e e' => by
      obtain ⟨j', hj', ej, ejj⟩ := hidx j hj
      obtain ⟨k', hk', ek, ekk⟩ := hidx k hk
      rw [ej] at e; rw [ek] at e'
      have := h.binj j' k' b hj' hk' e e'
      split at ejj <;> split at ekk <;> omega)
  rw [nx_erase hi (Nat.le_refl _)] at this
  exact this
/-- The data of links are given anew, by a rearranging. -/
theorem NetC.data (h : NetC w nb nds n mb lost) {nds' : List Nd} (hl : nds'.length = nds.length) (hg : ∀ j, j < nds.length → (nd nds' j).g = (nd nds j).g) {S : Nat → Prop} (k : Kp S w w') (hnb : ¬ S nb)
    (hnode : ∀ j, j < nds.length → At w' (nd nds j).g (ndC (nd nds' j) (nx nds (j + 1)))) (hown : ∀ j, j < nds.length → OwnB w' (nd nds' j).B (nd nds' j).l)
    (binj : ∀ j k b, j < nds.length → k < nds.length → (nd nds' j).B.ownBlock = some b → (nd nds' k).B.ownBlock = some b → j = k) : NetC w' nb nds' n mb lost := by
  have hnx : ∀ j, nx nds' j = nx nds j := fun j => by
    unfold nx
    by_cases hj : j < nds.length
    · rw [if_pos (by omega), if_pos hj, hg j hj]
    · rw [if_neg (by omega), if_neg hj]
  exact ⟨by rw [hnx]; exact k.at h.hat hnb, fun j hj => by rw [hnx, hg j (by omega)]; exact hnode j (by omega), fun j hj => hown j (by omega), fun j hj => by rw [hg j (by omega)]; exact h.gne j (by omega),
    fun j k hj hk e => by rw [hg j (by omega), hg k (by omega)] at e; exact h.ginj j k (by omega) (by omega) e, fun j k b hj hk => binj j k b (by omega) (by omega)⟩
end Go.Proofs.Ytgcgcdgjooaipaa
