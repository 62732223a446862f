/- Chapter 13: what Due does to a window, plain: which packets are due, and how they are when they are sent. No program in sight. -/
import Derived.Test.YtnapokdipelmiaaWnA
namespace Go.Proofs.Ytnapokdipelmiaa
open Go.RowKit Flt
set_option linter.unusedVariables false
def dueB (p : Pk) (now : Nat) : Bool := decide (dueA p now ≤ now)
def sentP (x : Wn) (p : Pk) : Pk := { p with times := p.times + 1, att := x.now, wt := wk (waitN x.m x.s) (p.times + 1) }
/-- The places of those that are due. -/
def dueI (x : Wn) : List Nat := (List.range x.l.length).filter (fun i => dueB (pk x.l i) x.now)
def stL (x : Wn) (pre : List Nat) : List Pk := (List.range x.l.length).map (fun i => if i ∈ pre then sentP x (pk x.l i) else pk x.l i)
/-- Those at these places are sent. -/
def stW (x : Wn) (pre : List Nat) : Wn := { x with l := stL x pre }
def dueW (x : Wn) : Wn := stW x (dueI x)
theorem stL_len (x : Wn) (pre : List Nat) : (stL x pre).length = x.l.length := by simp [stL]
theorem stL_at {x : Wn} {pre : List Nat} {i : Nat} (h : i < x.l.length) : pk (stL x pre) i = if i ∈ pre then sentP x (pk x.l i) else pk x.l i := by
  have : (stL x pre)[i]? = some (if i ∈ pre then sentP x (pk x.l i) else pk x.l i) := by
    unfold stL; rw [List.getElem?_map, List.getElem?_range h]; rfl
  have h2 := pk_at (l := stL x pre) (i := i) (by rw [stL_len]; exact h)
  rw [this] at h2
  exact (Option.some.inj h2).symm
theorem pk_ext {a b : List Pk} (hl : a.length = b.length) (h : ∀ i, i < a.length → pk a i = pk b i) : a = b := by
  apply List.ext_getElem? 
  intro i
  by_cases hi : i < a.length
  · rw [pk_at hi, pk_at (hl ▸ hi), h i hi]
  · rw [List.getElem?_eq_none (by omega), List.getElem?_eq_none (by omega)]
theorem stL_nil (x : Wn) : stL x [] = x.l := pk_ext (stL_len x []) fun i hi => by
  rw [stL_len] at hi
  rw [stL_at hi, if_neg (by simp)]
theorem stW_nil (x : Wn) : stW x [] = x := by unfold stW; rw [stL_nil]
theorem stL_snoc {x : Wn} {pre : List Nat} {i : Nat} (h : i < x.l.length) : (stL x pre).set i (sentP x (pk x.l i)) = stL x (pre ++ [i]) := pk_ext (by simp [stL_len]) fun j hj => by
  simp only [List.length_set, stL_len] at hj
  rw [pk_set (by rw [stL_len]; exact h), stL_at hj, stL_at hj]
  by_cases hji : j = i
  · subst hji; simp
  · rw [if_neg hji]
    by_cases hp : j ∈ pre
    · rw [if_pos hp, if_pos (by simp [hp])]
    · rw [if_neg hp, if_neg (by simp [hp, hji])]
theorem dueI_pre (x : Wn) {k : Nat} (hk : k ≤ x.l.length) : (List.range k).filter (fun i => dueB (pk x.l i) x.now) <+: dueI x := by
  unfold dueI
  have : List.range x.l.length = List.range k ++ (List.range (x.l.length - k)).map (k + ·) := by
    rw [← List.range_add, show k + (x.l.length - k) = x.l.length by omega]
  rw [this, List.filter_append]
  exact List.prefix_append _ _
def preI (x : Wn) (k : Nat) : List Nat := (List.range k).filter (fun i => dueB (pk x.l i) x.now)
theorem preI_yes {x : Wn} {k : Nat} (h : dueB (pk x.l k) x.now = true) : preI x (k + 1) = preI x k ++ [k] := by
  unfold preI; rw [List.range_succ, List.filter_append]; simp [h]
theorem preI_no {x : Wn} {k : Nat} (h : dueB (pk x.l k) x.now = false) : preI x (k + 1) = preI x k := by
  unfold preI; rw [List.range_succ, List.filter_append]; simp [h]
theorem preI_not (x : Wn) (k : Nat) : k ∉ preI x k := fun h => by
  unfold preI at h
  rw [List.mem_filter, List.mem_range] at h
  omega
theorem preI_lt {x : Wn} {k i : Nat} (h : i ∈ preI x k) : i < k ∧ dueB (pk x.l i) x.now = true := by
  unfold preI at h
  rw [List.mem_filter, List.mem_range] at h
  exact h
theorem preI_all (x : Wn) : preI x x.l.length = dueI x := rfl
theorem preI_zero (x : Wn) : preI x 0 = [] := rfl
theorem stW_l (x : Wn) (pre : List Nat) : (stW x pre).l = stL x pre := rfl
/-- A packet of a window some of whose packets were sent: its block, number, body are as they were. -/
theorem st_same (x : Wn) (pre : List Nat) {i : Nat} (h : i < x.l.length) : (pk (stL x pre) i).g = (pk x.l i).g ∧ (pk (stL x pre) i).B = (pk x.l i).B ∧ (pk (stL x pre) i).seq = (pk x.l i).seq ∧ (pk (stL x pre) i).body = (pk x.l i).body := by
  rw [stL_at h]
  split <;> exact ⟨rfl, rfl, rfl, rfl⟩
theorem st_mine (b : Nat) (x : Wn) (pre : List Nat) (k : Nat) : Mine b (stW x pre) k ↔ Mine b x k := by
  unfold Mine
  rw [stW_l, stL_len]
  constructor
  · rintro (h | h | ⟨i, hi, h⟩)
    · exact .inl h
    · exact .inr (.inl h)
    · rw [(st_same x pre hi).1, (st_same x pre hi).2.1] at h; exact .inr (.inr ⟨i, hi, h⟩)
  · rintro (h | h | ⟨i, hi, h⟩)
    · exact .inl h
    · exact .inr (.inl h)
    · refine .inr (.inr ⟨i, hi, ?_⟩)
      rw [(st_same x pre hi).1, (st_same x pre hi).2.1]; exact h
end Go.Proofs.Ytnapokdipelmiaa
