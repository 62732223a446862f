/- Chapter 06: the plain law of cutting: where bytes are cut into chunks, told byte by byte, and told by the next chunk's length. No program in sight. -/
import Derived.Test.YtlabkldpcbmjbaaRollM
namespace Go.Proofs.Ytlabkldpcbmjbaa
open Go.RowKit
set_option linter.unusedVariables false

def last16 (l : List Int) : List Int := l.drop (l.length - 16)
/-- Does a chunk end behind its last byte? -/
def ends (l : List Int) : Bool := decide (l.length = 1024) || (decide (64 ≤ l.length) && decide (sm (last16 l) / 16777216 = 0))
/-- The chunks that end, and what is left, when some bytes of a chunk have come already. -/
def chs : List Int → List Int → List (List Int) × List Int
  | cur, [] => ([], cur)
  | cur, c :: r => if ends (cur ++ [c]) then ((cur ++ [c]) :: (chs [] r).1, (chs [] r).2) else chs (cur ++ [c]) r
/-- No chunk ends within. -/
def Open (l : List Int) : Prop := ∀ n, 1 ≤ n → n ≤ l.length → ends (l.take n) = false
theorem Open.nil : Open [] := fun n h1 h2 => by simp at h2; omega
theorem Open.snoc {l : List Int} {c : Int} (h : Open l) (hc : ends (l ++ [c]) = false) : Open (l ++ [c]) := fun n h1 h2 => by
  rw [List.length_append, List.length_singleton] at h2
  by_cases hn : n = l.length + 1
  · subst hn
    rw [List.take_of_length_le (by simp)]; exact hc
  · rw [List.take_append_of_le_length (by omega)]; exact h n h1 (by omega)
theorem Open.pre {l : List Int} (h : Open l) (k : Nat) : Open (l.take k) := fun n h1 h2 => by
  rw [List.length_take] at h2
  rw [List.take_take, Nat.min_eq_left (by omega)]
  exact h n h1 (by omega)
theorem Open.lt {l : List Int} (h : Open l) : l.length < 1024 := by
  rcases Nat.lt_or_ge l.length 1024 with h1 | h1
  · exact h1
  · have := h 1024 (by omega) h1
    simp [ends, List.length_take, Nat.min_eq_left h1] at this
theorem chs_open : ∀ (r cur : List Int), Open cur → Open (chs cur r).2
  | [], cur, h => h
  | c :: r, cur, h => by
    unfold chs
    split
    · exact chs_open r [] Open.nil
    · rename_i hc
      exact chs_open r _ (h.snoc (by simpa using hc))
theorem chs_hit {cur r : List Int} {c : Int} (h : ends (cur ++ [c]) = true) : chs cur (c :: r) = ((cur ++ [c]) :: (chs [] r).1, (chs [] r).2) := by rw [chs, if_pos h]
theorem chs_miss {cur r : List Int} {c : Int} (h : ends (cur ++ [c]) = false) : chs cur (c :: r) = chs (cur ++ [c]) r := by rw [chs, if_neg (by simp [h])]
/-- Pieces, one behind the other. -/
theorem chs_append : ∀ (x y cur : List Int), chs cur (x ++ y) = ((chs cur x).1 ++ (chs (chs cur x).2 y).1, (chs (chs cur x).2 y).2)
  | [], y, cur => by simp [chs]
  | c :: x, y, cur => by
    rw [List.cons_append]
    cases hc : ends (cur ++ [c])
    · rw [chs_miss hc, chs_miss hc]; exact chs_append x y _
    · rw [chs_hit hc, chs_hit hc, chs_append x y []]; simp
/-- What is open is scanned without a cut. -/
theorem chs_of_open : ∀ (x cur : List Int), Open (cur ++ x) → chs cur x = ([], cur ++ x)
  | [], cur, h => by simp [chs]
  | c :: x, cur, h => by
    have hc : ends (cur ++ [c]) = false := by
      have := h (cur.length + 1) (by omega) (by simp)
      rwa [show cur ++ c :: x = (cur ++ [c]) ++ x by simp, List.take_append_of_le_length (by simp), List.take_of_length_le (by simp)] at this
    rw [chs_miss hc]
    have := chs_of_open x (cur ++ [c]) (by simpa using h)
    simpa using this
theorem chs_from (cur y : List Int) (h : Open cur) : chs [] (cur ++ y) = chs cur y := by
  rw [chs_append, chs_of_open cur [] (by simpa using h)]; simp
/-- The first chunk: the least length at which one ends. -/
theorem chs_first (l : List Int) (n : Nat) (h1 : 1 ≤ n) (hn : n ≤ l.length) (ho : ∀ k, 1 ≤ k → k < n → ends (l.take k) = false) (he : ends (l.take n) = true) :
    chs [] l = (l.take n :: (chs [] (l.drop n)).1, (chs [] (l.drop n)).2) := by
  have hop : Open (l.take (n - 1)) := fun k hk1 hk2 => by
    rw [List.length_take] at hk2
    rw [List.take_take, Nat.min_eq_left (by omega)]
    exact ho k hk1 (by omega)
  have e : l = l.take (n - 1) ++ (l.getD (n - 1) 0 :: l.drop n) := by
    have h2 := List.drop_eq_getElem_cons (show n - 1 < l.length by omega)
    rw [show n - 1 + 1 = n by omega] at h2
    rw [List.getD_eq_getElem?_getD, List.getElem?_eq_getElem (show n - 1 < l.length by omega), Option.getD_some, ← h2, List.take_append_drop]
  have e2 : l.take (n - 1) ++ [l.getD (n - 1) 0] = l.take n := by
    rw [List.getD_eq_getElem?_getD, List.getElem?_eq_getElem (show n - 1 < l.length by omega), Option.getD_some]
    have := List.take_append_getElem (show n - 1 < l.length by omega)
    rwa [show n - 1 + 1 = n by omega] at this
  conv => lhs; rw [e]
  rw [chs_from _ _ hop]
  rw [chs_hit (by rw [e2]; exact he), e2]
theorem chs_whole (l : List Int) (h : Open l) : chs [] l = ([], l) := by
  have := chs_of_open l [] (by simpa using h)
  simpa using this
/-- The chunks of bytes. -/
def chunks (l : List Int) : List (List Int) := (chs [] l).1 ++ (if (chs [] l).2 = [] then [] else [(chs [] l).2])
theorem chs_join : ∀ (r cur : List Int), (chs cur r).1.flatten ++ (chs cur r).2 = cur ++ r
  | [], cur => by simp [chs]
  | c :: r, cur => by
    unfold chs
    split
    · have := chs_join r []
      simp at this ⊢
      rw [this]
    · have := chs_join r (cur ++ [c])
      simpa using this
theorem chunks_join (l : List Int) : (chunks l).flatten = l := by
  unfold chunks
  have := chs_join l []
  split
  · rename_i h; rw [h] at this; simpa using this
  · simpa using this
/-- Each chunk but what is left ends, and ends nowhere within. -/
theorem chs_each : ∀ (r cur : List Int), Open cur → ∀ x ∈ (chs cur r).1, ends x = true ∧ Open (x.take (x.length - 1)) ∧ x ≠ []
  | [], cur, h => by simp [chs]
  | c :: r, cur, h => by
    unfold chs
    split
    · rename_i hc
      intro x hx
      rcases List.mem_cons.1 hx with rfl | hx
      · refine ⟨hc, ?_, by simp⟩
        rw [List.length_append, List.length_singleton, Nat.add_sub_cancel, List.take_left]; exact h
      · exact chs_each r [] Open.nil x hx
    · rename_i hc
      exact chs_each r _ (h.snoc (by simpa using hc))
/-- The places behind which chunks end. -/
def cutsAt : List Int → List Int → Nat → List Nat
  | _, [], _ => []
  | cur, c :: r, k => if ends (cur ++ [c]) then (k + 1) :: cutsAt [] r (k + 1) else cutsAt (cur ++ [c]) r (k + 1)
theorem cutsAt_hit {cur r : List Int} {c : Int} {k : Nat} (h : ends (cur ++ [c]) = true) : cutsAt cur (c :: r) k = (k + 1) :: cutsAt [] r (k + 1) := by rw [cutsAt, if_pos h]
theorem cutsAt_miss {cur r : List Int} {c : Int} {k : Nat} (h : ends (cur ++ [c]) = false) : cutsAt cur (c :: r) k = cutsAt (cur ++ [c]) r (k + 1) := by rw [cutsAt, if_neg (by simp [h])]
theorem drop_cons (l : List Int) (k : Nat) (h : k < l.length) : l.drop k = l.getD k 0 :: l.drop (k + 1) := by
  rw [List.drop_eq_getElem_cons h, List.getD_eq_getElem?_getD, List.getElem?_eq_getElem h, Option.getD_some]
end Go.Proofs.Ytlabkldpcbmjbaa
