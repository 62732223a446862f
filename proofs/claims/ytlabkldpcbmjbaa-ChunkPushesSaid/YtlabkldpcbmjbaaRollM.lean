/- The plain arithmetic of layer 5: what a byte counts, the sum of bytes, a roller's cells. No condition. -/
import Derived.Test.YtlabkldpcbmjbaaBase
namespace Go.Proofs.Ytlabkldpcbmjbaa
open Go.RowKit
set_option linter.unusedVariables false

def wt (c : Int) : Int := (2 * c + 1) * 2654435761 % 4294967296
def sm (l : List Int) : Int := l.foldl (fun n c => (3 * n + wt c) % 4294967296) 0
def rl (s o c : Int) : Int := (3 * (s - wt o * 14348907) + wt c) % 4294967296
theorem wt_bd (c : Int) : 0 ≤ wt c ∧ wt c < 4294967296 := by unfold wt; omega
theorem rl_bd (s o c : Int) : 0 ≤ rl s o c ∧ rl s o c < 4294967296 := by unfold rl; omega
theorem rl_eq (s o c : Int) : ((s - wt o * 14348907) % 4294967296 * 3 % 4294967296 + wt c) % 4294967296 = rl s o c := by unfold rl; omega
theorem rl_eq' (s o c : Int) : (3 * (s - wt o * 14348907) % 4294967296 + wt c) % 4294967296 = rl s o c := by unfold rl; omega
theorem sm_snoc (l : List Int) (c : Int) : sm (l ++ [c]) = (3 * sm l + wt c) % 4294967296 := by simp [sm]
theorem sm_bd (l : List Int) : 0 ≤ sm l ∧ sm l < 4294967296 := by
  rcases List.eq_nil_or_concat l with rfl | ⟨l', c, rfl⟩
  · simp [sm]
  · rw [List.concat_eq_append, sm_snoc]; omega
theorem bits_or_one (c : Int) (h0 : 0 ≤ c) (h1 : c ≤ 255) : bits BinOp.or IntKind.u32 (c * 2) 1 = 2 * c + 1 := by
  have : ∀ n : Fin 256, bits BinOp.or IntKind.u32 ((n.val : Int) * 2) 1 = 2 * (n.val : Int) + 1 := by decide +kernel
  have h := this ⟨c.toNat, by omega⟩
  simpa [Int.toNat_of_nonneg h0] using h
/-- A roller's cells: the ring, how many came, the sum. -/
def rollC (ring : List Int) (n : Nat) (s : Int) : List Value := ring.map (Value.int .u8) ++ [.int .i64 n, .int .u32 s, .bool true]
/-- The number of bytes that a roller counts behind one more. -/
def nx (n : Nat) : Nat := if n + 1 = 32 then 16 else n + 1
/-- The sum behind one byte more. -/
def ps (ring : List Int) (n : Nat) (s c : Int) : Int := if n < 16 then (3 * s + wt c) % 4294967296 else rl s (ring.getD (n % 16) 0) c
theorem ps_bd (ring : List Int) (n : Nat) (s c : Int) : 0 ≤ ps ring n s c ∧ ps ring n s c < 4294967296 := by
  unfold ps; split
  · omega
  · exact rl_bd _ _ _
theorem nx_lt (n : Nat) (h : n < 32) : nx n < 32 := by unfold nx; split <;> omega
section
variable {w : World} {b : Nat} {ring : List Int} {n : Nat} {s : Int} (h : At w b (rollC ring n s)) (hr : ring.length = 16)
include h hr
theorem rollC_16 : w.cell? ⟨b, 16, none⟩ = some (.int .i64 n) := by rw [h.cell, rollC, List.getElem?_append_right (by simp [hr])]; simp [hr]
theorem rollC_17 : w.cell? ⟨b, 17, none⟩ = some (.int .u32 s) := by rw [h.cell, rollC, List.getElem?_append_right (by simp [hr])]; simp [hr]
theorem rollC_18 : w.cell? ⟨b, 18, none⟩ = some (.bool true) := by rw [h.cell, rollC, List.getElem?_append_right (by simp [hr])]; simp [hr]
theorem rollC_ring (i : Nat) (hi : i < 16) : w.cell? ⟨b, i, none⟩ = some (.int .u8 (ring.getD i 0)) := by
  rw [h.cell, rollC, List.getElem?_append_left (by simp [hr, hi])]
  simp [List.getD_eq_getElem?_getD, List.getElem?_eq_getElem (show i < ring.length by omega)]
end
theorem rollC_set (ring : List Int) (n : Nat) (s : Int) (hr : ring.length = 16) (i : Nat) (hi : i < 16) (c : Int) : (rollC ring n s).set i (.int .u8 c) = rollC (ring.set i c) n s := by
  rw [rollC, List.set_append_left _ _ (by simp [hr, hi]), rollC, List.map_set]
theorem rollC_set16 (ring : List Int) (n m : Nat) (s : Int) (hr : ring.length = 16) : (rollC ring n s).set 16 (.int .i64 m) = rollC ring m s := by
  rw [rollC, List.set_append_right _ _ (by simp [hr])]; simp [hr, rollC]
theorem rollC_set17 (ring : List Int) (n : Nat) (s s' : Int) (hr : ring.length = 16) : (rollC ring n s).set 17 (.int .u32 s') = rollC ring n s' := by
  rw [rollC, List.set_append_right _ _ (by simp [hr])]; simp [hr, rollC]
end Go.Proofs.Ytlabkldpcbmjbaa
