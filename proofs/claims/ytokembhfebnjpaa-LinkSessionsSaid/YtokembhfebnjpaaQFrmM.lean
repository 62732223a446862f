/- Frames: what the document says of them, on numbers. No program in sight. -/
import Derived.Test.YtokembhfebnjpaaQGrM
namespace Go.Proofs.Ytokembhfebnjpaa
set_option maxRecDepth 20000
open Go.RowKit
set_option linter.unusedVariables false
/-- A frame's parts. -/
structure Fr where
  ty : Int
  se : Int
  bo : Int
  sq : Int
  ac : Int
  bd : List Int
def frA (f : Fr) (a : Option Addr) (c : Nat) : Array Value := #[.int .i64 f.ty, .int .i64 f.se, .int .i64 f.bo, .int .i64 f.sq, .int .i64 f.ac, .slice a f.bd.length c]
def typedP (ty : Int) : Prop := 1 ≤ ty ∧ ty ≤ 5
def rangeP (se bo sq ac : Int) : Prop := (0 ≤ se ∧ se ≤ 2147483647) ∧ (0 ≤ bo ∧ bo ≤ 2147483647) ∧ (0 ≤ sq ∧ sq ≤ 2147483647) ∧ (0 ≤ ac ∧ ac ≤ 2147483647)
def sayP (ty se bo sq ac n : Int) : Prop :=
  1 ≤ se ∧ (ty = 1 → bo = 0 ∧ sq = 0 ∧ n = 0 ∧ ac = 0) ∧ (ty = 2 → 1 ≤ bo ∧ sq = 0 ∧ n = 0 ∧ ac = 0) ∧ (ty = 3 → 1 ≤ bo ∧ 1 ≤ sq) ∧ (ty = 4 → 1 ≤ bo ∧ sq = 0 ∧ n = 0) ∧ (ty = 5 → sq = 0 ∧ n = 0 ∧ ac = 0)
instance (ty : Int) : Decidable (typedP ty) := by unfold typedP; infer_instance
instance (se bo sq ac : Int) : Decidable (rangeP se bo sq ac) := by unfold rangeP; infer_instance
instance (ty se bo sq ac n : Int) : Decidable (sayP ty se bo sq ac n) := by unfold sayP; infer_instance
def says (f : Fr) : Bool := decide (sayP f.ty f.se f.bo f.sq f.ac f.bd.length)
/-- What is wrong with a frame. -/
def errF (f : Fr) : Int :=
  if ¬ typedP f.ty then 213 else if ¬ rangeP f.se f.bo f.sq f.ac then 5 else if (1400 : Int) < f.bd.length then 3 else if says f = false then 2 else 0
/-- A number's four bytes, the highest first; two. -/
def be4 (n : Int) : List Int := [n / 16777216 % 256, n / 65536 % 256, n / 256 % 256, n % 256]
def be2 (n : Int) : List Int := [n / 256 % 256, n % 256]
theorem byt_be4 (n : Int) : Byt (be4 n) := by intro x hx; simp [be4] at hx; omega
theorem byt_be2 (n : Int) : Byt (be2 n) := by intro x hx; simp [be2] at hx; omega
/-- A frame's bytes ahead of the sum. -/
def head4 (f : Fr) : List Int := [83, 75, 1, f.ty % 256] ++ be4 f.se ++ be4 f.bo ++ be4 f.sq ++ be4 f.ac ++ be2 f.bd.length ++ f.bd
theorem head4_len (f : Fr) : (head4 f).length = f.bd.length + 22 := by simp [head4, be4, be2]
theorem byt_head4 {f : Fr} (h : Byt f.bd) : Byt (head4 f) := by
  refine ((((((?_ : Byt [83, 75, 1, f.ty % 256]).append (byt_be4 _)).append (byt_be4 _)).append (byt_be4 _)).append (byt_be4 _)).append (byt_be2 _)).append h
  intro x hx; simp at hx; omega
def layF (f : Fr) : List Int := put4 (head4 f)
end Go.Proofs.Ytokembhfebnjpaa
