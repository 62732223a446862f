/- Lists of bytes that are a call's own: a row of slices, each of a block of its own. -/
import Derived.Test.YtlabkldpcbmjbaaApb
import Derived.Test.YtlabkldpcbmjbaaRdL
namespace Go.Proofs.Ytlabkldpcbmjbaa
open Go.RowKit
set_option linter.unusedVariables false
def isS (u : Value) : Prop := ∃ a n c, u = .slice a n c
structure LLs (B : Nat) (w : World) (v : Value) (ls : List (List Int)) (vs : List Value) : Prop where
  own : Own w v ls.length 1 vs
  blk : BlkP isS w v
  each : ∀ i, i < ls.length → OwnB w (vs.getD i undef) (ls.getD i [])
  dis : ∀ i j k, i < j → j < ls.length → (vs.getD i undef).ownBlock = some k → (vs.getD j undef).ownBlock ≠ some k
  ge : ∀ k, v.ownBlock = some k → B ≤ k
  geE : ∀ i k, i < ls.length → (vs.getD i undef).ownBlock = some k → B ≤ k
theorem LLs.nil (B : Nat) (w : World) : LLs B w (.slice none 0 0) [] [] :=
  ⟨Own.nil w 1, BlkP.nil _ _ _ _, fun i h => by simp at h, fun i j k _ h => by simp at h, fun k h => by simp [Value.ownBlock] at h, fun i k h => by simp at h⟩
theorem LLs.kp {S : Nat → Prop} {B : Nat} {w w' : World} {v : Value} {ls : List (List Int)} {vs : List Value} (h : LLs B w v ls vs) (hk : Kp S w w')
    (hs : ∀ g, v.ownBlock = some g → ¬ S g) (hs2 : ∀ i g, i < ls.length → (vs.getD i undef).ownBlock = some g → ¬ S g) : LLs B w' v ls vs :=
  ⟨h.own.kp hk hs, h.blk.kp hk hs, fun i hi => (h.each i hi).kp hk (fun g hg => hs2 i g hi hg), h.dis, h.ge, h.geE⟩
theorem LLs.len {B : Nat} {w : World} {v : Value} {ls : List (List Int)} {vs : List Value} (h : LLs B w v ls vs) : vs.length = ls.length := by have := h.own.1; omega
theorem isS_zero : ∀ u ∈ (Value.slice none 0 0).cells, isS u := fun u hu => by
  simp [Value.cells] at hu; subst hu; exact ⟨_, _, _, rfl⟩
/-- The row's block is no block of an element. -/
theorem LLs.apart {B : Nat} {w : World} {v : Value} {ls : List (List Int)} {vs : List Value} (h : LLs B w v ls vs) {g i : Nat} (hv : v.ownBlock = some g) (hi : i < ls.length) {u : Value} {l : List Int} (hu : OwnB w u l) : u.ownBlock ≠ some g := fun e => by
  obtain ⟨cs, hcs, hp⟩ := h.blk g hv
  obtain ⟨ds, hds, hq⟩ := hu.blk g e
  rcases h.own.2 with ⟨_, h0⟩ | ⟨g', cap, sp, rfl, hat, _⟩
  · omega
  · simp only [Value.ownBlock, Option.some.injEq] at hv
    subst hv
    have e1 := hat.inj hcs
    have e2 := hat.inj hds
    have hl := h.len
    obtain ⟨a, n, c, e3⟩ := hp (vs[0]'(by omega)) (by rw [← e1]; simp)
    obtain ⟨n', e4, _⟩ := hq (vs[0]'(by omega)) (by rw [← e2]; simp)
    rw [e3] at e4; cases e4
theorem LLs.ltE {B : Nat} {w : World} {v : Value} {ls : List (List Int)} {vs : List Value} (h : LLs B w v ls vs) {i g : Nat} (hi : i < ls.length) (hg : (vs.getD i undef).ownBlock = some g) : g < w.heap.size := (h.each i hi).lt g hg
theorem getD_snoc_lt {α : Type} (l : List α) (x d : α) (i : Nat) (h : i < l.length) : (l ++ [x]).getD i d = l.getD i d := by
  rw [List.getD_eq_getElem?_getD, List.getElem?_append_left h, List.getD_eq_getElem?_getD]
theorem getD_snoc_at {α : Type} (l : List α) (x d : α) : (l ++ [x]).getD l.length d = x := by
  rw [List.getD_eq_getElem?_getD, List.getElem?_append_right (by omega), Nat.sub_self]; rfl
/-- One more list of bytes is appended: its slice stands in a row of one. -/
theorem LLs.app {P : Program} {B : Nat} {w : World} {v : Value} {ls : List (List Int)} {vs : List Value} (h : LLs B w v ls vs) {t tx ty e e' : TypeId} (ht : P.underlying t = some (.slice e)) {bytes : Nat} (he : Elem P e (.slice none 0 0) 1 bytes) (hk : P.underlying tx = some (.slice e')) (hbts : bytes ≤ 100)
    {u : Value} {l : List Int} (hu : OwnB w u l) (hne : ∀ g, u.ownBlock = some g → v.ownBlock ≠ some g ∧ B ≤ g ∧ ∀ i, i < ls.length → (vs.getD i undef).ownBlock ≠ some g) (hn : ls.length + 1 ≤ 1000000000) (hB : B ≤ w.heap.size) {bx : Nat} (hat : At w bx [u]) :
    ∃ v' w', (Builtin.append_ #[t, tx] ty #[v, .slice (some ⟨bx, 0, none⟩) 1 1]).run P w = .ok v' w' ∧ LLs B w' v' (ls ++ [l]) (vs ++ [u]) ∧ Kp (fun k => v.ownBlock = some k) w w' ∧
      (v'.ownBlock = v.ownBlock ∨ v'.ownBlock = some w.heap.size) := by
  obtain ⟨ua, uc, eu, _, _⟩ := hu.form
  have hrd : Rd w (some ⟨bx, 0, none⟩) [u] := fun i hi => by
    simp at hi; subst hi
    exact ⟨_, _, rfl, by rw [hat.cell]; rfl⟩
  have h1 : ∀ x ∈ [u], x.oneCell' = true := fun x hx => by simp at hx; subst hx; rw [eu]; rfl
  obtain ⟨v', w', r1, r2, r3, r4, r5⟩ := run_append_at (P := P) (ty := ty) w ht he hk h.own (a := some ⟨bx, 0, none⟩) (m := 1) (c := 1) (news := [u]) (by simp) hrd h1 (by unfold maxLen; omega) (by
    have : (ls.length + 1) * bytes ≤ 1000000000 * 100 := Nat.mul_le_mul hn hbts
    omega)
  have k2 := r3
  have hvl := h.len
  refine ⟨v', w', r1, ⟨by simpa using r2, r5 isS isS_zero (fun x hx => ?_) h.blk, fun i hi => ?_, fun i j k hij hj hik => ?_, fun k hk => ?_, fun i k hi hik => ?_⟩, k2, r4⟩
  · rcases List.mem_append.1 hx with hx | hx
    · obtain ⟨i, hi, rfl⟩ := List.getElem_of_mem hx
      obtain ⟨a, c, e, _⟩ := (h.each i (by omega)).form
      rw [List.getD_eq_getElem?_getD, List.getElem?_eq_getElem hi] at e
      exact ⟨a, _, c, e⟩
    · simp at hx; subst hx; exact ⟨_, _, _, eu⟩
  · rw [List.length_append, List.length_singleton] at hi
    by_cases hi2 : i < ls.length
    · rw [getD_snoc_lt _ _ _ _ hi2, getD_snoc_lt _ _ _ _ (by omega)]
      exact (h.each i hi2).kp k2 (fun g hg e => h.apart e hi2 (h.each i hi2) hg)
    · obtain rfl : i = ls.length := by omega
      rw [getD_snoc_at, ← hvl, getD_snoc_at]
      exact hu.kp k2 (fun g hg e => (hne g hg).1 e)
  · rw [List.length_append, List.length_singleton] at hj
    rw [getD_snoc_lt _ _ _ _ (by omega)] at hik
    by_cases hj2 : j < ls.length
    · rw [getD_snoc_lt _ _ _ _ (by omega)]; exact h.dis i j k hij hj2 hik
    · obtain rfl : j = ls.length := by omega
      rw [← hvl, getD_snoc_at]
      exact fun e => (hne k e).2.2 i (by omega) hik
  · rcases r4 with e | e
    · rw [e] at hk; exact h.ge k hk
    · rw [e] at hk; simp at hk; omega
  · rw [List.length_append, List.length_singleton] at hi
    by_cases hi2 : i < ls.length
    · rw [getD_snoc_lt _ _ _ _ (by omega)] at hik; exact h.geE i k hi2 hik
    · obtain rfl : i = ls.length := by omega
      rw [← hvl, getD_snoc_at] at hik; exact (hne k hik).2.1
theorem LLs.weaken {B B' : Nat} {w : World} {v : Value} {ls : List (List Int)} {vs : List Value} (h : LLs B w v ls vs) (hB : B' ≤ B) : LLs B' w v ls vs :=
  ⟨h.own, h.blk, h.each, h.dis, fun k hk => Nat.le_trans hB (h.ge k hk), fun i k hi hk => Nat.le_trans hB (h.geE i k hi hk)⟩
/-- It reads as these lists. -/
theorem LLs.rdl {B : Nat} {w : World} {a : Option Addr} {n c : Nat} {ls : List (List Int)} {vs : List Value} (h : LLs B w (.slice a n c) ls vs) : RdL w a ls := fun i hi => by
  have hn : n = ls.length := by obtain ⟨a', c', e, _⟩ := h.own.form; simp only [Value.slice.injEq] at e; exact e.2.1
  subst hn
  have hvl := h.len
  obtain ⟨b, off, ha, hc⟩ := h.own.rd i (by omega)
  obtain ⟨ai, ci, e, hr, hle⟩ := (h.each i hi).form
  refine ⟨b, off, ai, ci, ha, ?_, hr, hle⟩
  rw [hc, ← e]
end Go.Proofs.Ytlabkldpcbmjbaa
