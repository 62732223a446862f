/- append to a slice of bytes of one's own (as in XSlc, whose other contracts not every seat reaches). -/
import Derived.Test.YtokembhfebnjpaaQBsM
namespace Go.Proofs.Ytokembhfebnjpaa
set_option maxRecDepth 20000
open Go.RowKit
set_option linter.unusedVariables false
theorem run_append_b {P : Program} (w : World) {t tx ty e e' : TypeId} (ht : P.underlying t = some (.slice e)) (he : Elem P e (.int .u8 0) 1 1) (hk : P.underlying tx = some (.slice e')) {v : Value} {l : List Int} (ho : OwnB w v l)
    {a : Option Addr} {c : Nat} {m : List Int} (hr : RdB w a m) (hn : l.length + m.length ≤ 1000000000) :
    ∃ v' w', (Builtin.append_ #[t, tx] ty #[v, .slice a m.length c]).run P w = .ok v' w' ∧ OwnB w' v' (l ++ m) ∧ Kp (fun k => v.ownBlock = some k) w w' ∧ (v'.ownBlock = v.ownBlock ∨ v'.ownBlock = some w.heap.size) := by
  obtain ⟨v', w', h1, h2, h3, h4, h5⟩ := run_append_at (P := P) (ty := ty) w ht he hk ho.own (a := a) (m := m.length) (c := c) (news := m.map (Value.int .u8)) (by simp) hr.rd (oneCell_u8 m) (by unfold maxLen; omega) (by omega)
  refine ⟨v', w', h1, ⟨?_, h5 isB isB_zero (by rw [← List.map_append]; exact isB_map (ho.byt.append hr.bd)) ho.blk, ho.byt.append hr.bd, by simp; omega⟩, h3, h4⟩
  rw [List.length_append, List.map_append]; exact h2
theorem OwnB.nil' (w : World) : OwnB w (.slice none 0 0) [] := ⟨Own.nil w 1, BlkP.nil _ _ _ _, fun x hx => by simp at hx, by simp⟩
theorem OwnB.rdb {w : World} {a : Option Addr} {n c : Nat} {l : List Int} (h : OwnB w (.slice a n c) l) : RdB w a l := by
  obtain ⟨a', c', e, hr, _⟩ := h.form
  simp only [Value.slice.injEq] at e
  obtain ⟨rfl, _, rfl⟩ := e
  exact hr
end Go.Proofs.Ytokembhfebnjpaa
/- Lists of bytes that are a call's own: a row of slices, each of a block of its own. -/
namespace Go.Proofs.Ytokembhfebnjpaa
set_option maxRecDepth 20000
open Go.RowKit
set_option linter.unusedVariables false
def isS (u : Value) : Prop := ∃ a n c, u = .slice a n c
structure LLs (B : Nat) (w : World) (v : Value) (ls : List (List Int)) (vs : List Value) : Prop where
  own : Own w v ls.length 1 vs
  blk : BlkP isS w v
  each : ∀ i, i < ls.length → OwnB w (vs.getD i undef) (ls.getD i [])
  dis : ∀ i j k, i < j → j < ls.length → (vs.getD i undef).ownBlock = some k → (vs.getD j undef).ownBlock ≠ some k
  ge : ∀ k, v.ownBlock = some k → B ≤ k
  geE : ∀ i k, i < ls.length → (vs.getD i undef).ownBlock = some k → B ≤ k
theorem LLs.nil (B : Nat) (w : World) : LLs B w (.slice none 0 0) [] [] :=
  ⟨Own.nil w 1, BlkP.nil _ _ _ _, fun i h => by simp at h, fun i j k _ h => by simp at h, fun k h => by simp [Value.ownBlock] at h, fun i k h => by simp at h⟩
theorem LLs.kp {S : Nat → Prop} {B : Nat} {w w' : World} {v : Value} {ls : List (List Int)} {vs : List Value} (h : LLs B w v ls vs) (hk : Kp S w w')
    (hs : ∀ g, v.ownBlock = some g → ¬ S g) (hs2 : ∀ i g, i < ls.length → (vs.getD i undef).ownBlock = some g → ¬ S g) : LLs B w' v ls vs :=
  ⟨h.own.kp hk hs, h.blk.kp hk hs, fun i hi => (h.each i hi).kp hk (fun g hg => hs2 i g hi hg), h.dis, h.ge, h.geE⟩
theorem LLs.len {B : Nat} {w : World} {v : Value} {ls : List (List Int)} {vs : List Value} (h : LLs B w v ls vs) : vs.length = ls.length := by have := h.own.1; omega
theorem isS_zero : ∀ u ∈ (Value.slice none 0 0).cells, isS u := fun u hu => by
  simp [Value.cells] at hu; subst hu; exact ⟨_, _, _, rfl⟩
/-- The row's block is no block of an element. -/
theorem LLs.apart {B : Nat} {w : World} {v : Value} {ls : List (List Int)} {vs : List Value} (h : LLs B w v ls vs) {g i : Nat} (hv : v.ownBlock = some g) (hi : i < ls.length) {u : Value} {l : List Int} (hu : OwnB w u l) : u.ownBlock ≠ some g := fun e => by
  obtain ⟨cs, hcs, hp⟩ := h.blk g hv
  obtain ⟨ds, hds, hq⟩ := hu.blk g e
  rcases h.own.2 with ⟨_, h0⟩ | ⟨g', cap, sp, rfl, hat, _⟩
  · omega
  · simp only [Value.ownBlock, Option.some.injEq] at hv
    subst hv
    have e1 := hat.inj hcs
    have e2 := hat.inj hds
    have hl := h.len
    obtain ⟨a, n, c, e3⟩ := hp (vs[0]'(by omega)) (by rw [← e1]; simp)
    obtain ⟨n', e4, _⟩ := hq (vs[0]'(by omega)) (by rw [← e2]; simp)
    rw [e3] at e4; cases e4
theorem LLs.ltE {B : Nat} {w : World} {v : Value} {ls : List (List Int)} {vs : List Value} (h : LLs B w v ls vs) {i g : Nat} (hi : i < ls.length) (hg : (vs.getD i undef).ownBlock = some g) : g < w.heap.size := (h.each i hi).lt g hg
theorem getD_snocS_lt {α : Type} (l : List α) (x d : α) (i : Nat) (h : i < l.length) : (l ++ [x]).getD i d = l.getD i d := by
  rw [List.getD_eq_getElem?_getD, List.getElem?_append_left h, List.getD_eq_getElem?_getD]
theorem getD_snocS_at {α : Type} (l : List α) (x d : α) : (l ++ [x]).getD l.length d = x := by
  rw [List.getD_eq_getElem?_getD, List.getElem?_append_right (by omega), Nat.sub_self]; rfl
/-- One more list of bytes is appended: its slice stands in a row of one. -/
theorem LLs.app {P : Program} {B : Nat} {w : World} {v : Value} {ls : List (List Int)} {vs : List Value} (h : LLs B w v ls vs) {t tx ty e e' : TypeId} (ht : P.underlying t = some (.slice e)) {bytes : Nat} (he : Elem P e (.slice none 0 0) 1 bytes) (hk : P.underlying tx = some (.slice e')) (hbts : bytes ≤ 100)
    {u : Value} {l : List Int} (hu : OwnB w u l) (hne : ∀ g, u.ownBlock = some g → v.ownBlock ≠ some g ∧ B ≤ g ∧ ∀ i, i < ls.length → (vs.getD i undef).ownBlock ≠ some g) (hn : ls.length + 1 ≤ 1000000000) (hB : B ≤ w.heap.size) {bx : Nat} (hat : At w bx [u]) :
    ∃ v' w', (Builtin.append_ #[t, tx] ty #[v, .slice (some ⟨bx, 0, none⟩) 1 1]).run P w = .ok v' w' ∧ LLs B w' v' (ls ++ [l]) (vs ++ [u]) ∧ Kp (fun k => v.ownBlock = some k) w w' ∧
      (v'.ownBlock = v.ownBlock ∨ v'.ownBlock = some w.heap.size) := by
  obtain ⟨ua, uc, eu, _, _⟩ := hu.form
  have hrd : Rd w (some ⟨bx, 0, none⟩) [u] := fun i hi => by
    simp at hi; subst hi
    exact ⟨_, _, rfl, by rw [hat.cell]; rfl⟩
  have h1 : ∀ x ∈ [u], x.oneCell' = true := fun x hx => by simp at hx; subst hx; rw [eu]; rfl
  obtain ⟨v', w', r1, r2, r3, r4, r5⟩ := run_append_at (P := P) (ty := ty) w ht he hk h.own (a := some ⟨bx, 0, none⟩) (m := 1) (c := 1) (news := [u]) (by simp) hrd h1 (by unfold maxLen; omega) (by
    have : (ls.length + 1) * bytes ≤ 1000000000 * 100 := Nat.mul_le_mul hn hbts
    omega)
  have k2 := r3
  have hvl := h.len
  refine ⟨v', w', r1, ⟨by simpa using r2, r5 isS isS_zero (fun x hx => ?_) h.blk, fun i hi => ?_, fun i j k hij hj hik => ?_, fun k hk => ?_, fun i k hi hik => ?_⟩, k2, r4⟩
  · rcases List.mem_append.1 hx with hx | hx
    · obtain ⟨i, hi, rfl⟩ := List.getElem_of_mem hx
      obtain ⟨a, c, e, _⟩ := (h.each i (by omega)).form
      rw [List.getD_eq_getElem?_getD, List.getElem?_eq_getElem hi] at e
      exact ⟨a, _, c, e⟩
    · simp at hx; subst hx; exact ⟨_, _, _, eu⟩
  · rw [List.length_append, List.length_singleton] at hi
    by_cases hi2 : i < ls.length
    · rw [getD_snocS_lt _ _ _ _ hi2, getD_snocS_lt _ _ _ _ (by omega)]
      exact (h.each i hi2).kp k2 (fun g hg e => h.apart e hi2 (h.each i hi2) hg)
    · obtain rfl : i = ls.length := by omega
      rw [getD_snocS_at, ← hvl, getD_snocS_at]
      exact hu.kp k2 (fun g hg e => (hne g hg).1 e)
  · rw [List.length_append, List.length_singleton] at hj
    rw [getD_snocS_lt _ _ _ _ (by omega)] at hik
    by_cases hj2 : j < ls.length
    · rw [getD_snocS_lt _ _ _ _ (by omega)]; exact h.dis i j k hij hj2 hik
    · obtain rfl : j = ls.length := by omega
      rw [← hvl, getD_snocS_at]
      exact fun e => (hne k e).2.2 i (by omega) hik
  · rcases r4 with e | e
    · rw [e] at hk; exact h.ge k hk
    · rw [e] at hk; simp at hk; omega
  · rw [List.length_append, List.length_singleton] at hi
    by_cases hi2 : i < ls.length
    · rw [getD_snocS_lt _ _ _ _ (by omega)] at hik; exact h.geE i k hi2 hik
    · obtain rfl : i = ls.length := by omega
      rw [← hvl, getD_snocS_at] at hik; exact (hne k hik).2.1
theorem LLs.weaken {B B' : Nat} {w : World} {v : Value} {ls : List (List Int)} {vs : List Value} (h : LLs B w v ls vs) (hB : B' ≤ B) : LLs B' w v ls vs :=
  ⟨h.own, h.blk, h.each, h.dis, fun k hk => Nat.le_trans hB (h.ge k hk), fun i k hi hk => Nat.le_trans hB (h.geE i k hi hk)⟩
/-- It reads as these lists. -/
theorem LLs.rdl {B : Nat} {w : World} {a : Option Addr} {n c : Nat} {ls : List (List Int)} {vs : List Value} (h : LLs B w (.slice a n c) ls vs) : RdL w a ls := fun i hi => by
  have hn : n = ls.length := by obtain ⟨a', c', e, _⟩ := h.own.form; simp only [Value.slice.injEq] at e; exact e.2.1
  subst hn
  have hvl := h.len
  obtain ⟨b, off, ha, hc⟩ := h.own.rd i (by omega)
  obtain ⟨ai, ci, e, hr, hle⟩ := (h.each i hi).form
  refine ⟨b, off, ai, ci, ha, ?_, hr, hle⟩
  rw [hc, ← e]
end Go.Proofs.Ytokembhfebnjpaa
/- What one list of bytes tells, behind what another does (taken out of XPcs for chapter 15). -/
namespace Go.Proofs.Ytokembhfebnjpaa
set_option maxRecDepth 20000
open Go.RowKit
set_option linter.unusedVariables false
theorem getD_apL_lt {α : Type} (l r : List α) (d : α) (i : Nat) (h : i < l.length) : (l ++ r).getD i d = l.getD i d := by
  rw [List.getD_eq_getElem?_getD, List.getElem?_append_left h, List.getD_eq_getElem?_getD]
theorem getD_apL_ge {α : Type} (l r : List α) (d : α) (i : Nat) (h : l.length ≤ i) : (l ++ r).getD i d = r.getD (i - l.length) d := by
  rw [List.getD_eq_getElem?_getD, List.getElem?_append_right h, List.getD_eq_getElem?_getD]
/-- A list of lists of bytes, in memory of their own. -/
structure LLu (w : World) (v : Value) (ls : List (List Int)) (vs : List Value) : Prop where
  own : Own w v ls.length 1 vs
  each : ∀ i, i < ls.length → OwnB w (vs.getD i undef) (ls.getD i [])
  dis : ∀ i j k, i < j → j < ls.length → (vs.getD i undef).ownBlock = some k → (vs.getD j undef).ownBlock ≠ some k
theorem LLu.len {w : World} {v : Value} {ls : List (List Int)} {vs : List Value} (h : LLu w v ls vs) : vs.length = ls.length := by have := h.own.1; omega
theorem LLu.nil (w : World) : LLu w (.slice none 0 0) [] [] := ⟨Own.nil w 1, fun i h => by simp at h, fun i j k _ h => by simp at h⟩
theorem LLu.kp0 {w w' : World} {v : Value} {ls : List (List Int)} {vs : List Value} (h : LLu w v ls vs) (k : Kp (fun _ => False) w w') : LLu w' v ls vs :=
  ⟨h.own.kp k (fun _ _ h => h), fun i hi => (h.each i hi).kp k (fun _ _ h => h), h.dis⟩
theorem LLu.kp {S : Nat → Prop} {w w' : World} {v : Value} {ls : List (List Int)} {vs : List Value} (h : LLu w v ls vs) (k : Kp S w w') (h1 : ∀ g, v.ownBlock = some g → ¬ S g) (h2 : ∀ i g, i < ls.length → (vs.getD i undef).ownBlock = some g → ¬ S g) : LLu w' v ls vs :=
  ⟨h.own.kp k h1, fun i hi => (h.each i hi).kp k (fun g hg => h2 i g hi hg), h.dis⟩
theorem LLu.form {w : World} {v : Value} {ls : List (List Int)} {vs : List Value} (h : LLu w v ls vs) : ∃ a c, v = .slice a ls.length c := by
  obtain ⟨a, c, e, _⟩ := h.own.form
  exact ⟨a, c, e⟩
theorem LLu.rdl {w : World} {a : Option Addr} {n c : Nat} {ls : List (List Int)} {vs : List Value} (h : LLu w (.slice a n c) ls vs) : RdL w a ls := fun i hi => by
  have hn : n = ls.length := by obtain ⟨a', c', e⟩ := h.form; simp only [Value.slice.injEq] at e; exact e.2.1
  subst hn
  have hvl := h.len
  obtain ⟨b, off, ha, hc⟩ := h.own.rd i (by omega)
  obtain ⟨ai, ci, e, hr, hle⟩ := (h.each i hi).form
  refine ⟨b, off, ai, ci, ha, ?_, hr, hle⟩
  rw [hc, ← e]
theorem LLs.u {B : Nat} {w : World} {v : Value} {ls : List (List Int)} {vs : List Value} (h : LLs B w v ls vs) : LLu w v ls vs := ⟨h.own, h.each, h.dis⟩
/-- What one list tells, behind what another does. -/
theorem LLs.cat {P : Program} {w : World} {v : Value} {ls ms : List (List Int)} {vs us : List Value} {a : Option Addr} {m c : Nat} (h : LLs 0 w v ls vs) (h' : LLu w (.slice a m c) ms us) {t tx ty e e' : TypeId} (ht : P.underlying t = some (.slice e)) {bytes : Nat} (he : Elem P e (.slice none 0 0) 1 bytes) (hk : P.underlying tx = some (.slice e')) (hbts : bytes ≤ 100)
    (hm : m = ms.length) (hne : ∀ i g, i < ms.length → (us.getD i undef).ownBlock = some g → v.ownBlock ≠ some g ∧ ∀ j, j < ls.length → (vs.getD j undef).ownBlock ≠ some g) (hn : ls.length + m ≤ 1000000000) :
    ∃ v' w', (Builtin.append_ #[t, tx] ty #[v, .slice a m c]).run P w = .ok v' w' ∧ LLs 0 w' v' (ls ++ ms) (vs ++ us) ∧ Kp (fun k => v.ownBlock = some k) w w' ∧ (v'.ownBlock = v.ownBlock ∨ v'.ownBlock = some w.heap.size) := by
  subst hm
  have hvl := h.len
  have hul := h'.len
  have hs : ∀ (xs : List Value) (ns : List (List Int)), xs.length = ns.length → (∀ i, i < ns.length → OwnB w (xs.getD i undef) (ns.getD i [])) → ∀ x ∈ xs, isS x := fun xs ns hl he x hx => by
    obtain ⟨i, hi, rfl⟩ := List.getElem_of_mem hx
    obtain ⟨a, c, e, _⟩ := (he i (by omega)).form
    rw [List.getD_eq_getElem?_getD, List.getElem?_eq_getElem hi] at e
    exact ⟨a, _, c, e⟩
  have hus := hs us ms hul h'.each
  have hrd : Rd w a us := h'.own.rd
  obtain ⟨v', w', r1, r2, r3, r4, r5⟩ := run_append_at (P := P) (ty := ty) w ht he hk h.own (a := a) (m := ms.length) (c := c) (news := us) (by omega) hrd (fun u hu => by obtain ⟨_, _, _, e⟩ := hus u hu; rw [e]; rfl) (by unfold maxLen; omega) (by
    have : (ls.length + ms.length) * bytes ≤ 1000000000 * 100 := Nat.mul_le_mul hn hbts
    omega)
  refine ⟨v', w', r1, ⟨by rw [List.length_append]; exact r2, r5 isS isS_zero (fun x hx => ?_) h.blk, fun i hi => ?_, fun i j k hij hj hik => ?_, fun k hk => Nat.zero_le _, fun i k hi hik => Nat.zero_le _⟩, r3, r4⟩
  · rcases List.mem_append.1 hx with hx | hx
    · exact hs vs ls hvl h.each x hx
    · exact hus x hx
  · rw [List.length_append] at hi
    by_cases hi2 : i < ls.length
    · rw [getD_apL_lt _ _ _ _ hi2, getD_apL_lt _ _ _ _ (by omega)]
      exact (h.each i hi2).kp r3 (fun g hg e => h.apart e hi2 (h.each i hi2) hg)
    · rw [getD_apL_ge _ _ _ _ (by omega), getD_apL_ge _ _ _ _ (by omega), hvl]
      exact (h'.each _ (by omega)).kp r3 (fun g hg e => (hne _ g (by omega) hg).1 e)
  · rw [List.length_append] at hj
    by_cases hi2 : i < ls.length
    · rw [getD_apL_lt _ _ _ _ (by omega)] at hik
      by_cases hj2 : j < ls.length
      · rw [getD_apL_lt _ _ _ _ (by omega)]; exact h.dis i j k hij hj2 hik
      · rw [getD_apL_ge _ _ _ _ (by omega), hvl]
        exact fun e => (hne _ k (by omega) e).2 i hi2 hik
    · rw [getD_apL_ge _ _ _ _ (by omega), hvl] at hik
      rw [getD_apL_ge _ _ _ _ (by omega), hvl]
      exact h'.dis _ _ k (by omega) (by omega) hik
end Go.Proofs.Ytokembhfebnjpaa
