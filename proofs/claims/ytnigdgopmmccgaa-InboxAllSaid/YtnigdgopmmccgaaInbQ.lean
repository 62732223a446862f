/- Package inbox: counting what was taken; what the statements' own notes say. No program in sight. -/
import Derived.Test.YtnigdgopmmccgaaInbL
namespace Go.Proofs.Ytnigdgopmmccgaa
open Go.RowKit
set_option linter.unusedVariables false
theorem cn_split (f : Bodies) (n a : Nat) : ∀ m, cn f n (a + m) = cn f n a + cn f (n + a) m
  | 0 => by simp [cn]
  | m + 1 => by rw [← Nat.add_assoc, cn, cn_split f n a m, cn, Nat.add_assoc, Nat.add_assoc]
theorem cn_all (f : Bodies) (n : Nat) : ∀ m, (∀ k, n ≤ k → k < n + m → f k ≠ none) → cn f n m = m
  | 0, _ => rfl
  | m + 1, h => by
    rw [cn, cn_all f n m (fun k h1 h2 => h k h1 (by omega)), if_pos]
    have := h (n + m) (by omega) (by omega)
    cases hf : f (n + m) with
    | none => exact absurd hf this
    | some y => rfl
theorem cn_zero (f : Bodies) (n : Nat) : ∀ m, (∀ k, n ≤ k → k < n + m → f k = none) → cn f n m = 0
  | 0, _ => rfl
  | m + 1, h => by
    rw [cn, cn_zero f n m (fun k h1 h2 => h k h1 (by omega)), h (n + m) (by omega) (by omega)]; rfl
theorem cn_lt {f : Bodies} {n m : Nat} (h : f n = none) (hm : 1 ≤ m) : cn f n m < m := by
  obtain ⟨m, rfl⟩ : ∃ k, m = k + 1 := ⟨m - 1, by omega⟩
  have := cn_le f (n + 1) m
  rw [cn_front, h]; simp; omega
theorem InbAt.held_lt {w : World} {b size : Nat} {f : Bodies} {n hd : Nat} {F : Nat → Prop} (h : InbAt w b size f n hd F) : hd < size := by
  obtain ⟨⟨c, hc⟩, hn⟩ := h
  rw [hc.cnt]
  exact cn_lt hn hc.size_bd.1
theorem InbAt.count {w w' : World} {b size : Nat} {f : Bodies} {n hd n' hd' : Nat} {F F' : Nat → Prop} {seq : Int} {l : List Int} (h : InbAt w b size f n hd F) (h' : InbAt w' b size (nf f n size seq l) n' hd' F')
    (h1 : n ≤ n') (h2 : n' ≤ n + size) (hc : cd f n size seq = 0) : n' + hd' = n + hd + 1 := by
  obtain ⟨c1, c2, c3, c4⟩ := cd_zero hc
  obtain ⟨q, rfl⟩ := Int.eq_ofNat_of_zero_le (show 0 ≤ seq by omega)
  rw [nf_put _ _ _ _ _ hc] at h'
  simp only [Int.toNat_natCast] at h'
  have hfq : f q = none := by simpa [hasI] using c3
  have hnq : n ≤ q := h.next_le (by omega) hfq
  have hcnt := h.cnt
  have hcnt' := h'.cnt
  obtain ⟨⟨c, hh⟩, _⟩ := h
  obtain ⟨⟨c', hh'⟩, _⟩ := h'
  have e1 : cn (put f q l) n size = cn f n size + 1 := cn_put f q l n hfq size hnq (by omega)
  have e2 : cn (put f q l) n (n' - n + size) = cn (put f q l) n (n' - n) + cn (put f q l) n' size := by
    rw [cn_split, Nat.add_sub_cancel' h1]
  have e3 : cn (put f q l) n (n' - n) = n' - n := cn_all _ _ _ (fun k k1 k2 => hh'.low k (by have := hh.n_bd; omega) (by omega))
  have e4 : cn (put f q l) n (size + (n' - n)) = cn (put f q l) n size + 0 := by
    rw [cn_split]
    congr 1
    refine cn_zero _ _ _ (fun k k1 k2 => ?_)
    rw [put_ne _ _ (by omega)]
    exact hh.high k k1
  rw [Nat.add_comm size, e2, e3] at e4
  omega
theorem cd_cases (f : Bodies) (n size : Nat) (seq : Int) : (cd f n size seq = 0 ∧ hasI f seq = false) ∨ (cd f n size seq = 7 ∧ hasI f seq = true) ∨ (cd f n size seq ≠ 0 ∧ cd f n size seq ≠ 7) := by
  unfold cd
  split
  · right; right; omega
  · split
    · rename_i h; right; left; exact ⟨rfl, h⟩
    · rename_i h
      split
      · right; right; omega
      · left; exact ⟨rfl, by simpa using h⟩
theorem cd_bd (f : Bodies) (n size : Nat) (seq : Int) : 0 ≤ cd f n size seq ∧ cd f n size seq ≤ 8 := by
  unfold cd
  split
  · omega
  · split
    · omega
    · split <;> omega

/-- The statement's note of which thing brought a number's first body. -/
def FirstI (f : Bodies) (l : List (Int × List Int)) (i : Nat) (fs : Nat → Int) : Prop :=
  ∀ q, 1 ≤ q → q < 400 → (f q = none → fs q = 0) ∧ ∀ y, f q = some y → ∃ j, j < i ∧ fs q = (j : Int) + 1 ∧ y = (l.getD j (0, [])).2
theorem FirstI.start (l : List (Int × List Int)) : FirstI (fun _ => none) l 0 (fun _ => 0) := fun q _ _ => ⟨fun _ => rfl, fun y h => by cases h⟩
theorem FirstI.keep {f : Bodies} {l : List (Int × List Int)} {i : Nat} {fs : Nat → Int} (h : FirstI f l i fs) : FirstI f l (i + 1) fs := fun q h1 h2 =>
  ⟨(h q h1 h2).1, fun y hy => by obtain ⟨j, k1, k2⟩ := (h q h1 h2).2 y hy; exact ⟨j, by omega, k2⟩⟩
theorem FirstI.more {f : Bodies} {l : List (Int × List Int)} {i : Nat} {fs fs' : Nat → Int} (h : FirstI f l i fs) (q : Nat) (hf : ∀ k, k ≠ q → fs' k = fs k) (hq : q < 400 → fs' q = (i : Int) + 1) : FirstI (put f q (l.getD i (0, [])).2) l (i + 1) fs' := fun k h1 h2 => by
  by_cases hk : k = q
  · subst hk
    rw [put_same]
    refine ⟨fun e => (by cases e), fun y e => ?_⟩
    obtain rfl := Option.some.inj e
    exact ⟨i, by omega, hq h2, rfl⟩
  · rw [put_ne _ _ hk, hf k hk]
    exact h.keep k h1 h2
end Go.Proofs.Ytnigdgopmmccgaa
