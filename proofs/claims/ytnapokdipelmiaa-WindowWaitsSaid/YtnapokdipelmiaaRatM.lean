/- Package ratio: Mean. -/
import Derived.Test.YtnapokdipelmiaaRatB
namespace Go.Proofs.Ytnapokdipelmiaa
open Go.RowKit Flt
set_option linter.unusedVariables false
theorem Flt.add_some {x y r : Nat} (h : Ieee.double.add x y = some r) : nanb r = false := by
  rcases cases3 x with hx | hx | hx
  · rw [add_nan (.inl hx)] at h; cases h
  · rcases cases3 y with hy | hy | hy
    · rw [add_nan (.inr hy)] at h; cases h
    · rcases add_inf_inf hx hy with ⟨_, e⟩ | ⟨_, q, e, hq, _⟩
      · rw [e] at h; cases h
      · rw [e] at h; cases h; exact hq
    · obtain ⟨q, e, hq, _⟩ := add_inf_left hx hy
      rw [e] at h; cases h; exact hq
  · rcases cases3 y with hy | hy | hy
    · rw [add_nan (.inr hy)] at h; cases h
    · obtain ⟨q, e, hq, _⟩ := add_inf_right hx hy
      rw [e] at h; cases h; exact hq
    · obtain ⟨q, e, hq, _⟩ := add_fin hx hy
      rw [e] at h; cases h; exact hq
theorem Flt.sub_nan {x y : Nat} (h : nanb x = true ∨ nanb y = true) : Ieee.double.sub x y = none := by
  unfold Ieee.Format.sub
  rcases h with h | h
  · rw [read_nan h]; rfl
  · rw [read_nan h]; cases Ieee.double.read x <;> rfl
def meanX (old now part : Nat) : Option Nat := (Ieee.double.sub now old).bind fun g => (Ieee.double.mul part g).bind fun p => Ieee.double.add old p
def meanF (old now part : Nat) : Nat := if nanb old then now else match meanX old now part with
  | some x => x
  | none => if nanb now then old else now
theorem mean_any (old now part : Nat) (w : World) : Calls Try.prog 25 #[.float .f64 old, .float .f64 now, .float .f64 part] w fun e w' => e = .returned (.float .f64 (meanF old now part)) ∧ ∃ k, w' = w.drewN k := by
  have g0 := ord_nan old
  cases hn : nanb old
  · rw [hn] at g0
    obtain ⟨g, k1, h1, a1, a2⟩ := bits_arith .sub 49 now old w (by simp)
    obtain ⟨p, k2, h2, b1, b2⟩ := bits_arith .mul 49 part g (w.drewN k1) (by simp)
    obtain ⟨x, k3, h3, c1, c2⟩ := bits_arith .add 49 old p (w.drewN (k1 + k2)) (by simp)
    have hx : (meanX old now part = some x ∧ nanb x = false) ∨ (meanX old now part = none ∧ nanb x = true) := by
      unfold meanX
      have ha : floatBits .sub .f64 now old = Ieee.double.sub now old := rfl
      have hb : floatBits .mul .f64 part g = Ieee.double.mul part g := rfl
      have hc : floatBits .add .f64 old p = Ieee.double.add old p := rfl
      rw [ha] at a1 a2
      rw [hb] at b1 b2
      rw [hc] at c1 c2
      cases hs : Ieee.double.sub now old with
      | none => exact .inr ⟨rfl, c2 (add_nan (.inr (b2 (mul_nan (.inr (a2 hs))))))⟩
      | some q =>
        obtain ⟨rfl, _⟩ := a1 q hs
        show (Option.bind (Ieee.double.mul part g) _ = _ ∧ _) ∨ (Option.bind (Ieee.double.mul part g) _ = _ ∧ _)
        cases hm : Ieee.double.mul part g with
        | none => exact .inr ⟨rfl, c2 (add_nan (.inr (b2 hm)))⟩
        | some q =>
          obtain ⟨rfl, _⟩ := b1 q hm
          show (Ieee.double.add old p = _ ∧ _) ∨ (Ieee.double.add old p = _ ∧ _)
          cases hd : Ieee.double.add old p with
          | none => exact .inr ⟨rfl, c2 hd⟩
          | some q => obtain ⟨rfl, _⟩ := c1 q hd; exact .inl ⟨rfl, add_some hd⟩
    clear a1 a2 b1 b2 c1 c2
    have g1 := ord_eq x x
    have g2 := ord_eq now now
    rcases hx with ⟨hx, hnx⟩ | ⟨hx, hnx⟩
    · have e : meanF old now part = x := by unfold meanF; rw [hn, hx]; rfl
      rw [hnx] at g1
      simp only [Bool.not_false, Bool.true_and, decide_true] at g1
      rw [e]
      clear e hx
      go_enter Try.func25, Try.ntmps25
      go_wp2
      go_ret
      exact ⟨rfl, _, rfl⟩
    · rw [hnx] at g1
      simp only [Bool.not_true, Bool.false_and] at g1
      cases hw : nanb now
      · have e : meanF old now part = now := by unfold meanF; rw [hn, hx]; simp [hw]
        rw [hw] at g2
        simp only [Bool.not_false, Bool.true_and, decide_true] at g2
        rw [e]
        clear e hx
        go_enter Try.func25, Try.ntmps25
        go_wp2
        go_ret
        exact ⟨rfl, _, rfl⟩
      · have e : meanF old now part = old := by unfold meanF; rw [hn, hx]; simp [hw]
        rw [hw] at g2
        simp only [Bool.not_true, Bool.false_and] at g2
        rw [e]
        clear e hx
        go_enter Try.func25, Try.ntmps25
        go_wp2
        go_ret
        exact ⟨rfl, _, rfl⟩
  · rw [hn] at g0
    have e : meanF old now part = now := by unfold meanF; rw [hn]; rfl
    rw [e]
    go_enter Try.func25, Try.ntmps25
    go_wp2
    go_ret
    exact ⟨rfl, 0, rfl⟩
end Go.Proofs.Ytnapokdipelmiaa
