/- Package ratio: Pick; slices of floats. -/
import Derived.Test.YtdeallaohfbceaaRatB
import Derived.WalkKit
namespace Go.Proofs.Ytdeallaohfbceaa
open Go.RowKit Flt
set_option linter.unusedVariables false
/-- the first place of the first k floats -/
def pickAt (l : List Nat) : Nat → Int
  | 0 => -1
  | k + 1 => if pickAt l k < 0 ∨ bef (l.getD k 0) (l.getD (pickAt l k).toNat 0) = true then k else pickAt l k
theorem pickAt_bd (l : List Nat) (k : Nat) : (k = 0 → pickAt l k = -1) ∧ (0 < k → 0 ≤ pickAt l k ∧ pickAt l k < k) := by
  induction k with
  | zero => exact ⟨fun _ => rfl, fun h => by omega⟩
  | succ k ih =>
    refine ⟨fun h => by omega, fun _ => ?_⟩
    show 0 ≤ (if pickAt l k < 0 ∨ bef (l.getD k 0) (l.getD (pickAt l k).toNat 0) = true then (k : Int) else pickAt l k) ∧ (if pickAt l k < 0 ∨ bef (l.getD k 0) (l.getD (pickAt l k).toNat 0) = true then (k : Int) else pickAt l k) < ((k + 1 : Nat) : Int)
    split
    · omega
    · rename_i h
      rcases Nat.eq_zero_or_pos k with g | g
      · rw [ih.1 g] at h; exact absurd (Or.inl (by decide)) h
      · have := ih.2 g; omega
def RdF (w : World) (a : Option Addr) (l : List Nat) : Prop := ∀ i, i < l.length → ∃ b off, a = some ⟨b, off, none⟩ ∧ w.cell? ⟨b, off + i, none⟩ = some (.float .f64 (l.getD i 0))
theorem RdF.kp0 {S : Nat → Prop} {w w' : World} {a : Option Addr} {l : List Nat} (h : RdF w a l) (hk : Kp S w w') (hs : ∀ i, i < w.heap.size → ¬ S i) : RdF w' a l := fun i hi => by
  obtain ⟨b, off, e, hc⟩ := h i hi
  have hlt : b < w.heap.size := by
    rcases Nat.lt_or_ge b w.heap.size with g | g
    · exact g
    · exfalso; unfold World.cell? at hc; simp [Array.getElem?_eq_none g] at hc
  exact ⟨b, off, e, hk.cell hc (hs b hlt)⟩
theorem pick_any (a : Option Addr) (c : Nat) (l : List Nat) (w : World) (h : RdF w a l) (hl : l.length ≤ 1000000) : Calls Try.prog 21 #[.slice a l.length c] w fun e w' => e = .returned (.int .i64 (pickAt l l.length)) ∧ w = w' := by
  have C := Lib.hid (fun x y w' => before_any x y w')
  go_enter Try.func21, Try.ntmps21
  go_wp2
  go_loop [3, 8] (fun b i => ∃ k : Nat, k ≤ l.length ∧ i = .int .i64 k ∧ b = .int .i64 (pickAt l k)) (fun _ i => l.length - (intOf i).toNat)
  case atStart => exact ⟨0, by omega, rfl, rfl⟩
  case round =>
    obtain ⟨k, hk, rfl, rfl⟩ := hrel
    obtain ⟨hb0, hb1⟩ := pickAt_bd l k
    by_cases hkl : k = l.length
    · subst hkl
      clear hb0 hb1 h
      go_wp2
      go_ret
      exact ⟨rfl, rfl⟩
    · have hk' : k < l.length := by omega
      obtain ⟨b, off, rfl, hc⟩ := h k hk'
      have HP : Hid (pickAt l (k + 1) = if pickAt l k < 0 ∨ bef (l.getD k 0) (l.getD (pickAt l k).toNat 0) = true then (k : Int) else pickAt l k) := rfl
      have i1 : (k : Int) < l.length := by omega
      rcases Nat.eq_zero_or_pos k with g | g
      · have e : pickAt l k = -1 := hb0 g
        rw [e] at HP ⊢
        rw [if_pos (Or.inl (by decide))] at HP
        subst g
        rw [Nat.add_zero] at hc
        clear hb0 hb1 h
        go_wp2
        go_roundw
        case rel => exact ⟨1, by omega, rfl, by rw [HP.out]⟩
        case measure => simp [intOf]; omega
      · obtain ⟨q1, q2⟩ := hb1 g
        obtain ⟨j, hj⟩ := Int.eq_ofNat_of_zero_le q1
        rw [hj] at HP q2 ⊢
        have hjl : j < l.length := by omega
        obtain ⟨b', off', e', hc2⟩ := h j hjl
        simp only [Option.some.injEq, Addr.mk.injEq, and_true] at e'
        obtain ⟨rfl, rfl⟩ := e'
        rw [Int.toNat_natCast] at HP
        generalize l.getD k 0 = x at *
        generalize l.getD j 0 = y at *
        have CB := Lib.hid (fun w' => before_any x y w')
        have i2 : (j : Int) < l.length := by omega
        cases hB : bef x y
        · rw [hB] at CB HP
          rw [if_neg (by simp)] at HP
          clear hb0 hb1 h C hB
          go_wp2_with (go_at_call 11; refine (CB.out _).mono ?_; rintro e w1 ⟨rfl, rfl⟩)
          go_roundw
          case rel => exact ⟨k + 1, by omega, by go_num, by rw [HP.out]⟩
          case measure => simp [intOf]; omega
        · rw [hB] at CB HP
          rw [if_pos (Or.inr rfl)] at HP
          clear hb0 hb1 h C hB
          go_wp2_with (go_at_call 11; refine (CB.out _).mono ?_; rintro e w1 ⟨rfl, rfl⟩)
          go_roundw
          case rel => exact ⟨k + 1, by omega, by go_num, by rw [HP.out]⟩
          case measure => simp [intOf]; omega
end Go.Proofs.Ytdeallaohfbceaa
