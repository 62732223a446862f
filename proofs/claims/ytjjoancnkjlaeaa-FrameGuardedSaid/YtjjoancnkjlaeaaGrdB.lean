/- Chapter 04: Check, the code's and the document's, at any bytes. -/
import Derived.Test.YtjjoancnkjlaeaaGrdR
import Derived.Test.YtjjoancnkjlaeaaOver
namespace Go.Proofs.Ytjjoancnkjlaeaa
open Go.RowKit
set_option linter.unusedVariables false
/-- What bytes guard, and the error. -/
def chk (l : List Int) : List Int := if ok4 l then l.take (l.length - 4) else []
def ck (l : List Int) : Int := if ok4 l then 0 else 4
theorem ok4_short {l : List Int} (h : l.length < 4) : ok4 l = false := by
  unfold ok4; simp; omega
theorem chk_len (l : List Int) : (chk l).length ≤ l.length := by
  unfold chk; split
  · simp
  · simp
theorem gcheck (a : Option Addr) (cap : Nat) (l : List Int) (w : World) (h : RdB w a l) (hl : l.length ≤ 100000000) (hcap : l.length ≤ cap) (hcm : cap ≤ maxLen) :
    Calls Try.prog 25 #[.slice a l.length cap] w fun e w' => ∃ v, e = .returned (.tuple #[v, .int .i64 (ck l)]) ∧ OwnB w' v (chk l) ∧ (∀ g, v.ownBlock = some g → w.heap.size ≤ g) ∧ Kp (fun _ => False) w w' := by
  by_cases h4 : 4 ≤ l.length
  · refine (check_any a cap l w h hl hcap hcm h4).mono ?_
    rintro e w' ⟨v, k, rfl, hk, hg, ⟨h1, rfl, h2⟩ | ⟨h1, rfl, rfl⟩⟩
    · exact ⟨v, by rw [ck, h1]; rfl, by rw [chk, h1]; exact h2, hg, hk⟩
    · exact ⟨_, by rw [ck, h1]; rfl, by rw [chk, h1]; exact OwnB.nil w', hg, hk⟩
  · have h1 := ok4_short (l := l) (by omega)
    refine (check_short a cap l w (by omega)).mono ?_
    rintro e w' ⟨rfl, rfl⟩
    exact ⟨_, by rw [ck, h1]; rfl, by rw [chk, h1]; exact OwnB.nil w, fun g hg => by simp [Value.ownBlock] at hg, Kp.refl _ _⟩
theorem rcheck (a : Option Addr) (cap : Nat) (l : List Int) (w : World) (h : RdB w a l) (hl : l.length ≤ 100000000) (hcap : l.length ≤ cap) (hcm : cap ≤ maxLen) :
    Calls Try.prog 36 #[.slice a l.length cap] w fun e w' => ∃ v, e = .returned (.tuple #[v, .int .i64 (ck l)]) ∧ OwnB w' v (chk l) ∧ (∀ g, v.ownBlock = some g → w.heap.size ≤ g) ∧ Kp (fun _ => False) w w' := by
  by_cases h4 : 4 ≤ l.length
  · refine (rcheck_any a cap l w h hl hcap hcm h4).mono ?_
    rintro e w' ⟨v, k, rfl, hk, hg, ⟨h1, rfl, h2⟩ | ⟨h1, rfl, rfl⟩⟩
    · exact ⟨v, by rw [ck, h1]; rfl, by rw [chk, h1]; exact h2, hg, hk⟩
    · exact ⟨_, by rw [ck, h1]; rfl, by rw [chk, h1]; exact OwnB.nil w', hg, hk⟩
  · have h1 := ok4_short (l := l) (by omega)
    refine (rcheck_short a cap l w (by omega)).mono ?_
    rintro e w' ⟨rfl, rfl⟩
    exact ⟨_, by rw [ck, h1]; rfl, by rw [chk, h1]; exact OwnB.nil w, fun g hg => by simp [Value.ownBlock] at hg, Kp.refl _ _⟩
end Go.Proofs.Ytjjoancnkjlaeaa
