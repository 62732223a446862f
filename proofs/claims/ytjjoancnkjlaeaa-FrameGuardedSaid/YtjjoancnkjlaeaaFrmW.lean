/- Frames: Put, of whatever frame. -/
import Derived.Test.YtjjoancnkjlaeaaFrmV
namespace Go.Proofs.Ytjjoancnkjlaeaa
open Go.RowKit
set_option linter.unusedVariables false
/-- A frame's bytes, where it may be; none where it may not. -/
def putF (f : Fr) : List Int := if errF f = 0 then layF f else []
theorem fput_any (f : Fr) (a : Option Addr) (c : Nat) (w : World) (hI : frI f) (hr : RdB w a f.bd) (hc : f.bd.length ≤ c) (hl : f.bd.length ≤ 4611686018427387904) :
    Calls Try.prog 11 #[.agg (frA f a c)] w fun e w' => ∃ v, e = .returned (.tuple #[v, .int .i64 (errF f)]) ∧ OwnB w' v (putF f) ∧ (∀ g, v.ownBlock = some g → w.heap.size ≤ g) ∧ Kp (fun _ => False) w w' := by
  by_cases he : errF f = 0
  · unfold putF; rw [if_pos he, he]; exact fput_ok f a c w hI hr hc he
  · unfold putF; rw [if_neg he]
    refine (fput_bad f a c w hI hl he).mono ?_
    rintro e w' ⟨rfl, k⟩
    exact ⟨_, rfl, OwnB.nil _, fun g hg => by simp [Value.ownBlock] at hg, k⟩
end Go.Proofs.Ytjjoancnkjlaeaa
