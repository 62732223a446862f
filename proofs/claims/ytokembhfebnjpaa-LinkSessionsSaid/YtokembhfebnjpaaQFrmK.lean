/- Package frame: Read, of any bytes. -/
import Derived.Test.YtokembhfebnjpaaQFrmI
namespace Go.Proofs.Ytokembhfebnjpaa
set_option maxRecDepth 20000
open Go.RowKit
set_option linter.unusedVariables false
theorem ex_1 {x : List Int} (h : x.getD 0 0 ≠ 83) : errX x = 211 := by unfold errX; rw [if_pos (Or.inl h)]
theorem ex_1b {x : List Int} (h : x.getD 1 0 ≠ 75) : errX x = 211 := by unfold errX; rw [if_pos (Or.inr h)]
theorem ex_2 {x : List Int} (h4 : x.getD 0 0 = 83) (h5 : x.getD 1 0 = 75) (h6 : x.getD 2 0 ≠ 1) : errX x = 212 := by
  unfold errX; rw [if_neg (by rintro (h | h); exact h h4; exact h h5), if_pos h6]
theorem ex_3 {x : List Int} (h4 : x.getD 0 0 = 83) (h5 : x.getD 1 0 = 75) (h6 : x.getD 2 0 = 1) (h7 : ¬ typedP (x.getD 3 0)) : errX x = 213 := by
  unfold errX; rw [if_neg (by rintro (h | h); exact h h4; exact h h5), if_neg (fun h => h h6), if_pos (show ¬ typedP (parse x).ty from h7)]
/-- What a Read gives: the frame and the error, in memory that is new, or none. -/
def RdOut (l : List Int) (w : World) (e : Ending) (w' : World) : Prop :=
  ∃ A c, e = .returned (.tuple #[.agg (frA (frR l) A c), .int .i64 (errR l)]) ∧ RdB w' A (frR l).bd ∧ (∀ g, (Value.slice A 0 c).ownBlock = some g → w.heap.size ≤ g) ∧ Kp (fun _ => False) w w'
theorem rdout_bad {l : List Int} {w : World} {k : Int} (he : errR l = k) (h0 : k ≠ 0) {e : Ending} {w' : World} (h : e = .returned (.tuple #[.agg (frA zF none 0), .int .i64 k]) ∧ Kp (fun _ => False) w w') : RdOut l w e w' := by
  have hf : frR l = zF := by unfold frR; rw [he, if_neg h0]
  unfold RdOut
  rw [hf, he]
  exact ⟨none, 0, h.1, RdB.nil _ _, fun g hg => by simp [Value.ownBlock] at hg, h.2⟩
theorem errR_x {l : List Int} (h1 : ¬ (1426 : Int) < l.length) (h2 : ¬ (l.length : Int) < 26) (h3 : ck l = 0) : errR l = errX (chk l) := by
  unfold errR; rw [if_neg h1, if_neg h2, if_neg (fun h => h h3)]
theorem fread_any (a : Option Addr) (cap : Nat) (l : List Int) (w : World) (h : RdB w a l) (hl : l.length ≤ 100000000) (hcap : l.length ≤ cap) (hcm : cap ≤ maxLen) :
    Calls Try.prog 32 #[.slice a l.length cap] w (RdOut l w) := by
  by_cases h1 : (1426 : Int) < l.length
  · exact (fread_long a cap l w h1 hl).mono fun e w' => rdout_bad (by unfold errR; rw [if_pos h1]) (by decide)
  by_cases h2 : (l.length : Int) < 26
  · exact (fread_short a cap l w h2).mono fun e w' => rdout_bad (by unfold errR; rw [if_neg h1, if_pos h2]) (by decide)
  by_cases h3 : ck l = 0
  · have he := errR_x h1 h2 h3
    by_cases h4 : (chk l).getD 0 0 = 83
    · by_cases h5 : (chk l).getD 1 0 = 75
      · by_cases h6 : (chk l).getD 2 0 = 1
        · by_cases h7 : typedP ((chk l).getD 3 0)
          · have := fread_rest a cap l w h hcap hcm h1 h2 h3 h4 h5 h6 h7
            rw [← he] at this
            exact this
          · exact (fread_t a cap l w h hcap hcm h1 h2 h3 h4 h5 h6 h7).mono fun e w' => rdout_bad (he.trans (ex_3 h4 h5 h6 h7)) (by decide)
        · exact (fread_v a cap l w h hcap hcm h1 h2 h3 h4 h5 h6).mono fun e w' => rdout_bad (he.trans (ex_2 h4 h5 h6)) (by decide)
      · exact (fread_m1 a cap l w h hcap hcm h1 h2 h3 h4 h5).mono fun e w' => rdout_bad (he.trans (ex_1b h5)) (by decide)
    · exact (fread_m0 a cap l w h hcap hcm h1 h2 h3 h4).mono fun e w' => rdout_bad (he.trans (ex_1 h4)) (by decide)
  · exact (fread_sum a cap l w h hcap hcm h1 h2 h3).mono fun e w' => rdout_bad (by unfold errR; rw [if_neg h1, if_neg h2, if_pos h3]) (by decide)
end Go.Proofs.Ytokembhfebnjpaa
