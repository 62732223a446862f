/- Slices of ints that come in. (Written by wip/chkpieces.py.) -/
import Derived.Test.YtokembhfebnjpaaQBsM
import Derived.Test.YtokembhfebnjpaaQPick
namespace Go.Proofs.Ytokembhfebnjpaa
set_option maxRecDepth 20000
open Go.RowKit
set_option linter.unusedVariables false
/-- The slice reads as these ints. -/
def Rdi (w : World) (a : Option Addr) (l : List Int) : Prop :=
  ∀ i, i < l.length → ∃ b off, a = some ⟨b, off, none⟩ ∧ w.cell? ⟨b, off + i, none⟩ = some (.int .i64 (l.getD i 0)) ∧ -9223372036854775808 ≤ l.getD i 0 ∧ l.getD i 0 ≤ 9223372036854775807
theorem Rdi.kp0 {S : Nat → Prop} {w w' : World} {a : Option Addr} {l : List Int} (h : Rdi w a l) (hk : Kp S w w') (hs : ∀ i, i < w.heap.size → ¬ S i) : Rdi w' a l := fun i hi => by
  obtain ⟨b, off, ha, hc, hr⟩ := h i hi
  exact ⟨b, off, ha, hk.cell (p := ⟨b, off + i, none⟩) hc (hs b (World.block_lt_of_cell? w _ hc)), hr⟩
theorem rdi_in {w : World} {cs : List Value} (h : Rdg Try.prog w 50 cs) : ∃ a l cap, cs = [.slice a l.length cap] ∧ Rdi w a l ∧ l.length ≤ 140737488351232 := by
  have hC : Try.prog.cellsOf 3 = 1 := by kernel_rfl
  have hB : Try.prog.bytesOf 3 = 8 := by kernel_rfl
  obtain ⟨a, len, cap, rfl, hle, hm, hb, hi⟩ := h.slice Try.underlying50 (by rw [hC]; omega)
  rw [hB] at hb
  obtain ⟨l, hlen, hp⟩ := list_of (α := Int) len (fun i x => ∃ b off, a = some ⟨b, off, none⟩ ∧ w.cell? ⟨b, off + i, none⟩ = some (.int .i64 x) ∧ -9223372036854775808 ≤ x ∧ x ≤ 9223372036854775807) (fun i hil => by
    obtain ⟨b, off, cs', ha, _, hlc, hc, hr⟩ := hi i (by omega)
    obtain ⟨n, rfl, hwf⟩ := hr.int Try.underlying3
    have c0 := hc 0 (by omega)
    rw [hC, Nat.mul_one, Nat.add_zero] at c0
    refine ⟨n, b, off, ha, c0, ?_⟩
    simp [Lit.wf, IntKind.min, IntKind.max, IntKind.signed, IntKind.bits] at hwf
    omega)
  subst hlen
  exact ⟨a, l, cap, rfl, fun i hi => hp i hi 0, by omega⟩
theorem pick_nat (z : Int) (m : Nat) (hz : -9223372036854775808 ≤ z ∧ z ≤ 9223372036854775807) (hm : 0 < m) (hm2 : m ≤ 100000) : ∃ p : Nat, p < m ∧ ∀ w', Calls Try.prog 23 #[.int .i64 z, .int .i64 m] w' fun e w'' => e = .returned (.int .i64 p) ∧ w' = w'' := by
  have h1 := Int.emod_nonneg z (show (m : Int) ≠ 0 by omega)
  have h2 := Int.emod_lt_of_pos z (show (0 : Int) < m by omega)
  refine ⟨(z % m).toNat, by omega, fun w' => (pick_any z m w' hz (by omega)).mono ?_⟩
  rintro e w'' ⟨rfl, rfl⟩
  exact ⟨by rw [Int.toNat_of_nonneg h1], rfl⟩
end Go.Proofs.Ytokembhfebnjpaa
