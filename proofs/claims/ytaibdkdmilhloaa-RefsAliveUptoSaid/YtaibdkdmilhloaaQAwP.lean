/- The document's examples, plain: the manifests, the packs, and what is told of them. -/
import Derived.Test.YtaibdkdmilhloaaQNmM
import Derived.Test.YtaibdkdmilhloaaQChs
import Derived.Test.YtaibdkdmilhloaaQCnt
import Derived.Test.YtaibdkdmilhloaaQIdE
import Derived.Test.YtaibdkdmilhloaaQIdX
import Derived.Test.YtaibdkdmilhloaaQLaw
import Derived.Test.YtaibdkdmilhloaaQRtQ
import Derived.Test.YtaibdkdmilhloaaQSmf
namespace Go.Proofs.Ytaibdkdmilhloaa
open Go.RowKit
set_option linter.unusedVariables false
set_option linter.unusedSimpArgs false
/-- The example's manifests. -/
def msA : List (List (List Id)) := [[[idk 1, idk 2, idk 1]], [[idk 2, idk 3]]]
theorem bs3 (w : World) : (Instr.buildSlice 34 3 #[(0, idV (idk 1)), (1, idV (idk 2)), (2, idV (idk 1))]).run Try.prog w = .ok (.slice (some ⟨w.heap.size, 0, none⟩) 3 3) (w.alloc (.cells (idC [idk 1, idk 2, idk 1]).toArray 41)) :=
  bs_ids (l := [idk 1, idk 2, idk 1]) (by intro x hx; simp at hx; rcases hx with rfl | rfl | rfl <;> rfl) (by simp) (by simp) w
theorem bs2 (x y : Id) (hx : x.length = 16) (hy : y.length = 16) (w : World) : (Instr.buildSlice 34 2 #[(0, idV x), (1, idV y)]).run Try.prog w = .ok (.slice (some ⟨w.heap.size, 0, none⟩) 2 2) (w.alloc (.cells (idC [x, y]).toArray 41)) :=
  bs_ids (l := [x, y]) (by intro z hz; simp at hz; rcases hz with rfl | rfl <;> assumption) (by simp) (by simp) w
/-- A new block of IDs reads as these. -/
theorem rdi_new {l : List Id} (hl : Ids l) (w : World) (T : TypeId) : RdI (w.alloc (.cells (idC l).toArray T)) (some ⟨w.heap.size, 0, none⟩) l := ⟨hl, fun i hi => ⟨w.heap.size, 0, rfl, fun j v hv => by
  have hx := hl.idn hi
  have hj : j < 16 := by have := (List.getElem?_eq_some_iff.1 hv).1; rw [idW_len, hx] at this; exact this
  have h := (At.new w (idC l) T).cell (i * 16 + j)
  rw [idC_get hl i j hi hj, hv] at h
  rw [show 0 + i * 16 + j = i * 16 + j by omega]
  exact h⟩⟩
/-- Who is in order is so in one way. -/
theorem sorted_is {l : List Pk} {W V : List Nat} (hW : ∀ P, Prts P l → W.Pairwise (Rr (ltF P))) (hp : W.Perm (List.range l.length)) (hV : V.length = l.length)
    (hc : (List.range l.length).all (fun k => (List.range l.length).any fun i => rank (l.map canP) i l.length == k && V[k]? == some i) = true) : W = V := by
  have hP : Prts (l.map canP) l := ⟨by simp, fun i hi => .inl (by simp [List.getD_eq_getElem?_getD, hi, pkn])⟩
  have hw := hW _ hP
  have hl : W.length = l.length := by rw [hp.length_eq, List.length_range]
  apply List.ext_getElem?
  intro k
  by_cases hk : k < l.length
  · have h1 := List.all_eq_true.1 hc k (by simpa using hk)
    obtain ⟨i, hi, h2⟩ := List.any_eq_true.1 h1
    simp only [Bool.and_eq_true, beq_iff_eq] at h2
    have h3 := rank_at hw (by simpa using hp) i (by simpa using hi)
    rw [show (l.map canP).length = l.length by simp, h2.1] at h3
    rw [h3, h2.2]
  · rw [List.getElem?_eq_none (by omega), List.getElem?_eq_none (by omega)]
/-- The example's packs. -/
def pkA : List Pk := [⟨1, 100, 25⟩, ⟨2, 100, 50⟩]
theorem chosenA {W : List Nat} (hW : ∀ P, Prts P pkA → W.Pairwise (Rr (ltF P))) (hp : W.Perm (List.range 2)) : chosenL pkA 4598175219545276416 9 W = [2, 1] := by
  rw [sorted_is (V := [1, 0]) hW hp rfl (by decide +kernel)]
  decide +kernel
theorem rdp_new (w : World) : RdP (w.alloc (.cells #[.int .i64 1, .int .i64 100, .int .i64 25, .int .i64 2, .int .i64 100, .int .i64 50] 27)) (some ⟨w.heap.size, 0, none⟩) pkA := fun i hi => by
  have A := At.new w [.int .i64 1, .int .i64 100, .int .i64 25, .int .i64 2, .int .i64 100, .int .i64 50] 27
  have hi : i < 2 := hi
  rcases (by omega : i = 0 ∨ i = 1) with rfl | rfl
  · exact ⟨w.heap.size, 0, rfl, A.cell 0, A.cell 1, A.cell 2⟩
  · exact ⟨w.heap.size, 0, rfl, A.cell 3, A.cell 4, A.cell 5⟩
theorem rdi_one (x : Id) (hx : x.length = 16) (w : World) : RdI (w.alloc (.cells (idB x) 41)) (some ⟨w.heap.size, 0, none⟩) [x] := by
  have h := rdi_new (l := [x]) (by intro y hy; simp at hy; subst hy; exact hx) w 41
  simpa [idC, idB] using h
theorem rdi_two (x y : Id) (hx : x.length = 16) (hy : y.length = 16) (w : World) : RdI (w.alloc (.cells (idC [x, y]).toArray 41)) (some ⟨w.heap.size, 0, none⟩) [x, y] :=
  rdi_new (l := [x, y]) (by intro z hz; simp at hz; rcases hz with rfl | rfl <;> assumption) w 41
end Go.Proofs.Ytaibdkdmilhloaa
