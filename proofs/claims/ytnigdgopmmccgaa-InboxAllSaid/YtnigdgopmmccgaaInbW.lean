/- InboxAll: what comes in; the sum of lengths. -/
import Derived.Test.YtnigdgopmmccgaaInbS
import Derived.Test.YtnigdgopmmccgaaPick
namespace Go.Proofs.Ytnigdgopmmccgaa
open Go.RowKit
set_option linter.unusedVariables false
theorem rdl_open {w : World} {cs : List Value} (h : Rdg Try.prog w 35 cs) : ∃ a l cap, cs = [.slice a l.length cap] ∧ RdL w a l ∧ l.length ≤ 140737488351232 ∧ ∀ i, (l.getD i []).length ≤ 140737488351232 := by
  have hC : Try.prog.cellsOf 31 = 1 := by kernel_rfl
  have hB : Try.prog.bytesOf 31 = 24 := by kernel_rfl
  have hC5 : Try.prog.cellsOf 5 = 1 := by kernel_rfl
  have hB5 : Try.prog.bytesOf 5 = 1 := by kernel_rfl
  obtain ⟨a, len, cap, rfl, hle, hm, hb, hi⟩ := h.slice Try.underlying35 (by rw [hC]; omega)
  rw [hB] at hb
  obtain ⟨l, hlen, hp⟩ := list_of (α := List Int) len (fun i x => ∃ b off ai ci, a = some ⟨b, off, none⟩ ∧ w.cell? ⟨b, off + i, none⟩ = some (.slice ai x.length ci) ∧ RdB w ai x ∧ x.length ≤ ci ∧ ci ≤ 140737488351232) (fun i hil => by
    obtain ⟨b, off, cs', ha, _, hlc, hc, hr⟩ := hi i (by omega)
    obtain ⟨ai, li, ci, rfl, hrd, hl1, hl2⟩ := hr.bytes Try.underlying31 Try.underlying5 hC5 hB5
    have c0 := hc 0 (by omega)
    rw [hC, Nat.mul_one, Nat.add_zero] at c0
    exact ⟨li, b, off, ai, ci, ha, c0, hrd, hl1, hl2⟩)
  subst hlen
  refine ⟨a, l, cap, rfl, fun i hi => ?_, by omega, fun i => ?_⟩
  · obtain ⟨b, off, ai, ci, h1, h2, h3, h4, _⟩ := hp i hi []
    exact ⟨b, off, ai, ci, h1, h2, h3, h4⟩
  · rcases Nat.lt_or_ge i l.length with hi | hi
    · obtain ⟨b, off, ai, ci, h1, h2, h3, h4, h5⟩ := hp i hi []
      omega
    · rw [List.getD_eq_getElem?_getD, List.getElem?_eq_none hi]; simp
/-- The slice reads as these ints. -/
def RdI (w : World) (a : Option Addr) (l : List Int) : Prop :=
  ∀ i, i < l.length → ∃ b off, a = some ⟨b, off, none⟩ ∧ w.cell? ⟨b, off + i, none⟩ = some (.int .i64 (l.getD i 0)) ∧ -9223372036854775808 ≤ l.getD i 0 ∧ l.getD i 0 ≤ 9223372036854775807
theorem RdI.kp0 {S : Nat → Prop} {w w' : World} {a : Option Addr} {l : List Int} (h : RdI w a l) (hk : Kp S w w') (hs : ∀ i, i < w.heap.size → ¬ S i) : RdI w' a l := fun i hi => by
  obtain ⟨b, off, ha, hc, hr⟩ := h i hi
  exact ⟨b, off, ha, hk.cell (p := ⟨b, off + i, none⟩) hc (hs b (World.block_lt_of_cell? w _ hc)), hr⟩
theorem rdi_open {w : World} {cs : List Value} (h : Rdg Try.prog w 53 cs) : ∃ a l cap, cs = [.slice a l.length cap] ∧ RdI w a l ∧ l.length ≤ 140737488351232 := by
  have hC : Try.prog.cellsOf 3 = 1 := by kernel_rfl
  have hB : Try.prog.bytesOf 3 = 8 := by kernel_rfl
  obtain ⟨a, len, cap, rfl, hle, hm, hb, hi⟩ := h.slice Try.underlying53 (by rw [hC]; omega)
  rw [hB] at hb
  obtain ⟨l, hlen, hp⟩ := list_of (α := Int) len (fun i x => ∃ b off, a = some ⟨b, off, none⟩ ∧ w.cell? ⟨b, off + i, none⟩ = some (.int .i64 x) ∧ -9223372036854775808 ≤ x ∧ x ≤ 9223372036854775807) (fun i hil => by
    obtain ⟨b, off, cs', ha, _, hlc, hc, hr⟩ := hi i (by omega)
    obtain ⟨n, rfl, hwf⟩ := hr.int Try.underlying3
    have c0 := hc 0 (by omega)
    rw [hC, Nat.mul_one, Nat.add_zero] at c0
    refine ⟨n, b, off, ha, c0, ?_⟩
    simp [Lit.wf, IntKind.min, IntKind.max, IntKind.signed, IntKind.bits] at hwf
    omega)
  subst hlen
  exact ⟨a, l, cap, rfl, fun i hi => hp i hi 0, by omega⟩
def tl : List (List Int) → Int
  | [] => 0
  | x :: r => x.length + tl r
theorem tl_append (a b : List (List Int)) : tl (a ++ b) = tl a + tl b := by
  induction a with
  | nil => simp [tl]
  | cons x r ih => rw [List.cons_append, tl, tl, ih]; omega
theorem tl_nn : ∀ l : List (List Int), 0 ≤ tl l
  | [] => by simp [tl]
  | x :: r => by have := tl_nn r; rw [tl]; omega
theorem tl_mem {l : List (List Int)} : ∀ x ∈ l, (x.length : Int) ≤ tl l := by
  induction l with
  | nil => intro x hx; simp at hx
  | cons y r ih =>
    intro x hx
    have := tl_nn r
    rcases List.mem_cons.1 hx with rfl | hx
    · rw [tl]; omega
    · have := ih x hx; rw [tl]; omega
theorem tl_getD {l : List (List Int)} (h : tl l ≤ 1000) (i : Nat) : (l.getD i []).length ≤ 1000 := by
  rcases Nat.lt_or_ge i l.length with hi | hi
  · have := tl_mem (l := l) _ (List.getElem_mem hi)
    rw [List.getD_eq_getElem?_getD, List.getElem?_eq_getElem hi]
    simp only [Option.getD_some]
    omega
  · rw [List.getD_eq_getElem?_getD, List.getElem?_eq_none hi]; simp
theorem cd_left {f : Bodies} {n s q : Nat} (h1 : 1 ≤ q) (h2 : q < 2147483647) (hf : f q = none) : cd f n s q = 0 ∨ (cd f n s q = 8 ∧ n + s ≤ q) := by
  unfold cd
  rw [if_neg (by omega)]
  have : hasI f q = false := by simp [hasI, hf]
  rw [this]
  simp only [Bool.false_eq_true, if_false]
  by_cases h : (n + s : Int) ≤ q
  · rw [if_pos h]; right; exact ⟨rfl, by omega⟩
  · rw [if_neg h]; left; rfl
end Go.Proofs.Ytnigdgopmmccgaa
