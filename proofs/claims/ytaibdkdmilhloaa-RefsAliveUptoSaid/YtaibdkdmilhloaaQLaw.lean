/- The statements' own chunks and manifests: a, b, c, d, of. -/
import Derived.Test.YtaibdkdmilhloaaQCnt
import Derived.Test.YtaibdkdmilhloaaQIdX
namespace Go.Proofs.Ytaibdkdmilhloaa
open Go.RowKit
set_option linter.unusedVariables false
set_option linter.unusedSimpArgs false
def idk (n : UInt8) : Id := n :: List.replicate 15 0
theorem idk_len (n : UInt8) : (idk n).length = 16 := rfl
theorem a_any (w : World) : Calls Try.prog 30 #[] w fun e w' => e = .returned (idV (idk 1)) ∧ Kp (fun _ => False) w w' := by
  have hi : (Try.prog.info? 41).map (·.size) = some 16 := by kernel_rfl
  go_enter Try.func30, Try.ntmps30
  go_wp2
  exact bodyPost_ret (results_cell_row rfl _ _ w.heap.size 41 _ (0, 0) _ rfl (heap_alloc_new w _) id_und rfl hi) rfl ⟨rfl, (Kp.refl _ w).alloc _⟩
theorem b_any (w : World) : Calls Try.prog 31 #[] w fun e w' => e = .returned (idV (idk 2)) ∧ Kp (fun _ => False) w w' := by
  have hi : (Try.prog.info? 41).map (·.size) = some 16 := by kernel_rfl
  go_enter Try.func31, Try.ntmps31
  go_wp2
  exact bodyPost_ret (results_cell_row rfl _ _ w.heap.size 41 _ (0, 0) _ rfl (heap_alloc_new w _) id_und rfl hi) rfl ⟨rfl, (Kp.refl _ w).alloc _⟩
theorem c_any (w : World) : Calls Try.prog 32 #[] w fun e w' => e = .returned (idV (idk 3)) ∧ Kp (fun _ => False) w w' := by
  have hi : (Try.prog.info? 41).map (·.size) = some 16 := by kernel_rfl
  go_enter Try.func32, Try.ntmps32
  go_wp2
  exact bodyPost_ret (results_cell_row rfl _ _ w.heap.size 41 _ (0, 0) _ rfl (heap_alloc_new w _) id_und rfl hi) rfl ⟨rfl, (Kp.refl _ w).alloc _⟩
theorem d_any (w : World) : Calls Try.prog 33 #[] w fun e w' => e = .returned (idV (idk 4)) ∧ Kp (fun _ => False) w w' := by
  have hi : (Try.prog.info? 41).map (·.size) = some 16 := by kernel_rfl
  go_enter Try.func33, Try.ntmps33
  go_wp2
  exact bodyPost_ret (results_cell_row rfl _ _ w.heap.size 41 _ (0, 0) _ rfl (heap_alloc_new w _) id_und rfl hi) rfl ⟨rfl, (Kp.refl _ w).alloc _⟩
theorem of_any (a : Option Addr) (n c : Nat) (w : World) : Calls Try.prog 29 #[.slice a n c] w fun e w' => ∃ bi p t, e = .returned (.agg #[.int .i64 0, .int .i64 0, .int .i64 0, .int .i64 0, .slice (some ⟨bi, 0, none⟩) 1 1]) ∧ At w' bi [.string p, .int .i64 0, .int .i64 0, .int .i64 0, .string t, .slice a n c] ∧ w.heap.size ≤ bi ∧ Kp (fun _ => False) w w' := by
  go_enter Try.func29, Try.ntmps29
  go_wp2
  have h1 := (At.new w [.int .i64 0, .int .i64 0, .int .i64 0, .int .i64 0, .slice (some ⟨w.heap.size + 1, 0, none⟩) 1 1] 54).alloc (.cells #[.string ⟨#[]⟩, .int .i64 0, .int .i64 0, .int .i64 0, .string ⟨#[]⟩, .slice a n c] 56)
  have h2 := At.new (w.alloc (.cells #[.int .i64 0, .int .i64 0, .int .i64 0, .int .i64 0, .slice (some ⟨w.heap.size + 1, 0, none⟩) 1 1] 54)) [.string ⟨#[]⟩, .int .i64 0, .int .i64 0, .int .i64 0, .string ⟨#[]⟩, .slice a n c] 56
  rw [World.size_alloc] at h2
  obtain ⟨T, hT⟩ := h1
  have hi : (Try.prog.info? 54).map (·.size) = some 5 := by kernel_rfl
  exact bodyPost_ret (results_cell_row rfl _ _ w.heap.size T _ (0, 0) _ rfl hT Try.underlying54 rfl hi) rfl ⟨w.heap.size + 1, ⟨#[]⟩, ⟨#[]⟩, rfl, h2, by omega, ((Kp.refl (fun _ => False) w).alloc _).alloc _⟩
/-- A slice literal of some. -/
theorem bs_ids {l : List Id} (hl : Ids l) (h0 : 0 < l.length) (hb : l.length ≤ 1000) (w : World) : (Instr.buildSlice 34 l.length (((l.map idV).zipIdx 0).map fun x => (x.2, x.1)).toArray).run Try.prog w = .ok (.slice (some ⟨w.heap.size, 0, none⟩) l.length l.length) (w.alloc (.cells (idC l).toArray 41)) := by
  have h : (Try.prog.info? 41).map (fun i => (i.zero, i.size)) = some (some (.agg (List.replicate 16 (.int .u8 0)).toArray), 16) := by kernel_rfl
  cases hq : Try.prog.info? 41 with
  | none => rw [hq] at h; cases h
  | some ie =>
    rw [hq] at h
    simp only [Option.map_some, Option.some.injEq, Prod.mk.injEq] at h
    refine run_buildSlice w 34 41 l.length _ (idC l).toArray ie _ Try.underlying34 hq h.1 (by rw [h.2]; omega) (by rw [h.2]; omega) ?_
    rw [h.2]
    generalize hZ : (Array.range (l.length * 16)).map ((Value.agg (List.replicate 16 (Value.int .u8 0)).toArray).cells[· % (Value.agg (List.replicate 16 (Value.int .u8 0)).toArray).cells.size]!) = Z
    have hZs : Z.size = l.length * 16 := by rw [← hZ]; simp
    obtain ⟨r, hr, hsz, hk⟩ := Great.fill_dense (s := 16) (by omega) (l.map idV) 0 Z (fun v hv => by
      obtain ⟨x, hx, rfl⟩ := List.mem_map.1 hv
      simpa [idV, idW, Value.cells] using hl x hx) (by rw [hZs]; simp)
    refine hr.trans (congrArg some (Array.ext_getElem? fun i => ?_))
    rw [hk i]
    have hb : (idC l).toArray.size = l.length * 16 := by simp [idC_len hl]
    by_cases hi : i < l.length * 16
    · rw [if_pos (by simpa using hi)]
      have hq : i / 16 < l.length := by omega
      have hg := idC_get hl (i / 16) (i % 16) hq (Nat.mod_lt _ (by omega))
      rw [show i / 16 * 16 + i % 16 = i by omega] at hg
      rw [List.getElem?_toArray, hg, Nat.sub_zero, List.getElem?_map, List.getElem?_eq_getElem hq]
      simp [idn, List.getD_eq_getElem?_getD, List.getElem?_eq_getElem hq, idV, Value.cells]
    · rw [if_neg (by simpa using hi)]
      rw [Array.getElem?_eq_none (by rw [hZs]; omega), Array.getElem?_eq_none (by rw [hb]; omega)]
end Go.Proofs.Ytaibdkdmilhloaa
