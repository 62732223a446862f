/- What an argument of whatever type reads as, of bulk at most so much ('..UptoSaid'); arrays. -/
import Derived.Test.YtaibdkdmilhloaaQOpen
import Derived.Test.YtaibdkdmilhloaaRows
import Derived.OpenShut
namespace Go.Proofs.Ytaibdkdmilhloaa
open Go.RowKit Go.ChangeShapes Go.WideShapes Go.Deep
set_option linter.unusedVariables false
theorem bulk_pos {H : Type} (d : DataW H) : 1 ≤ Rows.uptoBulk d := by
  cases d with
  | lit l => cases l <;> simp [Rows.uptoBulk]
  | _ => simp [Rows.uptoBulk]
theorem bulk_part {H : Type} {d : DataW H} : ∀ {l : List (DataW H)}, d ∈ l → Rows.uptoBulk d ≤ Rows.uptoBulkAll l
  | x :: r, h => by
    simp only [Rows.uptoBulkAll]
    rcases List.mem_cons.1 h with h | h
    · subst h; omega
    · have := bulk_part h; omega
theorem bulk_map {H : Type} : ∀ (l : List (DataW H)), Rows.uptoBulkAll l = (l.map Rows.uptoBulk).sum
  | [] => rfl
  | x :: r => by simp only [Rows.uptoBulkAll, List.map_cons, List.sum_cons, bulk_map r]
/-- These cells can be read at this type, nothing that is met is beyond the form's reach, and what is read is of bulk B at most. -/
def Rdu (P : Program) (w : World) (t : TypeId) (cs : List Value) (B : Nat) : Prop :=
  ∃ (H : Type) (enc : TypeId × Value → H) (spare : Nat → Bool) (held : Bool) (fuel : Nat) (x : DataW H × List MemPlace),
    DataW.trod enc P w 0 spare held fuel t cs = some x ∧ (∀ n ∈ x.1.weights P t, n ≤ reachBytes) ∧ (∀ b, spare b = true) ∧ Rows.uptoBulk x.1 ≤ B
theorem Rdu.of_trod {P : Program} {w : World} {H : Type} {enc : TypeId × Value → H} {t : TypeId} {v : Value} {d : DataW H} {p : List MemPlace} {ts : List TypeId} {ds : List (DataW H)} {B : Nat}
    (h : DataW.Trod enc P w 0 (fun _ => true) true t v d p) (hs : (DataW.weightsEach P ts ds).all (· ≤ reachBytes) = true) (j : Nat) (ht : ts[j]? = some t) (hd : ds[j]? = some d) (hb : Rows.uptoBulk d ≤ B) : Rdu P w t v.cells.toList B := by
  obtain ⟨fuel, hf⟩ := h
  exact ⟨H, enc, _, true, fuel, _, hf, fun n hn => by simpa using List.all_eq_true.1 hs n (DataW.weights_mem_each ht hd n hn), fun _ => rfl, hb⟩
section
variable {P : Program} {w : World} {t e : TypeId} {cs : List Value} {B : Nat}
theorem Rdu.rdg (h : Rdu P w t cs B) : Rdg P w t cs := by
  obtain ⟨H, enc, sp, held, fuel, x, hx, hw, hsp, _⟩ := h
  exact ⟨H, enc, sp, held, fuel, x, hx, hw, hsp⟩
theorem Rdu.pos (h : Rdu P w t cs B) : 1 ≤ B := by
  obtain ⟨H, enc, sp, held, fuel, x, hx, hw, hsp, hb⟩ := h
  exact Nat.le_trans (bulk_pos _) hb
theorem Rdu.struct {fs : Array Field} (ht : P.underlying t = some (.struct fs)) (h : Rdu P w t cs B) :
    cs.length = P.cellsOf t ∧ ∀ (i : Nat) (f : Field), fs[i]? = some f → ∃ b, b < B ∧ Rdu P w f.type ((cs.drop f.offset).take (P.cellsOf f.type)) b := by
  obtain ⟨H, enc, sp, held, fuel, x, hx, hw, hsp, hb⟩ := h
  obtain ⟨xs, n, _, rfl, hc, hlen, hf⟩ := DataW.trod_struct ht hx
  refine ⟨hc, fun i f hi => ?_⟩
  have hil : i < xs.length := by rw [hlen]; exact (Array.getElem?_eq_some_iff.1 hi).1
  refine ⟨Rows.uptoBulk xs[i].1, ?_, H, enc, sp, held, n, xs[i], by rw [hf i f hi, List.getElem?_eq_getElem hil], fun m hm => ?_, hsp, Nat.le_refl _⟩
  · have h1 : Rows.uptoBulk xs[i].1 ≤ Rows.uptoBulkAll (xs.map (·.1)) := bulk_part (List.mem_map.2 ⟨_, List.getElem_mem hil, rfl⟩)
    simp only [Rows.uptoBulk] at hb
    omega
  · refine hw m ?_
    simp only [DataW.weights, ht]
    exact DataW.weights_mem_each (j := i) (t := f.type) (d := xs[i].1) (by rw [List.getElem?_map, Array.getElem?_toList, hi]; rfl) (by rw [List.getElem?_map, List.getElem?_eq_getElem hil]; rfl) m hm
theorem Rdg.array {n : Nat} (ht : P.underlying t = some (.array n e)) (h : Rdg P w t cs) :
    cs.length = P.cellsOf t ∧ ∀ i, i < n → Rdg P w e ((cs.drop (i * P.cellsOf e)).take (P.cellsOf e)) := by
  obtain ⟨H, enc, sp, held, fuel, x, hx, hw, hsp⟩ := h
  obtain ⟨xs, m, _, rfl, hc, hlen, hf⟩ := DataW.trod_array ht hx
  refine ⟨hc, fun i hi => ?_⟩
  have hil : i < xs.length := by rw [hlen]; exact hi
  refine ⟨H, enc, sp, held, m, xs[i], by rw [hf i hi, List.getElem?_eq_getElem hil], fun k hk => ?_, hsp⟩
  refine hw k ?_
  simp only [DataW.weights, ht]
  exact weights_mem_all (j := i) (by rw [List.getElem?_map, List.getElem?_eq_getElem hil]; rfl) k hk
theorem Rdu.slice (ht : P.underlying t = some (.slice e)) (hC : 0 < P.cellsOf e) (h : Rdu P w t cs B) :
    ∃ a len cap N, cs = [.slice a len cap] ∧ len ≤ cap ∧ cap ≤ maxLen ∧ cap * P.bytesOf e ≤ 140737488351232 ∧ ((List.range len).map N).sum < B ∧
      ∀ i, i < len → ∃ b off cs', a = some ⟨b, off, none⟩ ∧ b < w.heap.size ∧ cs'.length = P.cellsOf e ∧ (∀ j, j < P.cellsOf e → w.cell? ⟨b, off + (i * P.cellsOf e + j), none⟩ = cs'[j]?) ∧ Rdu P w e cs' (N i) := by
  obtain ⟨H, enc, sp, held, fuel, x, hx, hw, hsp, hbk⟩ := h
  rcases open_slice ht hx with ⟨rfl, rfl⟩ | ⟨ad, len, cap, m, n, D, Pl, rfl, _, hl, hm, hmm, rfl, hi⟩
  · exact ⟨none, 0, 0, fun _ => 0, rfl, by omega, by simp, by simp, by simp only [Rows.uptoBulk] at hbk; simp; omega, fun i hi => by omega⟩
  · rw [hsp, if_pos rfl] at hmm
    subst hmm
    have hb : m * P.bytesOf e ≤ 140737488351232 := by
      have := hw ((len + (m - len)) * P.bytesOf e) (by simp [DataW.weights, ht])
      rwa [show len + (m - len) = m by omega] at this
    refine ⟨some ad, len, m, fun i => Rows.uptoBulk (D i), rfl, hl, hm, hb, ?_, fun i him => ?_⟩
    · simp only [Rows.uptoBulk, bulk_map, List.map_map] at hbk
      have : ((List.range len).map fun i => Rows.uptoBulk (D i)) = (List.range len).map (Rows.uptoBulk ∘ D) := rfl
      rw [this]
      omega
    obtain ⟨bk, off, spot⟩ := ad
    have hspot : spot = none := by
      obtain ⟨cs0, hc0, _⟩ := hi 0 (by omega)
      obtain ⟨_, hl0, hcell⟩ := World.cells?_some hc0
      have := hcell 0 hC
      rw [List.getElem?_eq_getElem (by omega)] at this
      simpa [Addr.add] using World.cell?_spot this
    subst hspot
    obtain ⟨cs', hc', hr'⟩ := hi i (by omega)
    obtain ⟨_, hl', hcell⟩ := World.cells?_some hc'
    have hcell' : ∀ j, j < P.cellsOf e → w.cell? ⟨bk, off + (i * P.cellsOf e + j), none⟩ = cs'[j]? := fun j hj => by
      rw [← hcell j hj, Go.Deep.add_add, Addr.add_mid]
    refine ⟨bk, off, cs', rfl, ?_, hl', hcell', H, enc, sp, held, n, _, hr', fun k hk => ?_, hsp, Nat.le_refl _⟩
    · have := hcell' 0 hC
      rw [List.getElem?_eq_getElem (by omega)] at this
      exact World.block_lt_of_cell? w _ this
    · refine hw k ?_
      simp only [DataW.weights, ht, List.mem_cons, List.mem_append]
      exact .inr (.inl (weights_mem_all (j := i) (by simp [him]) k hk))
end
end Go.Proofs.Ytaibdkdmilhloaa
