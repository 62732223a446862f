/- What an argument of whatever type reads as: a value that can be read within the form's reach, opened step by step. No program in sight. -/
import Derived.Test.YtokembhfebnjpaaGreatQBaseM
import Derived.Deep.Slices
import Derived.SizedLaws
import Derived.ProofKit
namespace Go.Proofs.YtokembhfebnjpaaGreat
set_option maxRecDepth 20000
open Go.RowKit Go.ChangeShapes Go.WideShapes Go.Deep
set_option linter.unusedVariables false
def Rdg (P : Program) (w : World) (t : TypeId) (cs : List Value) : Prop :=
 ∃ (H : Type) (enc : TypeId × Value → H) (spare : Nat → Bool) (held : Bool) (fuel : Nat) (x : DataW H × List MemPlace),
  DataW.trod enc P w 0 spare held fuel t cs = some x ∧ (∀ n ∈ x.1.weights P t, n ≤ reachBytes) ∧ ∀ b, spare b = true
theorem Rdg.of_trod {P : Program} {w : World} {H : Type} {enc : TypeId × Value → H} {t : TypeId} {v : Value} {d : DataW H} {p : List MemPlace} {ts : List TypeId} {ds : List (DataW H)}
 (h : DataW.Trod enc P w 0 (fun _ => true) true t v d p) (hs : (DataW.weightsEach P ts ds).all (· ≤ reachBytes) = true) (j : Nat) (ht : ts[j]? = some t) (hd : ds[j]? = some d) : Rdg P w t v.cells.toList := by
 obtain ⟨fuel, hf⟩ := h
 exact ⟨H, enc, _, true, fuel, _, hf, fun n hn => by simpa using List.all_eq_true.1 hs n (DataW.weights_mem_each ht hd n hn), fun _ => rfl⟩
theorem weights_mem_all {H : Type} {P : Program} {e : TypeId} : ∀ {ds : List (DataW H)} {j : Nat} {d : DataW H}, ds[j]? = some d → ∀ n ∈ d.weights P e, n ∈ DataW.weightsAll P e ds
 | d0 :: ds, 0, d, hd, n, hn => by
  simp only [List.getElem?_cons_zero, Option.some.injEq] at hd
  subst hd
  simp only [DataW.weightsAll, List.mem_append]
  exact Or.inl hn
 | d0 :: ds, j + 1, d, hd, n, hn => by
  simp only [List.getElem?_cons_succ] at hd
  simp only [DataW.weightsAll, List.mem_append]
  exact Or.inr (weights_mem_all hd n hn)
 | [], _, _, hd, _, _ => by simp at hd

section
variable {P : Program} {w : World} {t : TypeId} {cs : List Value}
theorem Rdg.int {k : IntKind} (ht : P.underlying t = some (.int k)) (h : Rdg P w t cs) : ∃ n, cs = [.int k n] ∧ (Lit.int k n).wf = true := by
 obtain ⟨H, enc, sp, held, fuel, x, hx, _, _⟩ := h
 obtain ⟨n, h1, _, h3⟩ := DataW.trod_int ht hx
 exact ⟨n, h1, h3⟩
theorem Rdg.bool (ht : P.underlying t = some .bool) (h : Rdg P w t cs) : ∃ b, cs = [.bool b] := by
 obtain ⟨H, enc, sp, held, fuel, x, hx, _, _⟩ := h
 obtain ⟨b, h1, _⟩ := DataW.trod_bool ht hx
 exact ⟨b, h1⟩
theorem Rdg.float {k : FloatKind} (ht : P.underlying t = some (.float k)) (h : Rdg P w t cs) : ∃ b, cs = [.float k b] ∧ (Lit.float k b).wf = true := by
 obtain ⟨H, enc, sp, held, fuel, x, hx, _, _⟩ := h
 cases fuel with
 | zero => simp [DataW.trod] at hx
 | succ n =>
  unfold DataW.trod at hx
  rw [ht] at hx
  split at hx <;> simp_all
theorem Rdg.string (ht : P.underlying t = some .string) (h : Rdg P w t cs) : ∃ s : ByteArray, cs = [.string s] ∧ s.size ≤ 140737488351232 := by
 obtain ⟨H, enc, sp, held, fuel, x, hx, hw, _⟩ := h
 obtain ⟨s, h1, rfl, _⟩ := DataW.trod_string ht hx
 refine ⟨s, h1, ?_⟩
 have := hw s.data.toList.length (by simp [DataW.weights])
 rw [Array.length_toList] at this
 exact this
theorem Rdg.struct {fs : Array Field} (ht : P.underlying t = some (.struct fs)) (h : Rdg P w t cs) :
 cs.length = P.cellsOf t ∧ ∀ (i : Nat) (f : Field), fs[i]? = some f → Rdg P w f.type ((cs.drop f.offset).take (P.cellsOf f.type)) := by
 obtain ⟨H, enc, sp, held, fuel, x, hx, hw, hsp⟩ := h
 obtain ⟨xs, n, _, rfl, hc, hlen, hf⟩ := DataW.trod_struct ht hx
 refine ⟨hc, fun i f hi => ?_⟩
 have hil : i < xs.length := by rw [hlen]; exact (Array.getElem?_eq_some_iff.1 hi).1
 refine ⟨H, enc, sp, held, n, xs[i], by rw [hf i f hi, List.getElem?_eq_getElem hil], fun m hm => ?_, hsp⟩
 refine hw m ?_
 simp only [DataW.weights, ht]
 exact DataW.weights_mem_each (j := i) (t := f.type) (d := xs[i].1) (by rw [List.getElem?_map, Array.getElem?_toList, hi]; rfl) (by rw [List.getElem?_map, List.getElem?_eq_getElem hil]; rfl) m hm
theorem Rdg.slice {e : TypeId} (ht : P.underlying t = some (.slice e)) (hC : 0 < P.cellsOf e) (h : Rdg P w t cs) :
 ∃ a len cap, cs = [.slice a len cap] ∧ len ≤ cap ∧ cap ≤ maxLen ∧ cap * P.bytesOf e ≤ 140737488351232 ∧
  ∀ i, i < cap → ∃ b off cs', a = some ⟨b, off, none⟩ ∧ b < w.heap.size ∧ cs'.length = P.cellsOf e ∧ (∀ j, j < P.cellsOf e → w.cell? ⟨b, off + (i * P.cellsOf e + j), none⟩ = cs'[j]?) ∧ Rdg P w e cs' := by
 obtain ⟨H, enc, sp, held, fuel, x, hx, hw, hsp⟩ := h
 rcases open_slice ht hx with ⟨rfl, rfl⟩ | ⟨ad, len, cap, m, n, D, Pl, rfl, _, hl, hm, hmm, rfl, hi⟩
 · exact ⟨none, 0, 0, rfl, by omega, by simp, by simp, fun i hi => by omega⟩
 · rw [hsp, if_pos rfl] at hmm
   subst hmm
   have hb : m * P.bytesOf e ≤ 140737488351232 := by
    have := hw ((len + (m - len)) * P.bytesOf e) (by simp [DataW.weights, ht])
    rwa [show len + (m - len) = m by omega] at this
   refine ⟨some ad, len, m, rfl, hl, hm, hb, fun i him => ?_⟩
   obtain ⟨bk, off, spot⟩ := ad
   have hspot : spot = none := by
    obtain ⟨cs0, hc0, _⟩ := hi 0 (by omega)
    obtain ⟨_, hl0, hcell⟩ := World.cells?_some hc0
    have := hcell 0 hC
    rw [List.getElem?_eq_getElem (by omega)] at this
    simpa [Addr.add] using World.cell?_spot this
   subst hspot
   obtain ⟨cs', hc', hr'⟩ := hi i him
   obtain ⟨_, hl', hcell⟩ := World.cells?_some hc'
   have hcell' : ∀ j, j < P.cellsOf e → w.cell? ⟨bk, off + (i * P.cellsOf e + j), none⟩ = cs'[j]? := fun j hj => by
    rw [← hcell j hj, Go.Deep.add_add, Addr.add_mid]
   refine ⟨bk, off, cs', rfl, ?_, hl', hcell', H, enc, sp, held, n, _, hr', fun k hk => ?_, hsp⟩
   · have := hcell' 0 hC
     rw [List.getElem?_eq_getElem (by omega)] at this
     exact World.block_lt_of_cell? w _ this
   · refine hw k ?_
     simp only [DataW.weights, ht, List.mem_cons, List.mem_append]
     by_cases hil : i < len
     · exact .inr (.inl (weights_mem_all (j := i) (by simp [hil]) k hk))
     · exact .inr (.inr (weights_mem_all (j := i - len) (by rw [List.getElem?_map, List.getElem?_range (by omega)]; simp; rw [show len + (i - len) = i by omega]) k hk))
end
theorem list_of {α : Type} [Inhabited α] (n : Nat) (p : Nat → α → Prop) (h : ∀ i, i < n → ∃ x, p i x) : ∃ l : List α, l.length = n ∧ ∀ i, i < n → ∀ d, p i (l.getD i d) := by
 obtain ⟨f, hf⟩ := choose_lt h
 refine ⟨(List.range n).map f, by simp, fun i hi d => ?_⟩
 have := hf i hi
 simpa [List.getD_eq_getElem?_getD, hi] using this

section
variable {P : Program} {w : World} {t e : TypeId} {cs : List Value}
theorem Rdg.bytes (ht : P.underlying t = some (.slice e)) (he : P.underlying e = some (.int .u8)) (hC : P.cellsOf e = 1) (hB : P.bytesOf e = 1) (h : Rdg P w t cs) :
 ∃ a l cap, cs = [.slice a l.length cap] ∧ RdB w a l ∧ l.length ≤ cap ∧ cap ≤ 140737488351232 := by
 obtain ⟨a, len, cap, rfl, hl, hm, hb, hi⟩ := h.slice ht (by omega)
 rw [hB] at hb
 obtain ⟨l, hlen, hp⟩ := list_of (α := Int) len (fun i n => (∃ b off, a = some ⟨b, off, none⟩ ∧ w.cell? ⟨b, off + i, none⟩ = some (.int .u8 n)) ∧ 0 ≤ n ∧ n ≤ 255) (fun i hil => by
  obtain ⟨b, off, cs', ha, _, hlc, hc, hr⟩ := hi i (by omega)
  obtain ⟨n, rfl, hwf⟩ := hr.int he
  have := hc 0 (by omega)
  rw [hC, Nat.mul_one, Nat.add_zero] at this
  refine ⟨n, ⟨b, off, ha, this⟩, ?_⟩
  simp [Lit.wf, IntKind.min, IntKind.max, IntKind.signed, IntKind.bits] at hwf
  omega)
 subst hlen
 refine ⟨a, l, cap, rfl, ⟨fun i hi => (hp i hi 0).1, fun x hx => ?_, by omega⟩, hl, by omega⟩
 obtain ⟨i, hil, rfl⟩ := List.getElem_of_mem hx
 have := (hp i hil 0).2
 rwa [List.getD_eq_getElem?_getD, List.getElem?_eq_getElem hil] at this
end
end Go.Proofs.YtokembhfebnjpaaGreat
