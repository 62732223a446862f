/- Frames: Read, what it says on numbers; results of a cell and a slot. -/
import Derived.Test.YtjjoancnkjlaeaaFrmE
import Derived.Test.YtjjoancnkjlaeaaGrdB
import Derived.Laws.ResultCell
namespace Go.Proofs.Ytjjoancnkjlaeaa
open Go.RowKit
set_option linter.unusedVariables false
set_option linter.unusedSimpArgs false
def zF : Fr := ⟨0, 0, 0, 0, 0, []⟩
/-- The frame that guarded bytes say. -/
def parse (x : List Int) : Fr := ⟨x.getD 3 0, (num ((x.drop 4).take 4) : Nat), (num ((x.drop 8).take 4) : Nat), (num ((x.drop 12).take 4) : Nat), (num ((x.drop 16).take 4) : Nat), x.drop 22⟩
/-- What is wrong with guarded bytes, as a frame. -/
def errX (x : List Int) : Int :=
  if x.getD 0 0 ≠ 83 ∨ x.getD 1 0 ≠ 75 then 211 else if x.getD 2 0 ≠ 1 then 212 else if ¬ typedP (parse x).ty then 213
  else if ¬ rangeP (parse x).se (parse x).bo (parse x).sq (parse x).ac then 5 else if (num ((x.drop 20).take 2) : Int) ≠ ((parse x).bd.length : Int) then 214 else if says (parse x) = false then 2 else 0
def errR (l : List Int) : Int :=
  if (1426 : Int) < l.length then 3 else if (l.length : Int) < 26 then 4 else if ck l ≠ 0 then 210 else errX (chk l)
def frR (l : List Int) : Fr := if errR l = 0 then parse (chk l) else zF
theorem results_cell_tmp_row {P : Program} {fn : Func} {p u : Tmp} {ty : TypeId} (h : fn.results = #[.cell p ty, .tmp u]) (tmps : Array Value) (w : World) (g : Nat) (t : TypeId) (cs : Array Value) (fr : Nat × Nat) (d : TypeDesc)
    (hp : tmps.getD p undef = .pointer (some ⟨g, 0, none⟩)) (hg : w.heap[g]? = some (.cells cs t fr))
    (hu : P.underlying ty = some d) (hd : (match d with | .struct _ | .array _ _ => true | _ => false) = true) (hi : (P.info? ty).map (·.size) = some cs.size) :
    (results fn tmps).run P w = .ok (.tuple #[.agg cs, tmps.getD u undef]) w := by
  rw [results_cell_tmp h, hp]
  simp [asAddr, Result.andThen, run_loadVar_row w g t ty cs fr d hg hu hd hi]
theorem num_lt4 {l : List Int} (hb : Byt l) (i : Nat) : num ((l.drop i).take 4) < 4294967296 := by
  have h1 : ∀ k, num (((l.drop i).take 4).take k) < 256 ^ k ∨ ((l.drop i).take 4).length < k := fun k => by
    by_cases h : k ≤ ((l.drop i).take 4).length
    · exact .inl (num_take (fun x hx => hb x (List.mem_of_mem_drop (List.mem_of_mem_take hx))) k h)
    · exact .inr (by omega)
  have h2 : ((l.drop i).take 4).length ≤ 4 := by simp; omega
  have h3 := num_take (l := (l.drop i).take 4) (fun x hx => hb x (List.mem_of_mem_drop (List.mem_of_mem_take hx))) ((l.drop i).take 4).length (Nat.le_refl _)
  rw [List.take_length] at h3
  have h4 : 256 ^ ((l.drop i).take 4).length ≤ 256 ^ 4 := Nat.pow_le_pow_right (by decide) h2
  omega
end Go.Proofs.Ytjjoancnkjlaeaa
