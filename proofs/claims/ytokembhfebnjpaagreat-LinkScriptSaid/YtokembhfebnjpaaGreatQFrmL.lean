/- Package frame: the closure of Put. (Written by wip/laygen.py.) -/
import Derived.Test.YtokembhfebnjpaaGreatQGrdMM
import Derived.Test.YtokembhfebnjpaaGreatQSlc
import Derived.Deep.RegionLaw
import Derived.BigRegion
import Derived.Outline
namespace Go.Proofs.YtokembhfebnjpaaGreat
set_option maxRecDepth 20000
open Go.RowKit
set_option linter.unusedVariables false
def LS (w : World) (g : Nat) (l : List Int) (wr : World) : Prop := ∃ v, At wr g [v] ∧ OwnB wr v l ∧ (∀ x, v.ownBlock = some x → w.heap.size ≤ x ∧ x ≠ g) ∧ Kp (fun _ => False) w wr ∧ w.heap.size ≤ g
theorem LS.app {w wr : World} {g : Nat} {l : List Int} {v : Value} (hat : At wr g [v]) (ho : OwnB wr v l) (hv : ∀ x, v.ownBlock = some x → w.heap.size ≤ x ∧ x ≠ g) (hk : Kp (fun _ => False) w wr) (hg : w.heap.size ≤ g) (x : Int) (hx : 0 ≤ x ∧ x ≤ 255) (hl : l.length ≤ 100000) :
 ∃ a c w', (Builtin.append_ #[32, 32] 32 #[v, .slice (some ⟨wr.heap.size, 0, none⟩) 1 1]).run Tryz.prog (wr.drew.alloc (.cells #[.int .u8 x] 5)) = .ok (.slice a (l.length + 1) c) w' ∧
  LS w g (l ++ [x]) (w'.setCell ⟨g, 0, none⟩ (.slice a (l.length + 1) c)) ∧ w'.cell? ⟨g, 0, none⟩ = some v ∧ w'.frozen? ⟨g, 0, none⟩ = false := by
 have hka := ((Kp.refl (fun _ => False) wr).drew.alloc (.cells #[.int .u8 x] 5))
 have hrd : RdB (wr.drew.alloc (.cells #[.int .u8 x] 5)) (some ⟨wr.heap.size, 0, none⟩) [x] :=
  RdB.of_at (pre := []) (post := []) (by simpa using At.new wr.drew [.int .u8 x] 5) (fun y hy => by simp at hy; subst hy; exact hx) (by simp)
 obtain ⟨v', w', h1, h2, h3, h4⟩ := run_append_b (P := Tryz.prog) (t := 32) (tx := 32) (ty := 32) (wr.drew.alloc (.cells #[.int .u8 x] 5)) Tryz.underlying32 elem_u8 Tryz.underlying32 (ho.kp hka (fun _ _ h => h)) (a := some ⟨wr.heap.size, 0, none⟩) (c := 1) (m := [x]) hrd (by simp; omega)
 obtain ⟨a, c, e, _, _⟩ := h2.form
 have e2 : (l ++ [x]).length = l.length + 1 := by simp
 rw [e2] at e
 subst e
 have hatw : At w' g [v] := (hka.at hat (fun h => h)).of_block (h3.block g (by have := hat.lt; have := hka.size; omega) (fun e => (hv g e).2 rfl))
 have hgs := hat.lt
 have hvn : ∀ y, (Value.slice a (l.length + 1) c).ownBlock = some y → w.heap.size ≤ y ∧ y ≠ g := fun y hy => by
  rcases h4 with e | e
  · rw [e] at hy; exact hv y hy
  · rw [e] at hy; obtain rfl := Option.some.inj hy; have := hka.size; have := hk.size; constructor
    · omega
    · omega
 have hK : Kp (· = g) w' (w'.setCell ⟨g, 0, none⟩ (.slice a (l.length + 1) c)) := (Kp.refl (· = g) w').setCell (p := ⟨g, 0, none⟩) (fun _ => rfl) _
 refine ⟨a, c, w', h1, ⟨_, hatw.set 0 _, h2.kp hK (fun y hy e => (hvn y hy).2 e), hvn, ?_, hg⟩, by rw [hatw.cell]; rfl, hatw.frozen 0⟩
 exact ((hk.trans hka).then h3 (fun i hi e => by have := (hv i e).1; omega)).then hK (fun i hi e => by omega)

set_option maxHeartbeats 4000000 in
theorem lay_4 (w w0 : World) (g : Nat) (l : List Int) (n : Int) (h : LS w g l w0) (hn : 0 ≤ n ∧ n ≤ 2147483647) (hll : l.length ≤ 2000) :
 Calls Tryz.prog 130 #[.int .i64 n, .int .i64 4, .pointer (some ⟨g, 0, none⟩)] w0 fun e w' => e = .returned (.tuple #[]) ∧ LS w g (l ++ be4 n) w' := by
 obtain ⟨hn0, hn1⟩ := hn
 have H0 := Lib.hid h
 clear h
 go_enter Tryz.func130, Tryz.ntmps130
 go_wp2_with fail
 go_loopw [5] (fun i wr => ∃ k : Nat, k ≤ 4 ∧ i = .int .i64 (3 - (k : Int)) ∧ LS w g (l ++ (be4 n).take k) wr) (fun i _ => ((intOf i) + 1).toNat)
 case atStart => exact ⟨0, by omega, rfl, by simpa using H0.out⟩
 case round =>
  clear H0
  obtain ⟨k, hk4, rfl, v, hat, ho, hv, hk, hg⟩ := hrel
  match k, hk4 with
  | 0, _ =>
   have hl : (l ++ (be4 n).take 0).length ≤ 100000 := by simp [be4]; omega
   have hnx : (l ++ (be4 n).take 0) ++ [n / 16777216 % 256] = l ++ (be4 n).take (0 + 1) := by rw [List.append_assoc]; rfl
   generalize l ++ (be4 n).take 0 = L at ho hl hnx
   obtain ⟨a, c, w', hr, hs, hc, hf⟩ := LS.app hat ho hv hk hg (n / 16777216 % 256) (by omega) hl
   rw [hnx] at hs
   have HR := Lib.hid hr
   have HS := Lib.hid hs
   have c1 := hat.cell 0
   have c2 : wr.cell? ⟨g, 0, none⟩ = some v := c1.trans rfl
   have c3 : wr.drew.cell? ⟨g, 0, none⟩ = some v := c2
   have c4 := fun o => ((Kp.refl (fun _ => False) wr).alloc o).cell c2 (fun h => h)
   have x0 : 0 ≤ n / 16777216 % 256 := by omega
   obtain ⟨va, vc, rfl, _, _⟩ := ho.form
   clear hat ho hv hk hr hs c1 hl hnx
   have ww : IntKind.i64.wrap 24 = 24 := by decide
   go_wp2_with fail
   go_region_law ((refine step_append_run _ HR.out (by rfl) (by rfl) (by rfl) (by rfl) ?_))
   all_goals go_wp2_with fail
   all_goals exact ⟨⟨0 + 1, by omega, rfl, HS.out⟩, by first | decide | simp [intOf]⟩
  | 1, _ =>
   have hl : (l ++ (be4 n).take 1).length ≤ 100000 := by simp [be4]; omega
   have hnx : (l ++ (be4 n).take 1) ++ [n / 65536 % 256] = l ++ (be4 n).take (1 + 1) := by rw [List.append_assoc]; rfl
   generalize l ++ (be4 n).take 1 = L at ho hl hnx
   obtain ⟨a, c, w', hr, hs, hc, hf⟩ := LS.app hat ho hv hk hg (n / 65536 % 256) (by omega) hl
   rw [hnx] at hs
   have HR := Lib.hid hr
   have HS := Lib.hid hs
   have c1 := hat.cell 0
   have c2 : wr.cell? ⟨g, 0, none⟩ = some v := c1.trans rfl
   have c3 : wr.drew.cell? ⟨g, 0, none⟩ = some v := c2
   have c4 := fun o => ((Kp.refl (fun _ => False) wr).alloc o).cell c2 (fun h => h)
   have x0 : 0 ≤ n / 65536 % 256 := by omega
   obtain ⟨va, vc, rfl, _, _⟩ := ho.form
   clear hat ho hv hk hr hs c1 hl hnx
   have ww : IntKind.i64.wrap 16 = 16 := by decide
   go_wp2_with fail
   go_region_law ((refine step_append_run _ HR.out (by rfl) (by rfl) (by rfl) (by rfl) ?_))
   all_goals go_wp2_with fail
   all_goals exact ⟨⟨1 + 1, by omega, rfl, HS.out⟩, by first | decide | simp [intOf]⟩
  | 2, _ =>
   have hl : (l ++ (be4 n).take 2).length ≤ 100000 := by simp [be4]; omega
   have hnx : (l ++ (be4 n).take 2) ++ [n / 256 % 256] = l ++ (be4 n).take (2 + 1) := by rw [List.append_assoc]; rfl
   generalize l ++ (be4 n).take 2 = L at ho hl hnx
   obtain ⟨a, c, w', hr, hs, hc, hf⟩ := LS.app hat ho hv hk hg (n / 256 % 256) (by omega) hl
   rw [hnx] at hs
   have HR := Lib.hid hr
   have HS := Lib.hid hs
   have c1 := hat.cell 0
   have c2 : wr.cell? ⟨g, 0, none⟩ = some v := c1.trans rfl
   have c3 : wr.drew.cell? ⟨g, 0, none⟩ = some v := c2
   have c4 := fun o => ((Kp.refl (fun _ => False) wr).alloc o).cell c2 (fun h => h)
   have x0 : 0 ≤ n / 256 % 256 := by omega
   obtain ⟨va, vc, rfl, _, _⟩ := ho.form
   clear hat ho hv hk hr hs c1 hl hnx
   have ww : IntKind.i64.wrap 8 = 8 := by decide
   go_wp2_with fail
   go_region_law ((refine step_append_run _ HR.out (by rfl) (by rfl) (by rfl) (by rfl) ?_))
   all_goals go_wp2_with fail
   all_goals exact ⟨⟨2 + 1, by omega, rfl, HS.out⟩, by first | decide | simp [intOf]⟩
  | 3, _ =>
   have hl : (l ++ (be4 n).take 3).length ≤ 100000 := by simp [be4]; omega
   have hnx : (l ++ (be4 n).take 3) ++ [n % 256] = l ++ (be4 n).take (3 + 1) := by rw [List.append_assoc]; rfl
   generalize l ++ (be4 n).take 3 = L at ho hl hnx
   obtain ⟨a, c, w', hr, hs, hc, hf⟩ := LS.app hat ho hv hk hg (n % 256) (by omega) hl
   rw [hnx] at hs
   have HR := Lib.hid hr
   have HS := Lib.hid hs
   have c1 := hat.cell 0
   have c2 : wr.cell? ⟨g, 0, none⟩ = some v := c1.trans rfl
   have c3 : wr.drew.cell? ⟨g, 0, none⟩ = some v := c2
   have c4 := fun o => ((Kp.refl (fun _ => False) wr).alloc o).cell c2 (fun h => h)
   have x0 : 0 ≤ n % 256 := by omega
   obtain ⟨va, vc, rfl, _, _⟩ := ho.form
   clear hat ho hv hk hr hs c1 hl hnx
   have ww : IntKind.i64.wrap 0 = 0 := by decide
   go_wp2_with fail
   go_region_law ((refine step_append_run _ HR.out (by rfl) (by rfl) (by rfl) (by rfl) ?_))
   all_goals go_wp2_with fail
   all_goals exact ⟨⟨3 + 1, by omega, rfl, HS.out⟩, by first | decide | simp [intOf]⟩
  | 4, _ =>
   have HF := Lib.hid (show LS w g (l ++ be4 n) wr from ⟨v, hat, ho, hv, hk, hg⟩)
   clear hat ho hv hk
   go_wp2
   go_end0
   exact ⟨rfl, HF.out⟩

set_option maxHeartbeats 4000000 in
theorem lay_2 (w w0 : World) (g : Nat) (l : List Int) (n : Int) (h : LS w g l w0) (hn : 0 ≤ n ∧ n ≤ 2147483647) (hll : l.length ≤ 2000) :
 Calls Tryz.prog 130 #[.int .i64 n, .int .i64 2, .pointer (some ⟨g, 0, none⟩)] w0 fun e w' => e = .returned (.tuple #[]) ∧ LS w g (l ++ be2 n) w' := by
 obtain ⟨hn0, hn1⟩ := hn
 have H0 := Lib.hid h
 clear h
 go_enter Tryz.func130, Tryz.ntmps130
 go_wp2_with fail
 go_loopw [5] (fun i wr => ∃ k : Nat, k ≤ 2 ∧ i = .int .i64 (1 - (k : Int)) ∧ LS w g (l ++ (be2 n).take k) wr) (fun i _ => ((intOf i) + 1).toNat)
 case atStart => exact ⟨0, by omega, rfl, by simpa using H0.out⟩
 case round =>
  clear H0
  obtain ⟨k, hk4, rfl, v, hat, ho, hv, hk, hg⟩ := hrel
  match k, hk4 with
  | 0, _ =>
   have hl : (l ++ (be2 n).take 0).length ≤ 100000 := by simp [be2]; omega
   have hnx : (l ++ (be2 n).take 0) ++ [n / 256 % 256] = l ++ (be2 n).take (0 + 1) := by rw [List.append_assoc]; rfl
   generalize l ++ (be2 n).take 0 = L at ho hl hnx
   obtain ⟨a, c, w', hr, hs, hc, hf⟩ := LS.app hat ho hv hk hg (n / 256 % 256) (by omega) hl
   rw [hnx] at hs
   have HR := Lib.hid hr
   have HS := Lib.hid hs
   have c1 := hat.cell 0
   have c2 : wr.cell? ⟨g, 0, none⟩ = some v := c1.trans rfl
   have c3 : wr.drew.cell? ⟨g, 0, none⟩ = some v := c2
   have c4 := fun o => ((Kp.refl (fun _ => False) wr).alloc o).cell c2 (fun h => h)
   have x0 : 0 ≤ n / 256 % 256 := by omega
   obtain ⟨va, vc, rfl, _, _⟩ := ho.form
   clear hat ho hv hk hr hs c1 hl hnx
   have ww : IntKind.i64.wrap 8 = 8 := by decide
   go_wp2_with fail
   go_region_law ((refine step_append_run _ HR.out (by rfl) (by rfl) (by rfl) (by rfl) ?_))
   all_goals go_wp2_with fail
   all_goals exact ⟨⟨0 + 1, by omega, rfl, HS.out⟩, by first | decide | simp [intOf]⟩
  | 1, _ =>
   have hl : (l ++ (be2 n).take 1).length ≤ 100000 := by simp [be2]; omega
   have hnx : (l ++ (be2 n).take 1) ++ [n % 256] = l ++ (be2 n).take (1 + 1) := by rw [List.append_assoc]; rfl
   generalize l ++ (be2 n).take 1 = L at ho hl hnx
   obtain ⟨a, c, w', hr, hs, hc, hf⟩ := LS.app hat ho hv hk hg (n % 256) (by omega) hl
   rw [hnx] at hs
   have HR := Lib.hid hr
   have HS := Lib.hid hs
   have c1 := hat.cell 0
   have c2 : wr.cell? ⟨g, 0, none⟩ = some v := c1.trans rfl
   have c3 : wr.drew.cell? ⟨g, 0, none⟩ = some v := c2
   have c4 := fun o => ((Kp.refl (fun _ => False) wr).alloc o).cell c2 (fun h => h)
   have x0 : 0 ≤ n % 256 := by omega
   obtain ⟨va, vc, rfl, _, _⟩ := ho.form
   clear hat ho hv hk hr hs c1 hl hnx
   have ww : IntKind.i64.wrap 0 = 0 := by decide
   go_wp2_with fail
   go_region_law ((refine step_append_run _ HR.out (by rfl) (by rfl) (by rfl) (by rfl) ?_))
   all_goals go_wp2_with fail
   all_goals exact ⟨⟨1 + 1, by omega, rfl, HS.out⟩, by first | decide | simp [intOf]⟩
  | 2, _ =>
   have HF := Lib.hid (show LS w g (l ++ be2 n) wr from ⟨v, hat, ho, hv, hk, hg⟩)
   clear hat ho hv hk
   go_wp2
   go_end0
   exact ⟨rfl, HF.out⟩

end Go.Proofs.YtokembhfebnjpaaGreat
