/- InboxAll: what is told is laid behind what came: the state of the next round. -/
import Derived.Test.YtnigdgopmmccgaaInbW
namespace Go.Proofs.Ytnigdgopmmccgaa
open Go.RowKit
set_option linter.unusedVariables false
theorem AllS.app {w wr w6 w7 : World} {b s : Nat} {l : List (List Int)} {f f' : Bodies} {n n' hd hd' : Nat} {F F' : Nat → Prop} {left left' : List Nat} {vl vl' : Value} {ga va : Option Addr} {gc vc : Nat} {vs vs2 : List Value}
    (h : AllS w wr b s l f n hd F left vl (.slice ga (n - 1) gc) vs)
    (kk2 : InbAt w6 b s f' n' hd' F') (kk3 : n ≤ n') (kk5 : vs2.length = n' - n) (kk6 : Own w6 (.slice va (n' - n) vc) (n' - n) 1 vs2) (kk7 : Told w6 f' n vs2 (fun g => (F g ∧ g ≠ b) ∨ wr.heap.size ≤ g) F') (kk9 : ∀ g, F' g → F g ∨ wr.heap.size ≤ g) (kk1 : Kp (· = b) wr w6)
    (hf : ∀ k y, f k = some y → f' k = some y) (k67 : Kp (fun _ => False) w6 w7) (hlaw : LeftI f' l left') (hlo : Own w7 vl' left'.length 1 (nums left')) (hlf : ∀ g, vl'.ownBlock = some g → w6.heap.size ≤ g ∨ vl.ownBlock = some g) :
    ∃ v3 w8, (Builtin.append_ #[35, 35] 35 #[.slice ga (n - 1) gc, .slice va (n' - n) vc]).run Try.prog w7 = .ok v3 w8 ∧ AllS w w8 b s l f' n' hd' F' left' vl' v3 (vs ++ vs2) := by
  have hn1 := h.n1.1
  have hb : n' ≤ 2147483647 := by obtain ⟨⟨c, hc⟩, _⟩ := kk2; exact hc.n_bd.2
  have hgl : ∀ g, (Value.slice ga (n - 1) gc).ownBlock = some g → g < wr.heap.size := h.go.lt
  have hgb : ∀ g, (Value.slice ga (n - 1) gc).ownBlock = some g → ¬ g = b := fun g hg e => (h.gf g hg).2.1 (e ▸ h.b_in.1)
  have hone : ∀ u ∈ vs2, u.oneCell' = true := fun u hu => by
    obtain ⟨i, hi, rfl⟩ := List.getElem_of_mem hu
    obtain ⟨y, _, ho⟩ := kk7.own i hi
    obtain ⟨a, c, e, _⟩ := ho.form
    rw [List.getD_eq_getElem?_getD, List.getElem?_eq_getElem hi] at e
    have e' : vs2[i] = .slice a y.length c := e
    rw [e']; rfl
  obtain ⟨v3, w8, r1, r2, r3, r4, _⟩ := run_append_at (P := Try.prog) (t := 35) (tx := 35) (ty := 35) w7 Try.underlying35 elem_bytes Try.underlying35
    ((h.go.kp kk1 hgb).kp k67 (fun _ _ h => h)) (a := va) (m := n' - n) (c := vc) (news := vs2) (by omega) ((kk6.kp k67 (fun _ _ h => h)).rd) hone (by unfold maxLen; omega) (by omega)
  refine ⟨v3, w8, r1, ?_⟩
  rw [show n - 1 + (n' - n) = n' - 1 by omega] at r2
  exact h.next (v2 := undef) kk2 kk3 kk5 kk7 kk9 kk1 hf k67 hlaw hlo hlf r2 r3 r4
theorem elem_i64 : Elem Try.prog 3 (.int .i64 0) 1 8 := Elem.mk' (by kernel_rfl) rfl (by omega) (by simp [Value.cells, Value.oneCell'])
theorem nf_mono {f : Bodies} {n s : Nat} {q : Int} {y : List Int} (h : f q.toNat = none) : ∀ k z, f k = some z → nf f n s q y k = some z := fun k z hk => by
  unfold nf
  split
  · rw [put_ne]
    · exact hk
    · intro e; rw [e, h] at hk; cases hk
  · exact hk
theorem nums_cut (left : List Nat) (kx : Nat) : (nums left).take kx ++ (nums left).drop (kx + 1) = nums (left.take kx ++ left.drop (kx + 1)) := by
  simp [nums, List.map_take, List.map_drop]
theorem cut_len {left : List Nat} {kx : Nat} (h : kx < left.length) : (left.take kx ++ left.drop (kx + 1)).length + 1 = left.length := by
  simp; omega
end Go.Proofs.Ytnigdgopmmccgaa
