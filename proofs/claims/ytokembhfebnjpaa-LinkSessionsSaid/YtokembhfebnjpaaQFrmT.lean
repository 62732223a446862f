/- Frames: what is put is read, and what is read is put. No program in sight. -/
import Derived.Test.YtokembhfebnjpaaQFrmK
import Derived.Test.YtokembhfebnjpaaQFrmP
namespace Go.Proofs.Ytokembhfebnjpaa
set_option maxRecDepth 20000
open Go.RowKit
set_option linter.unusedVariables false
set_option linter.unusedSimpArgs false
theorem put4_take (l : List Int) : (put4 l).take ((put4 l).length - 4) = l := by
  rw [put4_len]; simp [put4]
theorem ok4_put4 (l : List Int) : ok4 (put4 l) = true := by
  unfold ok4; rw [put4_take, put4_len]; simp
theorem ck_put4 (l : List Int) : ck (put4 l) = 0 := by unfold ck; rw [ok4_put4]; rfl
theorem chk_put4 (l : List Int) : chk (put4 l) = l := by unfold chk; rw [ok4_put4]; exact put4_take l
theorem layF_len (f : Fr) : (layF f).length = f.bd.length + 26 := by unfold layF; rw [put4_len, head4_len]
theorem byt_layF {f : Fr} (h : Byt f.bd) : Byt (layF f) := byt_put4 (byt_head4 h)
theorem num_be4 {n : Int} (h : 0 ≤ n ∧ n ≤ 2147483647) : ((num (be4 n) : Nat) : Int) = n := by
  simp [num, be4]; omega
theorem num_be2 {n : Int} (h : 0 ≤ n ∧ n ≤ 65535) : ((num (be2 n) : Nat) : Int) = n := by
  simp [num, be2]; omega
theorem parse_head {f : Fr} (ht : typedP f.ty) (hr : rangeP f.se f.bo f.sq f.ac) : parse (head4 f) = f := by
  obtain ⟨ty, se, bo, sq, ac, bd⟩ := f
  obtain ⟨r1, r2, r3, r4⟩ := hr
  have e1 := num_be4 r1
  have e2 := num_be4 r2
  have e3 := num_be4 r3
  have e4 := num_be4 r4
  unfold typedP at ht
  dsimp only at *
  have h3 : (head4 ⟨ty, se, bo, sq, ac, bd⟩).getD 3 0 = ty := by simp [head4]; omega
  have h4 : ((head4 ⟨ty, se, bo, sq, ac, bd⟩).drop 4).take 4 = be4 se := by simp [head4, be4]
  have h8 : ((head4 ⟨ty, se, bo, sq, ac, bd⟩).drop 8).take 4 = be4 bo := by simp [head4, be4]
  have h12 : ((head4 ⟨ty, se, bo, sq, ac, bd⟩).drop 12).take 4 = be4 sq := by simp [head4, be4]
  have h16 : ((head4 ⟨ty, se, bo, sq, ac, bd⟩).drop 16).take 4 = be4 ac := by simp [head4, be4]
  have h22 : (head4 ⟨ty, se, bo, sq, ac, bd⟩).drop 22 = bd := by simp [head4, be4, be2]
  unfold parse
  rw [h3, h4, h8, h12, h16, h22, e1, e2, e3, e4]
theorem errR_lay {f : Fr} (he : errF f = 0) : errR (layF f) = 0 ∧ frR (layF f) = f := by
  obtain ⟨ht, hr, hl, hs⟩ := errF_ok he
  have hp := parse_head ht hr
  have h20 : ((head4 f).drop 20).take 2 = be2 f.bd.length := by simp [head4, be4, be2]
  have e0 : errR (layF f) = 0 := by
    rw [errR_x (by rw [layF_len]; omega) (by rw [layF_len]; omega) (by unfold layF; exact ck_put4 _)]
    unfold layF
    rw [chk_put4]
    unfold errX
    rw [hp, h20, num_be2 (by omega)]
    rw [if_neg (by simp [head4]), if_neg (by simp [head4]), if_neg (fun h => h ht), if_neg (fun h => h hr), if_neg (fun h => h rfl), if_neg (by rw [hs]; decide)]
  refine ⟨e0, ?_⟩
  unfold frR
  rw [e0, if_pos rfl]
  unfold layF
  rw [chk_put4, hp]
theorem be4_num {y : List Int} (h4 : y.length = 4) (hb : Byt y) : be4 ((num y : Nat) : Int) = y := by
  obtain _ | ⟨a, _ | ⟨b, _ | ⟨c, _ | ⟨d, _ | ⟨e, y⟩⟩⟩⟩⟩ := y <;> simp at h4
  have h1 := hb a (by simp)
  have h2 := hb b (by simp)
  have h3 := hb c (by simp)
  have h4 := hb d (by simp)
  simp [num, be4]
  omega
theorem be2_num {y : List Int} (h2 : y.length = 2) (hb : Byt y) : be2 ((num y : Nat) : Int) = y := by
  obtain _ | ⟨a, _ | ⟨b, _ | ⟨c, y⟩⟩⟩ := y <;> simp at h2
  have h1 := hb a (by simp)
  have h2 := hb b (by simp)
  simp [num, be2]
  omega
theorem cut_at {α : Type} (x : List α) (i k : Nat) : x.drop i = (x.drop i).take k ++ x.drop (i + k) := by
  conv => lhs; rw [← List.take_append_drop k (x.drop i)]
  rw [List.drop_drop]
theorem take4_eq {x : List Int} (h : 4 ≤ x.length) : x.take 4 = [x.getD 0 0, x.getD 1 0, x.getD 2 0, x.getD 3 0] := by
  obtain _ | ⟨a, _ | ⟨b, _ | ⟨c, _ | ⟨d, y⟩⟩⟩⟩ := x <;> simp at h
  simp
theorem head_parse {x : List Int} (hb : Byt x) (hl : 22 ≤ x.length) (h0 : x.getD 0 0 = 83) (h1 : x.getD 1 0 = 75) (h2 : x.getD 2 0 = 1) (ht : typedP (x.getD 3 0)) (hn : ((num ((x.drop 20).take 2) : Nat) : Int) = ((x.drop 22).length : Int)) : head4 (parse x) = x := by
  have hbd : ∀ i k, Byt ((x.drop i).take k) := fun i k => (hb.drop i).take k
  have e3 : x.getD 3 0 % 256 = x.getD 3 0 := by unfold typedP at ht; omega
  unfold head4 parse
  dsimp only
  rw [e3, be4_num (by simp; omega) (hbd 4 4), be4_num (by simp; omega) (hbd 8 4), be4_num (by simp; omega) (hbd 12 4), be4_num (by simp; omega) (hbd 16 4), ← hn, be2_num (by simp; omega) (hbd 20 2)]
  have h4 := take4_eq (x := x) (by omega)
  rw [h0, h1, h2] at h4
  rw [← h4]
  have c0 : x = x.take 4 ++ x.drop 4 := (List.take_append_drop 4 x).symm
  have c4 := cut_at x 4 4
  have c8 := cut_at x 8 4
  have c12 := cut_at x 12 4
  have c16 := cut_at x 16 4
  have c20 := cut_at x 20 2
  conv => rhs; rw [c0, c4, c8, c12, c16, c20]
  simp only [List.append_assoc]
theorem ck_zero {b : List Int} (h : ck b = 0) : ok4 b = true := by
  unfold ck at h; split at h
  · assumption
  · omega
theorem put4_chk {b : List Int} (h : ok4 b = true) : put4 (chk b) = b := by
  unfold chk; rw [if_pos h]
  unfold ok4 at h
  simp at h
  exact h.2
theorem byt_chk {b : List Int} (h : Byt b) : Byt (chk b) := by
  unfold chk; split
  · exact h.take _
  · intro x hx; simp at hx
theorem chk_ok_len {b : List Int} (h : ok4 b = true) : (chk b).length + 4 = b.length := by
  conv => rhs; rw [← put4_chk h, put4_len]
theorem lay_errR {b : List Int} (hb : Byt b) (he : errR b = 0) : errF (frR b) = 0 ∧ layF (frR b) = b ∧ ck b = 0 := by
  unfold errR at he
  split at he
  · omega
  rename_i h1
  split at he
  · omega
  rename_i h2
  split at he
  · omega
  rename_i h3
  have hk : ck b = 0 := Decidable.byContradiction fun h => h3 h
  have hok := ck_zero hk
  have hlen := chk_ok_len hok
  have hf : frR b = parse (chk b) := by
    unfold frR
    rw [errR_x h1 h2 hk, if_pos he]
  rw [hf]
  have hx := byt_chk hb
  have hlx : 22 ≤ (chk b).length := by omega
  have hput := put4_chk hok
  generalize chk b = x at *
  unfold errX at he
  split at he
  · omega
  rename_i g1
  split at he
  · omega
  rename_i g2
  split at he
  · omega
  rename_i g3
  split at he
  · omega
  rename_i g4
  split at he
  · omega
  rename_i g5
  split at he
  · omega
  rename_i g6
  have q0 : x.getD 0 0 = 83 := Decidable.byContradiction fun h => g1 (.inl h)
  have q1 : x.getD 1 0 = 75 := Decidable.byContradiction fun h => g1 (.inr h)
  have q2 : x.getD 2 0 = 1 := Decidable.byContradiction fun h => g2 h
  have q3 : typedP (parse x).ty := Decidable.byContradiction fun h => g3 h
  have q4 : rangeP (parse x).se (parse x).bo (parse x).sq (parse x).ac := Decidable.byContradiction fun h => g4 h
  have q5 : (num ((x.drop 20).take 2) : Int) = ((parse x).bd.length : Int) := Decidable.byContradiction fun h => g5 h
  have hh := head_parse hx hlx q0 q1 q2 q3 q5
  refine ⟨?_, ?_, hk⟩
  · have hbl : (parse x).bd.length = x.length - 22 := by simp [parse]
    unfold errF
    rw [if_neg (fun h => h q3), if_neg (fun h => h q4), if_neg (by rw [hbl]; omega), if_neg g6]
  · unfold layF
    rw [hh, hput]
end Go.Proofs.Ytokembhfebnjpaa
