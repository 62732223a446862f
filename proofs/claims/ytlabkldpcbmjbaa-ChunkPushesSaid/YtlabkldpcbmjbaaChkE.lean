/- Package chunk: an edge that was told some bytes; what a fresh one is. (Written by wip/chkegen.py.) -/
import Derived.Test.YtlabkldpcbmjbaaChkR
import Derived.Test.YtlabkldpcbmjbaaMem
import Derived.Outline
import Derived.Deep.MidRow
import Derived.Laws.Rows
import Derived.Deep.DeepCutAuto
namespace Go.Proofs.Ytlabkldpcbmjbaa
open Go.RowKit
set_option linter.unusedVariables false
set_option linter.unusedSimpArgs false
/-- The block b begins with an edge to which the bytes cur of a chunk have come; behind it lies T. -/
def EdgeAt (w : World) (b : Nat) (cur : List Int) (T : List Value) : Prop :=
  ∃ ring n s, At w b (rollC ring n s ++ (.int .i64 cur.length :: T)) ∧ RollInv cur ring n s
theorem EdgeAt.kp {S : Nat → Prop} {w w' : World} {b : Nat} {cur : List Int} {T : List Value} (h : EdgeAt w b cur T) (hk : Kp S w w') (hb : ¬ S b) : EdgeAt w' b cur T := by
  obtain ⟨r, n, s, h, i⟩ := h; exact ⟨r, n, s, hk.at h hb, i⟩
theorem EdgeAt.lt {w : World} {b : Nat} {cur : List Int} {T : List Value} (h : EdgeAt w b cur T) : b < w.heap.size := by
  obtain ⟨r, n, s, h, i⟩ := h; exact h.lt
theorem edge_19 {ring : List Int} {n : Nat} {s : Int} (hr : ring.length = 16) (v u : Value) (T : List Value) : (rollC ring n s ++ (v :: T)).set 19 u = rollC ring n s ++ (u :: T) := by
  rw [List.set_append_right _ _ (by rw [rollT_len hr]; omega), rollT_len hr]; rfl
theorem edge_c19 {w : World} {b : Nat} {ring : List Int} {n : Nat} {s : Int} {v : Value} {T : List Value} (h : At w b (rollC ring n s ++ (v :: T))) (hr : ring.length = 16) : w.cell? ⟨b, 19, none⟩ = some v := by
  rw [h.cell, List.getElem?_append_right (by rw [rollT_len hr]; omega), rollT_len hr]; rfl
/-- The row of a fresh edge. -/
def freshC : List Value := rollC (List.replicate 16 0) 0 0 ++ [.int .i64 0]
theorem freshC_eq : freshC = [.int .u8 0, .int .u8 0, .int .u8 0, .int .u8 0, .int .u8 0, .int .u8 0, .int .u8 0, .int .u8 0, .int .u8 0, .int .u8 0, .int .u8 0, .int .u8 0, .int .u8 0, .int .u8 0, .int .u8 0, .int .u8 0, .int .i64 0, .int .u32 0, .bool true, .int .i64 0] := rfl
theorem EdgeAt.fresh {w : World} {b : Nat} {T : List Value} (h : At w b (freshC ++ T)) : EdgeAt w b [] T := ⟨_, _, _, by simpa [freshC] using h, RollInv.start⟩
set_option maxHeartbeats 1000000 in
theorem ends_at (b : Nat) (cur : List Int) (T : List Value) (c : Int) (w : World) (h : EdgeAt w b cur T) (hc : 0 ≤ c ∧ c ≤ 255) (hl : cur.length < 2000) :
    Calls Try.prog 40 #[.pointer (some ⟨b, 0, none⟩), .int .u8 c] w fun e w' => e = .returned (.bool (ends (cur ++ [c]))) ∧ EdgeAt w' b (cur ++ [c]) T ∧ Kp (· = b) w w' := by
  obtain ⟨ring, n, s, h, i⟩ := h
  have hr := i.len
  have x19 := edge_c19 h hr
  have f19 := h.frozen 19
  have HI := Lib.hid (And.intro h (And.intro i hr))
  have HC := Lib.hid hc
  have HE : Hid (ends (cur ++ [c]) = (decide (cur.length + 1 = 1024) || (decide (64 ≤ cur.length + 1) && decide (sm (last16 (cur ++ [c])) / 16777216 = 0)))) := by show _ = _; unfold ends; rw [List.length_append, List.length_singleton]
  have hs := sm_bd (last16 (cur ++ [c]))
  have HP := Lib.hid (fun w' v (h' : At w' b (rollC ring n s ++ (v :: T))) => push_front b (v :: T) ring n s c cur w' h' i hc)
  generalize sm (last16 (cur ++ [c])) = S at *
  generalize hm : cur.length = m at *
  clear h i hr hc
  go_enter Try.func40, Try.ntmps40
  go_upto_region 2 with fail
  refine wp_world (fun wx => At wx b (rollC ring n s ++ (.int .i64 ((m + 1 : Nat) : Int) :: T)) ∧ Kp (· = b) w wx) ⟨?_, ?_⟩ ?_
  · have := HI.out.1.set 19 (.int .i64 ((m : Int) + 1))
    rw [edge_19 HI.out.2.2] at this
    exact this
  · exact (Kp.refl (· = b) w).setCell (p := ⟨b, 19, none⟩) (fun _ => rfl) _
  rintro w1 ⟨ha1, k1⟩
  have H1 := Lib.hid (And.intro ha1 k1)
  clear ha1 k1 x19 f19
  go_upto_region 3 with (go_at_call 42; (with_reducible refine (HP.out _ _ H1.out.1).mono ?_); rintro e w2 ⟨rfl, h2, k2⟩; have H2 := Lib.hid (And.intro h2 k2); clear h2 k2)
  obtain ⟨ring', n', s', ha2, i2⟩ := H2.out.1
  have x19 := edge_c19 ha2 i2.len
  have HF := Lib.hid (And.intro ha2 (And.intro i2 (H1.out.2.trans H2.out.2)))
  have i1 : (((m : Int) + 1) == 1024) = decide (m + 1 = 1024) := by
    rw [Bool.eq_iff_iff]; simp; omega
  have i3 : decide ((64 : Int) ≤ (m : Int) + 1) = decide (64 ≤ m + 1) := by
    rw [decide_eq_decide]; omega
  have i4 : (S / 16777216 == 0) = decide (S / 16777216 = 0) := by
    rw [Bool.eq_iff_iff]; simp
  clear ha2 i2 H2 HP
  by_cases h1 : m + 1 = 1024
  · have e1 : (((m : Int) + 1) == 1024) = true := by simp; omega
    go_wp2
    go_ret
    refine ⟨by rw [HE.out, decide_eq_true h1]; rfl, ⟨_, _, _, ?_, HF.out.2.1⟩, HF.out.2.2⟩
    rw [List.length_append, List.length_singleton, hm]; exact HF.out.1
  · have e1 : (((m : Int) + 1) == 1024) = false := by simp; omega
    by_cases h2 : 64 ≤ m + 1
    · have e2 : (64 : Int) ≤ (m : Int) + 1 := by omega
      go_wp2
      go_ret
      refine ⟨by rw [HE.out, decide_eq_false h1, decide_eq_true h2]; simp [i4], ⟨_, _, _, ?_, HF.out.2.1⟩, HF.out.2.2⟩
      rw [List.length_append, List.length_singleton, hm]; exact HF.out.1
    · have e2 : ¬ (64 : Int) ≤ (m : Int) + 1 := by omega
      go_wp2
      go_ret
      refine ⟨by rw [HE.out, decide_eq_false h1, decide_eq_false h2]; rfl, ⟨_, _, _, ?_, HF.out.2.1⟩, HF.out.2.2⟩
      rw [List.length_append, List.length_singleton, hm]; exact HF.out.1
theorem EdgeAt.there {w : World} {b : Nat} {cur : List Int} {T : List Value} (h : EdgeAt w b cur T) : w.there b 0 freshC.toArray.size := fun j hj => by
  obtain ⟨r, n, s, h, i⟩ := h
  have hj' : j < 20 := hj
  refine ⟨?_, h.frozen _⟩
  rw [Nat.zero_add, h.cell, List.getElem?_eq_getElem (by rw [List.length_append, rollT_len i.len, List.length_cons]; omega)]; rfl
theorem EdgeAt.store {w : World} {b : Nat} {cur : List Int} {T : List Value} (h : EdgeAt w b cur T) : EdgeAt (w.setCells b 0 freshC) b [] T ∧ Kp (· = b) w (w.setCells b 0 freshC) := by
  obtain ⟨r, n, s, h, i⟩ := h
  have h2 := At.setCells freshC 0 h (by rw [List.length_append, rollT_len i.len, List.length_cons]; simp [freshC, rollC]; omega)
  refine ⟨EdgeAt.fresh ?_, Kp.setCells (S := (· = b)) (fun _ => rfl) _ _ (Kp.refl _ w)⟩
  have e : (rollC r n s ++ (.int .i64 cur.length :: T)).drop (0 + freshC.length) = T := by
    rw [show 0 + freshC.length = (rollC r n s).length + 1 by rw [rollT_len i.len]; rfl, List.drop_append]; simp
  rw [e] at h2
  exact h2
theorem wpList_build1 {P : Program} {w : World} {ops : Array Oper} {rest : List Oper} {o : Oper} {a : Act} {Q : Exit → Act → World → Prop} {t : TypeId} {i : Nat} {x : Operand} {X v : Value}
    (hrun : (Instr.build t #[(i, X)]).run P w = .ok v w) (hgd : Region.wanted o (yielded ops a.tmps) = true) (ho : o.op = .build t #[(i, x)]) (hx : a.eval x = X)
    (h : wpList P ops Q rest (a.put o.dst v) w) : wpList P ops Q (o :: rest) a w := by
  refine wpList_step fun K hK => ?_
  rw [if_pos hgd]
  unfold Oper.wp execOp
  simp only [ho, Sem.run_bind, Sem.run_pure, Result.andThen_ok, List.map_toArray, List.map_cons, List.map_nil, hx, hrun]
  exact hK _ _ h
theorem fresh_build (w : World) : (Instr.build 54 #[(0, .agg (rollC (List.replicate 16 0) 0 0).toArray)]).run Try.prog w = .ok (.agg freshC.toArray) w := by kernel_rfl
theorem roller_info : (Try.prog.info? 52).map (·.size) = some (rollC (List.replicate 16 0) 0 0).toArray.size := by kernel_rfl
theorem fresh_any (w : World) : Calls Try.prog 33 #[] w fun e w' => e = .returned (.agg freshC.toArray) ∧ Kp (fun _ => False) w w' := by
  have HB := Lib.hid fresh_build
  have HRI := Lib.hid roller_info
  have hi : (Try.prog.info? 54).map (·.size) = some freshC.toArray.size := by kernel_rfl
  have h1c : freshC.toArray.all (·.oneCell') = true := by simp [freshC, rollC, Value.oneCell']
  have hz : [.int .u8 0, .int .u8 0, .int .u8 0, .int .u8 0, .int .u8 0, .int .u8 0, .int .u8 0, .int .u8 0, .int .u8 0, .int .u8 0, .int .u8 0, .int .u8 0, .int .u8 0, .int .u8 0, .int .u8 0, .int .u8 0, .int .i64 0, .int .u32 0, .bool true, .int .i64 0] = freshC := rfl
  obtain ⟨A, hA⟩ : ∃ A, A = freshC.toArray := ⟨_, rfl⟩
  obtain ⟨R, hR⟩ : ∃ R, R = (rollC (List.replicate 16 0) 0 0).toArray := ⟨_, rfl⟩
  rw [← hA] at HB hi h1c ⊢
  rw [← hR] at HB HRI
  have HA := Lib.hid (And.intro hA hR)
  clear hA hR hz
  go_enter Try.func33, Try.ntmps33
  go_upto_region 1 with fail
  refine wp_world (fun wx => At wx w.heap.size [.int .u8 0, .int .u8 0, .int .u8 0, .int .u8 0, .int .u8 0, .int .u8 0, .int .u8 0, .int .u8 0, .int .u8 0, .int .u8 0, .int .u8 0, .int .u8 0, .int .u8 0, .int .u8 0, .int .u8 0, .int .u8 0, .int .i64 0, .int .u32 0, .bool false, .int .i64 0] ∧ Kp (fun _ => False) w wx) ⟨At.new w [.int .u8 0, .int .u8 0, .int .u8 0, .int .u8 0, .int .u8 0, .int .u8 0, .int .u8 0, .int .u8 0, .int .u8 0, .int .u8 0, .int .u8 0, .int .u8 0, .int .u8 0, .int .u8 0, .int .u8 0, .int .u8 0, .int .i64 0, .int .u32 0, .bool false, .int .i64 0] _, (Kp.refl _ w).alloc _⟩ ?_
  rintro w0 ⟨ha0, k0⟩
  have H0 := Lib.hid (And.intro ha0 k0)
  clear ha0 k0
  go_wp2_with (first | (go_at_call 38; refine (new_any _).mono ?_; rintro e w1 ⟨rfl, hb, k1⟩; have ha1 := k1.at H0.out.1 (fun h => h); have K1 := Lib.hid (And.intro ha1 (H0.out.2.trans k1)); have HT : Hid (w1.there w.heap.size 0 A.size) := (fun j hj => ⟨by rw [Nat.zero_add, ha1.cell, List.getElem?_eq_getElem (by rw [HA.out.1] at hj; exact hj)]; rfl, ha1.frozen _⟩); obtain ⟨T1, hg1⟩ := hb; have HG : Hid (w1.heap[w0.heap.size]? = some (.cells R T1 (0, 0))) := (by show _ = _; rw [HA.out.2]; exact hg1); clear ha1 hg1 k1) | (refine wpList_load_row rfl 52 (.tmp 2) rfl (w0.heap.size) rfl T1 R (0, 0) _ HG.out Try.underlying52 rfl HRI.out ?_) | (refine wpList_build1 (HB.out _) rfl rfl rfl ?_) | (refine wpList_store_mid rfl 54 (.tmp 0) (.tmp 4) rfl w.heap.size 0 A rfl rfl HT.out hi h1c ?_))
  have HF : At (w1.setCells w.heap.size 0 A.toList) w.heap.size freshC ∧ Kp (fun _ => False) w (w1.setCells w.heap.size 0 A.toList) := by
    have := At.setCells A.toList 0 K1.out.1 (by rw [HA.out.1]; simp [freshC, rollC])
    refine ⟨?_, Kp.setCells (by simp) _ _ K1.out.2⟩
    rw [HA.out.1] at this ⊢
    exact this
  obtain ⟨⟨T2, g2⟩, hk⟩ := HF
  exact bodyPost_ret (v := .agg A) (results_cell_row rfl _ _ w.heap.size T2 A (0, 0) _ rfl (by rw [HA.out.1] at g2 ⊢; exact g2) Try.underlying54 rfl hi) rfl ⟨rfl, hk⟩
end Go.Proofs.Ytlabkldpcbmjbaa
