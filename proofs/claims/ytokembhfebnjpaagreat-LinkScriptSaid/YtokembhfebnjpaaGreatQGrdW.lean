/- Package guard: words, More, Sum. -/
import Derived.Test.YtokembhfebnjpaaGreatQMemM
import Derived.Test.YtokembhfebnjpaaGreatQGrdMM
import Derived.Laws.Rows
import Derived.Outline
namespace Go.Proofs.YtokembhfebnjpaaGreat
set_option maxRecDepth 20000
open Go.RowKit
set_option linter.unusedVariables false
def tk (k : Nat) : List Value := (List.range 256).map fun i => if i < k then Value.int .u32 ((stn 8 i : Nat) : Int) else .int .u32 0
theorem tk_len (k : Nat) : (tk k).length = 256 := by simp [tk]
theorem tk_set (k : Nat) (h : k < 256) : (tk k).set k (.int .u32 ((stn 8 k : Nat) : Int)) = tk (k + 1) := by
 apply List.ext_getElem?
 intro i
 rw [List.getElem?_set]
 by_cases hi : i < 256
 · by_cases hk : k = i
   · subst hk; simp [tk, hi]
   · have : (i < k + 1) = (i < k) := by simp; omega
     simp [tk, hi, hk, this]
 · simp [tk, hi]; omega
theorem tk_get (k : Nat) (h : k < 256) : (tk 256)[k]? = some (.int .u32 ((stn 8 k : Nat) : Int)) := by
 simp [tk, h]
def tblA : Array Value := (tk 256).toArray
def ztA : Array Value := (List.replicate 256 (Value.int .u32 0)).toArray
theorem zero_tbl (w : World) : (zeroValue 140).run Tryz.prog w = .ok (.agg ztA) w := by kernel_rfl
theorem ztA_size : ztA.size = 256 := by unfold ztA; rw [List.size_toArray, List.length_replicate]
theorem ztA_ne : ¬ ztA = #[] := fun h => by have := ztA_size; rw [h] at this; cases this
theorem ztA_lt : ¬ ztA.size < 2 := by rw [ztA_size]; omega
theorem ztA_tk : ztA.toList = tk 0 := by
 unfold ztA tk
 have e : (fun i => if i < 0 then Value.int .u32 ((stn 8 i : Nat) : Int) else .int .u32 0) = fun _ : Nat => Value.int .u32 0 := by funext i; rw [if_neg (by omega)]
 rw [e, List.map_const', List.length_range]
theorem tblA_size : tblA.size = 256 := by unfold tblA; rw [List.size_toArray, tk_len]
theorem tbl_info : (Tryz.prog.info? 140).map (·.size) = some tblA.size := by rw [tblA_size]; kernel_rfl
theorem tbl_one : tblA.all (·.oneCell') = true := all_oneCell_toArray (fun v hv => by
 obtain ⟨i, _, rfl⟩ := List.mem_map.1 hv
 split <;> rfl)
theorem u32_and1 (x : Nat) (h : x < M32) : bits .and .u32 (x : Int) 1 = ((x % 2 : Nat) : Int) := by
 have := u32_and_nat x 1 h (by decide)
 rw [Nat.and_one_is_mod] at this
 exact this
theorem u32_stodd (x : Nat) (h : x < M32) (ho : x % 2 = 1) : bits .xor .u32 ((x : Int) / 2) 3988292384 = ((st x : Nat) : Int) := by
 have := u32_xor_nat (x / 2) P32 (by unfold M32 at h; omega) (by decide)
 rw [st, if_pos ho, ← this]; rfl
theorem steven (x : Nat) (he : x % 2 = 0) : ((x : Int) / 2) = ((st x : Nat) : Int) := by
 rw [st, if_neg (by omega), Nat.xor_zero]; rfl
set_option maxRecDepth 100000 in
theorem words_any (w : World) : Calls Tryz.prog 88 #[] w fun e w' => e = .returned (.agg tblA) ∧ Kp (fun _ => False) w w' := by
 have hz := zero_tbl
 have z1 := ztA_ne
 have z2 := ztA_lt
 go_enter Tryz.func88, Tryz.ntmps88
 go_wp2_with fail
 clear hz z1 z2
 refine wp_world (fun wr => At wr w.heap.size (tk 0) ∧ At wr (w.heap.size + 1) (tk 0) ∧ Kp (fun _ => False) w wr) ?_ ?_
 · have e : Obj.cells ztA 140 = Obj.cells (tk 0).toArray 140 := by rw [← ztA_tk]
   rw [e]
   exact ⟨(At.new w (tk 0) _).alloc _, by simpa using At.new (w.alloc (.cells (tk 0).toArray 140)) (tk 0) 140, ((Kp.refl _ w).alloc _).alloc _⟩
 intro w1 hw1
 have H1 := Lib.hid hw1
 clear hw1
 go_loopw [5] (fun i wr => ∃ k : Nat, k ≤ 256 ∧ i = .int .i64 k ∧ At wr w.heap.size (tk 0) ∧ At wr (w.heap.size + 1) (tk k) ∧ Kp (fun _ => False) w wr) (fun i _ => 256 - (intOf i).toNat)
 case atStart => obtain ⟨h1, h2, h3⟩ := H1.out; exact ⟨0, by omega, rfl, h1, h2, h3⟩
 case round =>
  clear H1
  obtain ⟨k, hk, rfl, h0, h1, hkp⟩ := hrel
  by_cases hlt : k < 256
  · have hset := h1.set k (.int .u32 ((stn 8 k : Nat) : Int))
    rw [tk_set k hlt] at hset
    have i1 : (k : Int) < 256 := by omega
    have hf := h1.frozen k
    have hcell := h1.cell k
    rw [show (tk k)[k]? = some (.int .u32 0) by simp [tk, hlt]] at hcell
    have HS := Lib.hid (And.intro (h0.setOther (a := ⟨w.heap.size + 1, k, none⟩) (by simp) (.int .u32 ((stn 8 k : Nat) : Int))) (And.intro hset (hkp.setCell (p := ⟨w.heap.size + 1, k, none⟩) (by simp) (.int .u32 ((stn 8 k : Nat) : Int)))))
    clear h0 h1 hkp hset
    obtain ⟨wo, rfl⟩ : ∃ wo : World, wo = wr := ⟨_, rfl⟩
    go_wp2_with fail
    go_loop [3, 10] (fun n j => ∃ m : Nat, m ≤ 8 ∧ j = .int .i64 m ∧ n = .int .u32 ((stn m k : Nat) : Int)) (fun _ j => 8 - (intOf j).toNat)
    case atStart => exact ⟨0, by omega, rfl, rfl⟩
    case round =>
     obtain ⟨m, hm, rfl, rfl⟩ := hrel
     have hx : stn m k < M32 := stn_lt m (by unfold M32; omega)
     by_cases hm8 : m < 8
     · have HN := Lib.hid (stn_succ m k)
       have i2 : (m : Int) < 8 := by omega
       generalize stn m k = x at *
       have x0 : (0 : Int) ≤ (x : Int) := by omega
       have x1 : (x : Int) < 4294967296 := by unfold M32 at hx; omega
       have e1 := u32_and1 x hx
       rcases Nat.mod_two_eq_zero_or_one x with hp | hp
       · have e2 := steven x hp
         rw [hp] at e1
         have HE := Lib.hid e2
         clear e2 hp hx
         go_wp2
         go_round
         case rel => exact ⟨m + 1, by omega, by go_num, by rw [HN.out, ← HE.out]⟩
         case measure => simp [intOf]; omega
       · have e2 := u32_stodd x hx hp
         rw [hp] at e1
         clear hp hx
         go_wp2
         go_round
         case rel => exact ⟨m + 1, by omega, by go_num, by rw [HN.out]⟩
         case measure => simp [intOf]; omega
     · obtain rfl : m = 8 := by omega
       clear hx
       generalize stn 8 k = x at *
       go_wp2_with fail
       exact ⟨⟨k + 1, by omega, by go_num, HS.out.1, HS.out.2.1, HS.out.2.2⟩, by simp [intOf]; omega⟩
  · obtain rfl : k = 256 := by omega
    have hi := tbl_info
    have hu := Tryz.underlying140
    obtain ⟨T1, g1⟩ := h1
    have HG := Lib.hid g1
    have ht : wr.there w.heap.size 0 tblA.size := fun j hj => by
     rw [tblA_size] at hj
     refine ⟨?_, h0.frozen _⟩
     rw [h0.cell, List.getElem?_eq_getElem (by rw [tk_len]; omega)]; rfl
    have HF := Lib.hid (show At (wr.setCells w.heap.size 0 tblA.toList) w.heap.size (tk 256) ∧ Kp (fun _ => False) w (wr.setCells w.heap.size 0 tblA.toList) from
     ⟨by
      have := h0.setCells tblA.toList 0 (by simp [tblA, tk_len])
      rwa [show List.take 0 (tk 0) ++ tblA.toList ++ List.drop (0 + tblA.toList.length) (tk 0) = tk 256 by simp [tblA, tk_len]] at this, Kp.setCells (by simp) _ _ hkp⟩)
    clear h0 hkp g1
    go_wp2_with (first | (refine wpList_load_row rfl 140 (.tmp 1) rfl (w.heap.size + 1) rfl T1 tblA (0, 0) _ HG.out hu rfl hi ?_) | (refine wpList_store_mid rfl 140 (.tmp 0) (.tmp 25) rfl w.heap.size 0 tblA rfl rfl ht hi tbl_one ?_))
    obtain ⟨⟨T2, g2⟩, hk⟩ := HF.out
    exact bodyPost_ret (v := .agg tblA) (results_cell_row rfl _ _ w.heap.size T2 tblA (0, 0) _ rfl g2 hu rfl hi) rfl ⟨rfl, hk⟩
end Go.Proofs.YtokembhfebnjpaaGreat
