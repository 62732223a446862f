/- Package frame: Put. -/
import Derived.Test.YtokembhfebnjpaaGreatQFrmAsM
import Derived.Test.YtokembhfebnjpaaGreatQFrmL
import Derived.Test.YtokembhfebnjpaaGreatQGrdPM
import Derived.Test.YtokembhfebnjpaaGreatQGrdRM
namespace Go.Proofs.YtokembhfebnjpaaGreat
set_option maxRecDepth 20000
open Go.RowKit
set_option linter.unusedVariables false
def frI (f : Fr) : Prop := (-9223372036854775808 ≤ f.se ∧ f.se ≤ 9223372036854775807) ∧ (-9223372036854775808 ≤ f.bo ∧ f.bo ≤ 9223372036854775807) ∧ (-9223372036854775808 ≤ f.sq ∧ f.sq ≤ 9223372036854775807) ∧ (-9223372036854775808 ≤ f.ac ∧ f.ac ≤ 9223372036854775807)
theorem errF_ok {f : Fr} (h : errF f = 0) : typedP f.ty ∧ rangeP f.se f.bo f.sq f.ac ∧ f.bd.length ≤ 1400 ∧ says f = true := by
 unfold errF at h
 split at h
 · omega
 · rename_i h1
   split at h
   · omega
   · rename_i h2
     split at h
     · omega
     · rename_i h3
       split at h
       · omega
       · rename_i h4
         exact ⟨Classical.byContradiction h1, Classical.byContradiction h2, by omega, by simpa using h4⟩
theorem fput_bad (f : Fr) (a : Option Addr) (c : Nat) (w : World) (hI : frI f) (hl : f.bd.length ≤ 4611686018427387904) (he : errF f ≠ 0) :
 Calls Tryz.prog 120 #[.agg (frA f a c)] w fun e w' => e = .returned (.tuple #[.slice none 0 0, .int .i64 (errF f)]) ∧ Kp (fun _ => False) w w' := by
 have C := fun w => fcheck_any f a c w hl hI.1 hI.2.1 hI.2.2.1 hI.2.2.2
 have C' := Lib.hid C
 have hne : (errF f != 0) = true := by simpa using he
 clear C he
 generalize errF f = er at *
 obtain ⟨ty, se, bo, sq, ac, bd⟩ := f
 dsimp only [frA] at *
 generalize bd.length = n at *
 clear hI
 go_enter Tryz.func120, Tryz.ntmps120
 go_wp2_with fail
 refine (C'.out _).mono ?_
 rintro e w1 ⟨rfl, hk⟩
 have HK := Lib.hid (((Kp.refl (fun _ => False) w).alloc _).trans hk)
 clear hk C'
 go_wp2
 go_ret2
 exact ⟨rfl, HK.out⟩
set_option maxHeartbeats 4000000 in
theorem fput_ok (f : Fr) (a : Option Addr) (c : Nat) (w : World) (hI : frI f) (hr : RdB w a f.bd) (hc : f.bd.length ≤ c) (he : errF f = 0) :
 Calls Tryz.prog 120 #[.agg (frA f a c)] w fun e w' => ∃ v, e = .returned (.tuple #[v, .int .i64 0]) ∧ OwnB w' v (layF f) ∧ (∀ g, v.ownBlock = some g → w.heap.size ≤ g) ∧ Kp (fun _ => False) w w' := by
 obtain ⟨_, hrg, hlen, _⟩ := errF_ok he
 have C := fun w => fcheck_any f a c w (by omega) hI.1 hI.2.1 hI.2.2.1 hI.2.2.2
 rw [he] at C
 have C' := Lib.hid C
 clear C he hI
 have HL := Lib.hid (show layF f = put4 ([83, 75, 1, f.ty % 256] ++ be4 f.se ++ be4 f.bo ++ be4 f.sq ++ be4 f.ac ++ be2 f.bd.length ++ f.bd) from rfl)
 generalize layF f = lf at *
 obtain ⟨ty, se, bo, sq, ac, bd⟩ := f
 dsimp only [frA] at *
 obtain ⟨b1, b2, b3, b4⟩ := hrg
 have HB := Lib.hid (And.intro b1 (And.intro b2 (And.intro b3 b4)))
 clear b1 b2 b3 b4
 have hmf : ∀ (fn : Fn) (first cap : Array Value) (w : World), (Instr.makeFunc fn first cap).run Tryz.prog w = .ok (.func fn first cap) w := fun _ _ _ _ => rfl
 go_enter Tryz.func120, Tryz.ntmps120
 go_wp2_with fail
 refine (C'.out _).mono ?_
 rintro e w1 ⟨rfl, hk⟩
 have hat0 := At.new w [.int .i64 ty, .int .i64 se, .int .i64 bo, .int .i64 sq, .int .i64 ac, .slice a bd.length c] 34
 have hat := hk.at hat0 (fun h => h)
 have hk1 := ((Kp.refl (fun _ => False) w).alloc (.cells #[.int .i64 ty, .int .i64 se, .int .i64 bo, .int .i64 sq, .int .i64 ac, .slice a bd.length c] 34)).trans hk
 have x0 : w1.cell? ⟨w.heap.size, 0, none⟩ = some (.int .i64 ty) := by rw [hat.cell]; rfl
 have H1 := Lib.hid (And.intro hat hk1)
 have x1 : w1.cell? ⟨w.heap.size, 1, none⟩ = some (.int .i64 se) := by rw [hat.cell]; rfl
 have x2 : w1.cell? ⟨w.heap.size, 2, none⟩ = some (.int .i64 bo) := by rw [hat.cell]; rfl
 have x3 : w1.cell? ⟨w.heap.size, 3, none⟩ = some (.int .i64 sq) := by rw [hat.cell]; rfl
 have x4 : w1.cell? ⟨w.heap.size, 4, none⟩ = some (.int .i64 ac) := by rw [hat.cell]; rfl
 have hlt := hat.lt
 clear hat hat0 hk hk1 C'
 go_wp2_with fail
 have hhd : Byt [83, 75, 1, ty % 256] := by intro x hx; simp at hx; omega
 have hls0 : LS w1 (w1.heap.size + 1) [83, 75, 1, ty % 256] ((w1.alloc (.cells (([83, 75, 1, ty % 256] : List Int).map (Value.int .u8)).toArray 5)).alloc (.cells #[.slice (some ⟨w1.heap.size, 0, none⟩) 4 4] 32)) := by
  have ha := At.new w1 (([83, 75, 1, ty % 256] : List Int).map (Value.int .u8)) 5
  refine ⟨.slice (some ⟨w1.heap.size, 0, none⟩) 4 4, by simpa using At.new (w1.alloc (.cells (([83, 75, 1, ty % 256] : List Int).map (Value.int .u8)).toArray 5)) [.slice (some ⟨w1.heap.size, 0, none⟩) 4 4] 32, ?_, fun x hx => by simp [Value.ownBlock] at hx; omega, ((Kp.refl _ w1).alloc _).alloc _, by omega⟩
  exact ⟨⟨by simp, .inr ⟨w1.heap.size, 4, [], rfl, by simpa using ha.alloc (.cells #[.slice (some ⟨w1.heap.size, 0, none⟩) 4 4] 32), by simp, by simp, by unfold maxLen; omega⟩⟩, fun g hg => ⟨_, by simp [Value.ownBlock] at hg; subst hg; exact ha.alloc _, isB_map hhd⟩, hhd, by simp⟩
 refine wp_world (fun wr => LS w1 (w1.heap.size + 1) [83, 75, 1, ty % 256] wr) hls0 ?_
 intro w2 hls
 have HLS := Lib.hid hls
 have HX := Lib.hid (show w1.cell? ⟨w.heap.size, 5, none⟩ = some (.slice a bd.length c) by rw [H1.out.1.cell]; rfl)
 clear hls0 hls x0 x1 x2 x3 x4 hhd
 have i0 : ∀ w, (Instr.index 169 (.agg #[.int .i64 se, .int .i64 bo, .int .i64 sq, .int .i64 ac]) (.int .i64 0)).run Tryz.prog w = .ok (.int .i64 se) w := fun _ => by kernel_rfl
 have i1 : ∀ w, (Instr.index 169 (.agg #[.int .i64 se, .int .i64 bo, .int .i64 sq, .int .i64 ac]) (.int .i64 1)).run Tryz.prog w = .ok (.int .i64 bo) w := fun _ => by kernel_rfl
 have i2 : ∀ w, (Instr.index 169 (.agg #[.int .i64 se, .int .i64 bo, .int .i64 sq, .int .i64 ac]) (.int .i64 2)).run Tryz.prog w = .ok (.int .i64 sq) w := fun _ => by kernel_rfl
 have i3 : ∀ w, (Instr.index 169 (.agg #[.int .i64 se, .int .i64 bo, .int .i64 sq, .int .i64 ac]) (.int .i64 3)).run Tryz.prog w = .ok (.int .i64 ac) w := fun _ => by kernel_rfl
 go_loopw [28] (fun i wr => ∃ k : Nat, k ≤ 4 ∧ i = .int .i64 k ∧ LS w1 (w1.heap.size + 1) ([83, 75, 1, ty % 256] ++ (be4 se ++ be4 bo ++ be4 sq ++ be4 ac).take (4 * k)) wr) (fun i _ => 4 - (intOf i).toNat)
 case atStart => exact ⟨0, by omega, rfl, by simpa using HLS.out⟩
 case round =>
  clear HLS
  obtain ⟨k, hk4, rfl, hls⟩ := hrel
  match k, hk4 with
  | 0, _ =>
   have C := Lib.hid (lay_4 w1 wr (w1.heap.size + 1) _ se hls HB.out.1 (by simp [be4]))
   rw [show ([83, 75, 1, ty % 256] ++ (be4 se ++ be4 bo ++ be4 sq ++ be4 ac).take (4 * 0)) ++ be4 se = [83, 75, 1, ty % 256] ++ (be4 se ++ be4 bo ++ be4 sq ++ be4 ac).take (4 * (0 + 1)) from rfl] at C
   clear hls
   go_wp2_with fail
   refine C.out.mono ?_
   rintro e w2 ⟨rfl, h2⟩
   have H2 := Lib.hid h2
   clear h2 C
   go_wp2_with fail
   exact ⟨⟨0 + 1, by omega, rfl, H2.out⟩, by simp [intOf]⟩
  | 1, _ =>
   have C := Lib.hid (lay_4 w1 wr (w1.heap.size + 1) _ bo hls HB.out.2.1 (by simp [be4]))
   rw [show ([83, 75, 1, ty % 256] ++ (be4 se ++ be4 bo ++ be4 sq ++ be4 ac).take (4 * 1)) ++ be4 bo = [83, 75, 1, ty % 256] ++ (be4 se ++ be4 bo ++ be4 sq ++ be4 ac).take (4 * (1 + 1)) from rfl] at C
   clear hls
   go_wp2_with fail
   refine C.out.mono ?_
   rintro e w2 ⟨rfl, h2⟩
   have H2 := Lib.hid h2
   clear h2 C
   go_wp2_with fail
   exact ⟨⟨1 + 1, by omega, rfl, H2.out⟩, by simp [intOf]⟩
  | 2, _ =>
   have C := Lib.hid (lay_4 w1 wr (w1.heap.size + 1) _ sq hls HB.out.2.2.1 (by simp [be4]))
   rw [show ([83, 75, 1, ty % 256] ++ (be4 se ++ be4 bo ++ be4 sq ++ be4 ac).take (4 * 2)) ++ be4 sq = [83, 75, 1, ty % 256] ++ (be4 se ++ be4 bo ++ be4 sq ++ be4 ac).take (4 * (2 + 1)) from rfl] at C
   clear hls
   go_wp2_with fail
   refine C.out.mono ?_
   rintro e w2 ⟨rfl, h2⟩
   have H2 := Lib.hid h2
   clear h2 C
   go_wp2_with fail
   exact ⟨⟨2 + 1, by omega, rfl, H2.out⟩, by simp [intOf]⟩
  | 3, _ =>
   have C := Lib.hid (lay_4 w1 wr (w1.heap.size + 1) _ ac hls HB.out.2.2.2 (by simp [be4]))
   rw [show ([83, 75, 1, ty % 256] ++ (be4 se ++ be4 bo ++ be4 sq ++ be4 ac).take (4 * 3)) ++ be4 ac = [83, 75, 1, ty % 256] ++ (be4 se ++ be4 bo ++ be4 sq ++ be4 ac).take (4 * (3 + 1)) from rfl] at C
   clear hls
   go_wp2_with fail
   refine C.out.mono ?_
   rintro e w2 ⟨rfl, h2⟩
   have H2 := Lib.hid h2
   clear h2 C
   go_wp2_with fail
   exact ⟨⟨3 + 1, by omega, rfl, H2.out⟩, by simp [intOf]⟩
  | 4, _ =>
   rw [show [83, 75, 1, ty % 256] ++ (be4 se ++ be4 bo ++ be4 sq ++ be4 ac).take (4 * 4) = [83, 75, 1, ty % 256] ++ be4 se ++ be4 bo ++ be4 sq ++ be4 ac from rfl] at hls
   have C := Lib.hid (lay_2 w1 wr (w1.heap.size + 1) _ (bd.length : Int) hls (by omega) (by simp [be4]))
   have y5 := (hls.elim fun v h => h.2.2.2.1.cell HX.out (fun h => h) : wr.cell? ⟨w.heap.size, 5, none⟩ = _)
   clear hls i0 i1 i2 i3
   go_wp2_with fail
   refine C.out.mono ?_
   rintro e w3 ⟨rfl, v, hat, ho, hv, hk, hg⟩
   generalize hL : [83, 75, 1, ty % 256] ++ be4 se ++ be4 bo ++ be4 sq ++ be4 ac ++ be2 ↑bd.length = L at *
   have hLl : L.length = 22 := by rw [← hL]; simp [be4, be2]
   have z5 := hk.cell HX.out (fun h => h)
   have z0 : w3.cell? ⟨w1.heap.size + 1, 0, none⟩ = some v := by rw [hat.cell]; rfl
   obtain ⟨v', w4, hr4, ho4, hk4', hat4⟩ := run_append_b (P := Tryz.prog) (t := 32) (tx := 32) (ty := 32) w3 Tryz.underlying32 elem_u8 Tryz.underlying32 ho (a := a) (c := c) (m := bd) (hr.kp0 (H1.out.2.trans hk) (fun _ _ h => h)) (by omega)
   have hk14 : Kp (fun _ => False) w w4 := (H1.out.2.trans hk).then hk4' (fun i hi e => by have := (hv i e).1; have := H1.out.2.size; omega)
   obtain ⟨va, vc, rfl, _, _⟩ := ho.form
   obtain ⟨va4, vc4, rfl, hrd4, hcc4⟩ := ho4.form
   have CP := put_any va4 vc4 (L ++ bd) w4 hrd4 (by simp; omega) hcc4
   rw [← HL.out] at CP
   rw [hLl] at hr4 z0
   rw [show (L ++ bd).length = 22 + bd.length by simp [hLl]] at CP hr4
   have CP' := Lib.hid CP
   have HR := Lib.hid hr4
   have HK := Lib.hid hk14
   clear hat ho hv hk hg ho4 hk4' hat4 hk14 hrd4 hcc4 CP hr4 C y5 hL
   go_wp2_with (at_builtin; refine wpList_append_run _ HR.out rfl rfl rfl rfl ?_)
   refine CP'.out.mono ?_
   rintro e w5 ⟨v5, rfl, hv5, hg5, hk5⟩
   have HF : Hid (OwnB w5 v5 lf ∧ (∀ g, v5.ownBlock = some g → w.heap.size ≤ g) ∧ Kp (fun _ => False) w w5) := ⟨hv5, fun g hg => by have := hg5 g hg; have := HK.out.size; omega, HK.out.trans hk5⟩
   clear hv5 hg5 hk5 CP'
   go_wp2
   go_ret2
   exact ⟨_, rfl, HF.out⟩
set_option linter.unusedSimpArgs false
theorem i64_or_nat (a b : Nat) (ha : a < 9223372036854775808) (hb : b < 9223372036854775808) : bits .or .i64 (a : Int) (b : Int) = ((a ||| b : Nat) : Int) := by
 have hx : a ||| b < 2 ^ 63 := Nat.or_lt_two_pow (by omega) (by omega)
 have h1 : (BitVec.ofInt 64 (a : Int)).toNat = a := by
  rw [BitVec.ofInt_natCast, BitVec.toNat_ofNat]; exact Nat.mod_eq_of_lt (by omega)
 have h2 : (BitVec.ofInt 64 (b : Int)).toNat = b := by
  rw [BitVec.ofInt_natCast, BitVec.toNat_ofNat]; exact Nat.mod_eq_of_lt (by omega)
 show IntKind.i64.wrap ((BitVec.ofInt 64 (a : Int) ||| BitVec.ofInt 64 (b : Int)).toNat : Int) = _
 rw [BitVec.toNat_or, h1, h2]
 rw [IntKind.wrap_i64]
 omega
theorem i64_or_sh (k n c : Nat) (hc : c < 2 ^ k) (hn : n * 2 ^ k < 9223372036854775808) (hk : k ≤ 32) : bits .or .i64 ((n * 2 ^ k : Nat) : Int) (c : Int) = ((n * 2 ^ k + c : Nat) : Int) := by
 have h2 : 2 ^ k ≤ 2 ^ 32 := Nat.pow_le_pow_right (by decide) hk
 rw [i64_or_nat _ _ hn (by omega)]
 congr 1
 rw [← Nat.shiftLeft_eq, Nat.shiftLeft_add_eq_or_of_lt hc]
def num (l : List Int) : Nat := l.foldl (fun n c => n * 256 + c.toNat) 0
theorem num_snoc (l : List Int) (c : Int) : num (l ++ [c]) = num l * 256 + c.toNat := by simp [num, List.foldl_append]
theorem num_take {l : List Int} (hb : Byt l) (k : Nat) (hk : k ≤ l.length) : num (l.take k) < 256 ^ k := by
 induction k with
 | zero => simp [num]
 | succ k ih =>
  have hlt : k < l.length := by omega
  rw [take_snoc l 0 k hlt, num_snoc, Nat.pow_succ]
  have := ih (by omega)
  have := hb.getD k
  omega
theorem number_any (a : Option Addr) (cap : Nat) (l : List Int) (w : World) (h : RdB w a l) (hl : l.length ≤ 4) :
 Calls Tryz.prog 60 #[.slice a l.length cap] w fun e w' => e = .returned (.int .i64 ((num l : Nat) : Int)) ∧ w = w' := by
 go_enter Tryz.func60, Tryz.ntmps60
 go_wp2_with fail
 go_loopw [3, 8] (fun n i wr => ∃ k : Nat, k ≤ l.length ∧ i = .int .i64 k ∧ n = .int .i64 ((num (l.take k) : Nat) : Int) ∧ w = wr) (fun _ i _ => l.length - (intOf i).toNat)
 case atStart => exact ⟨0, by omega, rfl, rfl, rfl⟩
 case round =>
  obtain ⟨k, hk, rfl, rfl, rfl⟩ := hrel
  by_cases hlt : k < l.length
  · obtain ⟨b, off, rfl, hcell⟩ := h.cell k hlt
    have hb := h.bd.getD k
    have hx : num (l.take k) < 16777216 := by
     have h1 := num_take h.bd k hk
     have h2 : 256 ^ k ≤ 256 ^ 3 := Nat.pow_le_pow_right (by decide) (by omega)
     omega
    have HN : Hid (num (l.take (k + 1)) = num (l.take k) * 256 + (l.getD k 0).toNat) := by
     show _ = _
     rw [take_snoc l 0 k hlt, num_snoc]
    generalize l.getD k 0 = c at *
    obtain ⟨c, rfl⟩ := Int.eq_ofNat_of_zero_le hb.1
    generalize num (l.take k) = x at *
    have hc8 : c < 256 := by omega
    have e1 : bits .or .i64 ((x : Int) * 256) (c : Int) = ((x * 256 + c : Nat) : Int) := by
     have := i64_or_sh 8 x c hc8 (by omega) (by omega)
     rwa [show ((x * 2 ^ 8 : Nat) : Int) = (x : Int) * 256 by omega] at this
    rw [Int.toNat_natCast] at HN
    generalize x * 256 + c = x' at *
    have i1 : (k : Int) < l.length := by omega
    go_wp2_with fail
    go_roundw
    case rel => exact ⟨k + 1, by omega, by go_num, by rw [HN.out], trivial⟩
    case measure => simp [intOf]; omega
  · obtain rfl : k = l.length := by omega
    rw [List.take_length] at *
    go_wp2_with fail
    go_ret
    exact ⟨rfl, rfl⟩
theorem num_take4 (l : List Int) (h : 4 ≤ l.length) : num (l.take 4) = (l.getD 0 0).toNat * 16777216 + (l.getD 1 0).toNat * 65536 + (l.getD 2 0).toNat * 256 + (l.getD 3 0).toNat := by
 obtain _ | ⟨c0, _ | ⟨c1, _ | ⟨c2, _ | ⟨c3, l⟩⟩⟩⟩ := l <;> simp at h
 simp [num]
 omega
theorem typed_any (t : Int) (w : World) : Calls Tryz.prog 64 #[.int .i64 t] w fun e w' => e = .returned (.bool (decide (typedP t))) ∧ w = w' := by
 by_cases h1 : 1 ≤ t
 · by_cases h2 : t ≤ 5
   · have hd : decide (typedP t) = true := by simp [typedP, h1, h2]
     rw [hd]
     go_enter Tryz.func64, Tryz.ntmps64
     go_wp2
     go_ret
     simp [go_sem]
   · have hd : decide (typedP t) = false := by simp [typedP, h2]
     rw [hd]
     go_enter Tryz.func64, Tryz.ntmps64
     go_wp2
     go_ret
     simp [go_sem]
 · have hd : decide (typedP t) = false := by simp [typedP, h1]
   rw [hd]
   go_enter Tryz.func64, Tryz.ntmps64
   go_wp2
   go_ret
   simp [go_sem]
def inR (n : Int) : Bool := decide (0 ≤ n ∧ n ≤ 2147483647)
theorem within_any (t : Int) (w : World) : Calls Tryz.prog 65 #[.int .i64 t] w fun e w' => e = .returned (.bool (inR t)) ∧ w = w' := by
 by_cases h1 : 0 ≤ t
 · by_cases h2 : t ≤ 2147483647
   · have hd : inR t = true := by simp [inR, h1, h2]
     rw [hd]
     go_enter Tryz.func65, Tryz.ntmps65
     go_wp2
     go_ret
     simp [go_sem]
   · have hd : inR t = false := by simp [inR, h2]
     rw [hd]
     go_enter Tryz.func65, Tryz.ntmps65
     go_wp2
     go_ret
     simp [go_sem]
 · have hd : inR t = false := by simp [inR, h1]
   rw [hd]
   go_enter Tryz.func65, Tryz.ntmps65
   go_wp2
   go_ret
   simp [go_sem]
set_option maxHeartbeats 4000000 in
theorem says_any (f : Fr) (a : Option Addr) (c : Nat) (w : World) (ht : typedP f.ty) (hr : rangeP f.se f.bo f.sq f.ac) (hl : f.bd.length ≤ 4611686018427387904) :
 Calls Tryz.prog 66 #[.agg (frA f a c)] w fun e w' => e = .returned (.bool (says f)) ∧ Kp (fun _ => False) w w' := by
 obtain ⟨ty, se, bo, sq, ac, bd⟩ := f
 unfold says
 dsimp only [frA] at *
 generalize bd.length = n at *
 have h5 : ty = 1 ∨ ty = 2 ∨ ty = 3 ∨ ty = 4 ∨ ty = 5 := by unfold typedP at ht; omega
 obtain ⟨⟨r1, r2⟩, ⟨r3, r4⟩, ⟨r5, r6⟩, r7, r8⟩ := hr
 clear ht
 rcases h5 with rfl | rfl | rfl | rfl | rfl
 all_goals
  go_enter Tryz.func66, Tryz.ntmps66
  go_wp2
  all_goals go_ret
  all_goals refine ⟨ret_bool ?_, (Kp.refl _ w).alloc _⟩
  all_goals first
   | exact dec_f (by unfold sayP; omega)
   | exact dec_t (by unfold sayP; omega)
   | (rw [Bool.eq_iff_iff]; simp [sayP]; done)
   | (rw [Bool.eq_iff_iff]; simp [sayP]; omega)
   | (rw [Bool.eq_iff_iff]; simp [sayP] at *; done)
   | (rw [Bool.eq_iff_iff]; simp [sayP] at *; omega)
theorem four_any (n : Int) (w : World) : Calls Tryz.prog 40 #[.int .i64 n] w fun e w' => e = .returned (.slice (some ⟨w.heap.size, 0, none⟩) 4 4) ∧ w' = w.alloc (.cells ((be4 n).map (Value.int .u8)).toArray 5) := by
 go_enter Tryz.func40, Tryz.ntmps40
 go_wp2
 go_ret
 exact ⟨rfl, rfl⟩
theorem calls_world {P : Program} {fn : FuncId} {args : Array Value} {Q : Ending → World → Prop} {w : World} (I : World → Prop) (h : I w) (H : ∀ w', I w' → Calls P fn args w' Q) : Calls P fn args w Q := H w h
theorem run_append_new (w : World) {v : Value} {l m : List Int} (h : OwnB w v l) (hm : Byt m) (hn : l.length + m.length ≤ 1000000000) :
 ∃ a c w', (Builtin.append_ #[32, 32] 32 #[v, .slice (some ⟨w.heap.size, 0, none⟩) m.length m.length]).run Tryz.prog (w.alloc (.cells (m.map (Value.int .u8)).toArray 5)) = .ok (.slice a (l.length + m.length) c) w' ∧
  OwnB w' (.slice a (l.length + m.length) c) (l ++ m) ∧ Kp (fun k => v.ownBlock = some k) w w' ∧ (∀ g, (Value.slice a (l.length + m.length) c).ownBlock = some g → v.ownBlock = some g ∨ w.heap.size ≤ g) := by
 have hka := (Kp.refl (fun _ => False) w).alloc (.cells (m.map (Value.int .u8)).toArray 5)
 obtain ⟨v', w', h1, h2, h3, h4⟩ := run_append_b (P := Tryz.prog) (t := 32) (tx := 32) (ty := 32) (w.alloc (.cells (m.map (Value.int .u8)).toArray 5)) Tryz.underlying32 elem_u8 Tryz.underlying32 (h.kp hka (fun _ _ h => h)) (a := some ⟨w.heap.size, 0, none⟩) (c := m.length) (m := m) (rdb_new w m hm (by omega) 5 (0, 0)) hn
 obtain ⟨a, c, e, _, _⟩ := h2.form
 rw [List.length_append] at e
 subst e
 refine ⟨a, c, w', h1, h2, (hka.mono (S' := fun k => v.ownBlock = some k) (fun _ _ h => h.elim)).then h3 (fun _ _ e => e), fun g hg => ?_⟩
 rcases h4 with e | e
 · exact .inl (e ▸ hg)
 · right; rw [e] at hg; simp at hg; omega
set_option maxHeartbeats 4000000 in
theorem rlay_any (f : Fr) (a : Option Addr) (c : Nat) (w : World) (hr : RdB w a f.bd) (hc : f.bd.length ≤ c) (hlen : f.bd.length ≤ 1000000) :
 Calls Tryz.prog 20 #[.agg (frA f a c)] w fun e w' => ∃ v, e = .returned v ∧ OwnB w' v (layF f) ∧ (∀ g, v.ownBlock = some g → w.heap.size ≤ g) ∧ Kp (fun _ => False) w w' := by
 have HL := Lib.hid (show layF f = put4 ([83, 75, 1, f.ty % 256] ++ be4 f.se ++ be4 f.bo ++ be4 f.sq ++ be4 f.ac ++ be2 f.bd.length ++ f.bd) from rfl)
 generalize layF f = lf at *
 obtain ⟨ty, se, bo, sq, ac, bd⟩ := f
 dsimp only [frA] at *
 have hhd : Byt [83, 75, 1, ty % 256] := by intro x hx; simp at hx; omega
 go_enter Tryz.func20, Tryz.ntmps20
 go_wp2_with fail
 obtain ⟨b, hb⟩ : ∃ b, b = w.heap.size := ⟨_, rfl⟩
 have hat0 := At.new w [.int .i64 ty, .int .i64 se, .int .i64 bo, .int .i64 sq, .int .i64 ac, .slice a bd.length c] 34
 rw [← hb] at hat0
 obtain ⟨wb, hwb⟩ : ∃ wb, wb = w.alloc (.cells #[.int .i64 ty, .int .i64 se, .int .i64 bo, .int .i64 sq, .int .i64 ac, .slice a bd.length c] 34) := ⟨_, rfl⟩
 have hkb : Kp (fun _ => False) w wb := by rw [hwb]; exact (Kp.refl _ w).alloc _
 have hatb : At wb b [.int .i64 ty, .int .i64 se, .int .i64 bo, .int .i64 sq, .int .i64 ac, .slice a bd.length c] := by rw [hwb]; exact hat0
 have hsz : wb.heap.size = w.heap.size + 1 := by rw [hwb]; simp
 have ha := At.new wb (([83, 75, 1, ty % 256] : List Int).map (Value.int .u8)) 5
 have ho0 : OwnB (wb.alloc (.cells (([83, 75, 1, ty % 256] : List Int).map (Value.int .u8)).toArray 5)) (.slice (some ⟨w.heap.size + 1, 0, none⟩) 4 4) [83, 75, 1, ty % 256] := by
  rw [hsz] at ha
  exact ⟨⟨by simp, .inr ⟨w.heap.size + 1, 4, [], rfl, by simpa using ha, by simp, by simp, by unfold maxLen; omega⟩⟩, fun g hg => ⟨_, by simp [Value.ownBlock] at hg; subst hg; exact ha, isB_map hhd⟩, hhd, by simp⟩
 have hk0 := hkb.alloc (.cells (([83, 75, 1, ty % 256] : List Int).map (Value.int .u8)).toArray 5)
 have hb0 := ((Kp.refl (fun _ => False) wb).alloc (.cells (([83, 75, 1, ty % 256] : List Int).map (Value.int .u8)).toArray 5)).at hatb (fun h => h)
 have hst : OwnB (wb.alloc (.cells (([83, 75, 1, ty % 256] : List Int).map (Value.int .u8)).toArray 5)) (.slice (some ⟨w.heap.size + 1, 0, none⟩) 4 4) [83, 75, 1, ty % 256] ∧ (∀ g, (Value.slice (some ⟨w.heap.size + 1, 0, none⟩) 4 4).ownBlock = some g → w.heap.size < g) ∧ Kp (fun _ => False) w (wb.alloc (.cells (([83, 75, 1, ty % 256] : List Int).map (Value.int .u8)).toArray 5)) ∧ At (wb.alloc (.cells (([83, 75, 1, ty % 256] : List Int).map (Value.int .u8)).toArray 5)) w.heap.size [.int .i64 ty, .int .i64 se, .int .i64 bo, .int .i64 sq, .int .i64 ac, .slice a bd.length c] :=
  ⟨ho0, fun g hg => by simp [Value.ownBlock] at hg; omega, hk0, by rw [hb] at hb0; exact hb0⟩
 rw [hwb] at hst
 have H0 := Lib.hid hst
 clear hst ho0 hk0 hb0 ha hsz hatb hkb hat0 hwb hb hhd
 refine calls_world (fun wx => OwnB wx (.slice (some ⟨w.heap.size + 1, 0, none⟩) 4 4) [83, 75, 1, ty % 256] ∧ (∀ g, (Value.slice (some ⟨w.heap.size + 1, 0, none⟩) 4 4).ownBlock = some g → w.heap.size < g) ∧ Kp (fun _ => False) w wx ∧ At wx w.heap.size [.int .i64 ty, .int .i64 se, .int .i64 bo, .int .i64 sq, .int .i64 ac, .slice a bd.length c]) H0.out ?_
 intro w0 hst
 have S0 := Lib.hid hst
 clear hst H0
 have y1 : w0.cell? ⟨w.heap.size, 1, none⟩ = some (.int .i64 se) := by rw [S0.out.2.2.2.cell]; rfl
 refine (four_any se w0).mono ?_
 rintro e w' ⟨rfl, rfl⟩
 obtain ⟨a1, c1, w1, hr1, ho1, hk1, hg1⟩ := run_append_new w0 S0.out.1 (byt_be4 se) (by simp [be4])
 have hbl1 := S0.out.2.2.2.lt
 have S1 := Lib.hid (show OwnB w1 (.slice a1 8 c1) ([83, 75, 1, ty % 256] ++ be4 se) ∧ (∀ g, (Value.slice a1 8 c1).ownBlock = some g → w.heap.size < g) ∧ Kp (fun _ => False) w w1 ∧ At w1 w.heap.size [.int .i64 ty, .int .i64 se, .int .i64 bo, .int .i64 sq, .int .i64 ac, .slice a bd.length c] from
  ⟨ho1, fun g hg => (hg1 g hg).elim (S0.out.2.1 g) (fun e => by omega), S0.out.2.2.1.then hk1 (fun i hi e => by have := S0.out.2.1 i e; omega), hk1.at S0.out.2.2.2 (fun e => by have := S0.out.2.1 _ e; omega)⟩)
 have HR1 := Lib.hid (show (Builtin.append_ #[32, 32] 32 #[.slice (some ⟨w.heap.size + 1, 0, none⟩) 4 4, .slice (some ⟨w0.heap.size, 0, none⟩) 4 4]).run Tryz.prog (w0.alloc (.cells ((be4 se).map (Value.int .u8)).toArray 5)) = .ok (.slice a1 8 c1) w1 from hr1)
 have z1 : w1.cell? ⟨w.heap.size, 2, none⟩ = some (.int .i64 bo) := by rw [S1.out.2.2.2.cell]; rfl
 clear hr1 ho1 hk1 hg1 S0 hbl1 y1
 have y2 := z1
 clear z1
 go_wp2_with (at_builtin; refine wpList_append_run _ HR1.out rfl rfl rfl rfl ?_)
 clear HR1
 refine (four_any bo w1).mono ?_
 rintro e w' ⟨rfl, rfl⟩
 obtain ⟨a2, c2, w2, hr2, ho2, hk2, hg2⟩ := run_append_new w1 S1.out.1 (byt_be4 bo) (by simp [be4])
 have hbl2 := S1.out.2.2.2.lt
 have S2 := Lib.hid (show OwnB w2 (.slice a2 12 c2) ([83, 75, 1, ty % 256] ++ be4 se ++ be4 bo) ∧ (∀ g, (Value.slice a2 12 c2).ownBlock = some g → w.heap.size < g) ∧ Kp (fun _ => False) w w2 ∧ At w2 w.heap.size [.int .i64 ty, .int .i64 se, .int .i64 bo, .int .i64 sq, .int .i64 ac, .slice a bd.length c] from
  ⟨ho2, fun g hg => (hg2 g hg).elim (S1.out.2.1 g) (fun e => by omega), S1.out.2.2.1.then hk2 (fun i hi e => by have := S1.out.2.1 i e; omega), hk2.at S1.out.2.2.2 (fun e => by have := S1.out.2.1 _ e; omega)⟩)
 have HR2 := Lib.hid (show (Builtin.append_ #[32, 32] 32 #[.slice a1 8 c1, .slice (some ⟨w1.heap.size, 0, none⟩) 4 4]).run Tryz.prog (w1.alloc (.cells ((be4 bo).map (Value.int .u8)).toArray 5)) = .ok (.slice a2 12 c2) w2 from hr2)
 have z2 : w2.cell? ⟨w.heap.size, 3, none⟩ = some (.int .i64 sq) := by rw [S2.out.2.2.2.cell]; rfl
 clear hr2 ho2 hk2 hg2 S1 hbl2 y2
 have y3 := z2
 clear z2
 go_wp2_with (at_builtin; refine wpList_append_run _ HR2.out rfl rfl rfl rfl ?_)
 clear HR2
 refine (four_any sq w2).mono ?_
 rintro e w' ⟨rfl, rfl⟩
 obtain ⟨a3, c3, w3, hr3, ho3, hk3, hg3⟩ := run_append_new w2 S2.out.1 (byt_be4 sq) (by simp [be4])
 have hbl3 := S2.out.2.2.2.lt
 have S3 := Lib.hid (show OwnB w3 (.slice a3 16 c3) ([83, 75, 1, ty % 256] ++ be4 se ++ be4 bo ++ be4 sq) ∧ (∀ g, (Value.slice a3 16 c3).ownBlock = some g → w.heap.size < g) ∧ Kp (fun _ => False) w w3 ∧ At w3 w.heap.size [.int .i64 ty, .int .i64 se, .int .i64 bo, .int .i64 sq, .int .i64 ac, .slice a bd.length c] from
  ⟨ho3, fun g hg => (hg3 g hg).elim (S2.out.2.1 g) (fun e => by omega), S2.out.2.2.1.then hk3 (fun i hi e => by have := S2.out.2.1 i e; omega), hk3.at S2.out.2.2.2 (fun e => by have := S2.out.2.1 _ e; omega)⟩)
 have HR3 := Lib.hid (show (Builtin.append_ #[32, 32] 32 #[.slice a2 12 c2, .slice (some ⟨w2.heap.size, 0, none⟩) 4 4]).run Tryz.prog (w2.alloc (.cells ((be4 sq).map (Value.int .u8)).toArray 5)) = .ok (.slice a3 16 c3) w3 from hr3)
 have z3 : w3.cell? ⟨w.heap.size, 4, none⟩ = some (.int .i64 ac) := by rw [S3.out.2.2.2.cell]; rfl
 clear hr3 ho3 hk3 hg3 S2 hbl3 y3
 have y4 := z3
 clear z3
 go_wp2_with (at_builtin; refine wpList_append_run _ HR3.out rfl rfl rfl rfl ?_)
 clear HR3
 refine (four_any ac w3).mono ?_
 rintro e w' ⟨rfl, rfl⟩
 obtain ⟨a4, c4, w4, hr4, ho4, hk4, hg4⟩ := run_append_new w3 S3.out.1 (byt_be4 ac) (by simp [be4])
 have hbl4 := S3.out.2.2.2.lt
 have S4 := Lib.hid (show OwnB w4 (.slice a4 20 c4) ([83, 75, 1, ty % 256] ++ be4 se ++ be4 bo ++ be4 sq ++ be4 ac) ∧ (∀ g, (Value.slice a4 20 c4).ownBlock = some g → w.heap.size < g) ∧ Kp (fun _ => False) w w4 ∧ At w4 w.heap.size [.int .i64 ty, .int .i64 se, .int .i64 bo, .int .i64 sq, .int .i64 ac, .slice a bd.length c] from
  ⟨ho4, fun g hg => (hg4 g hg).elim (S3.out.2.1 g) (fun e => by omega), S3.out.2.2.1.then hk4 (fun i hi e => by have := S3.out.2.1 i e; omega), hk4.at S3.out.2.2.2 (fun e => by have := S3.out.2.1 _ e; omega)⟩)
 have HR4 := Lib.hid (show (Builtin.append_ #[32, 32] 32 #[.slice a3 16 c3, .slice (some ⟨w3.heap.size, 0, none⟩) 4 4]).run Tryz.prog (w3.alloc (.cells ((be4 ac).map (Value.int .u8)).toArray 5)) = .ok (.slice a4 20 c4) w4 from hr4)
 have z4 : w4.cell? ⟨w.heap.size, 5, none⟩ = some (.slice a bd.length c) := by rw [S4.out.2.2.2.cell]; rfl
 clear hr4 ho4 hk4 hg4 S3 hbl4 y4
 have y5 := z4
 clear z4
 skip
 obtain ⟨a5, c5, w5, hr5, ho5, hk5, hg5⟩ := run_append_new w4 S4.out.1 (byt_be2 (bd.length : Int)) (by simp [be4, be2])
 have hbl5 := S4.out.2.2.2.lt
 have S5 := Lib.hid (show OwnB w5 (.slice a5 22 c5) ([83, 75, 1, ty % 256] ++ be4 se ++ be4 bo ++ be4 sq ++ be4 ac ++ be2 (bd.length : Int)) ∧ (∀ g, (Value.slice a5 22 c5).ownBlock = some g → w.heap.size < g) ∧ Kp (fun _ => False) w w5 ∧ At w5 w.heap.size [.int .i64 ty, .int .i64 se, .int .i64 bo, .int .i64 sq, .int .i64 ac, .slice a bd.length c] from
  ⟨ho5, fun g hg => (hg5 g hg).elim (S4.out.2.1 g) (fun e => by omega), S4.out.2.2.1.then hk5 (fun i hi e => by have := S4.out.2.1 i e; omega), hk5.at S4.out.2.2.2 (fun e => by have := S4.out.2.1 _ e; omega)⟩)
 have HR5 := Lib.hid (show (Builtin.append_ #[32, 32] 32 #[.slice a4 20 c4, .slice (some ⟨w4.heap.size, 0, none⟩) 2 2]).run Tryz.prog (w4.alloc (.cells ((be2 (bd.length : Int)).map (Value.int .u8)).toArray 5)) = .ok (.slice a5 22 c5) w5 from hr5)
 have z5 : w5.cell? ⟨w.heap.size, 5, none⟩ = some (.slice a bd.length c) := by rw [S5.out.2.2.2.cell]; rfl
 clear hr5 ho5 hk5 hg5 hbl5
 obtain ⟨v6, w6, hr6, ho6, hk6, hat6⟩ := run_append_b (P := Tryz.prog) (t := 32) (tx := 32) (ty := 32) w5 Tryz.underlying32 elem_u8 Tryz.underlying32 S5.out.1 (a := a) (c := c) (m := bd) (hr.kp0 S5.out.2.2.1 (fun _ _ h => h)) (by simp [be4, be2]; omega)
 have hk06 : Kp (fun _ => False) w w6 := S5.out.2.2.1.then hk6 (fun i hi e => by have := S5.out.2.1 i e; omega)
 obtain ⟨a6, c6, e6, hrd6, _⟩ := ho6.form
 have CP := rput_any a6 c6 _ w6 hrd6 (by simp [be4, be2]; omega)
 rw [← HL.out] at CP
 subst e6
 rw [show ([83, 75, 1, ty % 256] ++ be4 se ++ be4 bo ++ be4 sq ++ be4 ac ++ be2 (bd.length : Int) ++ bd).length = 22 + bd.length by simp [be4, be2]; omega] at CP hr6
 have CP' := Lib.hid CP
 have HR6 := Lib.hid hr6
 have HK := Lib.hid hk06
 have y5' : w4.cell? ⟨w.heap.size, 5, none⟩ = some (.slice a bd.length c) := by rw [S4.out.2.2.2.cell]; rfl
 clear hr6 ho6 hk6 hat6 hk06 hrd6 CP S4 S5
 have b0 : (bd.length : Int) < 16777216 := by omega
 have tok1 : True := trivial
 have tok2 : True := trivial
 go_wp2_with (first | (at_builtin; have _t := tok1; refine wpList_append_run _ HR4.out rfl rfl rfl rfl ?_; clear tok1) | (at_builtin; have _t := tok2; refine wpList_append_run _ HR5.out rfl rfl rfl rfl ?_; clear tok2) | (at_builtin; refine wpList_append_run _ HR6.out rfl rfl rfl rfl ?_))
 refine CP'.out.mono ?_
 rintro e w7 ⟨v7, rfl, hv7, hg7, hk7⟩
 have HF : Hid (OwnB w7 v7 lf ∧ (∀ g, v7.ownBlock = some g → w.heap.size ≤ g) ∧ Kp (fun _ => False) w w7) := ⟨hv7, fun g hg => by have := hg7 g hg; have := HK.out.size; omega, HK.out.trans hk7⟩
 clear hv7 hg7 hk7 CP'
 go_wp2
 go_ret
 exact ⟨_, rfl, HF.out⟩
set_option maxRecDepth 20000 in
theorem rnumber_any (a : Option Addr) (cap : Nat) (l : List Int) (w : World) (h : RdB w a l) (h4 : 4 ≤ l.length) :
 Calls Tryz.prog 63 #[.slice a l.length cap] w fun e w' => e = .returned (.int .i64 ((num (l.take 4) : Nat) : Int)) ∧ ∃ m, w' = w.drewN m := by
 have HN := Lib.hid (num_take4 l h4)
 obtain ⟨b, off, rfl, g0⟩ := h.cell 0 (by omega)
 obtain ⟨_, _, q1, g1⟩ := h.cell 1 (by omega)
 obtain ⟨_, _, q2, g2⟩ := h.cell 2 (by omega)
 obtain ⟨_, _, q3, g3⟩ := h.cell 3 (by omega)
 cases q1; cases q2; cases q3
 rw [Nat.add_zero] at g0
 have b0 := h.bd.getD 0
 have b1 := h.bd.getD 1
 have b2 := h.bd.getD 2
 have b3 := h.bd.getD 3
 generalize l.getD 0 0 = c0 at *
 generalize l.getD 1 0 = c1 at *
 generalize l.getD 2 0 = c2 at *
 generalize l.getD 3 0 = c3 at *
 obtain ⟨c0, rfl⟩ := Int.eq_ofNat_of_zero_le b0.1
 obtain ⟨c1, rfl⟩ := Int.eq_ofNat_of_zero_le b1.1
 obtain ⟨c2, rfl⟩ := Int.eq_ofNat_of_zero_le b2.1
 obtain ⟨c3, rfl⟩ := Int.eq_ofNat_of_zero_le b3.1
 simp only [Int.toNat_natCast] at HN
 obtain ⟨n1, q1⟩ : ∃ n, n = c0 * 16777216 + c1 * 65536 := ⟨_, rfl⟩
 obtain ⟨n2, q2⟩ : ∃ n, n = n1 + c2 * 256 := ⟨_, rfl⟩
 obtain ⟨n3, q3⟩ : ∃ n, n = num (l.take 4) := ⟨_, rfl⟩
 have q4 : n3 = n2 + c3 := by rw [q3, HN.out, q2, q1]
 rw [← q3]
 clear q3 HN
 have e1 : bits .or .i64 ((c0 : Int) * 16777216) ((c1 : Int) * 65536) = ((n1 : Nat) : Int) := by
  have := i64_or_sh 24 c0 (c1 * 65536) (by omega) (by omega) (by omega)
  rw [q1]
  rwa [show ((c0 * 2 ^ 24 : Nat) : Int) = (c0 : Int) * 16777216 by omega, show ((c1 * 65536 : Nat) : Int) = (c1 : Int) * 65536 by omega] at this
 have e2 : bits .or .i64 ((n1 : Nat) : Int) ((c2 : Int) * 256) = ((n2 : Nat) : Int) := by
  have := i64_or_sh 16 (c0 * 256 + c1) (c2 * 256) (by omega) (by omega) (by omega)
  rwa [show ((c0 * 256 + c1) * 2 ^ 16 : Nat) = n1 by omega, show ((c2 * 256 : Nat) : Int) = (c2 : Int) * 256 by omega, ← q2] at this
 have e3 : bits .or .i64 ((n2 : Nat) : Int) (c3 : Int) = ((n3 : Nat) : Int) := by
  have := i64_or_sh 8 (c0 * 65536 + c1 * 256 + c2) c3 (by omega) (by omega) (by omega)
  rwa [show ((c0 * 65536 + c1 * 256 + c2) * 2 ^ 8 : Nat) = n2 by omega, ← q4] at this
 clear q1 q2 q4
 have j0 : 0 < l.length := by omega
 have j1 : 1 < l.length := by omega
 have j2 : 2 < l.length := by omega
 have j3 : 3 < l.length := by omega
 clear h
 generalize l.length = n at *
 have i0 : (0 : Int) < n := by omega
 have i1 : (1 : Int) < n := by omega
 have i2 : (2 : Int) < n := by omega
 have i3 : (3 : Int) < n := by omega
 go_enter Tryz.func63, Tryz.ntmps63
 go_wp2
 go_quiet (fail)
 go_wp2
 go_ret
 exact ⟨rfl, _, rfl⟩
end Go.Proofs.YtokembhfebnjpaaGreat
