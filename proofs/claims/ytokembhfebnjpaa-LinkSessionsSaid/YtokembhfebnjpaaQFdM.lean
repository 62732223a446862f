/- Chapter 11: a number of four bytes, read. -/
import Derived.Test.YtokembhfebnjpaaQGrM
import Derived.Test.YtokembhfebnjpaaQFrmP
import Derived.Laws.ResultCell
namespace Go.Proofs.Ytokembhfebnjpaa
set_option maxRecDepth 20000
open Go.RowKit
set_option linter.unusedVariables false
set_option linter.unusedSimpArgs false
theorem i64_or_nat (a b : Nat) (ha : a < 9223372036854775808) (hb : b < 9223372036854775808) : bits .or .i64 (a : Int) (b : Int) = ((a ||| b : Nat) : Int) := by
  have hx : a ||| b < 2 ^ 63 := Nat.or_lt_two_pow (by omega) (by omega)
  have h1 : (BitVec.ofInt 64 (a : Int)).toNat = a := by
    rw [BitVec.ofInt_natCast, BitVec.toNat_ofNat]; exact Nat.mod_eq_of_lt (by omega)
  have h2 : (BitVec.ofInt 64 (b : Int)).toNat = b := by
    rw [BitVec.ofInt_natCast, BitVec.toNat_ofNat]; exact Nat.mod_eq_of_lt (by omega)
  show IntKind.i64.wrap ((BitVec.ofInt 64 (a : Int) ||| BitVec.ofInt 64 (b : Int)).toNat : Int) = _
  rw [BitVec.toNat_or, h1, h2]
  rw [IntKind.wrap_i64]
  omega
theorem i64_or_sh (k n c : Nat) (hc : c < 2 ^ k) (hn : n * 2 ^ k < 9223372036854775808) (hk : k ≤ 32) : bits .or .i64 ((n * 2 ^ k : Nat) : Int) (c : Int) = ((n * 2 ^ k + c : Nat) : Int) := by
  have h2 : 2 ^ k ≤ 2 ^ 32 := Nat.pow_le_pow_right (by decide) hk
  rw [i64_or_nat _ _ hn (by omega)]
  congr 1
  rw [← Nat.shiftLeft_eq, Nat.shiftLeft_add_eq_or_of_lt hc]
/-- The number of some bytes, the highest first. -/
def num (l : List Int) : Nat := l.foldl (fun n c => n * 256 + c.toNat) 0
theorem num_snoc (l : List Int) (c : Int) : num (l ++ [c]) = num l * 256 + c.toNat := by simp [num, List.foldl_append]
theorem num_take {l : List Int} (hb : Byt l) (k : Nat) (hk : k ≤ l.length) : num (l.take k) < 256 ^ k := by
  induction k with
  | zero => simp [num]
  | succ k ih =>
    have hlt : k < l.length := by omega
    rw [take_snoc l 0 k hlt, num_snoc, Nat.pow_succ]
    have := ih (by omega)
    have := hb.getD k
    omega
theorem number_any (a : Option Addr) (cap : Nat) (l : List Int) (w : World) (h : RdB w a l) (hl : l.length ≤ 4) :
    Calls Try.prog 42 #[.slice a l.length cap] w fun e w' => e = .returned (.int .i64 ((num l : Nat) : Int)) ∧ w = w' := by
  go_enter Try.func42, Try.ntmps42
  go_wp2_with fail
  go_loopw [3, 8] (fun n i wr => ∃ k : Nat, k ≤ l.length ∧ i = .int .i64 k ∧ n = .int .i64 ((num (l.take k) : Nat) : Int) ∧ w = wr) (fun _ i _ => l.length - (intOf i).toNat)
  case atStart => exact ⟨0, by omega, rfl, rfl, rfl⟩
  case round =>
    obtain ⟨k, hk, rfl, rfl, rfl⟩ := hrel
    by_cases hlt : k < l.length
    · obtain ⟨b, off, rfl, hcell⟩ := h.cell k hlt
      have hb := h.bd.getD k
      have hx : num (l.take k) < 16777216 := by
        have h1 := num_take h.bd k hk
        have h2 : 256 ^ k ≤ 256 ^ 3 := Nat.pow_le_pow_right (by decide) (by omega)
        omega
      have HN : Hid (num (l.take (k + 1)) = num (l.take k) * 256 + (l.getD k 0).toNat) := by
        show _ = _
        rw [take_snoc l 0 k hlt, num_snoc]
      generalize l.getD k 0 = c at *
      obtain ⟨c, rfl⟩ := Int.eq_ofNat_of_zero_le hb.1
      generalize num (l.take k) = x at *
      have hc8 : c < 256 := by omega
      have e1 : bits .or .i64 ((x : Int) * 256) (c : Int) = ((x * 256 + c : Nat) : Int) := by
        have := i64_or_sh 8 x c hc8 (by omega) (by omega)
        rwa [show ((x * 2 ^ 8 : Nat) : Int) = (x : Int) * 256 by omega] at this
      rw [Int.toNat_natCast] at HN
      generalize x * 256 + c = x' at *
      have i1 : (k : Int) < l.length := by omega
      go_wp2_with fail
      go_roundw
      case rel => exact ⟨k + 1, by omega, by go_num, by rw [HN.out], trivial⟩
      case measure => simp [intOf]; omega
    · obtain rfl : k = l.length := by omega
      rw [List.take_length] at *
      go_wp2_with fail
      go_ret
      exact ⟨rfl, rfl⟩
theorem num_take4 (l : List Int) (h : 4 ≤ l.length) : num (l.take 4) = (l.getD 0 0).toNat * 16777216 + (l.getD 1 0).toNat * 65536 + (l.getD 2 0).toNat * 256 + (l.getD 3 0).toNat := by
  obtain _ | ⟨c0, _ | ⟨c1, _ | ⟨c2, _ | ⟨c3, l⟩⟩⟩⟩ := l <;> simp at h
  simp [num]
  omega
end Go.Proofs.Ytokembhfebnjpaa
/- Frames: Read, what it says on numbers; results of a cell and a slot. -/
namespace Go.Proofs.Ytokembhfebnjpaa
set_option maxRecDepth 20000
open Go.RowKit
set_option linter.unusedVariables false
set_option linter.unusedSimpArgs false
def zF : Fr := ⟨0, 0, 0, 0, 0, []⟩
/-- The frame that guarded bytes say. -/
def parse (x : List Int) : Fr := ⟨x.getD 3 0, (num ((x.drop 4).take 4) : Nat), (num ((x.drop 8).take 4) : Nat), (num ((x.drop 12).take 4) : Nat), (num ((x.drop 16).take 4) : Nat), x.drop 22⟩
/-- What is wrong with guarded bytes, as a frame. -/
def errX (x : List Int) : Int :=
  if x.getD 0 0 ≠ 83 ∨ x.getD 1 0 ≠ 75 then 211 else if x.getD 2 0 ≠ 1 then 212 else if ¬ typedP (parse x).ty then 213
  else if ¬ rangeP (parse x).se (parse x).bo (parse x).sq (parse x).ac then 5 else if (num ((x.drop 20).take 2) : Int) ≠ ((parse x).bd.length : Int) then 214 else if says (parse x) = false then 2 else 0
def errR (l : List Int) : Int :=
  if (1426 : Int) < l.length then 3 else if (l.length : Int) < 26 then 4 else if ck l ≠ 0 then 210 else errX (chk l)
def frR (l : List Int) : Fr := if errR l = 0 then parse (chk l) else zF
theorem results_cell_tmp_row {P : Program} {fn : Func} {p u : Tmp} {ty : TypeId} (h : fn.results = #[.cell p ty, .tmp u]) (tmps : Array Value) (w : World) (g : Nat) (t : TypeId) (cs : Array Value) (fr : Nat × Nat) (d : TypeDesc)
    (hp : tmps.getD p undef = .pointer (some ⟨g, 0, none⟩)) (hg : w.heap[g]? = some (.cells cs t fr))
    (hu : P.underlying ty = some d) (hd : (match d with | .struct _ | .array _ _ => true | _ => false) = true) (hi : (P.info? ty).map (·.size) = some cs.size) :
    (results fn tmps).run P w = .ok (.tuple #[.agg cs, tmps.getD u undef]) w := by
  rw [results_cell_tmp h, hp]
  simp [asAddr, Result.andThen, run_loadVar_row w g t ty cs fr d hg hu hd hi]
theorem num_lt4 {l : List Int} (hb : Byt l) (i : Nat) : num ((l.drop i).take 4) < 4294967296 := by
  have h1 : ∀ k, num (((l.drop i).take 4).take k) < 256 ^ k ∨ ((l.drop i).take 4).length < k := fun k => by
    by_cases h : k ≤ ((l.drop i).take 4).length
    · exact .inl (num_take (fun x hx => hb x (List.mem_of_mem_drop (List.mem_of_mem_take hx))) k h)
    · exact .inr (by omega)
  have h2 : ((l.drop i).take 4).length ≤ 4 := by simp; omega
  have h3 := num_take (l := (l.drop i).take 4) (fun x hx => hb x (List.mem_of_mem_drop (List.mem_of_mem_take hx))) ((l.drop i).take 4).length (Nat.le_refl _)
  rw [List.take_length] at h3
  have h4 : 256 ^ ((l.drop i).take 4).length ≤ 256 ^ 4 := Nat.pow_le_pow_right (by decide) h2
  omega
end Go.Proofs.Ytokembhfebnjpaa
/- Package frame: Read. -/
namespace Go.Proofs.Ytokembhfebnjpaa
set_option maxRecDepth 20000
open Go.RowKit
set_option linter.unusedVariables false
set_option linter.unusedSimpArgs false
theorem fr_info : (Try.prog.info? 36).map (·.size) = some 6 := by kernel_rfl
/-- The end: the frame lies at block g, the error in the slot. -/
theorem fr_ret {fn : Func} (hres : fn.results = #[.cell 2 36, .tmp 3]) {w' : World} {g : Nat} {ty se bo sq ac k : Int} {a : Option Addr} {n c : Nat} {act : Act} {Q : Ending → World → Prop} (hat : At w' g [.int .i64 ty, .int .i64 se, .int .i64 bo, .int .i64 sq, .int .i64 ac, .slice a n c])
    (hp : act.tmps.getD 2 undef = .pointer (some ⟨g, 0, none⟩)) (h3 : act.tmps.getD 3 undef = .int .i64 k) (hd : act.defers = []) (h : Q (.returned (.tuple #[.agg #[.int .i64 ty, .int .i64 se, .int .i64 bo, .int .i64 sq, .int .i64 ac, .slice a n c], .int .i64 k])) w') :
    bodyPost Try.prog fn Q .ret act w' := by
  obtain ⟨T, hg⟩ := hat
  refine bodyPost_ret (v := .tuple #[.agg #[.int .i64 ty, .int .i64 se, .int .i64 bo, .int .i64 sq, .int .i64 ac, .slice a n c], .int .i64 k]) ?_ hd h
  rw [← h3]
  exact results_cell_tmp_row hres _ _ g T _ (0, 0) _ hp hg Try.underlying36 rfl fr_info
/-- A frame is stored over another, in a block of one's own. -/
theorem six {w w1 : World} {g : Nat} {o0 o1 o2 o3 o4 o5 : Value} (h : At w1 g [o0, o1, o2, o3, o4, o5]) (hg : w.heap.size ≤ g) (hk : Kp (fun _ => False) w w1) (v0 v1 v2 v3 v4 v5 : Value) :
    At ((((((w1.setCell ⟨g, 0, none⟩ v0).setCell ⟨g, 1, none⟩ v1).setCell ⟨g, 2, none⟩ v2).setCell ⟨g, 3, none⟩ v3).setCell ⟨g, 4, none⟩ v4).setCell ⟨g, 5, none⟩ v5) g [v0, v1, v2, v3, v4, v5] ∧
    Kp (fun _ => False) w ((((((w1.setCell ⟨g, 0, none⟩ v0).setCell ⟨g, 1, none⟩ v1).setCell ⟨g, 2, none⟩ v2).setCell ⟨g, 3, none⟩ v3).setCell ⟨g, 4, none⟩ v4).setCell ⟨g, 5, none⟩ v5) :=
  ⟨(((((h.set 0 _).set 1 _).set 2 _).set 3 _).set 4 _).set 5 _, (((((hk.setCell (fun h => by simp at h; omega) _).setCell (fun h => by simp at h; omega) _).setCell (fun h => by simp at h; omega) _).setCell (fun h => by simp at h; omega) _).setCell (fun h => by simp at h; omega) _).setCell (fun h => by simp at h; omega) _⟩
theorem fread_long (a : Option Addr) (cap : Nat) (l : List Int) (w : World) (hl : (1426 : Int) < l.length) (hl2 : l.length ≤ 100000000) :
    Calls Try.prog 32 #[.slice a l.length cap] w fun e w' => e = .returned (.tuple #[.agg (frA zF none 0), .int .i64 3]) ∧ Kp (fun _ => False) w w' := by
  generalize l.length = n at *
  go_enter Try.func32, Try.ntmps32
  go_wp2
  exact fr_ret rfl (At.new w [.int .i64 0, .int .i64 0, .int .i64 0, .int .i64 0, .int .i64 0, .slice none 0 0] _) rfl rfl rfl ⟨rfl, (Kp.refl _ w).alloc _⟩
theorem fread_short (a : Option Addr) (cap : Nat) (l : List Int) (w : World) (hl : (l.length : Int) < 26) :
    Calls Try.prog 32 #[.slice a l.length cap] w fun e w' => e = .returned (.tuple #[.agg (frA zF none 0), .int .i64 4]) ∧ Kp (fun _ => False) w w' := by
  generalize l.length = n at *
  go_enter Try.func32, Try.ntmps32
  go_wp2
  exact fr_ret rfl (At.new w [.int .i64 0, .int .i64 0, .int .i64 0, .int .i64 0, .int .i64 0, .slice none 0 0] _) rfl rfl rfl ⟨rfl, (Kp.refl _ w).alloc _⟩
theorem fread_sum (a : Option Addr) (cap : Nat) (l : List Int) (w : World) (h : RdB w a l) (hcap : l.length ≤ cap) (hcm : cap ≤ maxLen) (h1 : ¬ (1426 : Int) < l.length) (h2 : ¬ (l.length : Int) < 26) (h3 : ck l ≠ 0) :
    Calls Try.prog 32 #[.slice a l.length cap] w fun e w' => e = .returned (.tuple #[.agg (frA zF none 0), .int .i64 210]) ∧ Kp (fun _ => False) w w' := by
  have C := Lib.hid (fun w' (k : Kp (fun _ => False) w w') => gcheck a cap l w' (h.kp0 k (fun _ _ h => h)) (by omega) hcap hcm)
  have hne : (ck l != 0) = true := by simpa using h3
  have hne' : (ck l == 0) = false := by simpa using h3
  clear h hcm hcap
  generalize ck l = k at *
  generalize l.length = n at *
  go_enter Try.func32, Try.ntmps32
  go_wp2_with (go_at_call 41; refine (C.out _ ((Kp.refl _ w).alloc _)).mono ?_; rintro e w1 ⟨v, rfl, hv, hg, kq⟩; have hat := kq.at (At.new w [.int .i64 0, .int .i64 0, .int .i64 0, .int .i64 0, .int .i64 0, .slice none 0 0] 36) (fun h => h); have x0 := (hat.cell 0).trans (show _ = some (.int .i64 0) from rfl); have x1 := (hat.cell 1).trans (show _ = some (.int .i64 0) from rfl); have x2 := (hat.cell 2).trans (show _ = some (.int .i64 0) from rfl); have x3 := (hat.cell 3).trans (show _ = some (.int .i64 0) from rfl); have x4 := (hat.cell 4).trans (show _ = some (.int .i64 0) from rfl); have x5 := (hat.cell 5).trans (show _ = some (.slice none 0 0) from rfl); have hf := fun i => hat.frozen i; have HA := Lib.hid (And.intro hat (((Kp.refl (fun _ => False) w).alloc _).trans kq)); clear hat kq hv hg)
  exact fr_ret rfl (six HA.out.1 (by omega) HA.out.2 _ _ _ _ _ _).1 rfl rfl rfl ⟨rfl, (six HA.out.1 (by omega) HA.out.2 _ _ _ _ _ _).2⟩
end Go.Proofs.Ytokembhfebnjpaa
/- Package frame: Read past the sum: the exits. (Written by wip/freadgen.py.) -/
namespace Go.Proofs.Ytokembhfebnjpaa
set_option maxRecDepth 20000
open Go.RowKit
set_option linter.unusedVariables false
set_option linter.unusedSimpArgs false
theorem fread_m0 (a : Option Addr) (cap : Nat) (l : List Int) (w : World) (h : RdB w a l) (hcap : l.length ≤ cap) (hcm : cap ≤ maxLen) (h1 : ¬ (1426 : Int) < l.length) (h2 : ¬ (l.length : Int) < 26) (h3 : ck l = 0) (h4 : (chk l).getD 0 0 ≠ 83) :
    Calls Try.prog 32 #[.slice a l.length cap] w fun e w' => e = .returned (.tuple #[.agg (frA zF none 0), .int .i64 211]) ∧ Kp (fun _ => False) w w' := by
  have C := Lib.hid (fun w' (k : Kp (fun _ => False) w w') => gcheck a cap l w' (h.kp0 k (fun _ _ h => h)) (by omega) hcap hcm)
  rw [h3] at C
  have hxl : (chk l).length + 4 = l.length := by unfold ck at h3; unfold chk; split at h3 <;> simp_all; omega
  have hm : 22 ≤ (chk l).length := by omega
  have hm2 : (chk l).length ≤ 1422 := by omega
  clear h hcm hcap h3 hxl
  generalize chk l = x at *
  obtain ⟨m, hml⟩ : ∃ m, m = x.length := ⟨_, rfl⟩
  rw [← hml] at hm hm2
  have HML := Lib.hid hml
  clear hml
  generalize l.length = n at *
  have i0 : 0 < m := by omega
  have i1 : 1 < m := by omega
  have i2 : 2 < m := by omega
  have i3 : 3 < m := by omega
  go_enter Try.func32, Try.ntmps32
  go_wp2_with (first | (go_at_call 41; refine (C.out _ ((Kp.refl _ w).alloc _)).mono ?_; rintro e w1 ⟨v, rfl, hv, hg, kq⟩; obtain ⟨xa, xc, rfl, hr, hxc⟩ := hv.form; rw [← HML.out] at hxc hv hg ⊢; have hat := kq.at (At.new w [.int .i64 0, .int .i64 0, .int .i64 0, .int .i64 0, .int .i64 0, .slice none 0 0] 36) (fun h => h); have x0 := (hat.cell 0).trans (show _ = some (.int .i64 0) from rfl); have x1 := (hat.cell 1).trans (show _ = some (.int .i64 0) from rfl); have x2 := (hat.cell 2).trans (show _ = some (.int .i64 0) from rfl); have x3 := (hat.cell 3).trans (show _ = some (.int .i64 0) from rfl); have x4 := (hat.cell 4).trans (show _ = some (.int .i64 0) from rfl); have x5 := (hat.cell 5).trans (show _ = some (.slice none 0 0) from rfl); have hf := fun i => hat.frozen i; obtain ⟨b, off, rfl, g0⟩ := hr.cell 0 (by have := HML.out; omega); obtain ⟨_, _, q1, g1⟩ := hr.cell 1 (by have := HML.out; omega); obtain ⟨_, _, q2, g2⟩ := hr.cell 2 (by have := HML.out; omega); obtain ⟨_, _, q3, g3⟩ := hr.cell 3 (by have := HML.out; omega); cases q1; cases q2; cases q3; rw [Nat.add_zero] at g0; have B3 := hr.bd.getD 3; generalize x.getD 0 0 = c0 at *; have q0 : (c0 == 83) = false := (by simpa using h4); have HA := Lib.hid (And.intro hat (And.intro (((Kp.refl (fun _ => False) w).alloc _).trans kq) (And.intro hv hg))); clear hat kq hv hg hr))
  exact fr_ret rfl (six HA.out.1 (by omega) HA.out.2.1 _ _ _ _ _ _).1 rfl rfl rfl ⟨rfl, (six HA.out.1 (by omega) HA.out.2.1 _ _ _ _ _ _).2⟩
theorem fread_m1 (a : Option Addr) (cap : Nat) (l : List Int) (w : World) (h : RdB w a l) (hcap : l.length ≤ cap) (hcm : cap ≤ maxLen) (h1 : ¬ (1426 : Int) < l.length) (h2 : ¬ (l.length : Int) < 26) (h3 : ck l = 0) (h4 : (chk l).getD 0 0 = 83) (h5 : (chk l).getD 1 0 ≠ 75) :
    Calls Try.prog 32 #[.slice a l.length cap] w fun e w' => e = .returned (.tuple #[.agg (frA zF none 0), .int .i64 211]) ∧ Kp (fun _ => False) w w' := by
  have C := Lib.hid (fun w' (k : Kp (fun _ => False) w w') => gcheck a cap l w' (h.kp0 k (fun _ _ h => h)) (by omega) hcap hcm)
  rw [h3] at C
  have hxl : (chk l).length + 4 = l.length := by unfold ck at h3; unfold chk; split at h3 <;> simp_all; omega
  have hm : 22 ≤ (chk l).length := by omega
  have hm2 : (chk l).length ≤ 1422 := by omega
  clear h hcm hcap h3 hxl
  generalize chk l = x at *
  obtain ⟨m, hml⟩ : ∃ m, m = x.length := ⟨_, rfl⟩
  rw [← hml] at hm hm2
  have HML := Lib.hid hml
  clear hml
  generalize l.length = n at *
  have i0 : 0 < m := by omega
  have i1 : 1 < m := by omega
  have i2 : 2 < m := by omega
  have i3 : 3 < m := by omega
  go_enter Try.func32, Try.ntmps32
  go_wp2_with (first | (go_at_call 41; refine (C.out _ ((Kp.refl _ w).alloc _)).mono ?_; rintro e w1 ⟨v, rfl, hv, hg, kq⟩; obtain ⟨xa, xc, rfl, hr, hxc⟩ := hv.form; rw [← HML.out] at hxc hv hg ⊢; have hat := kq.at (At.new w [.int .i64 0, .int .i64 0, .int .i64 0, .int .i64 0, .int .i64 0, .slice none 0 0] 36) (fun h => h); have x0 := (hat.cell 0).trans (show _ = some (.int .i64 0) from rfl); have x1 := (hat.cell 1).trans (show _ = some (.int .i64 0) from rfl); have x2 := (hat.cell 2).trans (show _ = some (.int .i64 0) from rfl); have x3 := (hat.cell 3).trans (show _ = some (.int .i64 0) from rfl); have x4 := (hat.cell 4).trans (show _ = some (.int .i64 0) from rfl); have x5 := (hat.cell 5).trans (show _ = some (.slice none 0 0) from rfl); have hf := fun i => hat.frozen i; obtain ⟨b, off, rfl, g0⟩ := hr.cell 0 (by have := HML.out; omega); obtain ⟨_, _, q1, g1⟩ := hr.cell 1 (by have := HML.out; omega); obtain ⟨_, _, q2, g2⟩ := hr.cell 2 (by have := HML.out; omega); obtain ⟨_, _, q3, g3⟩ := hr.cell 3 (by have := HML.out; omega); cases q1; cases q2; cases q3; rw [Nat.add_zero] at g0; have B3 := hr.bd.getD 3; rw [h4] at g0; generalize x.getD 1 0 = c1 at *; have q1 : (c1 == 75) = false := (by simpa using h5); have HA := Lib.hid (And.intro hat (And.intro (((Kp.refl (fun _ => False) w).alloc _).trans kq) (And.intro hv hg))); clear hat kq hv hg hr))
  exact fr_ret rfl (six HA.out.1 (by omega) HA.out.2.1 _ _ _ _ _ _).1 rfl rfl rfl ⟨rfl, (six HA.out.1 (by omega) HA.out.2.1 _ _ _ _ _ _).2⟩
theorem fread_v (a : Option Addr) (cap : Nat) (l : List Int) (w : World) (h : RdB w a l) (hcap : l.length ≤ cap) (hcm : cap ≤ maxLen) (h1 : ¬ (1426 : Int) < l.length) (h2 : ¬ (l.length : Int) < 26) (h3 : ck l = 0) (h4 : (chk l).getD 0 0 = 83) (h5 : (chk l).getD 1 0 = 75) (h6 : (chk l).getD 2 0 ≠ 1) :
    Calls Try.prog 32 #[.slice a l.length cap] w fun e w' => e = .returned (.tuple #[.agg (frA zF none 0), .int .i64 212]) ∧ Kp (fun _ => False) w w' := by
  have C := Lib.hid (fun w' (k : Kp (fun _ => False) w w') => gcheck a cap l w' (h.kp0 k (fun _ _ h => h)) (by omega) hcap hcm)
  rw [h3] at C
  have hxl : (chk l).length + 4 = l.length := by unfold ck at h3; unfold chk; split at h3 <;> simp_all; omega
  have hm : 22 ≤ (chk l).length := by omega
  have hm2 : (chk l).length ≤ 1422 := by omega
  clear h hcm hcap h3 hxl
  generalize chk l = x at *
  obtain ⟨m, hml⟩ : ∃ m, m = x.length := ⟨_, rfl⟩
  rw [← hml] at hm hm2
  have HML := Lib.hid hml
  clear hml
  generalize l.length = n at *
  have i0 : 0 < m := by omega
  have i1 : 1 < m := by omega
  have i2 : 2 < m := by omega
  have i3 : 3 < m := by omega
  go_enter Try.func32, Try.ntmps32
  go_wp2_with (first | (go_at_call 41; refine (C.out _ ((Kp.refl _ w).alloc _)).mono ?_; rintro e w1 ⟨v, rfl, hv, hg, kq⟩; obtain ⟨xa, xc, rfl, hr, hxc⟩ := hv.form; rw [← HML.out] at hxc hv hg ⊢; have hat := kq.at (At.new w [.int .i64 0, .int .i64 0, .int .i64 0, .int .i64 0, .int .i64 0, .slice none 0 0] 36) (fun h => h); have x0 := (hat.cell 0).trans (show _ = some (.int .i64 0) from rfl); have x1 := (hat.cell 1).trans (show _ = some (.int .i64 0) from rfl); have x2 := (hat.cell 2).trans (show _ = some (.int .i64 0) from rfl); have x3 := (hat.cell 3).trans (show _ = some (.int .i64 0) from rfl); have x4 := (hat.cell 4).trans (show _ = some (.int .i64 0) from rfl); have x5 := (hat.cell 5).trans (show _ = some (.slice none 0 0) from rfl); have hf := fun i => hat.frozen i; obtain ⟨b, off, rfl, g0⟩ := hr.cell 0 (by have := HML.out; omega); obtain ⟨_, _, q1, g1⟩ := hr.cell 1 (by have := HML.out; omega); obtain ⟨_, _, q2, g2⟩ := hr.cell 2 (by have := HML.out; omega); obtain ⟨_, _, q3, g3⟩ := hr.cell 3 (by have := HML.out; omega); cases q1; cases q2; cases q3; rw [Nat.add_zero] at g0; have B3 := hr.bd.getD 3; rw [h4] at g0; rw [h5] at g1; generalize x.getD 2 0 = c2 at *; have q1 : (c2 == 1) = false := (by simpa using h6); have HA := Lib.hid (And.intro hat (And.intro (((Kp.refl (fun _ => False) w).alloc _).trans kq) (And.intro hv hg))); clear hat kq hv hg hr))
  exact fr_ret rfl (six HA.out.1 (by omega) HA.out.2.1 _ _ _ _ _ _).1 rfl rfl rfl ⟨rfl, (six HA.out.1 (by omega) HA.out.2.1 _ _ _ _ _ _).2⟩
theorem fread_t (a : Option Addr) (cap : Nat) (l : List Int) (w : World) (h : RdB w a l) (hcap : l.length ≤ cap) (hcm : cap ≤ maxLen) (h1 : ¬ (1426 : Int) < l.length) (h2 : ¬ (l.length : Int) < 26) (h3 : ck l = 0) (h4 : (chk l).getD 0 0 = 83) (h5 : (chk l).getD 1 0 = 75) (h6 : (chk l).getD 2 0 = 1) (h7 : ¬ typedP ((chk l).getD 3 0)) :
    Calls Try.prog 32 #[.slice a l.length cap] w fun e w' => e = .returned (.tuple #[.agg (frA zF none 0), .int .i64 213]) ∧ Kp (fun _ => False) w w' := by
  have C := Lib.hid (fun w' (k : Kp (fun _ => False) w w') => gcheck a cap l w' (h.kp0 k (fun _ _ h => h)) (by omega) hcap hcm)
  rw [h3] at C
  have hxl : (chk l).length + 4 = l.length := by unfold ck at h3; unfold chk; split at h3 <;> simp_all; omega
  have hm : 22 ≤ (chk l).length := by omega
  have hm2 : (chk l).length ≤ 1422 := by omega
  clear h hcm hcap h3 hxl
  generalize chk l = x at *
  obtain ⟨m, hml⟩ : ∃ m, m = x.length := ⟨_, rfl⟩
  rw [← hml] at hm hm2
  have HML := Lib.hid hml
  clear hml
  generalize l.length = n at *
  have CK := Lib.hid (fun w' => known_any (x.getD 3 0) w')
  rw [show decide (typedP (x.getD 3 0)) = false by simpa using h7] at CK
  have i0 : 0 < m := by omega
  have i1 : 1 < m := by omega
  have i2 : 2 < m := by omega
  have i3 : 3 < m := by omega
  go_enter Try.func32, Try.ntmps32
  go_wp2_with (first | (go_at_call 41; refine (C.out _ ((Kp.refl _ w).alloc _)).mono ?_; rintro e w1 ⟨v, rfl, hv, hg, kq⟩; obtain ⟨xa, xc, rfl, hr, hxc⟩ := hv.form; rw [← HML.out] at hxc hv hg ⊢; have hat := kq.at (At.new w [.int .i64 0, .int .i64 0, .int .i64 0, .int .i64 0, .int .i64 0, .slice none 0 0] 36) (fun h => h); have x0 := (hat.cell 0).trans (show _ = some (.int .i64 0) from rfl); have x1 := (hat.cell 1).trans (show _ = some (.int .i64 0) from rfl); have x2 := (hat.cell 2).trans (show _ = some (.int .i64 0) from rfl); have x3 := (hat.cell 3).trans (show _ = some (.int .i64 0) from rfl); have x4 := (hat.cell 4).trans (show _ = some (.int .i64 0) from rfl); have x5 := (hat.cell 5).trans (show _ = some (.slice none 0 0) from rfl); have hf := fun i => hat.frozen i; obtain ⟨b, off, rfl, g0⟩ := hr.cell 0 (by have := HML.out; omega); obtain ⟨_, _, q1, g1⟩ := hr.cell 1 (by have := HML.out; omega); obtain ⟨_, _, q2, g2⟩ := hr.cell 2 (by have := HML.out; omega); obtain ⟨_, _, q3, g3⟩ := hr.cell 3 (by have := HML.out; omega); cases q1; cases q2; cases q3; rw [Nat.add_zero] at g0; have B3 := hr.bd.getD 3; rw [h4] at g0; rw [h5] at g1; rw [h6] at g2; generalize x.getD 3 0 = c3 at *; have HA := Lib.hid (And.intro hat (And.intro (((Kp.refl (fun _ => False) w).alloc _).trans kq) (And.intro hv hg))); clear hat kq hv hg hr) | (go_at_call 37; refine (CK.out _).mono ?_; rintro e w2 ⟨rfl, rfl⟩))
  exact fr_ret rfl (six HA.out.1 (by omega) HA.out.2.1 _ _ _ _ _ _).1 rfl rfl rfl ⟨rfl, (six HA.out.1 (by omega) HA.out.2.1 _ _ _ _ _ _).2⟩
end Go.Proofs.Ytokembhfebnjpaa
