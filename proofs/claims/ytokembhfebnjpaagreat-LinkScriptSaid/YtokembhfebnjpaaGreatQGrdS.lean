/- Package guard: More, Sum. -/
import Derived.Test.YtokembhfebnjpaaGreatQKt0M
import Derived.Test.YtokembhfebnjpaaGreatQGrdW
import Derived.Deep.DeepCutAuto
namespace Go.Proofs.YtokembhfebnjpaaGreat
set_option maxRecDepth 20000
open Go.RowKit
set_option linter.unusedVariables false
theorem u32_not (x : Nat) (h : x < M32) : bits .xor .u32 (if IntKind.u32.signed = true then -1 else IntKind.u32.max) (x : Int) = ((neg x : Nat) : Int) := by
 have e := u32_xor_nat 4294967295 x (by decide) h
 have e' : bits .xor .u32 (if IntKind.u32.signed = true then -1 else IntKind.u32.max) (x : Int) = ((4294967295 ^^^ x : Nat) : Int) := e
 rw [e', Nat.xor_comm]
 congr 1
 have h2 := congrArg BitVec.toNat (BitVec.xor_allOnes (x := BitVec.ofNat 32 x))
 simp only [BitVec.toNat_xor, BitVec.toNat_not, BitVec.toNat_ofNat, BitVec.toNat_allOnes] at h2
 rw [Nat.mod_eq_of_lt (show x < 2 ^ 32 from h)] at h2
 rw [show (4294967295 : Nat) = 2 ^ 32 - 1 from rfl, h2]
 rfl
theorem wpList_store_to {P : Program} {ops : Array Oper} {rest : List Oper} {op : Oper} {a : Act} {w : World} {Q : Exit → Act → World → Prop} (I : World → Prop) (hgd : op.guard = none) (ty : TypeId) (x y : Operand) (ho : op.op = .store ty x y)
 (b o : Nat) (cells : Array Value) (hx : a.eval x = .pointer (some ⟨b, o, none⟩)) (hy : a.eval y = .agg cells)
 (ht : w.there b o cells.size) (hi : (P.info? ty).map (·.size) = some cells.size) (h1 : cells.all (·.oneCell') = true) (hI : I (w.setCells b o cells.toList))
 (h : ∀ w', I w' → wpList P ops Q rest (a.put op.dst undef) w') : wpList P ops Q (op :: rest) a w :=
 wpList_store_mid hgd ty x y ho b o cells hx hy ht hi h1 (h _ hI)
set_option maxRecDepth 100000 in
theorem more_any (s : Nat) (hs : s < M32) (a : Option Addr) (cap : Nat) (l : List Int) (w : World) (h : RdB w a l) (hl : l.length ≤ 1000000000) :
 Calls Tryz.prog 86 #[.int .u32 s, .slice a l.length cap] w fun e w' => e = .returned (.int .u32 ((more s l : Nat) : Int)) ∧ Kp (fun _ => False) w w' := by
 have hz := zero_tbl
 have z1 := ztA_ne
 have z2 := ztA_lt
 have s0 : (0 : Int) ≤ (s : Int) := by omega
 have s1 : (s : Int) < 4294967296 := by unfold M32 at hs; omega
 go_enter Tryz.func86, Tryz.ntmps86
 go_wp2_with fail
 refine (words_any _).mono ?_
 rintro e w1 ⟨rfl, hk1⟩
 obtain ⟨A, hA⟩ : ∃ A, A = tblA := ⟨_, rfl⟩
 have HA := Lib.hid hA
 have hi := tbl_info
 have h1c := tbl_one
 have hsz := tblA_size
 rw [← hA] at hi h1c hsz ⊢
 clear hA
 have hzt : At (w1.alloc (.cells ztA 140)) w1.heap.size (tk 0) := by
  have e : Obj.cells ztA 140 = Obj.cells (tk 0).toArray 140 := by rw [← ztA_tk]
  rw [e]; exact At.new w1 (tk 0) _
 have ht : (w1.alloc (.cells ztA 140)).there w1.heap.size 0 A.size := fun j hj => by
  rw [hsz] at hj
  refine ⟨?_, hzt.frozen _⟩
  rw [hzt.cell, List.getElem?_eq_getElem (by rw [tk_len]; omega)]; rfl
 have hfin : At ((w1.alloc (.cells ztA 140)).setCells w1.heap.size 0 A.toList) w1.heap.size (tk 256) ∧ Kp (fun _ => False) w ((w1.alloc (.cells ztA 140)).setCells w1.heap.size 0 A.toList) :=
  ⟨by
   rw [HA.out]
   have := hzt.setCells tblA.toList 0 (by simp [tblA, tk_len])
   rwa [show List.take 0 (tk 0) ++ tblA.toList ++ List.drop (0 + tblA.toList.length) (tk 0) = tk 256 by simp [tblA, tk_len]] at this, hk1.then (Kp.setCells (S := (· = w1.heap.size)) (fun _ => rfl) _ _ (((Kp.refl _ w1).alloc _))) (fun i hi e => by have := hk1.size; omega)⟩
 have HF := Lib.hid hfin
 clear hfin hzt hk1 hsz
 go_upto_region 2 with (first | (refine wpList_store_to (fun w2 => Hid (At w2 w1.heap.size (tk 256) ∧ Kp (fun _ => False) w w2)) rfl 140 (.tmp 5) (.tmp 9) rfl w1.heap.size 0 A rfl rfl (by exact ht) (by exact hi) h1c (by exact HF) ?_; intro w2 H2))
 clear hz z1 z2 ht hi HF h1c HA
 rw [u32_not s hs]
 have hn : neg s < M32 := neg_lt s
 have HM := Lib.hid (show neg (reg (neg s) l) = more s l from rfl)
 generalize neg s = n0 at *
 clear hs s0 s1
 go_wp2_with fail
 go_loopw [6, 14] (fun n i wr => ∃ k : Nat, k ≤ l.length ∧ i = .int .i64 k ∧ n = .int .u32 ((reg n0 (l.take k) : Nat) : Int) ∧ At wr w1.heap.size (tk 256) ∧ Kp (fun _ => False) w wr) (fun _ i _ => l.length - (intOf i).toNat)
 case atStart => exact ⟨0, by omega, rfl, rfl, H2.out.1, H2.out.2⟩
 case round =>
  clear H2
  obtain ⟨k, hk, rfl, rfl, hat, hkp⟩ := hrel
  have hx : reg n0 (l.take k) < M32 := reg_lt (h.bd.take k) hn
  by_cases hlt : k < l.length
  · obtain ⟨b, off, rfl, hcell⟩ := (h.kp0 hkp (fun _ _ h => h)).cell k hlt
    have hb := h.bd.getD k
    have HN : Hid (reg n0 (l.take (k + 1)) = byt (reg n0 (l.take k)) (l.getD k 0).toNat) := by
     show _ = _
     rw [take_snoc l 0 k hlt, reg_snoc]
    generalize l.getD k 0 = c at *
    obtain ⟨c, rfl⟩ := Int.eq_ofNat_of_zero_le hb.1
    generalize reg n0 (l.take k) = x at *
    have hc8 : c < 256 := by omega
    obtain ⟨y, hy⟩ : ∃ y, y = (x % 256) ^^^ c := ⟨_, rfl⟩
    have hyl : y < 256 := by rw [hy]; exact Nat.xor_lt_two_pow (n := 8) (by omega) (by omega)
    have e1 : bits .xor .u8 ((x : Int) % 256) (c : Int) = (y : Int) := by rw [hy]; exact u8_xor_nat (x % 256) c (by omega) hc8
    have e2 : bits .xor .u32 ((stn 8 y : Nat) : Int) ((x : Int) / 256) = ((byt x c : Nat) : Int) := by
     rw [← byt_table, ← hy]
     exact u32_xor_nat (stn 8 y) (x / 256) (stn_lt 8 (by unfold M32; omega)) (by unfold M32 at hx; omega)
    have hc2 : wr.cell? ⟨w1.heap.size, y, none⟩ = some (.int .u32 ((stn 8 y : Nat) : Int)) := by rw [hat.cell, tk_get y hyl]
    rw [Int.toNat_natCast] at HN
    generalize stn 8 y = z at *
    generalize byt x c = x' at *
    have HA := Lib.hid (And.intro hat hkp)
    clear hat hkp hx hy hn
    have i1 : (k : Int) < l.length := by omega
    have i2 : (y : Int) < 256 := by omega
    go_wp2_with fail
    go_roundw
    case rel => exact ⟨k + 1, by omega, by go_num, by rw [HN.out], HA.out.1, HA.out.2⟩
    case measure => simp [intOf]; omega
  · obtain rfl : k = l.length := by omega
    rw [List.take_length] at *
    have e := u32_not _ hx
    rw [HM.out] at e
    generalize reg n0 l = x at *
    clear hat hn hx
    go_wp2_with fail
    go_ret
    exact ⟨rfl, hkp⟩
theorem sum_any (a : Option Addr) (cap : Nat) (l : List Int) (w : World) (h : RdB w a l) (hl : l.length ≤ 1000000000) :
 Calls Tryz.prog 80 #[.slice a l.length cap] w fun e w' => e = .returned (.int .u32 ((sum4 l : Nat) : Int)) ∧ Kp (fun _ => False) w w' := by
 have C := Lib.hid (more_any 0 (by decide) a cap l w h hl)
 have e : Hid (more 0 l = sum4 l) := rfl
 clear h
 go_enter Tryz.func80, Tryz.ntmps80
 go_wp2_with (go_at_call 86; refine C.out.mono ?_; rintro e w' ⟨rfl, hk⟩)
 go_ret
 exact ⟨ret_int (by rw [e.out]), hk⟩
end Go.Proofs.YtokembhfebnjpaaGreat
