/- The guard's sum: plain law on numbers below 2^32. No program in sight. -/
import Derived.Test.YtokembhfebnjpaaQBsM
import Derived.Test.YtokembhfebnjpaaQSlc
import Derived.Laws.BitsAllLaws
import Derived.Laws.Rows
import Derived.Outline
import Derived.Deep.DeepCutAuto
namespace Go.Proofs.Ytokembhfebnjpaa
set_option maxRecDepth 20000
open Go.RowKit
set_option linter.unusedVariables false
def P32 : Nat := 3988292384
/-- A bit's step. -/
def st (n : Nat) : Nat := n / 2 ^^^ (if n % 2 = 1 then P32 else 0)
def stn : Nat → Nat → Nat
  | 0, n => n
  | k + 1, n => stn k (st n)
theorem stn_succ : ∀ (k n : Nat), stn (k + 1) n = st (stn k n)
  | 0, n => rfl
  | k + 1, n => by rw [stn, stn_succ k (st n)]; rfl
theorem stn_add : ∀ (j k n : Nat), stn (j + k) n = stn j (stn k n)
  | j, 0, n => rfl
  | j, k + 1, n => by rw [← Nat.add_assoc, stn, stn_add j k (st n)]; rfl
def M32 : Nat := 4294967296
theorem xor_lt {a b : Nat} (ha : a < M32) (hb : b < M32) : a ^^^ b < M32 := Nat.xor_lt_two_pow (n := 32) ha hb
theorem st_lt {n : Nat} (h : n < M32) : st n < M32 := by
  unfold st
  refine xor_lt (by unfold M32 at *; omega) ?_
  split
  · decide
  · decide
theorem stn_lt : ∀ (k : Nat) {n : Nat}, n < M32 → stn k n < M32
  | 0, n, h => h
  | k + 1, n, h => stn_lt k (st_lt h)
theorem xor_div2 (a b : Nat) : (a ^^^ b) / 2 = a / 2 ^^^ b / 2 := by
  apply Nat.eq_of_testBit_eq
  intro i
  simp [Nat.testBit_xor, Nat.testBit_div_two]
theorem st_xor (a b : Nat) : st (a ^^^ b) = st a ^^^ st b := by
  unfold st
  rw [xor_div2]
  have hm : (a ^^^ b) % 2 = (a + b) % 2 := by
    rcases Nat.mod_two_eq_zero_or_one a with ha | ha <;> rcases Nat.mod_two_eq_zero_or_one b with hb | hb <;>
    · have := Nat.xor_mod_two_eq_one (a := a) (b := b)
      have h3 := Nat.mod_two_eq_zero_or_one (a ^^^ b)
      omega
  have e : ∀ x y p q : Nat, (x ^^^ y) ^^^ (p ^^^ q) = (x ^^^ p) ^^^ (y ^^^ q) := fun x y p q => by
    rw [Nat.xor_assoc, Nat.xor_assoc, ← Nat.xor_assoc y, Nat.xor_comm y p, Nat.xor_assoc p]
  rcases Nat.mod_two_eq_zero_or_one a with ha | ha <;> rcases Nat.mod_two_eq_zero_or_one b with hb | hb
  · rw [if_neg (by omega), if_neg (by omega), if_neg (by omega), Nat.xor_zero, Nat.xor_zero, Nat.xor_zero]
  · rw [if_pos (by omega), if_neg (by omega), if_pos (by omega), ← e, Nat.zero_xor]
  · rw [if_pos (by omega), if_pos (by omega), if_neg (by omega), ← e, Nat.xor_zero]
  · rw [if_neg (by omega), if_pos (by omega), if_pos (by omega), ← e, Nat.xor_self]
theorem stn_xor : ∀ (k a b : Nat), stn k (a ^^^ b) = stn k a ^^^ stn k b
  | 0, a, b => rfl
  | k + 1, a, b => by rw [stn, st_xor, stn_xor k]; rfl
theorem st_zero : st 0 = 0 := rfl
theorem stn_zero : ∀ k, stn k 0 = 0
  | 0 => rfl
  | k + 1 => by rw [stn, st_zero]; exact stn_zero k
theorem st_even (n : Nat) : st (2 * n) = n := by
  unfold st
  rw [if_neg (by omega), Nat.xor_zero]; omega
theorem stn_pow : ∀ (k n : Nat), stn k (2 ^ k * n) = n
  | 0, n => by simp [stn]
  | k + 1, n => by rw [stn, Nat.pow_succ, Nat.mul_comm (2 ^ k) 2, Nat.mul_assoc, st_even]; exact stn_pow k n
/-- A byte comes in. -/
def byt (n c : Nat) : Nat := stn 8 (n ^^^ c)
theorem byt_lt {n c : Nat} (h : n < M32) (hc : c < 256) : byt n c < M32 := stn_lt 8 (xor_lt h (by unfold M32; omega))
theorem split256 (n : Nat) : n = (n % 256) ^^^ (256 * (n / 256)) := by
  apply Nat.eq_of_testBit_eq
  intro i
  rw [Nat.testBit_xor, show (256 : Nat) = 2 ^ 8 from rfl, Nat.testBit_mod_two_pow, Nat.testBit_two_pow_mul, Nat.testBit_div_two_pow]
  by_cases h : i < 8
  · simp [h, show ¬ 8 ≤ i by omega]
  · simp [h, show 8 ≤ i by omega, show i - 8 + 8 = i by omega]
/-- .. by the table. -/
theorem byt_table (n c : Nat) : stn 8 ((n % 256) ^^^ c) ^^^ (n / 256) = byt n c := by
  unfold byt
  conv => rhs; rw [split256 n, Nat.xor_assoc, Nat.xor_comm (256 * (n / 256)) c, ← Nat.xor_assoc, stn_xor]
  congr 1
  exact (stn_pow 8 (n / 256)).symm
/-- .. bit by bit. -/
theorem bit_step (n d : Nat) : (n / 2 ^^^ (if n % 2 = d % 2 then 0 else P32)) ^^^ d / 2 = st (n ^^^ d) := by
  unfold st
  rw [xor_div2]
  have hm : (n ^^^ d) % 2 = (n + d) % 2 := by
    rcases Nat.mod_two_eq_zero_or_one n with ha | ha <;> rcases Nat.mod_two_eq_zero_or_one d with hb | hb <;>
    · have := Nat.xor_mod_two_eq_one (a := n) (b := d)
      have h3 := Nat.mod_two_eq_zero_or_one (n ^^^ d)
      omega
  by_cases h : n % 2 = d % 2
  · rw [if_pos h, if_neg (by omega), Nat.xor_zero, Nat.xor_zero]
  · rw [if_neg h, if_pos (by omega), Nat.xor_assoc, Nat.xor_comm P32, ← Nat.xor_assoc]
/-- So many bits of a byte. -/
def bits8 (c : Nat) : Nat → Nat → Nat
  | 0, n => n
  | k + 1, n => (bits8 c k n) / 2 ^^^ (if (bits8 c k n) % 2 = (c / 2 ^ k) % 2 then 0 else P32)
theorem bits8_st (c n : Nat) : ∀ k, bits8 c k n ^^^ c / 2 ^ k = stn k (n ^^^ c)
  | 0 => by simp [bits8, stn]
  | k + 1 => by
    rw [stn_succ, ← bits8_st c n k, ← bit_step, bits8, Nat.pow_succ, Nat.div_div_eq_div_mul]
theorem bits8_byt (c n : Nat) (hc : c < 256) : bits8 c 8 n = byt n c := by
  have := bits8_st c n 8
  rw [Nat.div_eq_of_lt (show c < 2 ^ 8 by omega), Nat.xor_zero] at this
  exact this
theorem bits8_lt (c n : Nat) (h : n < M32) : ∀ k, bits8 c k n < M32
  | 0 => h
  | k + 1 => by
    have := bits8_lt c n h k
    rw [bits8]
    refine xor_lt (by unfold M32 at *; omega) ?_
    split <;> decide
/-- All bytes. -/
def reg (n : Nat) (l : List Int) : Nat := l.foldl (fun n c => byt n c.toNat) n
theorem reg_append (n : Nat) (a b : List Int) : reg n (a ++ b) = reg (reg n a) b := List.foldl_append
theorem reg_lt {l : List Int} (hl : Byt l) : ∀ {n : Nat}, n < M32 → reg n l < M32 := by
  induction l with
  | nil => intro n h; exact h
  | cons c r ih => intro n h; exact ih (fun x hx => hl x (by simp [hx])) (byt_lt h (by have := hl c (by simp); omega))
theorem reg_snoc (n : Nat) (l : List Int) (c : Int) : reg n (l ++ [c]) = byt (reg n l) c.toNat := by rw [reg_append]; rfl
def neg (n : Nat) : Nat := 4294967295 - n
theorem neg_neg {n : Nat} (h : n < M32) : neg (neg n) = n := by unfold neg M32 at *; omega
theorem neg_lt (n : Nat) : neg n < M32 := by unfold neg M32; omega
/-- The sum of bytes behind a sum. -/
def more (s : Nat) (l : List Int) : Nat := neg (reg (neg s) l)
def sum4 (l : List Int) : Nat := more 0 l
theorem more_lt (s : Nat) (l : List Int) : more s l < M32 := neg_lt _
theorem more_nil {s : Nat} (h : s < M32) : more s [] = s := neg_neg h
theorem more_append {s : Nat} {a b : List Int} (ha : Byt a) : more s (a ++ b) = more (more s a) b := by
  unfold more
  rw [reg_append, neg_neg (reg_lt ha (neg_lt s))]
/-- A sum's bytes. -/
def four (s : Nat) : List Int := [((s % 256 : Nat) : Int), ((s / 256 % 256 : Nat) : Int), ((s / 65536 % 256 : Nat) : Int), ((s / 16777216 % 256 : Nat) : Int)]
theorem byt_four (s : Nat) : Byt (four s) := by
  intro x hx; simp only [four, List.mem_cons, List.not_mem_nil, or_false] at hx; omega
def put4 (l : List Int) : List Int := l ++ four (sum4 l)
theorem byt_put4 {l : List Int} (h : Byt l) : Byt (put4 l) := h.append (byt_four _)
theorem put4_len (l : List Int) : (put4 l).length = l.length + 4 := by simp [put4, four]
/-- Are bytes guarded? -/
def ok4 (l : List Int) : Bool := decide (4 ≤ l.length) && decide (put4 (l.take (l.length - 4)) = l)
end Go.Proofs.Ytokembhfebnjpaa
/- Package guard: words, More, Sum. -/
namespace Go.Proofs.Ytokembhfebnjpaa
set_option maxRecDepth 20000
open Go.RowKit
set_option linter.unusedVariables false
def tk (k : Nat) : List Value := (List.range 256).map fun i => if i < k then Value.int .u32 ((stn 8 i : Nat) : Int) else .int .u32 0
theorem tk_len (k : Nat) : (tk k).length = 256 := by simp [tk]
theorem tk_set (k : Nat) (h : k < 256) : (tk k).set k (.int .u32 ((stn 8 k : Nat) : Int)) = tk (k + 1) := by
  apply List.ext_getElem?
  intro i
  rw [List.getElem?_set]
  by_cases hi : i < 256
  · by_cases hk : k = i
    · subst hk; simp [tk, hi]
    · have : (i < k + 1) = (i < k) := by simp; omega
      simp [tk, hi, hk, this]
  · simp [tk, hi]; omega
theorem tk_get (k : Nat) (h : k < 256) : (tk 256)[k]? = some (.int .u32 ((stn 8 k : Nat) : Int)) := by
  simp [tk, h]
def tblA : Array Value := (tk 256).toArray
def ztA : Array Value := (List.replicate 256 (Value.int .u32 0)).toArray
theorem zero_tbl (w : World) : (zeroValue 105).run Try.prog w = .ok (.agg ztA) w := by kernel_rfl
theorem ztA_size : ztA.size = 256 := by unfold ztA; rw [List.size_toArray, List.length_replicate]
theorem ztA_ne : ¬ ztA = #[] := fun h => by have := ztA_size; rw [h] at this; cases this
theorem ztA_lt : ¬ ztA.size < 2 := by rw [ztA_size]; omega
theorem ztA_tk : ztA.toList = tk 0 := by
  unfold ztA tk
  have e : (fun i => if i < 0 then Value.int .u32 ((stn 8 i : Nat) : Int) else .int .u32 0) = fun _ : Nat => Value.int .u32 0 := by funext i; rw [if_neg (by omega)]
  rw [e, List.map_const', List.length_range]
theorem tblA_size : tblA.size = 256 := by unfold tblA; rw [List.size_toArray, tk_len]
theorem tbl_info : (Try.prog.info? 105).map (·.size) = some tblA.size := by rw [tblA_size]; kernel_rfl
theorem tbl_one : tblA.all (·.oneCell') = true := all_oneCell_toArray (fun v hv => by
  obtain ⟨i, _, rfl⟩ := List.mem_map.1 hv
  split <;> rfl)
theorem u32_and1 (x : Nat) (h : x < M32) : bits .and .u32 (x : Int) 1 = ((x % 2 : Nat) : Int) := by
  have := u32_and_nat x 1 h (by decide)
  rw [Nat.and_one_is_mod] at this
  exact this
theorem u32_stodd (x : Nat) (h : x < M32) (ho : x % 2 = 1) : bits .xor .u32 ((x : Int) / 2) 3988292384 = ((st x : Nat) : Int) := by
  have := u32_xor_nat (x / 2) P32 (by unfold M32 at h; omega) (by decide)
  rw [st, if_pos ho, ← this]; rfl
theorem steven (x : Nat) (he : x % 2 = 0) : ((x : Int) / 2) = ((st x : Nat) : Int) := by
  rw [st, if_neg (by omega), Nat.xor_zero]; rfl
set_option maxRecDepth 100000 in
theorem words_any (w : World) : Calls Try.prog 49 #[] w fun e w' => e = .returned (.agg tblA) ∧ Kp (fun _ => False) w w' := by
  have hz := zero_tbl
  have z1 := ztA_ne
  have z2 := ztA_lt
  go_enter Try.func49, Try.ntmps49
  go_wp2_with fail
  clear hz z1 z2
  refine wp_world (fun wr => At wr w.heap.size (tk 0) ∧ At wr (w.heap.size + 1) (tk 0) ∧ Kp (fun _ => False) w wr) ?_ ?_
  · have e : Obj.cells ztA 105 = Obj.cells (tk 0).toArray 105 := by rw [← ztA_tk]
    rw [e]
    exact ⟨(At.new w (tk 0) _).alloc _, by simpa using At.new (w.alloc (.cells (tk 0).toArray 105)) (tk 0) 105, ((Kp.refl _ w).alloc _).alloc _⟩
  intro w1 hw1
  have H1 := Lib.hid hw1
  clear hw1
  go_loopw [5] (fun i wr => ∃ k : Nat, k ≤ 256 ∧ i = .int .i64 k ∧ At wr w.heap.size (tk 0) ∧ At wr (w.heap.size + 1) (tk k) ∧ Kp (fun _ => False) w wr) (fun i _ => 256 - (intOf i).toNat)
  case atStart => obtain ⟨h1, h2, h3⟩ := H1.out; exact ⟨0, by omega, rfl, h1, h2, h3⟩
  case round =>
    clear H1
    obtain ⟨k, hk, rfl, h0, h1, hkp⟩ := hrel
    by_cases hlt : k < 256
    · have hset := h1.set k (.int .u32 ((stn 8 k : Nat) : Int))
      rw [tk_set k hlt] at hset
      have i1 : (k : Int) < 256 := by omega
      have hf := h1.frozen k
      have hcell := h1.cell k
      rw [show (tk k)[k]? = some (.int .u32 0) by simp [tk, hlt]] at hcell
      have HS := Lib.hid (And.intro (h0.setOther (a := ⟨w.heap.size + 1, k, none⟩) (by simp) (.int .u32 ((stn 8 k : Nat) : Int))) (And.intro hset (hkp.setCell (p := ⟨w.heap.size + 1, k, none⟩) (by simp) (.int .u32 ((stn 8 k : Nat) : Int)))))
      clear h0 h1 hkp hset
      obtain ⟨wo, rfl⟩ : ∃ wo : World, wo = wr := ⟨_, rfl⟩
      go_wp2_with fail
      go_loop [3, 10] (fun n j => ∃ m : Nat, m ≤ 8 ∧ j = .int .i64 m ∧ n = .int .u32 ((stn m k : Nat) : Int)) (fun _ j => 8 - (intOf j).toNat)
      case atStart => exact ⟨0, by omega, rfl, rfl⟩
      case round =>
        obtain ⟨m, hm, rfl, rfl⟩ := hrel
        have hx : stn m k < M32 := stn_lt m (by unfold M32; omega)
        by_cases hm8 : m < 8
        · have HN := Lib.hid (stn_succ m k)
          have i2 : (m : Int) < 8 := by omega
          generalize stn m k = x at *
          have x0 : (0 : Int) ≤ (x : Int) := by omega
          have x1 : (x : Int) < 4294967296 := by unfold M32 at hx; omega
          have e1 := u32_and1 x hx
          rcases Nat.mod_two_eq_zero_or_one x with hp | hp
          · have e2 := steven x hp
            rw [hp] at e1
            have HE := Lib.hid e2
            clear e2 hp hx
            go_wp2
            go_round
            case rel => exact ⟨m + 1, by omega, by go_num, by rw [HN.out, ← HE.out]⟩
            case measure => simp [intOf]; omega
          · have e2 := u32_stodd x hx hp
            rw [hp] at e1
            clear hp hx
            go_wp2
            go_round
            case rel => exact ⟨m + 1, by omega, by go_num, by rw [HN.out]⟩
            case measure => simp [intOf]; omega
        · obtain rfl : m = 8 := by omega
          clear hx
          generalize stn 8 k = x at *
          go_wp2_with fail
          exact ⟨⟨k + 1, by omega, by go_num, HS.out.1, HS.out.2.1, HS.out.2.2⟩, by simp [intOf]; omega⟩
    · obtain rfl : k = 256 := by omega
      have hi := tbl_info
      have hu := Try.underlying105
      obtain ⟨T1, g1⟩ := h1
      have HG := Lib.hid g1
      have ht : wr.there w.heap.size 0 tblA.size := fun j hj => by
        rw [tblA_size] at hj
        refine ⟨?_, h0.frozen _⟩
        rw [h0.cell, List.getElem?_eq_getElem (by rw [tk_len]; omega)]; rfl
      have HF := Lib.hid (show At (wr.setCells w.heap.size 0 tblA.toList) w.heap.size (tk 256) ∧ Kp (fun _ => False) w (wr.setCells w.heap.size 0 tblA.toList) from
        ⟨by
          have := h0.setCells tblA.toList 0 (by simp [tblA, tk_len])
          rwa [show List.take 0 (tk 0) ++ tblA.toList ++ List.drop (0 + tblA.toList.length) (tk 0) = tk 256 by simp [tblA, tk_len]] at this, Kp.setCells (by simp) _ _ hkp⟩)
      clear h0 hkp g1
      go_wp2_with (first | (refine wpList_load_row rfl 105 (.tmp 1) rfl (w.heap.size + 1) rfl T1 tblA (0, 0) _ HG.out hu rfl hi ?_) | (refine wpList_store_mid rfl 105 (.tmp 0) (.tmp 25) rfl w.heap.size 0 tblA rfl rfl ht hi tbl_one ?_))
      obtain ⟨⟨T2, g2⟩, hk⟩ := HF.out
      exact bodyPost_ret (v := .agg tblA) (results_cell_row rfl _ _ w.heap.size T2 tblA (0, 0) _ rfl g2 hu rfl hi) rfl ⟨rfl, hk⟩
end Go.Proofs.Ytokembhfebnjpaa
/- Package guard: More, Sum. -/
namespace Go.Proofs.Ytokembhfebnjpaa
set_option maxRecDepth 20000
open Go.RowKit
set_option linter.unusedVariables false
theorem u32_not (x : Nat) (h : x < M32) : bits .xor .u32 (if IntKind.u32.signed = true then -1 else IntKind.u32.max) (x : Int) = ((neg x : Nat) : Int) := by
  have e := u32_xor_nat 4294967295 x (by decide) h
  have e' : bits .xor .u32 (if IntKind.u32.signed = true then -1 else IntKind.u32.max) (x : Int) = ((4294967295 ^^^ x : Nat) : Int) := e
  rw [e', Nat.xor_comm]
  congr 1
  have h2 := congrArg BitVec.toNat (BitVec.xor_allOnes (x := BitVec.ofNat 32 x))
  simp only [BitVec.toNat_xor, BitVec.toNat_not, BitVec.toNat_ofNat, BitVec.toNat_allOnes] at h2
  rw [Nat.mod_eq_of_lt (show x < 2 ^ 32 from h)] at h2
  rw [show (4294967295 : Nat) = 2 ^ 32 - 1 from rfl, h2]
  rfl
/-- A whole array is stored; the world behind it is known by what is said of it. -/
theorem wpList_store_to {P : Program} {ops : Array Oper} {rest : List Oper} {op : Oper} {a : Act} {w : World} {Q : Exit → Act → World → Prop} (I : World → Prop) (hgd : op.guard = none) (ty : TypeId) (x y : Operand) (ho : op.op = .store ty x y)
    (b o : Nat) (cells : Array Value) (hx : a.eval x = .pointer (some ⟨b, o, none⟩)) (hy : a.eval y = .agg cells)
    (ht : w.there b o cells.size) (hi : (P.info? ty).map (·.size) = some cells.size) (h1 : cells.all (·.oneCell') = true) (hI : I (w.setCells b o cells.toList))
    (h : ∀ w', I w' → wpList P ops Q rest (a.put op.dst undef) w') : wpList P ops Q (op :: rest) a w :=
  wpList_store_mid hgd ty x y ho b o cells hx hy ht hi h1 (h _ hI)
set_option maxRecDepth 100000 in
theorem more_any (s : Nat) (hs : s < M32) (a : Option Addr) (cap : Nat) (l : List Int) (w : World) (h : RdB w a l) (hl : l.length ≤ 1000000000) :
    Calls Try.prog 45 #[.int .u32 s, .slice a l.length cap] w fun e w' => e = .returned (.int .u32 ((more s l : Nat) : Int)) ∧ Kp (fun _ => False) w w' := by
  have hz := zero_tbl
  have z1 := ztA_ne
  have z2 := ztA_lt
  have s0 : (0 : Int) ≤ (s : Int) := by omega
  have s1 : (s : Int) < 4294967296 := by unfold M32 at hs; omega
  go_enter Try.func45, Try.ntmps45
  go_wp2_with fail
  refine (words_any _).mono ?_
  rintro e w1 ⟨rfl, hk1⟩
  obtain ⟨A, hA⟩ : ∃ A, A = tblA := ⟨_, rfl⟩
  have HA := Lib.hid hA
  have hi := tbl_info
  have h1c := tbl_one
  have hsz := tblA_size
  rw [← hA] at hi h1c hsz ⊢
  clear hA
  have hzt : At (w1.alloc (.cells ztA 105)) w1.heap.size (tk 0) := by
    have e : Obj.cells ztA 105 = Obj.cells (tk 0).toArray 105 := by rw [← ztA_tk]
    rw [e]; exact At.new w1 (tk 0) _
  have ht : (w1.alloc (.cells ztA 105)).there w1.heap.size 0 A.size := fun j hj => by
    rw [hsz] at hj
    refine ⟨?_, hzt.frozen _⟩
    rw [hzt.cell, List.getElem?_eq_getElem (by rw [tk_len]; omega)]; rfl
  have hfin : At ((w1.alloc (.cells ztA 105)).setCells w1.heap.size 0 A.toList) w1.heap.size (tk 256) ∧ Kp (fun _ => False) w ((w1.alloc (.cells ztA 105)).setCells w1.heap.size 0 A.toList) :=
    ⟨by
      rw [HA.out]
      have := hzt.setCells tblA.toList 0 (by simp [tblA, tk_len])
      rwa [show List.take 0 (tk 0) ++ tblA.toList ++ List.drop (0 + tblA.toList.length) (tk 0) = tk 256 by simp [tblA, tk_len]] at this, hk1.then (Kp.setCells (S := (· = w1.heap.size)) (fun _ => rfl) _ _ (((Kp.refl _ w1).alloc _))) (fun i hi e => by have := hk1.size; omega)⟩
  have HF := Lib.hid hfin
  clear hfin hzt hk1 hsz
  go_upto_region 2 with (first | (refine wpList_store_to (fun w2 => Hid (At w2 w1.heap.size (tk 256) ∧ Kp (fun _ => False) w w2)) rfl 105 (.tmp 5) (.tmp 9) rfl w1.heap.size 0 A rfl rfl (by exact ht) (by exact hi) h1c (by exact HF) ?_; intro w2 H2))
  clear hz z1 z2 ht hi HF h1c HA
  rw [u32_not s hs]
  have hn : neg s < M32 := neg_lt s
  have HM := Lib.hid (show neg (reg (neg s) l) = more s l from rfl)
  generalize neg s = n0 at *
  clear hs s0 s1
  go_wp2_with fail
  go_loopw [6, 14] (fun n i wr => ∃ k : Nat, k ≤ l.length ∧ i = .int .i64 k ∧ n = .int .u32 ((reg n0 (l.take k) : Nat) : Int) ∧ At wr w1.heap.size (tk 256) ∧ Kp (fun _ => False) w wr) (fun _ i _ => l.length - (intOf i).toNat)
  case atStart => exact ⟨0, by omega, rfl, rfl, H2.out.1, H2.out.2⟩
  case round =>
    clear H2
    obtain ⟨k, hk, rfl, rfl, hat, hkp⟩ := hrel
    have hx : reg n0 (l.take k) < M32 := reg_lt (h.bd.take k) hn
    by_cases hlt : k < l.length
    · obtain ⟨b, off, rfl, hcell⟩ := (h.kp0 hkp (fun _ _ h => h)).cell k hlt
      have hb := h.bd.getD k
      have HN : Hid (reg n0 (l.take (k + 1)) = byt (reg n0 (l.take k)) (l.getD k 0).toNat) := by
        show _ = _
        rw [take_snoc l 0 k hlt, reg_snoc]
      generalize l.getD k 0 = c at *
      obtain ⟨c, rfl⟩ := Int.eq_ofNat_of_zero_le hb.1
      generalize reg n0 (l.take k) = x at *
      have hc8 : c < 256 := by omega
      obtain ⟨y, hy⟩ : ∃ y, y = (x % 256) ^^^ c := ⟨_, rfl⟩
      have hyl : y < 256 := by rw [hy]; exact Nat.xor_lt_two_pow (n := 8) (by omega) (by omega)
      have e1 : bits .xor .u8 ((x : Int) % 256) (c : Int) = (y : Int) := by rw [hy]; exact u8_xor_nat (x % 256) c (by omega) hc8
      have e2 : bits .xor .u32 ((stn 8 y : Nat) : Int) ((x : Int) / 256) = ((byt x c : Nat) : Int) := by
        rw [← byt_table, ← hy]
        exact u32_xor_nat (stn 8 y) (x / 256) (stn_lt 8 (by unfold M32; omega)) (by unfold M32 at hx; omega)
      have hc2 : wr.cell? ⟨w1.heap.size, y, none⟩ = some (.int .u32 ((stn 8 y : Nat) : Int)) := by rw [hat.cell, tk_get y hyl]
      rw [Int.toNat_natCast] at HN
      generalize stn 8 y = z at *
      generalize byt x c = x' at *
      have HA := Lib.hid (And.intro hat hkp)
      clear hat hkp hx hy hn
      have i1 : (k : Int) < l.length := by omega
      have i2 : (y : Int) < 256 := by omega
      go_wp2_with fail
      go_roundw
      case rel => exact ⟨k + 1, by omega, by go_num, by rw [HN.out], HA.out.1, HA.out.2⟩
      case measure => simp [intOf]; omega
    · obtain rfl : k = l.length := by omega
      rw [List.take_length] at *
      have e := u32_not _ hx
      rw [HM.out] at e
      generalize reg n0 l = x at *
      clear hat hn hx
      go_wp2_with fail
      go_ret
      exact ⟨rfl, hkp⟩
theorem sum_any (a : Option Addr) (cap : Nat) (l : List Int) (w : World) (h : RdB w a l) (hl : l.length ≤ 1000000000) :
    Calls Try.prog 39 #[.slice a l.length cap] w fun e w' => e = .returned (.int .u32 ((sum4 l : Nat) : Int)) ∧ Kp (fun _ => False) w w' := by
  have C := Lib.hid (more_any 0 (by decide) a cap l w h hl)
  have e : Hid (more 0 l = sum4 l) := rfl
  clear h
  go_enter Try.func39, Try.ntmps39
  go_wp2_with (go_at_call 45; refine C.out.mono ?_; rintro e w' ⟨rfl, hk⟩)
  go_ret
  exact ⟨ret_int (by rw [e.out]), hk⟩
end Go.Proofs.Ytokembhfebnjpaa
/- Package guard: Put, Check. -/
namespace Go.Proofs.Ytokembhfebnjpaa
set_option maxRecDepth 20000
open Go.RowKit
set_option linter.unusedVariables false
theorem four_cells (s : Nat) (h : s < M32) : [Value.int .u8 ((s : Int) % 256), .int .u8 ((s : Int) / 256 % 256), .int .u8 ((s : Int) / 65536 % 256), .int .u8 ((s : Int) / 16777216)] = (four s).map (Value.int .u8) := by
  unfold M32 at h
  simp only [four, List.map_cons, List.map_nil, List.cons.injEq, Value.int.injEq, true_and, and_true]
  omega
theorem rdb_new (w : World) (l : List Int) (hl : Byt l) (hlen : l.length ≤ 4611686018427387904) (T : TypeId) (m : Nat × Nat) : RdB (w.alloc (.cells (l.map (Value.int .u8)).toArray T m)) (some ⟨w.heap.size, 0, none⟩) l :=
  ⟨fun i hi => ⟨_, _, rfl, by
    have e := heap_alloc_new w (.cells (l.map (Value.int .u8)).toArray T m)
    simp only [World.cell?]
    rw [e]
    simp [List.getD_eq_getElem?_getD, hi]⟩, hl, hlen⟩
theorem rdl_pair (w : World) (a : Option Addr) (cap : Nat) (l m : List Int) (h : RdB w a l) (hcap : l.length ≤ cap) (hm : Byt m) (hml : m.length ≤ 1000000000) (T T' : TypeId) :
    RdL ((w.alloc (.cells (m.map (Value.int .u8)).toArray T)).alloc (.cells #[.slice a l.length cap, .slice (some ⟨w.heap.size, 0, none⟩) m.length m.length] T')) (some ⟨w.heap.size + 1, 0, none⟩) [l, m] := by
  have h1 := rdb_new w m hm (by omega) T (0, 0)
  have hk := (Kp.refl (fun _ => False) w).alloc (.cells (m.map (Value.int .u8)).toArray T)
  have hk2 := (Kp.refl (fun _ => False) (w.alloc (.cells (m.map (Value.int .u8)).toArray T))).alloc (.cells #[.slice a l.length cap, .slice (some ⟨w.heap.size, 0, none⟩) m.length m.length] T')
  have ha := At.new (w.alloc (.cells (m.map (Value.int .u8)).toArray T)) [.slice a l.length cap, .slice (some ⟨w.heap.size, 0, none⟩) m.length m.length] T'
  have hs : (w.alloc (.cells (m.map (Value.int .u8)).toArray T)).heap.size = w.heap.size + 1 := by simp
  rw [hs] at ha
  intro i hi
  match i, hi with
  | 0, _ => exact ⟨w.heap.size + 1, 0, a, cap, rfl, by rw [ha.cell]; rfl, (h.kp hk (fun _ _ h => h)).kp hk2 (fun _ _ h => h), hcap⟩
  | 1, _ => exact ⟨w.heap.size + 1, 0, some ⟨w.heap.size, 0, none⟩, m.length, rfl, by rw [ha.cell]; rfl, h1.kp hk2 (fun _ _ h => h), Nat.le_refl _⟩
theorem put_any (a : Option Addr) (cap : Nat) (l : List Int) (w : World) (h : RdB w a l) (hl : l.length ≤ 100000000) (hcap : l.length ≤ cap) :
    Calls Try.prog 30 #[.slice a l.length cap] w fun e w' => ∃ v, e = .returned v ∧ OwnB w' v (put4 l) ∧ (∀ g, v.ownBlock = some g → w.heap.size ≤ g) ∧ Kp (fun _ => False) w w' := by
  have C := Lib.hid (sum_any a cap l w h (by omega))
  have hs := more_lt 0 l
  have HP := Lib.hid (show put4 l = l ++ four (sum4 l) from rfl)
  rw [show more 0 l = sum4 l from rfl] at hs
  generalize sum4 l = s at *
  have s0 : (0 : Int) ≤ (s : Int) := by omega
  have s1 : (s : Int) < 4294967296 := by unfold M32 at hs; omega
  have HS := Lib.hid hs
  clear hs
  go_enter Try.func30, Try.ntmps30
  go_wp2_with fail
  refine C.out.mono ?_
  rintro e w1 ⟨rfl, hk1⟩
  have H1 := Lib.hid hk1
  clear hk1
  have hrl := rdl_pair w1 a cap l (four s) (h.kp0 H1.out (fun _ _ h => h)) hcap (byt_four s) (by simp [four]) 5 22
  have e4 : (four s).length = 4 := rfl
  rw [← four_cells s HS.out, e4] at hrl
  have C2 := Lib.hid (concat_any (some ⟨w1.heap.size + 1, 0, none⟩) 2 [l, four s] _ hrl (by simp) (by simp [tlen, four]; omega))
  clear hrl
  go_wp2_with fail
  refine C2.out.mono ?_
  rintro e w2 ⟨v, rfl, hv, hvg, hk2⟩
  have hfin : Hid (OwnB w2 v (put4 l) ∧ (∀ g, v.ownBlock = some g → w.heap.size ≤ g) ∧ Kp (fun _ => False) w w2) :=
    ⟨by rw [HP.out]; simpa using hv, fun g hg => by have := hvg g hg; have := H1.out.size; simp at *; omega, ((H1.out.alloc _).alloc _).trans hk2⟩
  clear hv hvg hk2 C C2
  go_wp2_with fail
  go_ret
  exact ⟨_, rfl, hfin.out⟩
theorem check_short (a : Option Addr) (cap : Nat) (l : List Int) (w : World) (hl : l.length < 4) :
    Calls Try.prog 41 #[.slice a l.length cap] w fun e w' => e = .returned (.tuple #[.slice none 0 0, .int .i64 4]) ∧ w = w' := by
  have h1 : (l.length : Int) - 4 < 0 := by omega
  go_enter Try.func41, Try.ntmps41
  go_wp2
  go_ret2
  exact ⟨rfl, rfl⟩
theorem RdB.pre {w : World} {a : Option Addr} {l : List Int} (h : RdB w a l) (k : Nat) : RdB w a (l.take k) :=
  ⟨fun i hi => by
    have hi' : i < k ∧ i < l.length := by simp at hi; omega
    obtain ⟨b, off, ha, hc⟩ := h.cell i hi'.2
    exact ⟨b, off, ha, by rw [hc]; simp [List.getD_eq_getElem?_getD, hi'.1]⟩, h.bd.take k, by have := h.len; simp; omega⟩
theorem check_any (a : Option Addr) (cap : Nat) (l : List Int) (w : World) (h : RdB w a l) (hl : l.length ≤ 100000000) (hcap : l.length ≤ cap) (hcm : cap ≤ maxLen) (h4 : 4 ≤ l.length) :
    Calls Try.prog 41 #[.slice a l.length cap] w fun e w' => ∃ v k, e = .returned (.tuple #[v, .int .i64 k]) ∧ Kp (fun _ => False) w w' ∧ (∀ g, v.ownBlock = some g → w.heap.size ≤ g) ∧
      ((ok4 l = true ∧ k = 0 ∧ OwnB w' v (l.take (l.length - 4))) ∨ (ok4 l = false ∧ k = 4 ∧ v = .slice none 0 0)) := by
  obtain ⟨m, hm⟩ : ∃ m, m = l.length - 4 := ⟨_, rfl⟩
  rw [← hm]
  have hml : (l.take m).length = m := by simp; omega
  have hpre := h.pre m
  have hok : ok4 l = decide (put4 (l.take m) = l) := by unfold ok4; rw [← hm]; simp [h4]
  rw [hok]
  have C1 := put_any a cap (l.take m) w hpre (by omega) (by omega)
  rw [hml] at C1
  obtain ⟨b, off, rfl, _⟩ := h.cell 0 (by omega)
  have C3 := fun w' (hk : Kp (fun _ => False) w w') => clone_some ⟨b, off, none⟩ cap (l.take m) w' (hpre.kp0 hk (fun _ _ h => h)) (by omega)
  rw [hml] at C3
  have C1' := Lib.hid C1
  have C3' := Lib.hid C3
  have e1 : IntKind.i64.wrap ((l.length : Int) - 4) = (m : Int) := (IntWalk.i64_in _ (by omega)).trans (by omega)
  have e2 : (l.length : Int) - 4 = (m : Int) := by omega
  have i1 : (m : Int) ≤ cap := by omega
  have hb := h
  have HL := Lib.hid (And.intro hl hm)
  have HE := Lib.hid e2
  clear C1 C3 hpre hok e2 hm
  go_enter Try.func41, Try.ntmps41
  go_wp2_with fail
  refine C1'.out.mono ?_
  rintro e w1 ⟨v, rfl, hv, hvg, hk1⟩
  obtain ⟨va, vc, rfl, hvr, hvc⟩ := hv.form
  have C2 := equal_any va (some ⟨b, off, none⟩) vc cap (put4 (l.take m)) l w1 hvr (h.kp0 hk1 (fun _ _ h => h))
  have hpl : (put4 (l.take m)).length = m + 4 := by rw [put4_len, hml]
  rw [hpl] at C2
  have H1 := Lib.hid (And.intro hv (And.intro hvg hk1))
  by_cases hq : put4 (l.take m) = l
  · have C2' := Lib.hid C2
    have hd : decide (put4 (l.take m) = l) = true := by simpa using hq
    rw [hd] at C2'
    have HD := Lib.hid hd
    clear C2 hd hq hv hvg hk1 hvr hvc
    rw [hpl]
    clear hpl
    go_wp2_with fail
    refine C2'.out.mono ?_
    rintro e w2 ⟨rfl, hk2⟩
    have HK2 := Lib.hid (H1.out.2.2.trans hk2)
    clear hk2 C2'
    have C3 := Lib.hid (C3'.out _ HK2.out)
    go_wp2_with fail
    refine C3.out.mono ?_
    rintro e w3 ⟨v3, rfl, hv3, hvg3, hk3⟩
    have HF : Hid (Kp (fun _ => False) w w3 ∧ (∀ g, v3.ownBlock = some g → w.heap.size ≤ g) ∧ OwnB w3 v3 (l.take m)) := ⟨HK2.out.trans hk3, fun g hg => Nat.le_trans HK2.out.size (hvg3 g hg), hv3⟩
    clear hv3 hvg3 hk3 C3
    go_wp2_with fail
    go_ret2
    exact ⟨v3, 0, rfl, HF.out.1, HF.out.2.1, .inl ⟨HD.out, rfl, HF.out.2.2⟩⟩
  · have C2' := Lib.hid C2
    have hd : decide (put4 (l.take m) = l) = false := by simpa using hq
    rw [hd] at C2'
    have HD := Lib.hid hd
    clear C2 hd hq hv hvg hk1 hvr hvc
    rw [hpl]
    clear hpl
    go_wp2_with fail
    refine C2'.out.mono ?_
    rintro e w2 ⟨rfl, hk2⟩
    have HK2 := Lib.hid (H1.out.2.2.trans hk2)
    clear hk2 C2'
    go_wp2_with fail
    go_ret2
    exact ⟨_, 4, rfl, HK2.out, fun g hg => by simp [Value.ownBlock] at hg, .inr ⟨HD.out, rfl, rfl⟩⟩
end Go.Proofs.Ytokembhfebnjpaa
/- Chapter 04: Check at any bytes. -/
namespace Go.Proofs.Ytokembhfebnjpaa
set_option maxRecDepth 20000
open Go.RowKit
set_option linter.unusedVariables false
/-- What bytes guard, and the error. -/
def chk (l : List Int) : List Int := if ok4 l then l.take (l.length - 4) else []
def ck (l : List Int) : Int := if ok4 l then 0 else 4
theorem ok4_short {l : List Int} (h : l.length < 4) : ok4 l = false := by
  unfold ok4; simp; omega
theorem chk_len (l : List Int) : (chk l).length ≤ l.length := by
  unfold chk; split
  · simp
  · simp
theorem gcheck (a : Option Addr) (cap : Nat) (l : List Int) (w : World) (h : RdB w a l) (hl : l.length ≤ 100000000) (hcap : l.length ≤ cap) (hcm : cap ≤ maxLen) :
    Calls Try.prog 41 #[.slice a l.length cap] w fun e w' => ∃ v, e = .returned (.tuple #[v, .int .i64 (ck l)]) ∧ OwnB w' v (chk l) ∧ (∀ g, v.ownBlock = some g → w.heap.size ≤ g) ∧ Kp (fun _ => False) w w' := by
  by_cases h4 : 4 ≤ l.length
  · refine (check_any a cap l w h hl hcap hcm h4).mono ?_
    rintro e w' ⟨v, k, rfl, hk, hg, ⟨h1, rfl, h2⟩ | ⟨h1, rfl, rfl⟩⟩
    · exact ⟨v, by rw [ck, h1]; rfl, by rw [chk, h1]; exact h2, hg, hk⟩
    · exact ⟨_, by rw [ck, h1]; rfl, by rw [chk, h1]; exact OwnB.nil w', hg, hk⟩
  · have h1 := ok4_short (l := l) (by omega)
    refine (check_short a cap l w (by omega)).mono ?_
    rintro e w' ⟨rfl, rfl⟩
    exact ⟨_, by rw [ck, h1]; rfl, by rw [chk, h1]; exact OwnB.nil w, fun g hg => by simp [Value.ownBlock] at hg, Kp.refl _ _⟩
end Go.Proofs.Ytokembhfebnjpaa
