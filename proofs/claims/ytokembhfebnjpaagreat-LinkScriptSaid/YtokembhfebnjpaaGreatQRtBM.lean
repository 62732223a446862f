/- Floats: what an operation gives. -/
import Derived.Test.YtokembhfebnjpaaGreatQFltC
import Derived.Test.YtokembhfebnjpaaGreatQRtO
import Derived.Laws.Externs
namespace Go.Proofs.YtokembhfebnjpaaGreat
set_option maxRecDepth 20000
open Go.RowKit Flt
set_option linter.unusedVariables false
theorem bits_arith (op : BinOp) (t : TypeId) (x y : Nat) (w : World) (h : op = .add ∨ op = .sub ∨ op = .mul ∨ op = .quo) : ∃ r k, (binOp op t (.float .f64 x) (.float .f64 y)).run Tryz.prog w = .ok (.float .f64 r) (w.drewN k) ∧ (∀ q, floatBits op .f64 x y = some q → r = q ∧ k = 0) ∧ (floatBits op .f64 x y = none → nanb r = true) := by
 cases hb : floatBits op .f64 x y with
 | some q => exact ⟨q, 0, run_float_arith w op t .f64 x y q hb, fun q' h => by cases h; exact ⟨rfl, rfl⟩, fun h => by cases h⟩
 | none =>
  refine ⟨(Question.nanBits .f64 x y).cut (w.tape w.drawn (.nanBits .f64 x y)), 1, ?_, (fun q h => by cases h), fun _ => ?_⟩
  · rcases h with rfl | rfl | rfl | rfl <;> (simp only [floatBits] at hb; simp [binOp, Op.floatArith, hb, go_sem]; rfl)
  · generalize w.tape w.drawn (.nanBits .f64 x y) = t
    show nanb ((t % 2) * 2 ^ 63 + 0x7ff0000000000000 + 1 + (t / 2) % (2 ^ 52 - 1)) = true
    unfold nanb rung
    have hr : t / 2 % (2 ^ 52 - 1) < 2 ^ 52 - 1 := Nat.mod_lt _ (by decide)
    generalize t / 2 % (2 ^ 52 - 1) = r at *
    simp only [decide_eq_true_eq, SW, II]
    rcases Nat.mod_two_eq_zero_or_one t with h | h <;> rw [h] <;> omega
def ceilT (d : Ieee.Datum) (x : Nat) : Sem Value := match d with
 | .nan s t =>
  if FloatKind.f64.format.quiet t = t then pure (.float .f64 x) else do
  let kept ← choose (.extern "math.Floor,Ceil,Trunc,RoundToEven.signallingNaN kept" 2)
  pure (.float .f64 (if kept == 1 then x else FloatKind.f64.encode (.nan s (FloatKind.f64.format.quiet t))))
 | d => pure (.float .f64 (FloatKind.f64.encode (d.integral .up)))
theorem run_ceil (x : Nat) (w : World) (h : nanb x = false) : (callFunc 139 #[.float .f64 x]).run Tryz.prog w = .ok (.value (.float .f64 (Ieee.double.write ((Ieee.double.read x).integral .up)))) w := by
 rw [run_callFunc_extern Tryz.func139 (by kernel_rfl) (by kernel_rfl) (by kernel_rfl) (e := Extern.MathFloor.toIntegral "math.archCeil" .up) (by kernel_rfl)]
 rcases cases3 x with g | g | g
 · rw [h] at g; cases g
 · have e := read_inf g
   rw [show Extern.MathFloor.toIntegral "math.archCeil" .up #[.float .f64 x] = ceilT (Ieee.double.read x) x from rfl, e]
   rfl
 · obtain ⟨m, p, e, _⟩ := read_fin g
   rw [show Extern.MathFloor.toIntegral "math.archCeil" .up #[.float .f64 x] = ceilT (Ieee.double.read x) x from rfl, e]
   rfl
theorem ceil_any (x : Nat) (w : World) (h : nanb x = false) : Calls Tryz.prog 138 #[.float .f64 x] w fun e w' => e = .returned (.float .f64 (Ieee.double.write ((Ieee.double.read x).integral .up))) ∧ w = w' := by
 have hc := run_ceil x w h
 go_enter Tryz.func138, Tryz.ntmps138
 go_wp2
 go_ret
 exact ⟨rfl, rfl⟩
theorem wait_any (m s : Nat) (w : World) : Calls Tryz.prog 137 #[.float .f64 m, .float .f64 s] w fun e w' => e = .returned (.int .i64 (waitF m s)) ∧ ∃ k, w' = w.drewN k := by
 obtain ⟨p, k1, h1, p1, p2⟩ := bits_arith .mul 92 4616189618054758400 s w (by simp)
 obtain ⟨x, k2, h2, x1, x2⟩ := bits_arith .add 92 m p (w.drewN k1) (by simp)
 have hx : waitX m s = some x ∨ (waitX m s = none ∧ nanb x = true) := by
  unfold waitX
  show (floatBits .mul .f64 4616189618054758400 s).bind _ = _ ∨ _
  cases hm : floatBits .mul .f64 4616189618054758400 s with
  | none =>
   right
   have hm' : Ieee.double.mul f4 s = none := hm
   refine ⟨by rw [hm']; rfl, x2 ?_⟩
   exact add_nan (.inr (p2 hm))
  | some q =>
   obtain ⟨rfl, _⟩ := p1 q hm
   have hm' : Ieee.double.mul f4 s = some p := hm
   rw [hm']
   cases ha : floatBits .add .f64 m p with
   | none => exact .inr ⟨ha, x2 ha⟩
   | some y => obtain ⟨rfl, _⟩ := x1 y ha; exact .inl ha
 have g1 := ord_nan x
 have g2 := ord_gt x 4633641066610819072
 have g3 := ord_lt x 4611686018427387904
 rw [show nanb 4633641066610819072 = false by decide +kernel] at g2
 rw [show nanb 4611686018427387904 = false by decide +kernel] at g3
 cases hn : nanb x
 · rw [hn] at g1 g2 g3
   rcases hx with hx | ⟨_, h⟩
   rotate_left
   · rw [hn] at h; cases h
   simp only [Bool.not_false, Bool.true_and] at g2 g3
   by_cases c1 : key f60 < key x
   · rw [decide_eq_true (show key 4633641066610819072 < key x from c1)] at g2
     have e : waitF m s = 60 := by unfold waitF; rw [hx]; simp [hn, c1]
     rw [e]
     clear e hx p1 p2 x1 x2
     go_enter Tryz.func137, Tryz.ntmps137
     go_wp2
     go_ret
     exact ⟨rfl, _, rfl⟩
   · rw [decide_eq_false (show ¬ key 4633641066610819072 < key x from c1)] at g2
     by_cases c2 : key x < key f2
     · rw [decide_eq_true (show key x < key 4611686018427387904 from c2)] at g3
       have e : waitF m s = 2 := by unfold waitF; rw [hx]; simp [hn, c1, c2]
       rw [e]
       clear e hx p1 p2 x1 x2
       go_enter Tryz.func137, Tryz.ntmps137
       go_wp2
       go_ret
       exact ⟨rfl, _, rfl⟩
     · rw [decide_eq_false (show ¬ key x < key 4611686018427387904 from c2)] at g3
       obtain ⟨c, b1, b2, b3, b4, _⟩ := between x hn (by omega) (by omega)
       have e : waitF m s = c := by unfold waitF; rw [hx]; simp [hn, c1, c2, b4]
       have hcv : floatToIntVal .f64 (Ieee.double.write ((Ieee.double.read x).integral .up)) .i64 = some (c : Int) := by
        unfold floatToIntVal
        rw [show (FloatKind.f64.decode (Ieee.double.write ((Ieee.double.read x).integral .up))) = Ieee.double.read (Ieee.double.write ((Ieee.double.read x).integral .up)) from rfl, b3]
        simp only [IntKind.min, IntKind.max, IntKind.signed, IntKind.bits]
        rw [if_pos (by simp; omega)]
       have CC := Lib.hid (fun w' => ceil_any x w' hn)
       generalize Ieee.double.write ((Ieee.double.read x).integral .up) = y at *
       have hc := fun w' => run_convert_float_int (P := Tryz.prog) (w := w') 92 3 .f64 .i64 y c (by kernel_rfl) Tryz.underlying3 hcv
       rw [e]
       clear e hx p1 p2 x1 x2 b3 b4 hcv
       go_enter Tryz.func137, Tryz.ntmps137
       go_wp2_with (go_at_call 138; refine (CC.out _).mono ?_; rintro e w1 ⟨rfl, rfl⟩)
       go_ret
       exact ⟨rfl, _, rfl⟩
 · rw [hn] at g1
   have e : waitF m s = 60 := by
    unfold waitF
    rcases hx with hx | ⟨hx, _⟩
    · rw [hx]; simp [hn]
    · rw [hx]
   rw [e]
   clear e hx p1 p2 x1 x2
   go_enter Tryz.func137, Tryz.ntmps137
   go_wp2
   go_ret
   exact ⟨rfl, _, rfl⟩
theorem Flt.add_some {x y r : Nat} (h : Ieee.double.add x y = some r) : nanb r = false := by
 rcases cases3 x with hx | hx | hx
 · rw [add_nan (.inl hx)] at h; cases h
 · rcases cases3 y with hy | hy | hy
   · rw [add_nan (.inr hy)] at h; cases h
   · rcases add_inf_inf hx hy with ⟨_, e⟩ | ⟨_, q, e, hq, _⟩
     · rw [e] at h; cases h
     · rw [e] at h; cases h; exact hq
   · obtain ⟨q, e, hq, _⟩ := add_inf_left hx hy
     rw [e] at h; cases h; exact hq
 · rcases cases3 y with hy | hy | hy
   · rw [add_nan (.inr hy)] at h; cases h
   · obtain ⟨q, e, hq, _⟩ := add_inf_right hx hy
     rw [e] at h; cases h; exact hq
   · obtain ⟨q, e, hq, _⟩ := add_fin hx hy
     rw [e] at h; cases h; exact hq
def meanX (old now part : Nat) : Option Nat := (Ieee.double.sub now old).bind fun g => (Ieee.double.mul part g).bind fun p => Ieee.double.add old p
def meanF (old now part : Nat) : Nat := if nanb old then now else match meanX old now part with
 | some x => x
 | none => if nanb now then old else now
theorem mean_any (old now part : Nat) (w : World) : Calls Tryz.prog 125 #[.float .f64 old, .float .f64 now, .float .f64 part] w fun e w' => e = .returned (.float .f64 (meanF old now part)) ∧ ∃ k, w' = w.drewN k := by
 have g0 := ord_nan old
 cases hn : nanb old
 · rw [hn] at g0
   obtain ⟨g, k1, h1, a1, a2⟩ := bits_arith .sub 92 now old w (by simp)
   obtain ⟨p, k2, h2, b1, b2⟩ := bits_arith .mul 92 part g (w.drewN k1) (by simp)
   obtain ⟨x, k3, h3, c1, c2⟩ := bits_arith .add 92 old p (w.drewN (k1 + k2)) (by simp)
   have hx : (meanX old now part = some x ∧ nanb x = false) ∨ (meanX old now part = none ∧ nanb x = true) := by
    unfold meanX
    have ha : floatBits .sub .f64 now old = Ieee.double.sub now old := rfl
    have hb : floatBits .mul .f64 part g = Ieee.double.mul part g := rfl
    have hc : floatBits .add .f64 old p = Ieee.double.add old p := rfl
    rw [ha] at a1 a2
    rw [hb] at b1 b2
    rw [hc] at c1 c2
    cases hs : Ieee.double.sub now old with
    | none => exact .inr ⟨rfl, c2 (add_nan (.inr (b2 (mul_nan (.inr (a2 hs))))))⟩
    | some q =>
     obtain ⟨rfl, _⟩ := a1 q hs
     show (Option.bind (Ieee.double.mul part g) _ = _ ∧ _) ∨ (Option.bind (Ieee.double.mul part g) _ = _ ∧ _)
     cases hm : Ieee.double.mul part g with
     | none => exact .inr ⟨rfl, c2 (add_nan (.inr (b2 hm)))⟩
     | some q =>
      obtain ⟨rfl, _⟩ := b1 q hm
      show (Ieee.double.add old p = _ ∧ _) ∨ (Ieee.double.add old p = _ ∧ _)
      cases hd : Ieee.double.add old p with
      | none => exact .inr ⟨rfl, c2 hd⟩
      | some q => obtain ⟨rfl, _⟩ := c1 q hd; exact .inl ⟨rfl, add_some hd⟩
   clear a1 a2 b1 b2 c1 c2
   have g1 := ord_eq x x
   have g2 := ord_eq now now
   rcases hx with ⟨hx, hnx⟩ | ⟨hx, hnx⟩
   · have e : meanF old now part = x := by unfold meanF; rw [hn, hx]; rfl
     rw [hnx] at g1
     simp only [Bool.not_false, Bool.true_and, decide_true] at g1
     rw [e]
     clear e hx
     go_enter Tryz.func125, Tryz.ntmps125
     go_wp2
     go_ret
     exact ⟨rfl, _, rfl⟩
   · rw [hnx] at g1
     simp only [Bool.not_true, Bool.false_and] at g1
     cases hw : nanb now
     · have e : meanF old now part = now := by unfold meanF; rw [hn, hx]; simp [hw]
       rw [hw] at g2
       simp only [Bool.not_false, Bool.true_and, decide_true] at g2
       rw [e]
       clear e hx
       go_enter Tryz.func125, Tryz.ntmps125
       go_wp2
       go_ret
       exact ⟨rfl, _, rfl⟩
     · have e : meanF old now part = old := by unfold meanF; rw [hn, hx]; simp [hw]
       rw [hw] at g2
       simp only [Bool.not_true, Bool.false_and] at g2
       rw [e]
       clear e hx
       go_enter Tryz.func125, Tryz.ntmps125
       go_wp2
       go_ret
       exact ⟨rfl, _, rfl⟩
 · rw [hn] at g0
   have e : meanF old now part = now := by unfold meanF; rw [hn]; rfl
   rw [e]
   go_enter Tryz.func125, Tryz.ntmps125
   go_wp2
   go_ret
   exact ⟨rfl, 0, rfl⟩
end Go.Proofs.YtokembhfebnjpaaGreat
namespace Go.Proofs.YtokembhfebnjpaaGreat
set_option maxRecDepth 20000
open Go.RowKit Flt Ieee
set_option linter.unusedVariables false
namespace Flt
theorem rung_rung_w (x : Nat) : rung (rung x) = rung x := by unfold rung; simp only [SW]; omega
theorem sgn_rung_w (x : Nat) : sgn (rung x) = false := by
 have h1 : rung x < 9223372036854775808 := Nat.mod_lt _ (by decide)
 unfold sgn; simp only [SW]; rw [Nat.div_eq_of_lt h1]; rfl
theorem nanb_rung_w (x : Nat) : nanb (rung x) = nanb x := by unfold nanb; rw [rung_rung_w]
theorem key_zero_w : key 0 = 0 := by decide +kernel
theorem mv_neg_iff_w {x : Nat} : (mv x < 0 ↔ key x < 0) := by
 have := (mv_lt_iff x 0).1
 rwa [key_zero_w, show mv 0 = 0 by decide +kernel] at this
theorem mv_natAbs_w (x : Nat) : (mv x).natAbs = mg (rung x) := by unfold mv; cases sgn x <;> simp
theorem mv_rung_w (x : Nat) : mv (rung x) = mg (rung x) := by unfold mv; rw [sgn_rung_w, rung_rung_w]; rfl
def c31 : Nat := 4746794007248502784
def c32 : Nat := 4751297606875873280
def c33 : Nat := 4755801206503243776
theorem mv_c31 : mv c31 = 2147483648 * (uu 1074 : Int) := by kernel_rfl
theorem mv_c32 : mv c32 = 4294967296 * (uu 1074 : Int) := by kernel_rfl
theorem mv_c33 : mv c33 = 8589934592 * (uu 1074 : Int) := by kernel_rfl
theorem fin_c31 : fin c31 := by unfold fin; decide +kernel
theorem fin_c32 : fin c32 := by unfold fin; decide +kernel
theorem fin_c33 : fin c33 := by unfold fin; decide +kernel
structure Bw (c x : Nat) : Prop where
 num : nanb x = false
 lo : 0 ≤ mv x
 hi : mv x ≤ mv c
 fc : fin c
theorem key_of_mv {x y : Nat} (h : mv x ≤ mv y) : key x ≤ key y := by
 rcases Int.lt_or_le (key y) (key x) with g | g
 · have := (mv_lt_iff y x).1.2 g; omega
 · exact g
theorem key_zero' {x : Nat} (h : 0 ≤ mv x) : 0 ≤ key x := by have := @mv_neg_iff_w x; omega
theorem key_zero'' {x : Nat} (h : 0 ≤ key x) : 0 ≤ mv x := by have := @mv_neg_iff_w x; omega
theorem fin_of_key {x : Nat} {K : Int} (h1 : -K ≤ key x) (h2 : key x ≤ K) (hK : K < (II : Int)) : fin x := by
 unfold fin
 unfold key at h1 h2
 cases hs : sgn x <;> rw [hs] at h1 h2 <;> simp at h1 h2 <;> omega
theorem Bw.fin {c x : Nat} (h : Bw c x) : fin x := by
 have h1 := key_of_mv h.hi
 have h2 := key_zero' h.lo
 have h3 := key_fin h.fc
 exact fin_of_key (K := key c) (by omega) h1 h3.2
theorem RndZ.neg {A : Int} {b : Nat} {k : Int} (h : RndZ A b k) : RndZ (-A) b (-k) := by
 obtain ⟨R, h1, h2, h3⟩ := h
 refine ⟨R, by rwa [Int.natAbs_neg], fun h => ?_, fun h => ?_⟩
 · have := h3 (by omega); omega
 · have := h2 (by omega); omega
def ng (x : Nat) : Nat := if sgn x then rung x else SW + rung x
theorem rung_lt (x : Nat) : rung x < SW := Nat.mod_lt _ (by decide)
theorem key_ng (x : Nat) : key (ng x) = -key x ∧ mv (ng x) = -mv x := by
 have h1 := rung_lt x
 have h2 : rung (rung x) = rung x := Nat.mod_eq_of_lt h1
 have h3 : rung (SW + rung x) = rung x := by unfold rung; simp only [SW]; omega
 have h4 : sgn (rung x) = false := by unfold sgn; simp only [SW] at *; rw [Nat.div_eq_of_lt h1]; rfl
 have h5 : sgn (SW + rung x) = true := by
  unfold sgn; simp only [SW] at *
  rw [show (9223372036854775808 + rung x) / 9223372036854775808 = 1 by omega]; rfl
 unfold ng key mv
 cases hs : sgn x
 · simp [h3, h5]
 · simp [h2, h4]
theorem neg_of_key {x y : Nat} (h : -key y ≤ key x) : -mv y ≤ mv x := by
 have := mv_mono (x := ng y) (y := x) (by rw [(key_ng y).1]; exact h)
 rwa [(key_ng y).2] at this
theorem kz1 {b : Nat} (hb : 0 < b) : RndZ 0 b 0 := ⟨0, Rnd.zero hb, fun _ => rfl, fun _ => rfl⟩
theorem nearest_lt (s : Bool) (m : Nat) (p : Int) : double.nearest s m p < 18446744073709551616 := by
 obtain ⟨R, e, hR⟩ := nearest_rnd s m p
 rw [e, word_eq]
 have := hR.1
 simp only [II] at this
 simp only [SW]
 cases s <;> simp <;> omega
theorem sub_lt {x y r : Nat} (hx : fin x) (hy : fin y) (h : double.sub x y = some r) : r < 18446744073709551616 := by
 obtain ⟨m, p, e, _⟩ := read_fin hx
 obtain ⟨n, q, e', _⟩ := read_fin hy
 unfold Format.sub at h
 rw [e, e'] at h
 simp only [Datum.opposite, Datum.sum, Option.map_some, Option.some.injEq] at h
 subst h
 exact nearest_lt _ _ _
theorem sub_bw {C D x y : Nat} (hx : Bw D x) (hy : Bw C y) : ∃ g, double.sub x y = some g ∧ g < 18446744073709551616 ∧ nanb g = false ∧ fin g ∧ (mv y ≤ mv x → 0 ≤ mv g ∧ mv g ≤ mv x) ∧ (mv x ≤ mv y → mv g ≤ 0 ∧ -mv y ≤ mv g) := by
 obtain ⟨g, e, n, k⟩ := sub_fin hx.fin hy.fin
 have h1 := hx.lo
 have h2 := hy.lo
 have p1 : mv y ≤ mv x → 0 ≤ key g ∧ key g ≤ key x := fun h => ⟨(kz1 (b := 1) (by decide)).mono k (by decide) (by decide) (by omega), k.mono (RndZ.exact hx.num) (by decide) (by decide) (by omega)⟩
 have p2 : mv x ≤ mv y → key g ≤ 0 ∧ -key y ≤ key g := fun h => ⟨k.mono (kz1 (b := 1) (by decide)) (by decide) (by decide) (by omega), (RndZ.exact hy.num).neg.mono k (by decide) (by decide) (by omega)⟩
 have fx := key_fin hx.fin
 have fy := key_fin hy.fin
 have nz : ∀ z, key z ≤ 0 → mv z ≤ 0 := fun z hz => by
  have := mv_mono (x := z) (y := 0) (by rw [key_zero_w]; exact hz)
  rwa [show mv 0 = 0 by decide +kernel] at this
 refine ⟨g, e, sub_lt hx.fin hy.fin e, n, ?_, fun h => ⟨key_zero'' (p1 h).1, mv_mono (p1 h).2⟩, fun h => ⟨nz g (p2 h).1, neg_of_key (p2 h).2⟩⟩
 rcases Int.le_total (mv y) (mv x) with h | h
 · have := p1 h; exact fin_of_key (K := key x) (by omega) (by omega) fx.2
 · have := p2 h; exact fin_of_key (K := key y) (by omega) (by omega) fy.2
theorem mean_bw {C D old d p : Nat} (ho : Bw C old) (hd : Bw D d) (hCD : 2 * mv D ≤ mv C) (fp : fin p) (mp0 : 0 ≤ mv p) (mp1 : mv p ≤ uu 1074) : ∃ x, meanX old d p = some x ∧ meanF old d p = x ∧ Bw C x := by
 obtain ⟨g, eg, _, ng', fg, g1, g2⟩ := sub_bw hd ho
 have hU := uu_pos 1074
 obtain ⟨q, eq, nq, kq⟩ := mul_fin fp fg
 obtain ⟨U, hUd⟩ : ∃ U, U = uu 1074 := ⟨_, rfl⟩
 rw [← hUd] at hU mp1 kq
 have q1 : 0 ≤ mv g → 0 ≤ key q ∧ key q ≤ key g := fun h => ⟨(kz1 (b := 1) (by decide)).mono kq (by decide) hU (by rw [Int.zero_mul, Int.natCast_one, Int.mul_one]; exact Int.mul_nonneg mp0 h), by
  refine kq.mono (RndZ.exact ng') hU (by decide) ?_
  rw [Int.natCast_one, Int.mul_one, Int.mul_comm]
  exact Int.mul_le_mul_of_nonneg_left mp1 h⟩
 have q2 : mv g ≤ 0 → key q ≤ 0 ∧ key g ≤ key q := fun h => ⟨by
  refine kq.mono (kz1 (b := 1) (by decide)) hU (by decide) ?_
  rw [Int.natCast_one, Int.mul_one, Int.zero_mul]
  exact Int.mul_nonpos_of_nonneg_of_nonpos mp0 h, by
  refine (RndZ.exact ng').mono kq (by decide) hU ?_
  rw [Int.natCast_one, Int.mul_one, Int.mul_comm (mv p)]
  exact Int.mul_le_mul_of_nonpos_left h mp1⟩
 have fk := key_fin fg
 have nz : ∀ z, key z ≤ 0 → mv z ≤ 0 := fun z hz => by
  have := mv_mono (x := z) (y := 0) (by rw [key_zero_w]; exact hz)
  rwa [show mv 0 = 0 by decide +kernel] at this
 have hsum : fin q ∧ 0 ≤ mv old + mv q ∧ mv old + mv q ≤ mv C := by
  rcases Int.le_total (mv old) (mv d) with h | h
  · have a1 := g1 h
    have a2 := q1 a1.1
    have a3 := mv_mono a2.2
    have a4 := key_zero'' a2.1
    have a5 := ho.lo
    have a6 := hd.hi
    exact ⟨fin_of_key (K := key g) (by omega) a2.2 fk.2, by omega, by omega⟩
  · have a1 := g2 h
    have a2 := q2 a1.1
    have a3 := mv_mono a2.2
    have a4 := nz q a2.1
    have a5 := ho.lo
    have a6 := ho.hi
    exact ⟨fin_of_key (K := -key g) (by omega) (by omega) (by omega), by omega, by omega⟩
 obtain ⟨x, ex, nx, kx⟩ := add_fin ho.fin hsum.1
 have hx : meanX old d p = some x := by unfold meanX; rw [eg]; show (double.mul p g).bind _ = _; rw [eq]; exact ex
 refine ⟨x, hx, by unfold meanF; rw [ho.num, hx]; rfl, nx, ?_, ?_, ho.fc⟩
 · exact key_zero'' ((kz1 (b := 1) (by decide)).mono kx (by decide) (by decide) (by omega))
 · refine mv_mono (kx.mono (RndZ.exact ho.fc.not_nan) (by decide) (by decide) (by omega))
theorem time_bw {n : Nat} (h : n ≤ 2147483648) : Bw c31 (floatOfInt .f64 (n : Nat)) := by
 have e2 : floatOfInt .f64 (n : Int) = double.nearest false (n : Int).natAbs 0 := by
  show double.nearest (decide ((n : Int) < 0)) (n : Int).natAbs 0 = _
  rw [decide_eq_false (by omega)]
 obtain ⟨h1, h2⟩ := nearest_z false (n : Int).natAbs 0
 rw [← e2] at h1 h2
 have e3 : fa (n : Int).natAbs 0 = n * uu 1074 := by
  rw [Int.natAbs_natCast]
  unfold fa uu
  rw [show (0 + 1074 : Int).toNat = 1074 by decide]
 have e4 : fb 0 = 1 := by unfold fb; decide
 rw [e3, e4] at h2
 simp only [Bool.false_eq_true, if_false] at h2
 refine ⟨h1, key_zero'' ((kz1 (b := 1) (by decide)).mono h2 (by decide) (by decide) (by omega)), mv_mono (h2.mono (RndZ.exact fin_c31.not_nan) (by decide) (by decide) ?_), fin_c31⟩
 rw [mv_c31, Int.natCast_mul]
 have := Int.mul_le_mul_of_nonneg_right (show (n : Int) ≤ 2147483648 by omega) (show (0 : Int) ≤ (uu 1074 : Nat) by omega)
 omega
def quarter : Nat := 4598175219545276416
def eighth : Nat := 4593671619917905920
theorem quarter_fin : fin quarter ∧ 0 ≤ mv quarter ∧ mv quarter ≤ uu 1074 := ⟨by unfold fin; decide +kernel, by decide +kernel, by decide +kernel⟩
theorem eighth_fin : fin eighth ∧ 0 ≤ mv eighth ∧ mv eighth ≤ uu 1074 := ⟨by unfold fin; decide +kernel, by decide +kernel, by decide +kernel⟩
structure Ms (m s : Nat) : Prop where
 m : Bw c32 m
 s : Bw c33 s
theorem Ms.start : Ms 4616189618054758400 4607182418800017408 := ⟨⟨by decide +kernel, by decide +kernel, by decide +kernel, fin_c32⟩, ⟨by decide +kernel, by decide +kernel, by decide +kernel, fin_c33⟩⟩
theorem Ms.gap {m s : Nat} (h : Ms m s) {n : Nat} (hn : n ≤ 2147483648) : ∃ g, double.sub (floatOfInt .f64 (n : Nat)) m = some g ∧ g < 18446744073709551616 ∧ nanb g = false ∧ Bw c32 (rung g) := by
 obtain ⟨g, e, l, n', fg, g1, g2⟩ := sub_bw (time_bw hn) h.m
 have a1 := (time_bw hn).hi
 have a2 := h.m.hi
 have a3 := mv_c31
 have a4 := mv_c32
 have hU := uu_pos 1074
 refine ⟨g, e, l, n', ⟨by rw [nanb_rung_w]; exact n', by rw [mv_rung_w]; omega, ?_, fin_c32⟩⟩
 rw [mv_rung_w, ← mv_natAbs_w]
 rcases Int.le_total (mv m) (mv (floatOfInt .f64 (n : Nat))) with c | c
 · have := g1 c; omega
 · have := g2 c; omega
theorem Ms.step {m s : Nat} (h : Ms m s) {n : Nat} (hn : n ≤ 2147483648) : ∃ g, double.sub (floatOfInt .f64 (n : Nat)) m = some g ∧ g < 18446744073709551616 ∧ Ms (meanF m (floatOfInt .f64 (n : Nat)) eighth) (meanF s (rung g) quarter) := by
 obtain ⟨g, e, l, n', hg⟩ := h.gap hn
 have a3 := mv_c31
 have a4 := mv_c32
 have a5 := mv_c33
 have hU := uu_pos 1074
 obtain ⟨x, _, e1, b1⟩ := mean_bw h.m (time_bw hn) (by omega) eighth_fin.1 eighth_fin.2.1 eighth_fin.2.2
 obtain ⟨y, _, e2, b2⟩ := mean_bw h.s hg (by omega) quarter_fin.1 quarter_fin.2.1 quarter_fin.2.2
 exact ⟨g, e, l, ⟨by rw [e1]; exact b1, by rw [e2]; exact b2⟩⟩
end Flt
end Go.Proofs.YtokembhfebnjpaaGreat
