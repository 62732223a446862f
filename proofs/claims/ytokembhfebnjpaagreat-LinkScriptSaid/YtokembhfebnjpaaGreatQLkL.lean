/- Chapter 15: the script's calls, opened; the statement's long. -/
import Derived.Test.YtokembhfebnjpaaGreatQGrdMM
import Derived.Test.YtokembhfebnjpaaGreatQOpen
import Derived.Outline
namespace Go.Proofs.YtokembhfebnjpaaGreat
set_option maxRecDepth 20000
open Go.RowKit
set_option linter.unusedVariables false
set_option linter.unusedSimpArgs false
structure Sq where
 kd : Int
 now : Int
 f : Fr
 fa : Option Addr
 fc : Nat
 a : Option Addr
 cap : Nat
 body : List Int
instance : Inhabited Sq := ⟨⟨0, 0, ⟨0, 0, 0, 0, 0, []⟩, none, 0, none, 0, []⟩⟩
def sq (l : List Sq) (i : Nat) : Sq := l.getD i default
def sqW (p : Sq) : List Value := [.int .i64 p.kd, .int .i64 p.now, .int .i64 p.f.ty, .int .i64 p.f.se, .int .i64 p.f.bo, .int .i64 p.f.sq, .int .i64 p.f.ac, .slice p.fa p.f.bd.length p.fc, .slice p.a p.body.length p.cap]
def SqR (w : World) (p : Sq) : Prop := (RdB w p.fa p.f.bd ∧ p.f.bd.length ≤ p.fc ∧ p.fc ≤ 140737488351232) ∧ RdB w p.a p.body ∧ p.body.length ≤ p.cap ∧ p.cap ≤ 140737488351232
theorem open_fr {w : World} {v0 v1 v2 v3 v4 v5 : Value} (h : Rdg Tryz.prog w 34 [v0, v1, v2, v3, v4, v5]) :
 ∃ (f : Fr) (a : Option Addr) (c : Nat), [v0, v1, v2, v3, v4, v5] = [.int .i64 f.ty, .int .i64 f.se, .int .i64 f.bo, .int .i64 f.sq, .int .i64 f.ac, .slice a f.bd.length c] ∧ RdB w a f.bd ∧ f.bd.length ≤ c ∧ c ≤ 140737488351232 := by
 obtain ⟨hl, hf⟩ := h.struct Tryz.underlying34
 have hi : Tryz.prog.cellsOf 3 = 1 := by kernel_rfl
 have hb : Tryz.prog.cellsOf 32 = 1 := by kernel_rfl
 have f0 : Rdg Tryz.prog w 3 (List.take (Tryz.prog.cellsOf 3) (List.drop 0 [v0, v1, v2, v3, v4, v5])) := hf 0 _ rfl
 have f1 : Rdg Tryz.prog w 3 (List.take (Tryz.prog.cellsOf 3) (List.drop 1 [v0, v1, v2, v3, v4, v5])) := hf 1 _ rfl
 have f2 : Rdg Tryz.prog w 3 (List.take (Tryz.prog.cellsOf 3) (List.drop 2 [v0, v1, v2, v3, v4, v5])) := hf 2 _ rfl
 have f3 : Rdg Tryz.prog w 3 (List.take (Tryz.prog.cellsOf 3) (List.drop 3 [v0, v1, v2, v3, v4, v5])) := hf 3 _ rfl
 have f4 : Rdg Tryz.prog w 3 (List.take (Tryz.prog.cellsOf 3) (List.drop 4 [v0, v1, v2, v3, v4, v5])) := hf 4 _ rfl
 have f5 : Rdg Tryz.prog w 32 (List.take (Tryz.prog.cellsOf 32) (List.drop 5 [v0, v1, v2, v3, v4, v5])) := hf 5 _ rfl
 simp only [hi, hb, List.drop_zero, List.drop_succ_cons, List.take_succ_cons, List.take_zero] at f0 f1 f2 f3 f4 f5
 obtain ⟨n0, e0, k0⟩ := f0.int Tryz.underlying3
 obtain ⟨n1, e1, k1⟩ := f1.int Tryz.underlying3
 obtain ⟨n2, e2, k2⟩ := f2.int Tryz.underlying3
 obtain ⟨n3, e3, k3⟩ := f3.int Tryz.underlying3
 obtain ⟨n4, e4, k4⟩ := f4.int Tryz.underlying3
 obtain ⟨a, l, c, e5, hr, hc, hm⟩ := f5.bytes Tryz.underlying32 Tryz.underlying5 (by kernel_rfl) (by kernel_rfl)
 cases e0; cases e1; cases e2; cases e3; cases e4; cases e5
 exact ⟨⟨n0, n1, n2, n3, n4, l⟩, a, c, rfl, hr, hc, hm⟩
theorem open_sq {w : World} {cs : List Value} (h : Rdg Tryz.prog w 36 cs) : ∃ p : Sq, cs = sqW p ∧ SqR w p := by
 obtain ⟨hl, hf⟩ := h.struct Tryz.underlying36
 rw [show Tryz.prog.cellsOf 36 = 9 by kernel_rfl] at hl
 have hi : Tryz.prog.cellsOf 3 = 1 := by kernel_rfl
 have hb : Tryz.prog.cellsOf 32 = 1 := by kernel_rfl
 have hF : Tryz.prog.cellsOf 34 = 6 := by kernel_rfl
 match cs, hl with
 | [v0, v1, v2, v3, v4, v5, v6, v7, v8], _ =>
  have r0 : Rdg Tryz.prog w 3 ((([v0, v1, v2, v3, v4, v5, v6, v7, v8] : List Value).drop 0).take (Tryz.prog.cellsOf 3)) := hf 0 _ rfl
  have r1 : Rdg Tryz.prog w 3 ((([v0, v1, v2, v3, v4, v5, v6, v7, v8] : List Value).drop 1).take (Tryz.prog.cellsOf 3)) := hf 1 _ rfl
  have r2 : Rdg Tryz.prog w 34 ((([v0, v1, v2, v3, v4, v5, v6, v7, v8] : List Value).drop 2).take (Tryz.prog.cellsOf 34)) := hf 2 _ rfl
  have r3 : Rdg Tryz.prog w 32 ((([v0, v1, v2, v3, v4, v5, v6, v7, v8] : List Value).drop 8).take (Tryz.prog.cellsOf 32)) := hf 3 _ rfl
  simp only [hi, hb, hF, List.drop_zero, List.drop_succ_cons, List.take_succ_cons, List.take_zero] at r0 r1 r2 r3
  obtain ⟨n0, e0, h0⟩ := r0.int Tryz.underlying3
  obtain ⟨n1, e1, h1⟩ := r1.int Tryz.underlying3
  obtain ⟨f, fa, fc, e2, g1, g2, g3⟩ := open_fr r2
  obtain ⟨a, l, c, e3, hr, hc, hm⟩ := r3.bytes Tryz.underlying32 Tryz.underlying5 (by kernel_rfl) (by kernel_rfl)
  cases e0; cases e1; cases e2; cases e3
  exact ⟨⟨n0, n1, f, fa, fc, a, c, l⟩, rfl, ⟨g1, g2, g3⟩, hr, hc, hm⟩
def RdQ (w : World) (a : Option Addr) (l : List Sq) : Prop :=
 ∀ i, i < l.length → SqR w (sq l i) ∧ ∃ b off, a = some ⟨b, off, none⟩ ∧ ∀ j, j < 9 → w.cell? ⟨b, off + (i * 9 + j), none⟩ = (sqW (sq l i))[j]?
theorem open_sqs {w : World} {cs : List Value} (h : Rdg Tryz.prog w 22 cs) : ∃ a l cap, cs = [.slice a (List.length l) cap] ∧ RdQ w a l ∧ l.length ≤ cap ∧ cap ≤ 140737488351232 := by
 have hC : Tryz.prog.cellsOf 36 = 9 := by kernel_rfl
 have hB : 1 ≤ Tryz.prog.bytesOf 36 := by rw [show Tryz.prog.bytesOf 36 = 104 by kernel_rfl]; omega
 obtain ⟨a, len, cap, rfl, hle, hm, hb, hi⟩ := h.slice Tryz.underlying22 (by rw [hC]; omega)
 obtain ⟨l, hlen, hp⟩ := list_of (α := Sq) len (fun i p => SqR w p ∧ ∃ b off, a = some ⟨b, off, none⟩ ∧ ∀ j, j < 9 → w.cell? ⟨b, off + (i * 9 + j), none⟩ = (sqW p)[j]?) (fun i hil => by
  obtain ⟨b, off, cs', ha, _, hlc, hc, hr⟩ := hi i (by omega)
  rw [hC] at hlc hc
  obtain ⟨p, rfl, q⟩ := open_sq hr
  exact ⟨p, q, b, off, ha, hc⟩)
 subst hlen
 exact ⟨a, l, cap, rfl, fun i hi => hp i hi default, hle, by have := Nat.mul_le_mul_left cap hB; omega⟩
theorem SqR.kp0 {w w' : World} {p : Sq} (h : SqR w p) (k : Kp (fun _ => False) w w') : SqR w' p := ⟨⟨h.1.1.kp k (fun _ _ h => h), h.1.2⟩, h.2.1.kp k (fun _ _ h => h), h.2.2⟩
theorem RdQ.kp0 {w w' : World} {a : Option Addr} {l : List Sq} (h : RdQ w a l) (k : Kp (fun _ => False) w w') : RdQ w' a l := fun i hi => by
 obtain ⟨hr, b, off, ha, h0⟩ := h i hi
 refine ⟨hr.kp0 k, b, off, ha, fun j hj => ?_⟩
 have h1 := h0 j hj
 have hlt : j < (sqW (sq l i)).length := hj
 rw [List.getElem?_eq_getElem hlt] at h1 ⊢
 exact k.cell h1 (fun h => h)
def szQ (p : Sq) : Nat := p.body.length + p.f.bd.length
def sumQ (l : List Sq) : Nat := (l.map szQ).sum
theorem sumQ_snoc (l : List Sq) (p : Sq) : sumQ (l ++ [p]) = sumQ l + szQ p := by simp [sumQ]
def longQ (l : List Sq) : Bool := decide (100 < l.length) || decide (6000 < sumQ (l.take 101))
theorem szQ_bd {w : World} {p : Sq} (h : SqR w p) : p.body.length ≤ 140737488351232 ∧ p.f.bd.length ≤ 140737488351232 := ⟨Nat.le_trans h.2.2.1 h.2.2.2, Nat.le_trans h.1.2.1 h.1.2.2⟩
theorem sumQ_bd {l : List Sq} {w : World} {a : Option Addr} (h : RdQ w a l) : ∀ k, k ≤ l.length → sumQ (l.take k) ≤ k * 281474976702464
 | 0, _ => by simp [sumQ]
 | k + 1, hk => by
  have := sumQ_bd h k (by omega)
  rw [take_snoc l default k (by omega), sumQ_snoc]
  have q := szQ_bd (h k (by omega)).1
  have q1 : (l.getD k default).body.length ≤ 140737488351232 := q.1
  have q2 : (l.getD k default).f.bd.length ≤ 140737488351232 := q.2
  unfold szQ
  omega
theorem sumQ_le : ∀ (l : List Sq) (p : Sq), p ∈ l → szQ p ≤ sumQ l
 | x :: r, p, h => by
  have e : sumQ (x :: r) = szQ x + sumQ r := by simp [sumQ]
  rcases List.mem_cons.1 h with rfl | h
  · omega
  · have := sumQ_le r p h; omega
theorem longQ_no {l : List Sq} (h : longQ l = false) : l.length ≤ 100 ∧ ∀ i, i < l.length → (sq l i).body.length ≤ 6000 ∧ (sq l i).f.bd.length ≤ 6000 := by
 unfold longQ at h
 simp only [Bool.or_eq_false_iff, decide_eq_false_iff_not] at h
 have h1 : l.length ≤ 100 := by omega
 rw [List.take_of_length_le (by omega)] at h
 refine ⟨h1, fun i hi => ?_⟩
 have hm : sq l i ∈ l := by
  unfold sq
  rw [List.getD_eq_getElem?_getD, List.getElem?_eq_getElem hi]
  exact List.getElem_mem hi
 have := sumQ_le l _ hm
 unfold szQ at this
 omega
set_option maxRecDepth 20000 in
theorem long_any (a : Option Addr) (n c : Nat) (l : List Sq) (hn : n = l.length) (w : World) (h : RdQ w a l) (hc : n ≤ 140737488351232) :
 Calls Tryz.prog 4 #[.slice a n c] w fun e w' => e = .returned (.bool (longQ l)) ∧ Kp (fun _ => False) w w' := by
 have H := Lib.hid (And.intro h hn)
 obtain ⟨R, hR⟩ : ∃ R, R = longQ l := ⟨_, rfl⟩
 rw [← hR]
 have HR := Lib.hid hR
 clear h hn hR
 go_enter Tryz.func4, Tryz.ntmps4
 go_wp2_with fail
 go_loopw [3, 4] (fun sv iv wr => ∃ i s : Nat, i ≤ n ∧ i ≤ 101 ∧ iv = .int .i64 i ∧ sv = .int .i64 s ∧ s = sumQ (l.take i) ∧ Kp (fun _ => False) w wr) (fun _ iv _ => 101 - (intOf iv).toNat)
 case atStart => exact ⟨0, 0, by omega, by omega, rfl, rfl, by simp [sumQ], Kp.refl _ _⟩
 case round =>
  obtain ⟨i, s, hi, hi2, rfl, rfl, hs, hk⟩ := hrel
  have hsb : s ≤ 28428973646948864 := by
   have q1 := sumQ_bd H.out.1 i (by have := H.out.2; omega)
   have q2 := Nat.mul_le_mul_right 281474976702464 hi2
   omega
  by_cases hgo : i < n ∧ i < 101
  · obtain ⟨g1, g2⟩ := hgo
    have hil : i < l.length := by have := H.out.2; omega
    obtain ⟨hr, b, off, rfl, h0⟩ := H.out.1 i hil
    have hbl := szQ_bd hr
    have c7 : w.cell? ⟨b, off + (i * 9 + 7), none⟩ = some (.slice (sq l i).fa (sq l i).f.bd.length (sq l i).fc) := h0 7 (by omega)
    have c8 : w.cell? ⟨b, off + (i * 9 + 8), none⟩ = some (.slice (sq l i).a (sq l i).body.length (sq l i).cap) := h0 8 (by omega)
    have c7' := hk.cell c7 (fun h => h)
    have c8' := hk.cell c8 (fun h => h)
    have htk : l.take (i + 1) = l.take i ++ [sq l i] := take_snoc l default i hil
    have hsz : szQ (sq l i) = (sq l i).body.length + (sq l i).f.bd.length := rfl
    obtain ⟨p, hp⟩ : ∃ p, p = sq l i := ⟨_, rfl⟩
    rw [← hp] at c7' c8' hbl htk hsz
    obtain ⟨m, hm⟩ : ∃ m, m = p.body.length := ⟨_, rfl⟩
    obtain ⟨pa, hpa⟩ : ∃ pa, pa = p.a := ⟨_, rfl⟩
    obtain ⟨pc, hpc⟩ : ∃ pc, pc = p.cap := ⟨_, rfl⟩
    obtain ⟨fm, hfm⟩ : ∃ m, m = p.f.bd.length := ⟨_, rfl⟩
    obtain ⟨fa, hfa⟩ : ∃ pa, pa = p.fa := ⟨_, rfl⟩
    obtain ⟨fc, hfc⟩ : ∃ pc, pc = p.fc := ⟨_, rfl⟩
    rw [← hm, ← hpa, ← hpc] at c8'
    rw [← hfm, ← hfa, ← hfc] at c7'
    rw [← hm, ← hfm] at hbl hsz
    rw [← Nat.add_assoc] at c7' c8'
    obtain ⟨hb1, hb2⟩ := hbl
    have HS := Lib.hid (And.intro hs (And.intro htk (And.intro hsz hk)))
    have i1 : (i : Int) < n := by omega
    have i2 : (i : Int) < 101 := by omega
    clear hs htk hsz hm hfm hk c7 c8 h0 hr hp hpa hpc hfa hfc hil
    go_wp2_with fail
    try go_quiet (fail)
    try go_wp2_with fail
    go_roundw
    case rel => exact ⟨i + 1, s + m + fm, by omega, by omega, by go_num, by go_num, by rw [HS.out.2.1, sumQ_snoc, ← HS.out.1, HS.out.2.2.1]; omega, by first | exact HS.out.2.2.2 | exact HS.out.2.2.2.drewN _⟩
    case measure => simp [intOf]; omega
  · have hfin : R = (decide (100 < n) || decide (6000 < s)) := by
     rw [HR.out]; unfold longQ
     rw [← H.out.2]
     by_cases h1 : i < n
     · have : i = 101 := by omega
       subst this
       rw [hs]
     · have : i = n := by omega
       subst this
       rw [hs]
       have e1 : l.take i = l := by rw [H.out.2, List.take_length]
       have e2 : l.take 101 = l := List.take_of_length_le (by have := H.out.2; omega)
       rw [e1, e2]
    have HK := Lib.hid hk
    by_cases hb : 100 < n
    · have e : R = true := by rw [hfin, decide_eq_true hb]; rfl
      subst e
      have i3 : (100 : Int) < n := by omega
      clear hs hk hfin
      by_cases h1 : i < n
      · have i2 : ¬ i < 101 := by omega
        go_wp2
        go_ret
        exact ⟨rfl, HK.out⟩
      · go_wp2
        go_ret
        exact ⟨rfl, HK.out⟩
    · have e : R = decide (6000 < s) := by rw [hfin, decide_eq_false hb]; rfl
      have HE := Lib.hid e
      have i3 : ¬ (100 : Int) < n := by omega
      have h1 : ¬ i < n := by omega
      clear hs hk hfin e
      go_wp2
      go_ret
      exact ⟨by rw [HE.out]; exact ret_bool (by rw [Bool.eq_iff_iff]; simp; omega), HK.out⟩
end Go.Proofs.YtokembhfebnjpaaGreat
