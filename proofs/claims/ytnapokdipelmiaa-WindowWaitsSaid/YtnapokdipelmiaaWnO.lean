/- Chapter 13: calls that come in, opened; the statements' long. (Written by wip/win13o.py.) -/
import Derived.Test.YtnapokdipelmiaaApb
import Derived.Test.YtnapokdipelmiaaOpen
import Derived.Outline
namespace Go.Proofs.Ytnapokdipelmiaa
open Go.RowKit
set_option linter.unusedVariables false
set_option linter.unusedSimpArgs false
def i64R (n : Int) : Prop := -9223372036854775808 ≤ n ∧ n ≤ 9223372036854775807
theorem wf_i64 {n : Int} (h : (Lit.int .i64 n).wf = true) : i64R n := by
  unfold i64R
  simp [Lit.wf, IntKind.min, IntKind.max, IntKind.signed, IntKind.bits] at h; omega
theorem rdg_int {w : World} {n : Int} (r : Rdg Try.prog w 3 (Value.int .i64 n).cells.toList) : i64R n := by
  obtain ⟨k, e1, hk⟩ := Rdg.int Try.underlying3 r
  have e2 : n = k := by have : [Value.int .i64 n] = [.int .i64 k] := e1; simpa using this
  subst e2
  exact wf_i64 hk
/-- A call. -/
structure Ac where
  kind : Int
  n : Int
  now : Int
  a : Option Addr
  cap : Nat
  body : List Int
instance : Inhabited Ac := ⟨⟨0, 0, 0, none, 0, []⟩⟩
def ac (l : List Ac) (i : Nat) : Ac := l.getD i default
def acW (p : Ac) : List Value := [.int .i64 p.kind, .int .i64 p.n, .int .i64 p.now, .slice p.a p.body.length p.cap]
def AcR (w : World) (p : Ac) : Prop := i64R p.kind ∧ i64R p.n ∧ i64R p.now ∧ RdB w p.a p.body ∧ p.body.length ≤ p.cap ∧ p.cap ≤ 140737488351232
theorem open_ac {w : World} {cs : List Value} (h : Rdg Try.prog w 43 cs) : ∃ p : Ac, cs = acW p ∧ AcR w p := by
  obtain ⟨hl, hf⟩ := h.struct Try.underlying43
  rw [show Try.prog.cellsOf 43 = 4 by kernel_rfl] at hl
  have hi : Try.prog.cellsOf 3 = 1 := by kernel_rfl
  have hb : Try.prog.cellsOf 31 = 1 := by kernel_rfl
  match cs, hl with
  | [v0, v1, v2, v3], _ =>
    have r0 : Rdg Try.prog w 3 ((([v0, v1, v2, v3] : List Value).drop 0).take (Try.prog.cellsOf 3)) := hf 0 _ rfl
    have r1 : Rdg Try.prog w 3 ((([v0, v1, v2, v3] : List Value).drop 1).take (Try.prog.cellsOf 3)) := hf 1 _ rfl
    have r2 : Rdg Try.prog w 3 ((([v0, v1, v2, v3] : List Value).drop 2).take (Try.prog.cellsOf 3)) := hf 2 _ rfl
    have r3 : Rdg Try.prog w 31 ((([v0, v1, v2, v3] : List Value).drop 3).take (Try.prog.cellsOf 31)) := hf 3 _ rfl
    simp only [hi, hb, List.drop_zero, List.drop_succ_cons, List.take_succ_cons, List.take_zero] at r0 r1 r2 r3
    obtain ⟨n0, e0, h0⟩ := r0.int Try.underlying3
    obtain ⟨n1, e1, h1⟩ := r1.int Try.underlying3
    obtain ⟨n2, e2, h2⟩ := r2.int Try.underlying3
    obtain ⟨a, l, c, e3, hr, hc, hm⟩ := r3.bytes Try.underlying31 Try.underlying5 (by kernel_rfl) (by kernel_rfl)
    cases e0; cases e1; cases e2; cases e3
    exact ⟨⟨n0, n1, n2, a, c, l⟩, rfl, wf_i64 h0, wf_i64 h1, wf_i64 h2, hr, hc, hm⟩
/-- The slice reads as these calls. -/
def RdA (w : World) (a : Option Addr) (l : List Ac) : Prop :=
  ∀ i, i < l.length → AcR w (ac l i) ∧ ∃ b off, a = some ⟨b, off, none⟩ ∧ w.cell? ⟨b, off + i * 4, none⟩ = some (.int .i64 (ac l i).kind) ∧ w.cell? ⟨b, off + i * 4 + 1, none⟩ = some (.int .i64 (ac l i).n) ∧
    w.cell? ⟨b, off + i * 4 + 2, none⟩ = some (.int .i64 (ac l i).now) ∧ w.cell? ⟨b, off + i * 4 + 3, none⟩ = some (.slice (ac l i).a (ac l i).body.length (ac l i).cap)
theorem open_acs {w : World} {cs : List Value} (h : Rdg Try.prog w 40 cs) : ∃ a l cap, cs = [.slice a (List.length l) cap] ∧ RdA w a l ∧ l.length ≤ cap ∧ cap ≤ 140737488351232 := by
  have hC : Try.prog.cellsOf 43 = 4 := by kernel_rfl
  have hB : Try.prog.bytesOf 43 = 48 := by kernel_rfl
  obtain ⟨a, len, cap, rfl, hle, hm, hb, hi⟩ := h.slice Try.underlying40 (by rw [hC]; omega)
  rw [hB] at hb
  obtain ⟨l, hlen, hp⟩ := list_of (α := Ac) len (fun i p => AcR w p ∧ ∃ b off, a = some ⟨b, off, none⟩ ∧ w.cell? ⟨b, off + i * 4, none⟩ = some (.int .i64 p.kind) ∧ w.cell? ⟨b, off + i * 4 + 1, none⟩ = some (.int .i64 p.n) ∧ w.cell? ⟨b, off + i * 4 + 2, none⟩ = some (.int .i64 p.now) ∧ w.cell? ⟨b, off + i * 4 + 3, none⟩ = some (.slice p.a p.body.length p.cap)) (fun i hil => by
    obtain ⟨b, off, cs', ha, _, hlc, hc, hr⟩ := hi i (by omega)
    rw [hC] at hlc hc
    obtain ⟨p, rfl, q⟩ := open_ac hr
    have c0 := hc 0 (by omega)
    have c1 := hc 1 (by omega)
    have c2 := hc 2 (by omega)
    have c3 := hc 3 (by omega)
    simp only [Nat.add_zero] at c0
    exact ⟨p, q, b, off, ha, c0, by rw [Nat.add_assoc]; exact c1, by rw [Nat.add_assoc]; exact c2, by rw [Nat.add_assoc]; exact c3⟩)
  subst hlen
  exact ⟨a, l, cap, rfl, fun i hi => hp i hi default, hle, by omega⟩
theorem AcR.kp0 {w w' : World} {p : Ac} (h : AcR w p) (k : Kp (fun _ => False) w w') : AcR w' p := ⟨h.1, h.2.1, h.2.2.1, h.2.2.2.1.kp k (fun _ _ h => h), h.2.2.2.2⟩
theorem RdA.kp0 {w w' : World} {a : Option Addr} {l : List Ac} (h : RdA w a l) (k : Kp (fun _ => False) w w') : RdA w' a l := fun i hi => by
  obtain ⟨hr, b, off, ha, h0, h1, h2, h3⟩ := h i hi
  exact ⟨hr.kp0 k, b, off, ha, k.cell h0 (fun h => h), k.cell h1 (fun h => h), k.cell h2 (fun h => h), k.cell h3 (fun h => h)⟩
def sumB (l : List Ac) : Nat := (l.map fun p => p.body.length).sum
theorem sumB_snoc (l : List Ac) (p : Ac) : sumB (l ++ [p]) = sumB l + p.body.length := by simp [sumB]
def longB (l : List Ac) : Bool := decide (150 < l.length) || decide (4000 < sumB (l.take 151))
theorem sumB_bd {l : List Ac} {w : World} {a : Option Addr} (h : RdA w a l) : ∀ k, k ≤ l.length → sumB (l.take k) ≤ k * 140737488351232
  | 0, _ => by simp [sumB]
  | k + 1, hk => by
    have := sumB_bd h k (by omega)
    rw [take_snoc l default k (by omega), sumB_snoc]
    have q := (h k (by omega)).1.2.2.2.2
    have : (l.getD k default).body.length ≤ 140737488351232 := Nat.le_trans q.1 q.2
    omega
set_option maxRecDepth 20000 in
theorem long_any (a : Option Addr) (n c : Nat) (l : List Ac) (hn : n = l.length) (w : World) (h : RdA w a l) (hc : n ≤ 140737488351232) :
    Calls Try.prog 16 #[.slice a n c] w fun e w' => e = .returned (.bool (longB l)) ∧ Kp (fun _ => False) w w' := by
  have H := Lib.hid (And.intro h hn)
  obtain ⟨R, hR⟩ : ∃ R, R = longB l := ⟨_, rfl⟩
  rw [← hR]
  have HR := Lib.hid hR
  clear h hn hR
  go_enter Try.func16, Try.ntmps16
  go_wp2_with fail
  go_loopw [3, 4] (fun sv iv wr => ∃ i s : Nat, i ≤ n ∧ i ≤ 151 ∧ iv = .int .i64 i ∧ sv = .int .i64 s ∧ s = sumB (l.take i) ∧ Kp (fun _ => False) w wr) (fun _ iv _ => 151 - (intOf iv).toNat)
  case atStart => exact ⟨0, 0, by omega, by omega, rfl, rfl, by simp [sumB], Kp.refl _ _⟩
  case round =>
    obtain ⟨i, s, hi, hi2, rfl, rfl, hs, hk⟩ := hrel
    have hsb : s ≤ 21251360741036032 := by
      have q1 := sumB_bd H.out.1 i (by have := H.out.2; omega)
      have q2 := Nat.mul_le_mul_right 140737488351232 hi2
      omega
    by_cases hgo : i < n ∧ i < 151
    · obtain ⟨g1, g2⟩ := hgo
      have hil : i < l.length := by have := H.out.2; omega
      obtain ⟨hr, b, off, rfl, _, _, _, c3⟩ := H.out.1 i hil
      have c3' := hk.cell c3 (fun h => h)
      have hbl : (ac l i).body.length ≤ 140737488351232 := Nat.le_trans hr.2.2.2.2.1 hr.2.2.2.2.2
      have htk : l.take (i + 1) = l.take i ++ [ac l i] := take_snoc l default i hil
      obtain ⟨p, hp⟩ : ∃ p, p = ac l i := ⟨_, rfl⟩
      rw [← hp] at c3' hbl htk
      obtain ⟨m, hm⟩ : ∃ m, m = p.body.length := ⟨_, rfl⟩
      obtain ⟨pa, hpa⟩ : ∃ pa, pa = p.a := ⟨_, rfl⟩
      obtain ⟨pc, hpc⟩ : ∃ pc, pc = p.cap := ⟨_, rfl⟩
      rw [← hm, ← hpa, ← hpc] at c3'
      rw [← hm] at hbl
      have HS := Lib.hid (And.intro hs (And.intro htk (And.intro hm hk)))
      have i1 : (i : Int) < n := by omega
      have i2 : (i : Int) < 151 := by omega
      clear hs htk hm hk c3 hr hp hpa hpc hil
      go_wp2_with fail
      try go_quiet (fail)
      try go_wp2_with fail
      go_roundw
      case rel => exact ⟨i + 1, s + m, by omega, by omega, by go_num, by go_num, by rw [HS.out.2.1, sumB_snoc, ← HS.out.1, ← HS.out.2.2.1], by first | exact HS.out.2.2.2 | exact HS.out.2.2.2.drewN _⟩
      case measure => simp [intOf]; omega
    · have hfin : R = (decide (150 < n) || decide (4000 < s)) := by
        rw [HR.out]; unfold longB
        rw [← H.out.2]
        by_cases h1 : i < n
        · have : i = 151 := by omega
          subst this
          rw [hs]
        · have : i = n := by omega
          subst this
          rw [hs]
          have e1 : l.take i = l := by rw [H.out.2, List.take_length]
          have e2 : l.take 151 = l := List.take_of_length_le (by have := H.out.2; omega)
          rw [e1, e2]
      have HK := Lib.hid hk
      by_cases hb : 150 < n
      · have e : R = true := by rw [hfin, decide_eq_true hb]; rfl
        subst e
        have i3 : (150 : Int) < n := by omega
        clear hs hk hfin
        by_cases h1 : i < n
        · have i2 : ¬ i < 151 := by omega
          go_wp2
          go_ret
          exact ⟨rfl, HK.out⟩
        · go_wp2
          go_ret
          exact ⟨rfl, HK.out⟩
      · have i3 : ¬ (150 : Int) < n := by omega
        have hin : ¬ i < n := by omega
        have e : R = decide (4000 < s) := by rw [hfin, decide_eq_false hb]; rfl
        subst e
        clear hs hk hfin
        go_wp2
        go_ret
        exact ⟨ret_bool (decide_eq_decide.2 (by omega)), HK.out⟩
theorem longB_no {l : List Ac} (h : longB l = false) : l.length ≤ 150 ∧ ∀ i, i < l.length → (ac l i).body.length ≤ 4000 := by
  unfold longB at h
  simp only [Bool.or_eq_false_iff, decide_eq_false_iff_not] at h
  refine ⟨by omega, fun i hi => ?_⟩
  have e : l.take 151 = l := List.take_of_length_le (by omega)
  rw [e] at h
  have hm : (ac l i).body.length ≤ sumB l := by
    have : ∀ (l : List Ac) (i : Nat), i < l.length → (ac l i).body.length ≤ sumB l := by
      intro l
      induction l with
      | nil => intro i hi; cases hi
      | cons p r ih =>
        intro i hi
        rw [show sumB (p :: r) = p.body.length + sumB r by simp [sumB]]
        cases i with
        | zero => show p.body.length ≤ _; omega
        | succ i => have := ih i (by simpa using hi); rw [show ac (p :: r) (i + 1) = ac r i from rfl]; omega
    exact this l i hi
  omega
end Go.Proofs.Ytnapokdipelmiaa
