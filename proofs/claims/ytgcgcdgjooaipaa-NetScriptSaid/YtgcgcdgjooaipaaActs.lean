/- Chapter 12: acts that come in; the law's own large. (Written by wip/netacts.py.) -/
import Derived.Test.YtgcgcdgjooaipaaNetO
namespace Go.Proofs.Ytgcgcdgjooaipaa
open Go.RowKit
set_option linter.unusedVariables false
set_option linter.unusedSimpArgs false
structure Ac where
  kd : Int
  i : Int
  k : Int
  is : Bool
  fr : Int
  tt : Int
  l : List Int
deriving Inhabited
def ac (xs : List Ac) (i : Nat) : Ac := xs.getD i default
def i64in (n : Int) : Prop := -9223372036854775808 ≤ n ∧ n ≤ 9223372036854775807
def RdA (w : World) (a : Option Addr) (xs : List Ac) : Prop :=
  ∀ i, i < xs.length → ∃ b off ai ci, a = some ⟨b, off, none⟩ ∧ w.cell? ⟨b, off + i * 7, none⟩ = some (.int .i64 (ac xs i).kd) ∧ w.cell? ⟨b, off + i * 7 + 1, none⟩ = some (.int .i64 (ac xs i).i) ∧ w.cell? ⟨b, off + i * 7 + 2, none⟩ = some (.int .i64 (ac xs i).k) ∧
    w.cell? ⟨b, off + i * 7 + 3, none⟩ = some (.bool (ac xs i).is) ∧ w.cell? ⟨b, off + i * 7 + 4, none⟩ = some (.int .i64 (ac xs i).fr) ∧ w.cell? ⟨b, off + i * 7 + 5, none⟩ = some (.int .i64 (ac xs i).tt) ∧ w.cell? ⟨b, off + i * 7 + 6, none⟩ = some (.slice ai (ac xs i).l.length ci) ∧
    RdB w ai (ac xs i).l ∧ (ac xs i).l.length ≤ ci ∧ i64in (ac xs i).i ∧ i64in (ac xs i).k
theorem RdA.kp0 {w w' : World} {a : Option Addr} {xs : List Ac} (h : RdA w a xs) (k : Kp (fun _ => False) w w') : RdA w' a xs := fun i hi => by
  obtain ⟨b, off, ai, ci, ha, h0, h1, h2, h3, h4, h5, h6, h7, h8⟩ := h i hi
  have c := fun (p : Addr) (v : Value) (e : w.cell? p = some v) => k.cell e (fun h => h)
  exact ⟨b, off, ai, ci, ha, c _ _ h0, c _ _ h1, c _ _ h2, c _ _ h3, c _ _ h4, c _ _ h5, c _ _ h6, h7.kp0 k (fun _ _ h => h), h8⟩
theorem rda_open {w : World} {cs : List Value} (h : Rdg Try.prog w 45 cs) : ∃ a xs cap, cs = [.slice a xs.length cap] ∧ RdA w a xs ∧ ∀ i, (ac xs i).l.length ≤ 140737488351232 := by
  have hC : Try.prog.cellsOf 53 = 7 := by kernel_rfl
  have hI : Try.prog.cellsOf 3 = 1 := by kernel_rfl
  have hB : Try.prog.cellsOf 4 = 1 := by kernel_rfl
  have hD : Try.prog.cellsOf 28 = 3 := by kernel_rfl
  obtain ⟨a, len, cap, rfl, hle, hm, hb, hi⟩ := h.slice Try.underlying45 (by rw [hC]; omega)
  obtain ⟨l, hlen, hp⟩ := list_of (α := Ac) len (fun i d => ∃ b off ai ci, a = some ⟨b, off, none⟩ ∧ w.cell? ⟨b, off + i * 7, none⟩ = some (.int .i64 d.kd) ∧ w.cell? ⟨b, off + i * 7 + 1, none⟩ = some (.int .i64 d.i) ∧ w.cell? ⟨b, off + i * 7 + 2, none⟩ = some (.int .i64 d.k) ∧
    w.cell? ⟨b, off + i * 7 + 3, none⟩ = some (.bool d.is) ∧ w.cell? ⟨b, off + i * 7 + 4, none⟩ = some (.int .i64 d.fr) ∧ w.cell? ⟨b, off + i * 7 + 5, none⟩ = some (.int .i64 d.tt) ∧ w.cell? ⟨b, off + i * 7 + 6, none⟩ = some (.slice ai d.l.length ci) ∧
    RdB w ai d.l ∧ d.l.length ≤ ci ∧ i64in d.i ∧ i64in d.k ∧ ci ≤ 140737488351232) (fun i hil => by
    obtain ⟨b, off, cs', ha, _, hlc, hc, hr⟩ := hi i (by omega)
    rw [hC] at hlc hc
    obtain ⟨hl, hf⟩ := hr.struct Try.underlying53
    match cs', hlc with
    | [v0, v1, v2, v3, v4, v5, v6], _ =>
      have r0 : Rdg Try.prog w 3 ((([v0, v1, v2, v3, v4, v5, v6] : List Value).drop 0).take (Try.prog.cellsOf 3)) := hf 0 _ rfl
      have r1 : Rdg Try.prog w 3 ((([v0, v1, v2, v3, v4, v5, v6] : List Value).drop 1).take (Try.prog.cellsOf 3)) := hf 1 _ rfl
      have r2 : Rdg Try.prog w 3 ((([v0, v1, v2, v3, v4, v5, v6] : List Value).drop 2).take (Try.prog.cellsOf 3)) := hf 2 _ rfl
      have r3 : Rdg Try.prog w 4 ((([v0, v1, v2, v3, v4, v5, v6] : List Value).drop 3).take (Try.prog.cellsOf 4)) := hf 3 _ rfl
      have r4 : Rdg Try.prog w 28 ((([v0, v1, v2, v3, v4, v5, v6] : List Value).drop 4).take (Try.prog.cellsOf 28)) := hf 4 _ rfl
      simp only [hI, hB, hD, List.drop_zero, List.drop_succ_cons, List.take_succ_cons, List.take_zero] at r0 r1 r2 r3 r4
      obtain ⟨n0, e0, _⟩ := r0.int Try.underlying3
      obtain ⟨n1, e1, w1⟩ := r1.int Try.underlying3
      obtain ⟨n2, e2, w2⟩ := r2.int Try.underlying3
      obtain ⟨b3, e3⟩ := r3.bool Try.underlying4
      obtain ⟨fr, tt, ai, li, ci, e4, hrd, hl1, hl2⟩ := open_dg r4
      cases e0; cases e1; cases e2; cases e3; cases e4
      have c := fun j (hj : j < 7) => hc j hj
      have c0 := c 0 (by omega)
      simp only [Nat.add_zero] at c0
      exact ⟨⟨n0, n1, n2, b3, fr, tt, li⟩, b, off, ai, ci, ha, c0, by rw [Nat.add_assoc]; exact c 1 (by omega), by rw [Nat.add_assoc]; exact c 2 (by omega), by rw [Nat.add_assoc]; exact c 3 (by omega), by rw [Nat.add_assoc]; exact c 4 (by omega), by rw [Nat.add_assoc]; exact c 5 (by omega), by rw [Nat.add_assoc]; exact c 6 (by omega), hrd, hl1, wf_i64' w1, wf_i64' w2, hl2⟩)
  subst hlen
  have hp' := fun i hi => hp i hi default
  refine ⟨a, l, cap, rfl, fun i hi => ?_, fun i => ?_⟩
  · obtain ⟨b, off, ai, ci, ha, h0, h1, h2, h3, h4, h5, h6, h7, h8, h9, h10, _⟩ := hp' i hi
    exact ⟨b, off, ai, ci, ha, h0, h1, h2, h3, h4, h5, h6, h7, h8, h9, h10⟩
  · by_cases hi : i < l.length
    · obtain ⟨b, off, ai, ci, ha, h0, h1, h2, h3, h4, h5, h6, h7, h8, h9, h10, h11⟩ := hp' i hi
      exact Nat.le_trans h8 h11
    · unfold ac
      rw [List.getD_eq_getElem?_getD, List.getElem?_eq_none (by omega)]
      exact Nat.zero_le _
def totA (xs : List Ac) : Nat → Nat
  | 0 => 0
  | i + 1 => totA xs i + (ac xs i).l.length
theorem totA_le (xs : List Ac) (M : Nat) (h : ∀ i, (ac xs i).l.length ≤ M) : ∀ i, totA xs i ≤ i * M
  | 0 => by simp [totA]
  | i + 1 => by have := totA_le xs M h i; have := h i; simp only [totA]; rw [Nat.add_mul]; omega
theorem totA_each (xs : List Ac) : ∀ (n i : Nat), i < n → (ac xs i).l.length ≤ totA xs n
  | 0, i, h => absurd h (Nat.not_lt_zero _)
  | n + 1, i, h => by
    simp only [totA]
    rcases Nat.lt_or_ge i n with h1 | h1
    · have := totA_each xs n i h1; omega
    · obtain rfl : i = n := by omega
      omega
theorem totA_bd (xs : List Ac) (q : Nat) (hq : q ≤ 61) (h : ∀ i, (ac xs i).l.length ≤ 140737488351232) : totA xs q ≤ 8584986789425152 := by
  have := totA_le xs _ h q
  have := Nat.mul_le_mul_right 140737488351232 hq
  omega
set_option maxHeartbeats 1000000 in
theorem large_any (a : Option Addr) (xs : List Ac) (cap n : Nat) (hnn : n = xs.length) (w : World) (hr : RdA w a xs) (hm : ∀ i, (ac xs i).l.length ≤ 140737488351232) (b : Bool) (hb : b = decide (60 < n ∨ 8000 < totA xs n)) :
    Calls Try.prog 25 #[.slice a n cap] w fun e w' => e = .returned (.bool b) ∧ w = w' := by
  have HB := Lib.hid hb
  clear hb
  have H := Lib.hid (And.intro hr (And.intro hm hnn))
  clear hr hm hnn
  go_enter Try.func25, Try.ntmps25
  go_wp2
  go_loopw [3, 4] (fun s j wr => ∃ q : Nat, q ≤ n ∧ q ≤ 61 ∧ s = .int .i64 (totA xs q : Nat) ∧ j = .int .i64 q ∧ w = wr) (fun _ j _ => 61 - (intOf j).toNat)
  case atStart => exact ⟨0, by omega, by omega, rfl, rfl, by simp⟩
  case round =>
    obtain ⟨q, hq1, hq2, rfl, rfl, rfl⟩ := hrel
    by_cases hlt : q < n ∧ q < 61
    · have j1 : (q : Int) < n := by omega
      have j2 : (q : Int) < 61 := by omega
      obtain ⟨b1, o1, a1, c1, rfl, _, _, _, _, _, _, f6, _⟩ := H.out.1 q (by rw [← H.out.2.2]; exact hlt.1)
      have hb1 := H.out.2.1 q
      have hb2 := totA_bd xs q hq2 H.out.2.1
      have HS := Lib.hid (show totA xs q + (ac xs q).l.length = totA xs (q + 1) from rfl)
      clear hlt
      generalize totA xs q = t at *
      generalize (ac xs q).l.length = m at *
      go_wp2
      go_roundw
      case rel => exact ⟨q + 1, by omega, by omega, by rw [← HS.out]; go_num, by go_num, trivial⟩
      case measure => simp [intOf]; omega
    · by_cases h40 : 60 < n
      · have j3 : (60 : Int) < n := by omega
        by_cases hqn : q < n
        · have j1 : (q : Int) < n := by omega
          have j2 : ¬ (q : Int) < 61 := by omega
          have hd : decide (60 < n ∨ 8000 < totA xs n) = true := by simp [h40]
          have HD := Lib.hid (HB.out.trans hd)
          clear hq1 hq2 hlt h40 hqn hd
          go_wp2
          go_ret
          exact ⟨by rw [HD.out]; rfl, rfl⟩
        · have j1 : ¬ (q : Int) < n := by omega
          have hd : decide (60 < n ∨ 8000 < totA xs n) = true := by simp [h40]
          have HD := Lib.hid (HB.out.trans hd)
          clear hq1 hq2 hlt h40 hqn hd
          go_wp2
          go_ret
          exact ⟨by rw [HD.out]; rfl, rfl⟩
      · obtain rfl : q = n := by omega
        have j3 : ¬ (60 : Int) < q := by omega
        by_cases h80 : 8000 < totA xs q
        · have j4 : (8000 : Int) < (totA xs q : Nat) := by omega
          have hd : decide (60 < q ∨ 8000 < totA xs q) = true := by simp [h80]
          have HD := Lib.hid (HB.out.trans hd)
          clear hq1 hq2 hlt h40 hd
          go_wp2
          go_ret
          exact ⟨by rw [HD.out]; rfl, rfl⟩
        · have j4 : ¬ (8000 : Int) < (totA xs q : Nat) := by omega
          have hd : decide (60 < q ∨ 8000 < totA xs q) = false := decide_eq_false (by omega)
          have HD := Lib.hid (HB.out.trans hd)
          clear hq1 hq2 hlt h40 hd
          go_wp2
          go_ret
          exact ⟨by rw [HD.out]; rfl, rfl⟩
end Go.Proofs.Ytgcgcdgjooaipaa
