/- big: are manifests, or chunks, more than are gone through? (Written by wip/ref20o.py.) -/
import Derived.Test.YtaibdkdmilhloaaQIdM
namespace Go.Proofs.Ytaibdkdmilhloaa
open Go.RowKit
set_option linter.unusedVariables false
set_option linter.unusedSimpArgs false
def bulkT (m : List (List Id)) : Nat := (m.map (fun it => it.length + 1)).sum
def bulkM (ms : List (List (List Id))) : Nat := (ms.map bulkT).sum
theorem bulkT_app (a b : List (List Id)) : bulkT (a ++ b) = bulkT a + bulkT b := by simp [bulkT]
theorem bulkM_app (a b : List (List (List Id))) : bulkM (a ++ b) = bulkM a + bulkM b := by simp [bulkM]
theorem bulkT_one (m : List (List Id)) (j : Nat) (hj : j < m.length) : bulkT (m.take (j + 1)) = bulkT (m.take j) + ((itn m j).length + 1) := by
  rw [show m.take (j + 1) = m.take j ++ [itn m j] from take_snoc m [] j hj, bulkT_app]; simp [bulkT]
theorem bulkM_one (ms : List (List (List Id))) (i : Nat) (hi : i < ms.length) : bulkM (ms.take (i + 1)) = bulkM (ms.take i) + bulkT (mn ms i) := by
  rw [show ms.take (i + 1) = ms.take i ++ [mn ms i] from take_snoc ms [] i hi, bulkM_app]; simp [bulkM]
theorem bulkT_take (m : List (List Id)) (j : Nat) : bulkT (m.take j) ≤ bulkT m := by
  have := bulkT_app (m.take j) (m.drop j)
  rw [List.take_append_drop] at this; omega
theorem bulkM_take (ms : List (List (List Id))) (i : Nat) : bulkM (ms.take i) ≤ bulkM ms := by
  have := bulkM_app (ms.take i) (ms.drop i)
  rw [List.take_append_drop] at this; omega
theorem bulkT_len (m : List (List Id)) : m.flatten.length ≤ bulkT m := by
  induction m with
  | nil => simp [bulkT]
  | cons x r ih => simp only [bulkT, List.flatten_cons, List.length_append, List.map_cons, List.sum_cons] at *; omega
theorem allI_bulk (ms : List (List (List Id))) : (allI ms).length ≤ bulkM ms := by
  induction ms with
  | nil => simp [allI, bulkM]
  | cons m r ih =>
    have h := bulkT_len m
    have e : allI (m :: r) = m.flatten ++ allI r := by simp [allI]
    rw [e, List.length_append]
    simp only [bulkM, List.map_cons, List.sum_cons] at *; omega
def bigB (ms : List (List (List Id))) (na : Nat) : Bool := decide (8 < ms.length) || decide (300 < bulkM ms) || decide (200 < na)
set_option maxHeartbeats 1000000 in
theorem big_any (a aa : Option Addr) (n c na ca : Nat) (ms : List (List (List Id))) (w : World) (hn : n = ms.length) (hm : RdM w a ms) (hb : bulkM ms ≤ 3000000) :
    Calls Try.prog 16 #[.slice a n c, .slice aa na ca] w fun e w' => e = .returned (.bool (bigB ms na)) ∧ Kp (fun _ => False) w w' := by
  have H := Lib.hid (And.intro hm (And.intro hn hb))
  clear hm hn hb
  go_enter Try.func16, Try.ntmps16
  go_wp2
  go_loopw [5, 6] (fun nv iv wr => ∃ i : Nat, i ≤ n ∧ i ≤ 9 ∧ iv = .int .i64 i ∧ nv = .int .i64 (bulkM (ms.take i) : Nat) ∧ Kp (fun _ => False) w wr) (fun _ iv _ => n - (intOf iv).toNat)
  case atStart => exact ⟨0, by omega, by omega, rfl, by simp [bulkM], Kp.refl _ _⟩
  case round =>
    obtain ⟨i, hi, hi9, rfl, rfl, hk⟩ := hrel
    have hbi := bulkM_take ms i
    have hbb := H.out.2.2
    by_cases hlt : i < n ∧ i < 9
    · obtain ⟨hlt, hl9⟩ := hlt
      have j1 : (i : Int) < n := by omega
      have j9 : (i : Int) < 9 := by omega
      have hii : i < ms.length := by rw [← H.out.2.1]; exact hlt
      have hone := bulkM_one ms i hii
      have hbo := bulkM_take ms (i + 1)
      obtain ⟨b, off, x0, x1, x2, x3, ai, ci, e1, f0, f1, f2, f3, f4, hT, hq, hq6⟩ := (H.out.1.kp0 hk) i hii
      subst e1
      obtain ⟨L, hL⟩ : ∃ L, L = (mn ms i).length := ⟨_, rfl⟩
      obtain ⟨N, hN⟩ : ∃ N, N = bulkM (ms.take i) := ⟨_, rfl⟩
      obtain ⟨N2, hN2⟩ : ∃ N2, N2 = bulkT (mn ms i) := ⟨_, rfl⟩
      rw [← hL] at f4 hq hq6
      rw [← hN] at hone hbi ⊢
      rw [hone] at hbo
      rw [← hN2] at hone hbo
      have HI := Lib.hid (And.intro hL (And.intro hone (And.intro hT (And.intro hk hN2))))
      have F4 := Lib.hid f4
      clear hii hL hone hT hk f0 f1 f2 f3 f4 hN hN2
      obtain ⟨wo, hwo⟩ : ∃ wo, wo = wr := ⟨_, rfl⟩
      rw [← hwo] at HI F4 ⊢
      clear hwo wr
      go_wp2
      go_loopw [5, 7] (fun nv jv wr => ∃ j : Nat, j ≤ L ∧ jv = .int .i64 j ∧ nv = .int .i64 (N + bulkT ((mn ms i).take j) : Nat) ∧ Kp (fun _ => False) wo wr) (fun _ jv _ => L - (intOf jv).toNat)
      case atStart => exact ⟨0, by omega, rfl, by simp [bulkT], Kp.refl _ _⟩
      case round =>
        obtain ⟨j, hj, rfl, rfl, hk⟩ := hrel
        have f4 := hk.cell F4.out (fun h => h)
        have hbt := bulkT_take (mn ms i) j
        rw [← HI.out.2.2.2.2] at hbt
        by_cases hlj : j < L
        · have j2 : (j : Int) < L := by omega
          have hji : j < (mn ms i).length := by rw [← HI.out.1]; exact hlj
          have hone := bulkT_one (mn ms i) j hji
          have hbo2 := bulkT_take (mn ms i) (j + 1)
          rw [← HI.out.2.2.2.2] at hbo2
          obtain ⟨bb, oo, p, kd, md, sz, tt, ac, cc, e3, g0, g1, g2, g3, g4, g5, hI0, hq1, hq2⟩ := HI.out.2.2.1 j hji
          subst e3
          replace g5 := hk.cell g5 (fun h => h)
          obtain ⟨M, hM⟩ : ∃ M, M = bulkT ((mn ms i).take j) := ⟨_, rfl⟩
          obtain ⟨C, hC⟩ : ∃ C, C = (itn (mn ms i) j).length := ⟨_, rfl⟩
          rw [← hM] at hone hbt ⊢
          rw [hone] at hbo2
          rw [← hC] at g5 hone hq1 hq2 hbo2
          have HP := Lib.hid (And.intro hone hk)
          clear hji hone g0 g1 g2 g3 g4 hI0 hk hM hC hq1
          have b1 : ((N : Int) + (M : Int)) + 1 ≤ 4000000 := by omega
          have b2 : ((N : Int) + (M : Int)) + 1 + (C : Int) ≤ 4000000 := by omega
          have e0 : ((N + M : Nat) : Int) = (N : Int) + M := by omega
          rw [e0]
          clear e0
          go_wp2
          go_roundw
          case rel => exact ⟨j + 1, by omega, by go_num, by rw [HP.out.1]; congr 1; omega, HP.out.2⟩
          case measure => simp [intOf]; omega
        · obtain rfl : j = L := by omega
          have HQ := Lib.hid hk
          have hfull : bulkT ((mn ms i).take j) = N2 := by rw [HI.out.1, List.take_length, HI.out.2.2.2.2]
          rw [hfull]
          clear hk hlj hfull
          go_wp2
          go_roundw
          case rel => exact ⟨i + 1, by omega, by omega, by go_num, by rw [HI.out.2.1], HI.out.2.2.2.1.trans HQ.out⟩
          case measure => simp [intOf]; omega
    · have HQ := Lib.hid hk
      have hle := H.out.2.1
      have hx : i < 9 → bulkM (ms.take i) = bulkM ms := fun h => by
        have : i = ms.length := by omega
        rw [this, List.take_length]
      have hres : bigB ms na = (decide (8 < n) || decide (300 < bulkM (ms.take i)) || decide (200 < na)) := by
        unfold bigB
        rw [← H.out.2.1]
        by_cases h9 : i < 9
        · rw [hx h9]
        · have : 8 < n := by omega
          simp [this]
      clear hx
      obtain ⟨N, hN⟩ : ∃ N, N = bulkM (ms.take i) := ⟨_, rfl⟩
      rw [← hN] at hbi hres ⊢
      have HR := Lib.hid hres
      clear hres hk hN hle
      by_cases hin : i < n
      · have j1 : (i : Int) < n := by omega
        have j9 : ¬ (i : Int) < 9 := by omega
        have j8 : (8 : Int) < n := by omega
        have d8 : 8 < n := by omega
        go_wp2
        go_ret
        exact ⟨ret_bool (by rw [HR.out]; simp [d8]), HQ.out⟩
      · have j1 : ¬ (i : Int) < n := by omega
        by_cases d8 : 8 < n
        · have j8 : (8 : Int) < n := by omega
          go_wp2
          go_ret
          exact ⟨ret_bool (by rw [HR.out]; simp [d8]), HQ.out⟩
        · have j8 : ¬ (8 : Int) < n := by omega
          by_cases d3 : 300 < N
          · have j3 : (300 : Int) < N := by omega
            go_wp2
            go_ret
            exact ⟨ret_bool (by rw [HR.out]; simp [d3]), HQ.out⟩
          · have j3 : ¬ (300 : Int) < N := by omega
            by_cases d2 : 200 < na
            · have j2 : (200 : Int) < na := by omega
              go_wp2
              go_ret
              exact ⟨ret_bool (by rw [HR.out]; simp [d2]), HQ.out⟩
            · have j2 : ¬ (200 : Int) < na := by omega
              go_wp2
              go_ret
              exact ⟨ret_bool (by rw [HR.out]; simp [d8, d3, d2]), HQ.out⟩
end Go.Proofs.Ytaibdkdmilhloaa
