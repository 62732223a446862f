/- The document's All. (Written by wip/ref20m.py.) -/
import Derived.Test.YtaibdkdmilhloaaQIdE
import Derived.Test.YtaibdkdmilhloaaQIdM
namespace Go.Proofs.Ytaibdkdmilhloaa
open Go.RowKit
set_option linter.unusedVariables false
set_option linter.unusedSimpArgs false
theorem RdI.take {w : World} {a : Option Addr} {l : List Id} (h : RdI w a l) (i : Nat) : RdI w a (l.take i) := ⟨fun x hx => h.ids x (List.mem_of_mem_take hx), fun j hj => by
  rw [List.length_take] at hj
  obtain ⟨b, off, e, hc⟩ := h.at' j (by omega)
  refine ⟨b, off, e, ?_⟩
  have : idn (l.take i) j = idn l j := by unfold idn; rw [List.getD_eq_getElem?_getD, List.getElem?_take, if_pos (by omega), List.getD_eq_getElem?_getD]
  rw [this]; exact hc⟩
theorem sofar_all {ms : List (List (List Id))} {i j : Nat} (hj : j < (mn ms i).length) : sofar ms i (j + 1) 0 = sofar ms i j 0 ++ itn (mn ms i) j := by
  rw [← sofar_item hj]
  unfold sofar
  rw [List.take_length, List.take_zero, List.append_nil]
theorem in_yes (a : Option Addr) (n c : Nat) (l : List Id) (hn : n = l.length) (x : Id) (hx : x.length = 16) (hm : x ∈ l) (w : World) (h : RdI w a l) (hb : n ≤ 1000000) :
    Calls Try.prog 46 #[.slice a n c, idV x] w fun e w' => e = .returned (.bool true) ∧ Kp (fun _ => False) w w' :=
  (in_any a n c l hn x hx w h hb).mono fun e w' ⟨h1, h2⟩ => ⟨by rw [h1, decide_eq_true hm], h2⟩
theorem in_no (a : Option Addr) (n c : Nat) (l : List Id) (hn : n = l.length) (x : Id) (hx : x.length = 16) (hm : x ∉ l) (w : World) (h : RdI w a l) (hb : n ≤ 1000000) :
    Calls Try.prog 46 #[.slice a n c, idV x] w fun e w' => e = .returned (.bool false) ∧ Kp (fun _ => False) w w' :=
  (in_any a n c l hn x hx w h hb).mono fun e w' ⟨h1, h2⟩ => ⟨by rw [h1, decide_eq_false hm], h2⟩
set_option maxHeartbeats 1000000 in
theorem rall_any (a : Option Addr) (n c : Nat) (ms : List (List (List Id))) (w : World) (hn : n = ms.length) (hm : RdM w a ms) (hb : n + (allI ms).length ≤ 100000) :
    Calls Try.prog 45 #[.slice a n c] w fun e w' => ∃ v, e = .returned v ∧ OwnI w' v (allI ms) ∧ (∀ g, v.ownBlock = some g → w.heap.size ≤ g) ∧ Kp (fun _ => False) w w' := by
  have H := Lib.hid (And.intro hm (And.intro hn hb))
  have hnb : n ≤ 100000 := by omega
  clear hm hn hb
  go_enter Try.func45, Try.ntmps45
  go_wp2
  go_loopw [3, 4] (fun ov iv wr => ∃ i : Nat, i ≤ n ∧ iv = .int .i64 i ∧ OwnI wr ov (allI (ms.take i)) ∧ (∀ g, ov.ownBlock = some g → w.heap.size ≤ g) ∧ Kp (fun _ => False) w wr) (fun _ iv _ => n - (intOf iv).toNat)
  case atStart => exact ⟨0, by omega, rfl, by simpa [allI] using OwnI.nil w, fun g hg => by simp [Value.ownBlock] at hg, Kp.refl _ _⟩
  case round =>
    obtain ⟨i, hi, rfl, ho, hg, hk⟩ := hrel
    by_cases hlt : i < n
    · have j1 : (i : Int) < n := by omega
      have hii : i < ms.length := by rw [← H.out.2.1]; exact hlt
      obtain ⟨b, off, x0, x1, x2, x3, ai, ci, e1, f0, f1, f2, f3, f4', hT0, hq, hq6⟩ := H.out.1 i hii
      have f4 := hk.cell f4' (fun h => h)
      subst e1
      clear f0 f1 f2 f3
      obtain ⟨L, hL⟩ : ∃ L, L = (mn ms i).length := ⟨_, rfl⟩
      rw [← hL] at f4 f4' hq hq6
      have HI := Lib.hid (And.intro hii (And.intro hL (And.intro ho (And.intro hg (And.intro hk (And.intro hT0 f4'))))))
      clear hii hL ho hg hk hT0 f4 f4'
      obtain ⟨wo, hwo⟩ : ∃ wo, wo = wr := ⟨_, rfl⟩
      rw [← hwo] at HI ⊢
      clear hwo wr
      go_wp2
      go_loopw [3, 5] (fun ov jv wr => ∃ j : Nat, j ≤ L ∧ jv = .int .i64 j ∧ OwnI wr ov (sofar ms i j 0) ∧ (∀ g, ov.ownBlock = some g → w.heap.size ≤ g) ∧ Kp (fun _ => False) w wr) (fun _ jv _ => L - (intOf jv).toNat)
      case atStart => exact ⟨0, by omega, rfl, by rw [sofar_000]; exact HI.out.2.2.1, HI.out.2.2.2.1, HI.out.2.2.2.2.1⟩
      case round =>
        obtain ⟨j, hj, rfl, ho, hg, hk⟩ := hrel
        have f4 := hk.cell HI.out.2.2.2.2.2.2 (fun h => h)
        by_cases hlj : j < L
        · have j2 : (j : Int) < L := by omega
          have hji : j < (mn ms i).length := by rw [← HI.out.2.1]; exact hlj
          obtain ⟨bb, oo, p, kd, md, sz, tt, ac, cc, e3, g0, g1, g2, g3, g4, g5, hI0, hq1, hq2⟩ := HI.out.2.2.2.2.2.1 j hji
          subst e3
          replace g5 := hk.cell g5 (fun h => h)
          have hpr := sofar_pre (k := (itn (mn ms i) j).length) HI.out.1 hji
          rw [sofar_item hji, sofar_all hji] at hpr
          have hpl := hpr.length_le
          rw [List.length_append] at hpl
          obtain ⟨v8, w8, hr8, ho8, k8, hb8⟩ := ho.apps (by have := H.out.2.2; omega) cc (hI0.kp0 hk)
          rw [← sofar_all hji] at ho8
          obtain ⟨C, hC⟩ : ∃ C, C = (itn (mn ms i) j).length := ⟨_, rfl⟩
          rw [← hC] at g5 hr8 hq1 hq2
          have HR := Lib.hid hr8
          have HP := Lib.hid (And.intro ho8 (And.intro k8 (And.intro hb8 (And.intro hg hk))))
          clear hji g0 g1 g2 g3 g4 hI0 hpr hpl hr8 ho8 k8 hb8 ho hg hk hC hq1
          go_wp2_with (at_builtin; refine wpList_append_run _ HR.out rfl rfl rfl rfl ?_)
          go_roundw
          case rel =>
            have hws := HP.out.2.2.2.2.size
            refine ⟨j + 1, by omega, by go_num, HP.out.1, fun g hg => ?_, HP.out.2.2.2.2.then HP.out.2.1 (fun i hi e => by have := HP.out.2.2.2.1 i e; omega)⟩
            rcases HP.out.2.2.1 with e | e
            · exact HP.out.2.2.2.1 g (e ▸ hg)
            · rw [hg] at e
              have := Option.some.inj e
              omega
          case measure => simp [intOf]; omega
        · obtain rfl : j = L := by omega
          have HQ := Lib.hid (And.intro ho (And.intro hg hk))
          clear ho hg hk hlj
          go_wp2
          go_roundw
          case rel => exact ⟨i + 1, by omega, by go_num, by rw [← sofar_man HI.out.1, ← HI.out.2.1]; exact HQ.out.1, HQ.out.2.1, HQ.out.2.2⟩
          case measure => simp [intOf]; omega
    · obtain rfl : i = n := by omega
      have HQ := Lib.hid (And.intro ho (And.intro hg hk))
      clear ho hg hk hlt
      go_wp2
      go_ret
      exact ⟨_, rfl, by have := HQ.out.1; rw [H.out.2.1, List.take_length] at this; exact this, HQ.out.2.1, HQ.out.2.2⟩
end Go.Proofs.Ytaibdkdmilhloaa
