/- Chapter 12: the law's own among. (Written by wip/netamong.py.) -/
import Derived.Test.YtgcgcdgjooaipaaActs
import Derived.Test.YtgcgcdgjooaipaaSdg
import Derived.Deep.DeepCutAuto
namespace Go.Proofs.Ytgcgcdgjooaipaa
open Go.RowKit
set_option linter.unusedVariables false
set_option linter.unusedSimpArgs false
/-- One of them it is, but for its bits, if some were turned. -/
def amongS (es : List Nd) (b : Bool) (fr tt : Int) (l : List Int) (k : Nat) : Prop := (nd es k).fr = fr ∧ (nd es k).to = tt ∧ ((nd es k).l = l ∨ b = true ∧ (nd es k).l.length = l.length)
set_option maxHeartbeats 4000000 in
theorem among_any (a : Option Addr) (es : List Nd) (N ca : Nat) (hN : N = es.length) (fr tt : Int) (ax : Option Addr) (n cx : Nat) (l : List Int) (hn : n = l.length) (b : Bool) (w : World) (h : RdD w a es) (hx : RdB w ax l) (hNb : N ≤ 1000000) (hnb : n ≤ 1000000) (p : Nat) (hp : p < N) (hm : amongS es b fr tt l p) :
    Calls Try.prog 30 #[.slice a N ca, .agg #[.int .i64 fr, .int .i64 tt, .slice ax n cx], .bool b] w fun e w' => e = .returned (.bool true) ∧ Kp (fun _ => False) w w' := by
  have H := Lib.hid (And.intro h (And.intro hx (And.intro hN (And.intro hn hm))))
  clear h hx hN hn hm
  go_enter Try.func30, Try.ntmps30
  go_wp2
  refine wp_world (fun wx => At wx w.heap.size (dgC fr tt (.slice ax n cx)) ∧ Kp (fun _ => False) w wx) ⟨At.new w (dgC fr tt (.slice ax n cx)) 28, (Kp.refl _ w).alloc _⟩ ?_
  rintro w1 ⟨hb1, k1⟩
  have B1 := Lib.hid hb1
  have K1 := Lib.hid k1
  clear hb1 k1
  obtain ⟨bx, hbx⟩ : ∃ bx, bx = w.heap.size := ⟨_, rfl⟩
  rw [← hbx] at B1 ⊢
  clear hbx
  go_loopw [7] (fun i wr => ∃ k : Nat, k ≤ p ∧ i = .int .i64 k ∧ Kp (fun _ => False) w1 wr) (fun i _ => p - (intOf i).toNat)
  case atStart => exact ⟨0, by omega, rfl, Kp.refl _ _⟩
  case round =>
    obtain ⟨k, hkp, rfl, hk⟩ := hrel
    have KR := Lib.hid hk
    clear hk
    have j1 : (k : Int) < N := by omega
    have hke : k < es.length := by have := H.out.2.2.1; omega
    obtain ⟨b1, o1, a1, c1, rfl, f0, f1, f2, r1, _⟩ := H.out.1.kp0 (K1.out.trans KR.out) (fun _ _ h => h) k hke
    obtain ⟨x0, x1, x2, _⟩ := dg_cells (KR.out.at B1.out (fun h => h))
    have hxr := H.out.2.1.kp0 (K1.out.trans KR.out) (fun _ _ h => h)
    have HMK := Lib.hid (show amongS es b fr tt l k ∨ k < p from by
      by_cases e : k = p
      · subst e; exact .inl H.out.2.2.2.2
      · exact .inr (by omega))
    have CS := fun nq => Calls.quiet_of_same (n := nq) (Calls.turn (same_n a1 ax (nd es k).l.length n c1 cx (nd es k).l l (World.drewN wr nq) (r1.drewN nq) (hxr.drewN nq) rfl H.out.2.2.2.1.symm))
    obtain ⟨s, hs⟩ : ∃ s, s = decide ((nd es k).l = l) := ⟨_, rfl⟩
    rw [← hs] at CS
    obtain ⟨m, hm⟩ : ∃ m, m = (nd es k).l.length := ⟨_, rfl⟩
    rw [← hm] at CS f2
    obtain ⟨sm, hsm⟩ : ∃ sm, sm = decide ((nd es k).l = l ∨ b = true ∧ m = n) := ⟨_, rfl⟩
    have HS := Lib.hid (And.intro hs (And.intro hm hsm))
    have HC := Lib.hid CS
    have HMN := H.out.2.2.2.1
    clear hke r1 hxr CS hs hm hsm
    generalize hfr : (nd es k).fr = fr' at *
    generalize htt : (nd es k).to = tt' at *
    have HF := Lib.hid (And.intro hfr htt)
    clear hfr htt
    go_upto_region 4 with fail
    go_cut [8] (fun sv wx => sv = .bool sm ∧ ∃ nq, wx = World.drewN wr nq)
    case first =>
      cases s with
      | true =>
        have e : sm = true := by rw [HS.out.2.2]; exact decide_eq_true (.inl (of_decide_eq_true HS.out.1.symm))
        have E := Lib.hid e
        clear e HMN
        go_quiet (exact HC.out _)
        go_wp2_with fail
        go_meet
        exact ⟨by rw [E.out], _, rfl⟩
      | false =>
        have hne : ¬ (nd es k).l = l := of_decide_eq_false HS.out.1.symm
        cases b with
        | false =>
          have e : sm = false := by rw [HS.out.2.2]; exact decide_eq_false (fun h => by rcases h with h | h; exact hne h; cases h.1)
          have E := Lib.hid e
          clear e HMN hne
          go_quiet (exact HC.out _)
          go_wp2_with fail
          go_meet
          exact ⟨by rw [E.out], _, rfl⟩
        | true =>
          by_cases hmn : m = n
          · have e : sm = true := by rw [HS.out.2.2]; exact decide_eq_true (.inr ⟨rfl, hmn⟩)
            have E := Lib.hid e
            have q1 : ((m : Int) == (n : Int)) = true := by simp; omega
            have q2 : (m == n) = true := by simp; omega
            clear e HMN hne hmn
            go_quiet (exact HC.out _)
            go_wp2_with fail
            go_meet
            exact ⟨by rw [E.out], _, rfl⟩
          · have e : sm = false := by rw [HS.out.2.2]; exact decide_eq_false (fun h => by rcases h with h | h; exact hne h; exact hmn h.2)
            have E := Lib.hid e
            have q1 : ((m : Int) == (n : Int)) = false := by simp; omega
            have q2 : (m == n) = false := by simp; omega
            clear e HMN hne hmn
            go_quiet (exact HC.out _)
            go_wp2_with fail
            go_meet
            exact ⟨by rw [E.out], _, rfl⟩
    case rest =>
      obtain ⟨rfl, nq, rfl⟩ := hcut
      have g0 : (World.drewN wr nq).cell? ⟨b1, o1 + k * 3, none⟩ = some (.int .i64 fr') := f0
      have g1 : (World.drewN wr nq).cell? ⟨b1, o1 + k * 3 + 1, none⟩ = some (.int .i64 tt') := f1
      have y0 : (World.drewN wr nq).cell? ⟨bx, 0, none⟩ = some (.int .i64 fr) := x0
      have y1 : (World.drewN wr nq).cell? ⟨bx, 1, none⟩ = some (.int .i64 tt) := x1
      have K2 := Lib.hid (KR.out.drewN nq)
      clear f0 f1 f2 x0 x1 x2 HC KR
      generalize World.drewN wr nq = w2 at *
      by_cases hA : fr' = fr
      · have q1 : ((fr' : Int) == fr) = true := by simpa using hA
        by_cases hB : tt' = tt
        · have q2 : ((tt' : Int) == tt) = true := by simpa using hB
          cases sm with
          | true =>
            clear hA hB
            go_wp2_with fail
            go_quiet (fail)
            go_wp2_with fail
            go_ret
            exact ⟨rfl, (K1.out.trans K2.out).drewN _⟩
          | false =>
            have hno : ¬ amongS es b fr tt l k := fun h => by
              have := of_decide_eq_false HS.out.2.2.symm
              rw [HS.out.2.1, HMN] at this
              exact this h.2.2
            have HNO := Lib.hid hno
            clear hA hB hno
            have hkp2 : k < p := by
              rcases HMK.out with h | h
              · exact absurd h HNO.out
              · exact h
            have j5 : k + 1 ≤ p := hkp2
            clear hkp2
            go_wp2_with fail
            go_quiet (fail)
            go_wp2_with fail
            go_roundw
            case rel => exact ⟨k + 1, by omega, by go_num, K2.out.drewN _⟩
            case measure => simp [intOf]; omega
        · have q2 : ((tt' : Int) == tt) = false := by simpa using hB
          have hno : ¬ amongS es b fr tt l k := fun h => hB (HF.out.2 ▸ h.2.1)
          have HNO := Lib.hid hno
          clear hA hB hno
          have hkp2 : k < p := by
            rcases HMK.out with h | h
            · exact absurd h HNO.out
            · exact h
          have j5 : k + 1 ≤ p := hkp2
          clear hkp2
          go_wp2_with fail
          go_quiet (fail)
          go_wp2_with fail
          go_roundw
          case rel => exact ⟨k + 1, by omega, by go_num, K2.out.drewN _⟩
          case measure => simp [intOf]; omega
      · have q1 : ((fr' : Int) == fr) = false := by simpa using hA
        have hno : ¬ amongS es b fr tt l k := fun h => hA (HF.out.1 ▸ h.1)
        have HNO := Lib.hid hno
        clear hA hno
        have hkp2 : k < p := by
          rcases HMK.out with h | h
          · exact absurd h HNO.out
          · exact h
        have j5 : k + 1 ≤ p := hkp2
        clear hkp2
        go_wp2_with fail
        go_quiet (fail)
        go_wp2_with fail
        go_roundw
        case rel => exact ⟨k + 1, by omega, by go_num, K2.out.drewN _⟩
        case measure => simp [intOf]; omega
end Go.Proofs.Ytgcgcdgjooaipaa
