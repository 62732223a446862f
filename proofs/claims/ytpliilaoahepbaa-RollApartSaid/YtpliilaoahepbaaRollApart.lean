/- The walk of RollApart: it returns true, whatever comes in. No condition. -/
import Derived.Test.YtpliilaoahepbaaRollSums
import Derived.Test.YtpliilaoahepbaaRollI
import Derived.Test.YtpliilaoahepbaaPick
namespace Go.Proofs.Ytpliilaoahepbaa
open Go.RowKit
set_option linter.unusedVariables false
theorem wt_back {c : Int} (hc : 0 ≤ c ∧ c ≤ 255) : wt c * 244002641 % 4294967296 = 2 * c + 1 := by
  unfold wt
  rw [Int.mul_emod, Int.emod_emod_of_dvd _ (Int.dvd_refl _), ← Int.mul_emod, Int.mul_assoc, show (2654435761 : Int) * 244002641 = 1 + 4294967296 * 150801925 by decide, Int.mul_add, Int.mul_one, ← Int.mul_assoc, Int.mul_comm (2 * c + 1) 4294967296, Int.mul_assoc, Int.add_mul_emod_self_left]
  omega
theorem wt_inj {c d : Int} (hc : 0 ≤ c ∧ c ≤ 255) (hd : 0 ≤ d ∧ d ≤ 255) : wt c = wt d ↔ c = d := by
  constructor
  · intro h
    have h1 := wt_back hc
    have h2 := wt_back hd
    rw [h, h2] at h1
    clear h h2
    omega
  · rintro rfl; rfl
theorem c3a {x y : Int} (hx : 0 ≤ x ∧ x < 4294967296) (hy : 0 ≤ y ∧ y < 4294967296) : -4294967296 < x - y ∧ x - y < 4294967296 := by omega
theorem c3b : ∀ z : Int, z = 2863311531 * (3 * z) - 8589934592 * z := fun z => by omega
theorem c3c {x y e : Int} (h : (3 * x + e) % 4294967296 = (3 * y + e) % 4294967296) : (3 * x + e - (3 * y + e)) % 4294967296 = 0 := Int.emod_eq_emod_iff_emod_sub_eq_zero.1 h
theorem c3d {x y e : Int} (h : (3 * x + e) % 4294967296 = (3 * y + e) % 4294967296) : ∃ d, 3 * (x - y) = 4294967296 * d := by
  obtain ⟨d, hd⟩ := Int.dvd_of_emod_eq_zero (c3c h)
  clear h
  exact ⟨d, by rw [← hd]; omega⟩
theorem c3e {x y : Int} (d : Int) (hd : 3 * (x - y) = 4294967296 * d) : x - y = 4294967296 * (2863311531 * d - 2 * (x - y)) := by
  have := c3b (x - y)
  rw [hd] at this
  rw [Int.mul_sub, ← Int.mul_assoc, ← Int.mul_assoc]
  rw [← Int.mul_assoc] at this
  exact this
theorem small_mul {z k : Int} (h : z = 4294967296 * k) (h0 : -4294967296 < z) (h1 : z < 4294967296) : z = 0 := by
  rcases Int.lt_trichotomy k 0 with hk | hk | hk
  · have := Int.mul_le_mul_of_nonneg_left (show k ≤ -1 by exact Int.le_sub_one_of_lt hk) (show (0 : Int) ≤ 4294967296 by decide)
    rw [← h] at this
    exact absurd h0 (Int.not_lt.2 (Int.le_trans this (by decide)))
  · rw [h, hk]; rfl
  · have := Int.mul_le_mul_of_nonneg_left (show 1 ≤ k from hk) (show (0 : Int) ≤ 4294967296 by decide)
    rw [← h] at this
    exact absurd h1 (Int.not_lt.2 (Int.le_trans (by decide) this))
theorem cancel3 {x y e : Int} (hx : 0 ≤ x ∧ x < 4294967296) (hy : 0 ≤ y ∧ y < 4294967296) (h : (3 * x + e) % 4294967296 = (3 * y + e) % 4294967296) : x = y := by
  obtain ⟨d, hd⟩ := c3d h
  have e3 := small_mul (c3e d hd) (c3a hx hy).1 (c3a hx hy).2
  clear hd h
  omega
theorem wt_odd (c : Int) : wt c % 2 = 1 := by unfold wt; omega
theorem sm_one (pre post : List Int) (c d : Int) : sm (pre ++ c :: post) = sm (pre ++ d :: post) ↔ wt c = wt d := by
  induction post using snoc_ind with
  | h0 => rw [sm_snoc, sm_snoc]; have := wt_bd c; have := wt_bd d; omega
  | h1 post e ih =>
    rw [show pre ++ c :: (post ++ [e]) = (pre ++ c :: post) ++ [e] by simp, show pre ++ d :: (post ++ [e]) = (pre ++ d :: post) ++ [e] by simp, sm_snoc, sm_snoc, ← ih]
    exact ⟨cancel3 (sm_bd _) (sm_bd _), fun h => by rw [h]⟩
theorem sm_set (l : List Int) (hl : Byt l) (p : Nat) (hp : p < l.length) (c : Int) (hc : 0 ≤ c ∧ c ≤ 255) : sm (l.set p c) = sm l ↔ l.getD p 0 = c := by
  have e1 : l = l.take p ++ l.getD p 0 :: l.drop (p + 1) := by
    have h1 := List.drop_eq_getElem_cons hp
    rw [List.getD_eq_getElem?_getD, List.getElem?_eq_getElem hp]
    show _ = l.take p ++ l[p] :: l.drop (p + 1)
    rw [← h1, List.take_append_drop]
  have e2 : l.set p c = l.take p ++ c :: l.drop (p + 1) := List.set_eq_take_append_cons_drop.trans (by rw [if_pos hp])
  rw [e2]
  conv => lhs; rhs; rw [e1]
  rw [sm_one, wt_inj hc (hl.getD p)]
  exact eq_comm
theorem rollApart_walk (a0 : Option Addr) (len0 cap0 : Nat) (z0 : List Int) (a1 : Int) (a2 : Int) (w : World) (w0 : IsRow .u8 w a0 len0 cap0 z0) (w1 : (Lit.int .i64 a1).wf = true) (w2 : (Lit.int .u8 a2).wf = true) :
    Calls Try.prog 5 #[.slice a0 len0 cap0, .int .i64 a1, .int .u8 a2] w fun e w' => e = .returned (.bool true) ∧ Below w.heap.size w w' := by
  have hle := w0.le
  unfold maxLen at hle
  by_cases hlen : len0 = 0 ∨ 1000 < len0
  · clear w0
    by_cases h1 : len0 = 0
    · subst h1
      go_enter Try.func5, Try.ntmps5
      go_wp2_with fail
      refine (awake_any _).mono ?_
      rintro e w1 ⟨rfl, hk⟩
      go_wp2
      go_ret
      exact ⟨rfl, hk.below (fun _ _ h => h)⟩
    · have h2 : ((len0 : Int) == 0) = false := by simp; omega
      have h3 : 1000 < len0 := by omega
      clear hlen h1
      go_enter Try.func5, Try.ntmps5
      go_wp2_with fail
      refine (awake_any _).mono ?_
      rintro e w1 ⟨rfl, hk⟩
      go_wp2
      go_ret
      exact ⟨rfl, hk.below (fun _ _ h => h)⟩
  · have h0 : 0 < len0 := by omega
    have h2 : ((len0 : Int) == 0) = false := by simp; omega
    have h3 : len0 ≤ 1000 := by omega
    clear hlen
    obtain ⟨l, rfl, hr⟩ := w0.ex (by omega)
    clear w0
    obtain ⟨b, off, rfl, _⟩ := hr.cell 0 h0
    have hbw : b < w.heap.size := by obtain ⟨_, _, e, hc⟩ := hr.cell 0 h0; cases e; exact World.block_lt_of_cell? w _ hc
    have hc := u8_bd w2
    have hp := fun w' => pick_any a1 (l.length : Int) w' (i64_bd w1) (by omega)
    obtain ⟨p, hpe⟩ : ∃ p : Nat, a1 % (l.length : Int) = p := ⟨(a1 % l.length).toNat, by have := Int.emod_nonneg a1 (show (l.length : Int) ≠ 0 by omega); omega⟩
    have hpl : p < l.length := by have := Int.emod_lt_of_pos a1 (show 0 < (l.length : Int) by omega); omega
    rw [hpe] at hp
    have HP := Lib.hid hp
    clear hp hpe w1 w2
    go_enter Try.func5, Try.ntmps5
    go_wp2_with fail
    refine (awake_any _).mono ?_
    rintro e w1 ⟨rfl, hk⟩
    go_wp2_with fail
    refine (HP.out _).mono ?_
    rintro e w1' ⟨rfl, rfl⟩
    have hr1 := hr.kp hk (fun _ _ h => h)
    go_wp2_with fail
    refine (copy_any _ _ l _ hr1 (by omega)).mono ?_
    rintro e w2 ⟨g, cap', rfl, hown, hg, hk2⟩
    have hsz := hk.size
    have hk3 := hk.trans hk2
    have hr2 := hr.kp hk3 (fun _ _ h => h)
    obtain ⟨hx1, hx2⟩ := hown
    rcases hx2 with ⟨hx2, _⟩ | ⟨g', cap'', sp, hx3, hat, hsp, hle', hmx⟩
    · cases hx2
    cases hx3
    obtain ⟨v, hv⟩ : ∃ v, w2.cell? ⟨g, p, none⟩ = some v := ⟨_, by rw [hat.cell, List.getElem?_eq_getElem (by simp; omega)]⟩
    have hf := fun i => hat.frozen i
    obtain ⟨_, _, e, hcell⟩ := hr2.cell p hpl
    cases e
    have hne : b ≠ g := by omega
    have hne' : ¬ g = b := by omega
    have hat2 := Lib.hid (hat.set p (.int .u8 a2))
    have hk4 := Lib.hid (hk3.setCell (p := ⟨g, p, none⟩) (by simp; omega) (.int .u8 a2))
    have HC := Lib.hid hcell
    have hcell' : (w2.setCell ⟨g, p, none⟩ (.int .u8 a2)).cell? ⟨b, off + p, none⟩ = some (.int .u8 (l.getD p 0)) := by
      rw [World.cell?_setCell_other]
      · exact hcell
      · intro e; injection e with e1 e2 e3; omega
    have hp1 : (p : Int) < l.length := by omega
    have hd := hr.bd.getD p
    have HD2 := Lib.hid (sm_set l hr.bd p hpl a2 hc)
    have hr4 := Lib.hid hr2
    clear hat hcell HC hsp hx1
    generalize l.getD p 0 = d at *
    clear hr1 hr2 hk hk2 hk3
    go_wp2_with fail
    have A := hat2.out
    have K := hk4.out
    rw [List.set_append_left _ _ (by simpa using hpl), ← List.map_set] at A
    have hrx := RdB.of_vals (pre := []) (l := l.set p a2) (post := sp) (by simpa using A) (hr.bd.set p hc) (by simp; omega)
    have hrb := hr.kp0 K (fun _ _ h => h)
    clear A hat2 hk4 hr4 hv
    generalize w2.setCell ⟨g, p, none⟩ (.int .u8 a2) = w5 at *
    have C1 := fun n => Calls.quiet_of_same (n := n) (Calls.turn (sum_n (some ⟨g, 0, none⟩) l.length cap' (l.set p a2) (w5.drewN n) (hrx.drewN n) (by simp)))
    have C2 := fun n => Calls.quiet_of_same (n := n) (Calls.turn (sum_n (some ⟨b, off, none⟩) l.length cap0 l (w5.drewN n) (hrb.drewN n) rfl))
    have C3 := fun n => Calls.quiet_of_same (n := n) (Calls.turn (weight_any a2 (w5.drewN n) hc.1 hc.2))
    have C4 := fun n => Calls.quiet_of_same (n := n) (Calls.turn (weight_any d (w5.drewN n) hd.1 hd.2))
    have hodd := wt_odd a2
    have hw := wt_bd a2
    clear hrx hrb hne hne' hg
    by_cases hda : d = a2
    · subst hda
      have e1 : (sm (l.set p d) == sm l) = true := by rw [HD2.out.2 rfl]; simp
      clear HD2
      go_quiet ((first | (go_at_call 14; first | (with_reducible exact C1 _) | (with_reducible exact C2 _)) | (go_at_call 12; exact C3 _)))
      go_wp2
      go_ret
      exact ⟨rfl, (K.drewN _).below (fun _ _ h => h)⟩
    · have e1 : (sm (l.set p a2) == sm l) = false := by rw [beq_eq_false_iff_ne]; exact fun h => hda (HD2.out.1 h)
      have e2 : (wt a2 == wt d) = false := by rw [beq_eq_false_iff_ne]; exact fun h => hda ((wt_inj hc hd).1 h).symm
      have e3 : (d == a2) = false := by simpa using hda
      clear HD2 hda
      go_quiet ((first | (go_at_call 14; first | (with_reducible exact C1 _) | (with_reducible exact C2 _)) | (go_at_call 12; first | (with_reducible exact C3 _) | (with_reducible exact C4 _))))
      go_wp2
      go_ret
      exact ⟨rfl, (K.drewN _).below (fun _ _ h => h)⟩
end Go.Proofs.Ytpliilaoahepbaa
