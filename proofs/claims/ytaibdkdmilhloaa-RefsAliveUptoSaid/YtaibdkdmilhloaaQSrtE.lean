/- Package ratio: Order, of any floats. -/
import Derived.Test.YtaibdkdmilhloaaQSr2M
import Derived.Test.YtaibdkdmilhloaaQSrtO
namespace Go.Proofs.Ytaibdkdmilhloaa
open Go.RowKit Flt
set_option linter.unusedVariables false
def ltF (l : List Nat) (x y : Nat) : Bool := bef (l.getD x 0) (l.getD y 0)
theorem bef_asy {a b : Nat} (h : bef a b = true) : bef b a = false := by
  unfold bef at *
  cases ha : nanb a <;> cases hb : nanb b <;> simp [ha, hb] at h ⊢ <;> omega
theorem bef_neg {a b c : Nat} (h : bef a b = false) (h2 : bef b c = false) : bef a c = false := by
  unfold bef at *
  cases ha : nanb a <;> cases hb : nanb b <;> cases hc : nanb c <;> simp [ha, hb, hc] at h h2 ⊢ <;> omega
theorem ltF_wk (l : List Nat) : Wk (ltF l) := ⟨fun h => bef_asy h, fun h h2 => bef_neg h h2⟩
theorem ltF_cmp (l : List Nat) (x y : Nat) : ltF l x y = decide (cmpI (l.getD x 0) (l.getD y 0) < 0) := by
  unfold ltF cmpI
  cases bef (l.getD x 0) (l.getD y 0) <;> cases bef (l.getD y 0) (l.getD x 0) <;> simp
theorem sort_any (D cap p N : Nat) (d : List Nat) (pad : List Value) (w : World) (cm : Nat → Nat → Int) (lt : Nat → Nat → Bool) (hlt : ∀ x y, lt x y = decide (cm x y < 0)) (hw : Wk lt) (hat : At w D (nums d ++ pad)) (hinc : d.Pairwise (· < ·)) (hd : d.length ≤ 1000000) (hN : ∀ x ∈ d, x < N)
    (CM : Hid (CmOk D p N cm w)) :
    Calls Try.prog 48 #[.slice (some ⟨D, 0, none⟩) d.length cap, .func (.func 49) #[] #[.pointer (some ⟨p, 0, none⟩)]] w fun e w' => e = .returned (.tuple #[]) ∧ (∃ W, W.Pairwise (Rr lt) ∧ W.Perm d ∧ At w' D (nums W ++ pad)) ∧ Kp (· = D) w w' := by
  have CI := Lib.hid (stable_any D cap p N d pad w cm lt hlt hw hat hinc hd hN CM)
  generalize d.length = L at *
  clear hat hN CM
  go_enter Try.func48, Try.ntmps48
  go_wp2_with (go_at_call 53; refine CI.out.mono ?_; rintro e w2 ⟨rfl, h2, k2⟩; have H2 := Lib.hid (And.intro h2 k2); clear h2 k2)
  go_end0
  exact ⟨rfl, H2.out.1, H2.out.2⟩
theorem order_pos (a : Option Addr) (c : Nat) (l : List Nat) (w : World) (hr : RdF w a l) (h0 : 0 < l.length) (hl : l.length ≤ 1000000) :
    Calls Try.prog 36 #[.slice a l.length c] w fun e w' => ∃ v W, e = .returned v ∧ W.Pairwise (Rr (ltF l)) ∧ W.Perm (List.range l.length) ∧ Own w' v l.length 1 (nums W) ∧ (∀ g, v.ownBlock = some g → w.heap.size ≤ g) ∧ Kp (fun _ => False) w w' := by
  obtain ⟨L, hL⟩ : ∃ L, L = l.length := ⟨_, rfl⟩
  rw [← hL] at h0 hl ⊢
  have HL := Lib.hid hL
  have HR := Lib.hid hr
  obtain ⟨w0, hw0⟩ : ∃ w0, w0 = w.alloc (.cells #[.slice a L c] 62) := ⟨_, rfl⟩
  have hbx : At w0 w.heap.size [.slice a L c] := by rw [hw0]; exact At.new w [.slice a L c] 62
  have k0 : Kp (fun _ => False) w w0 := by rw [hw0]; exact (Kp.refl _ w).alloc _
  have hsz : w0.heap.size = w.heap.size + 1 := by rw [hw0]; simp
  have HB := Lib.hid (And.intro hbx (And.intro k0 hsz))
  have hc0 := hbx.cell 0
  have hf0 := hbx.frozen 0
  clear hr hL
  go_enter Try.func36, Try.ntmps36
  have HW0 := Lib.hid hw0
  clear hw0 hbx k0 hsz
  go_wp2
  rw [← HW0.out]
  go_loopw [3, 7] (fun v i wr => ∃ k : Nat, k ≤ L ∧ i = .int .i64 k ∧ Own wr v k 1 (nums (List.range k)) ∧ Kp (fun _ => False) w0 wr ∧ ∀ g, v.ownBlock = some g → w0.heap.size ≤ g) (fun _ i _ => L - (intOf i).toNat)
  case atStart => exact ⟨0, by omega, rfl, Own.nil _ _, Kp.refl _ _, fun g hg => by simp [Value.ownBlock] at hg⟩
  case round =>
    obtain ⟨k, hkl, rfl, hown, hkp, hgb⟩ := hrel
    have hc1 := hkp.cell hc0 (fun h => h)
    by_cases hlt : k < L
    · have i1 : (k : Int) < L := by omega
      have hone : ∀ u ∈ [Value.int .i64 (k : Int)], u.oneCell' = true := fun u hu => by simp at hu; subst hu; rfl
      have hkal := (Kp.refl (fun _ => False) wr).alloc (.cells #[.int .i64 (k : Int)] 3)
      have hrd := Rd.new wr [.int .i64 (k : Int)] 3
      obtain ⟨v', w3, hrun, hv3, hk3, hat3, _⟩ := run_append_at (P := Try.prog) (t := 24) (tx := 24) (ty := 24) (wr.alloc (.cells #[.int .i64 (k : Int)] 3)) Try.underlying24 elem_i64 Try.underlying24
        (hown.kp hkal (fun _ _ h => h)) (a := some ⟨wr.heap.size, 0, none⟩) (m := 1) (c := 1) (news := [.int .i64 (k : Int)]) (by simp) hrd hone (by unfold maxLen; omega) (by omega)
      obtain ⟨va, vc, rfl, _, _⟩ := hown.form
      obtain ⟨va', vc', rfl, _, _⟩ := hv3.form
      have Hrun := Lib.hid hrun
      have hfin : Hid (Own w3 (.slice va' (k + 1) vc') (k + 1) 1 (nums (List.range (k + 1))) ∧ Kp (fun _ => False) w0 w3 ∧ ∀ g, (Value.slice va' (k + 1) vc').ownBlock = some g → w0.heap.size ≤ g) := by
        refine ⟨?_, (hkp.alloc _).then hk3 (fun i hi e => ?_), fun g hg => ?_⟩
        · have e : nums (List.range (k + 1)) = nums (List.range k) ++ [.int .i64 (k : Int)] := by simp [nums, List.range_succ]
          rw [e]; exact hv3
        · have := hgb i e
          omega
        · rcases hat3 with e | e
          · exact hgb g (e ▸ hg)
          · rw [e] at hg
            obtain rfl := Option.some.inj hg
            have := hkp.size
            simp; omega
      clear hown hkp hgb hrun hrd hk3 hat3 hv3 hkal hc0 hf0
      go_wp2_with (at_builtin; refine wpList_append_run _ Hrun.out rfl rfl rfl rfl ?_)
      go_roundw
      case rel => exact ⟨k + 1, by omega, by go_num, hfin.out.1, hfin.out.2.1, hfin.out.2.2⟩
      case measure => simp [intOf]; omega
    · obtain rfl : k = L := by omega
      rcases hown.2 with ⟨_, h⟩ | ⟨g, cap, sp, rfl, hat, hsp, hcap, hcm⟩
      · omega
      have hge := hgb g (by simp [Value.ownBlock])
      have hsz := HB.out.2.2
      have hkw := HB.out.2.1.trans hkp
      have hLr : (List.range k).length = k := List.length_range
      have CS := sort_any g cap w.heap.size k (List.range k) sp wr (fun x y => cmpI (l.getD x 0) (l.getD y 0)) (ltF l) (ltF_cmp l) (ltF_wk l) hat List.pairwise_lt_range (by rw [hLr]; exact hl) (fun x hx => by simpa using hx)
        (Lib.hid (fun w' x y hk' hx hy => by
          have hk2 : Kp (fun _ => False) w w' := hkw.then hk' (fun i hi e => by omega)
          have := cmp_any w.heap.size a c l x y w' (by rw [← HL.out]; exact (hk'.at (hkp.at HB.out.1 (fun h => h)) (by omega)).cell 0) (HR.out.kp0 hk2 (fun _ _ h => h)) (by rw [← HL.out]; exact hx) (by rw [← HL.out]; exact hy) (by rw [← HL.out]; omega)
          exact this))
      rw [hLr] at CS
      have CSH := Lib.hid CS
      have HO := Lib.hid (And.intro hsp (And.intro hcap hcm))
      have HK := Lib.hid (And.intro hkw hge)
      have HSZ := Lib.hid hsz
      clear CS hown hat hsp hcap hcm hkp hgb hge hkw hLr hc1 hsz
      go_wp2_with (go_at_call 48; refine CSH.out.mono ?_; rintro e w4 ⟨rfl, ⟨Wl, p1, p2, h4⟩, k4⟩; have H4 := Lib.hid (And.intro h4 (And.intro k4 (And.intro p1 p2))); clear h4 k4 p1 p2)
      go_ret
      have hWl : Wl.length = k := by rw [H4.out.2.2.2.length_eq, List.length_range]
      refine ⟨_, Wl, rfl, H4.out.2.2.1, H4.out.2.2.2, ⟨by simp [nums, hWl], .inr ⟨g, cap, sp, rfl, H4.out.1, HO.out.1, HO.out.2.1, HO.out.2.2⟩⟩, fun g' hg' => ?_, ?_⟩
      · have : g = g' := by simpa [Value.ownBlock] using hg'
        have := HK.out.2; have := HSZ.out; omega
      · exact HK.out.1.then H4.out.2.1 (fun i hi e => by have := HK.out.2; have := HSZ.out; omega)
end Go.Proofs.Ytaibdkdmilhloaa
