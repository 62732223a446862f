/- Package ratio: Order, where there are fewer than twenty. -/
import Derived.Test.YtaibdkdmilhloaaQSrtM
import Derived.Test.YtaibdkdmilhloaaQMem
namespace Go.Proofs.Ytaibdkdmilhloaa
open Go.RowKit Flt
set_option linter.unusedVariables false
theorem elem_i64 : Elem Try.prog 3 (.int .i64 0) 1 8 := Elem.mk' (by kernel_rfl) rfl (by omega) (by simp [Value.cells, Value.oneCell'])
theorem stable_short (D cap p N : Nat) (d : List Nat) (pad : List Value) (w : World) (cm : Nat → Nat → Int) (hat : At w D (nums d ++ pad)) (h0 : 0 < d.length) (hd : d.length < 20) (hN : ∀ x ∈ d, x < N)
    (CM : Hid (∀ w' x y, Kp (· = D) w w' → x < N → y < N → Calls Try.prog 49 #[.int .i64 (x : Nat), .int .i64 (y : Nat), .pointer (some ⟨p, 0, none⟩)] w' fun e w'' => e = .returned (.int .i64 (cm x y)) ∧ ∃ n, w'' = w'.drewN n)) :
    Calls Try.prog 53 #[.slice (some ⟨D, 0, none⟩) d.length cap, .int .i64 d.length, .func (.func 49) #[] #[.pointer (some ⟨p, 0, none⟩)]] w fun e w' => e = .returned (.tuple #[]) ∧ At w' D (nums (isort (fun x y => decide (cm x y < 0)) d) ++ pad) ∧ Kp (· = D) w w' := by
  have CI := Lib.hid (ins_any D cap p N d pad 0 d.length w cm hat (by omega) (Nat.le_refl _) (by omega) hN CM)
  rw [List.take_zero, List.take_length, List.drop_zero, List.drop_length, List.nil_append, List.append_nil] at CI
  generalize d.length = L at *
  generalize isort (fun x y => decide (cm x y < 0)) d = r at *
  have i1 : (L : Int) < 20 := by omega
  clear hat hN CM
  go_enter Try.func53, Try.ntmps53
  go_wp2
  go_loopw [7, 8] (fun a b wr => a = .int .i64 0 ∧ b = .int .i64 20 ∧ wr = w) (fun _ _ _ => 0)
  case atStart => exact ⟨rfl, rfl, rfl⟩
  case round =>
    obtain ⟨rfl, rfl, rfl⟩ := hrel
    go_wp2_with (go_at_call 54; refine CI.out.mono ?_; rintro e w2 ⟨rfl, h2, k2⟩; have H2 := Lib.hid (And.intro h2 k2); clear h2 k2)
    go_loopw [6] (fun b wr => b = .int .i64 20 ∧ wr = w2) (fun _ _ => 0)
    case atStart => exact ⟨rfl, rfl⟩
    case round =>
      obtain ⟨rfl, rfl⟩ := hrel
      go_wp2
      go_end0
      exact ⟨rfl, H2.out.1, H2.out.2⟩
theorem sort_short (D cap p N : Nat) (d : List Nat) (pad : List Value) (w : World) (cm : Nat → Nat → Int) (hat : At w D (nums d ++ pad)) (h0 : 0 < d.length) (hd : d.length < 20) (hN : ∀ x ∈ d, x < N)
    (CM : Hid (∀ w' x y, Kp (· = D) w w' → x < N → y < N → Calls Try.prog 49 #[.int .i64 (x : Nat), .int .i64 (y : Nat), .pointer (some ⟨p, 0, none⟩)] w' fun e w'' => e = .returned (.int .i64 (cm x y)) ∧ ∃ n, w'' = w'.drewN n)) :
    Calls Try.prog 48 #[.slice (some ⟨D, 0, none⟩) d.length cap, .func (.func 49) #[] #[.pointer (some ⟨p, 0, none⟩)]] w fun e w' => e = .returned (.tuple #[]) ∧ At w' D (nums (isort (fun x y => decide (cm x y < 0)) d) ++ pad) ∧ Kp (· = D) w w' := by
  have CI := Lib.hid (stable_short D cap p N d pad w cm hat h0 hd hN CM)
  generalize d.length = L at *
  generalize isort (fun x y => decide (cm x y < 0)) d = r at *
  clear hat hN CM
  go_enter Try.func48, Try.ntmps48
  go_wp2_with (go_at_call 53; refine CI.out.mono ?_; rintro e w2 ⟨rfl, h2, k2⟩; have H2 := Lib.hid (And.intro h2 k2); clear h2 k2)
  go_end0
  exact ⟨rfl, H2.out.1, H2.out.2⟩
def orderF (l : List Nat) : List Nat := isort (fun x y => decide (cmpI (l.getD x 0) (l.getD y 0) < 0)) (List.range l.length)
theorem order_short (a : Option Addr) (c : Nat) (l : List Nat) (w : World) (hr : RdF w a l) (h0 : 0 < l.length) (hl : l.length < 20) :
    Calls Try.prog 36 #[.slice a l.length c] w fun e w' => ∃ v, e = .returned v ∧ Own w' v l.length 1 (nums (orderF l)) ∧ (∀ g, v.ownBlock = some g → w.heap.size ≤ g) ∧ Kp (fun _ => False) w w' := by
  obtain ⟨L, hL⟩ : ∃ L, L = l.length := ⟨_, rfl⟩
  rw [← hL] at h0 hl ⊢
  have HL := Lib.hid hL
  have HR := Lib.hid hr
  obtain ⟨w0, hw0⟩ : ∃ w0, w0 = w.alloc (.cells #[.slice a L c] 62) := ⟨_, rfl⟩
  have hbx : At w0 w.heap.size [.slice a L c] := by rw [hw0]; exact At.new w [.slice a L c] 62
  have k0 : Kp (fun _ => False) w w0 := by rw [hw0]; exact (Kp.refl _ w).alloc _
  have hsz : w0.heap.size = w.heap.size + 1 := by rw [hw0]; simp
  have HB := Lib.hid (And.intro hbx (And.intro k0 hsz))
  have hc0 := hbx.cell 0
  have hf0 := hbx.frozen 0
  clear hr hL
  go_enter Try.func36, Try.ntmps36
  have HW0 := Lib.hid hw0
  clear hw0 hbx k0 hsz
  go_wp2
  rw [← HW0.out]
  go_loopw [3, 7] (fun v i wr => ∃ k : Nat, k ≤ L ∧ i = .int .i64 k ∧ Own wr v k 1 (nums (List.range k)) ∧ Kp (fun _ => False) w0 wr ∧ ∀ g, v.ownBlock = some g → w0.heap.size ≤ g) (fun _ i _ => L - (intOf i).toNat)
  case atStart => exact ⟨0, by omega, rfl, Own.nil _ _, Kp.refl _ _, fun g hg => by simp [Value.ownBlock] at hg⟩
  case round =>
    obtain ⟨k, hkl, rfl, hown, hkp, hgb⟩ := hrel
    have hc1 := hkp.cell hc0 (fun h => h)
    by_cases hlt : k < L
    · have i1 : (k : Int) < L := by omega
      have hone : ∀ u ∈ [Value.int .i64 (k : Int)], u.oneCell' = true := fun u hu => by simp at hu; subst hu; rfl
      have hkal := (Kp.refl (fun _ => False) wr).alloc (.cells #[.int .i64 (k : Int)] 3)
      have hrd := Rd.new wr [.int .i64 (k : Int)] 3
      obtain ⟨v', w3, hrun, hv3, hk3, hat3, _⟩ := run_append_at (P := Try.prog) (t := 24) (tx := 24) (ty := 24) (wr.alloc (.cells #[.int .i64 (k : Int)] 3)) Try.underlying24 elem_i64 Try.underlying24
        (hown.kp hkal (fun _ _ h => h)) (a := some ⟨wr.heap.size, 0, none⟩) (m := 1) (c := 1) (news := [.int .i64 (k : Int)]) (by simp) hrd hone (by unfold maxLen; omega) (by omega)
      obtain ⟨va, vc, rfl, _, _⟩ := hown.form
      obtain ⟨va', vc', rfl, _, _⟩ := hv3.form
      have Hrun := Lib.hid hrun
      have hfin : Hid (Own w3 (.slice va' (k + 1) vc') (k + 1) 1 (nums (List.range (k + 1))) ∧ Kp (fun _ => False) w0 w3 ∧ ∀ g, (Value.slice va' (k + 1) vc').ownBlock = some g → w0.heap.size ≤ g) := by
        refine ⟨?_, (hkp.alloc _).then hk3 (fun i hi e => ?_), fun g hg => ?_⟩
        · have e : nums (List.range (k + 1)) = nums (List.range k) ++ [.int .i64 (k : Int)] := by simp [nums, List.range_succ]
          rw [e]; exact hv3
        · have := hgb i e
          omega
        · rcases hat3 with e | e
          · exact hgb g (e ▸ hg)
          · rw [e] at hg
            obtain rfl := Option.some.inj hg
            have := hkp.size
            simp; omega
      clear hown hkp hgb hrun hrd hk3 hat3 hv3 hkal hc0 hf0
      go_wp2_with (at_builtin; refine wpList_append_run _ Hrun.out rfl rfl rfl rfl ?_)
      go_roundw
      case rel => exact ⟨k + 1, by omega, by go_num, hfin.out.1, hfin.out.2.1, hfin.out.2.2⟩
      case measure => simp [intOf]; omega
    · obtain rfl : k = L := by omega
      rcases hown.2 with ⟨_, h⟩ | ⟨g, cap, sp, rfl, hat, hsp, hcap, hcm⟩
      · omega
      have hge := hgb g (by simp [Value.ownBlock])
      have hsz := HB.out.2.2
      have hkw := HB.out.2.1.trans hkp
      have hLr : (List.range k).length = k := List.length_range
      have CS := sort_short g cap w.heap.size k (List.range k) sp wr (fun x y => cmpI (l.getD x 0) (l.getD y 0)) hat (by rw [hLr]; exact h0) (by rw [hLr]; exact hl) (fun x hx => by simpa using hx)
        (fun w' x y hk' hx hy => by
          have hk2 : Kp (fun _ => False) w w' := hkw.then hk' (fun i hi e => by omega)
          have := cmp_any w.heap.size a c l x y w' (by rw [← HL.out]; exact (hk'.at (hkp.at HB.out.1 (fun h => h)) (by omega)).cell 0) (HR.out.kp0 hk2 (fun _ _ h => h)) (by rw [← HL.out]; exact hx) (by rw [← HL.out]; exact hy) (by rw [← HL.out]; omega)
          exact this)
      rw [hLr] at CS
      have CSH := Lib.hid CS
      have eO : isort (fun x y => decide (cmpI (l.getD x 0) (l.getD y 0) < 0)) (List.range k) = orderF l := by unfold orderF; rw [← HL.out]
      rw [eO] at CSH
      have hOl : (orderF l).length = k := by rw [← eO, isort_len, hLr]
      have HO := Lib.hid (And.intro hOl (And.intro hsp (And.intro hcap hcm)))
      have HK := Lib.hid (And.intro hkw hge)
      have HSZ := Lib.hid hsz
      clear CS hown hat hsp hcap hcm hkp hgb hge hkw hOl hLr eO hc1 hsz
      go_wp2_with (go_at_call 48; refine CSH.out.mono ?_; rintro e w4 ⟨rfl, h4, k4⟩; have H4 := Lib.hid (And.intro h4 k4); clear h4 k4)
      go_ret
      refine ⟨_, rfl, ⟨by simp [nums, HO.out.1], .inr ⟨g, cap, sp, rfl, H4.out.1, HO.out.2.1, HO.out.2.2.1, HO.out.2.2.2⟩⟩, fun g' hg' => ?_, ?_⟩
      · have : g = g' := by simpa [Value.ownBlock] using hg'
        have := HK.out.2; have := HSZ.out; omega
      · exact HK.out.1.then H4.out.2 (fun i hi e => by have := HK.out.2; have := HSZ.out; omega)
end Go.Proofs.Ytaibdkdmilhloaa
