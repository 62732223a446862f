/- The walk of RatioOrders: it returns true, whatever comes in. No condition. -/
import Derived.Test.YtdeallaohfbceaaRatO
import Derived.Test.YtdeallaohfbceaaRatioPlaces
import Derived.Test.YtdeallaohfbceaaRatioBetween
import Derived.Test.YtdeallaohfbceaaRatK
namespace Go.Proofs.Ytdeallaohfbceaa
open Go.RowKit Flt
set_option linter.unusedVariables false
theorem elem_f64 : Elem Try.prog 22 (.float .f64 0) 1 8 := Elem.mk' (by kernel_rfl) rfl (by omega) (by simp [Value.cells, Value.oneCell'])
theorem RdF.of_rd {w : World} {a : Option Addr} {l : List Nat} (h : Rd w a (l.map (Value.float .f64))) : RdF w a l := fun i hi => by
  obtain ⟨b, off, e1, e2⟩ := h i (by simpa using hi)
  refine ⟨b, off, e1, ?_⟩
  rw [e2]
  simp [List.getD_eq_getElem?_getD, hi]
theorem RdF.rd {w : World} {a : Option Addr} {l : List Nat} (h : RdF w a l) : Rd w a (l.map (Value.float .f64)) := fun i hi => by
  have hi' : i < l.length := by simpa using hi
  obtain ⟨b, off, e1, e2⟩ := h i hi'
  refine ⟨b, off, e1, ?_⟩
  rw [e2]
  simp [List.getD_eq_getElem?_getD, hi']
theorem order_all (a : Option Addr) (c : Nat) (l : List Nat) (w : World) (hr : RdF w a l) (hl : l.length ≤ 1000000) :
    Calls Try.prog 24 #[.slice a l.length c] w fun e w' => ∃ va vc W, e = .returned (.slice va l.length vc) ∧ W.Pairwise (Rr (ltF l)) ∧ W.Perm (List.range l.length) ∧ Rd w' va (nums W) ∧ Kp (fun _ => False) w w' := by
  rcases Nat.eq_zero_or_pos l.length with h | h
  · have hl0 : l = [] := List.eq_nil_of_length_eq_zero h
    subst hl0
    refine (order_nil a c w).mono ?_
    rintro e w' ⟨rfl, k⟩
    exact ⟨none, 0, [], rfl, List.Pairwise.nil, List.Perm.refl _, fun i hi => by simp [nums] at hi, k⟩
  · refine (order_pos a c l w hr h hl).mono ?_
    rintro e w' ⟨v, W, rfl, p1, p2, hv, _, k⟩
    obtain ⟨va, vc, rfl, _⟩ := hv.form
    exact ⟨va, vc, W, rfl, p1, p2, hv.rd, k⟩
set_option maxRecDepth 20000 in
set_option maxHeartbeats 1000000 in
theorem orders_main (x y : Nat) (a : Option Addr) (c : Nat) (l : List Nat) (w : World) (hr : RdF w a l) (hl : l.length ≤ 200) :
    Calls Try.prog 7 #[.float .f64 x, .float .f64 y, .slice a l.length c] w fun e w' => e = .returned (.bool true) ∧ Below w.heap.size w w' := by
  have hown : Own (w.alloc (.cells #[] 22)) (.slice (some ⟨w.heap.size, 0, none⟩) 0 0) 0 1 [] := ⟨rfl, .inr ⟨w.heap.size, 0, [], rfl, At.new w [] 22, rfl, by omega, by unfold maxLen; omega⟩⟩
  have hk1 : Kp (fun _ => False) w (w.alloc (.cells #[] 22)) := (Kp.refl _ w).alloc _
  obtain ⟨v', w3, hrun, hv3, hk3, _, _⟩ := run_append_at (P := Try.prog) (t := 33) (tx := 33) (ty := 33) (w.alloc (.cells #[] 22)) Try.underlying33 elem_f64 Try.underlying33
    hown (a := a) (m := l.length) (c := c) (news := l.map (Value.float .f64)) (by simp) ((hr.kp0 hk1 (fun _ _ h => h)).rd) (fun u hu => by
      obtain ⟨z, _, rfl⟩ := List.mem_map.1 hu
      rfl) (by unfold maxLen; omega) (by omega)
  rw [Nat.zero_add, List.nil_append] at hv3
  obtain ⟨va, vc, rfl, _, _⟩ := hv3.form
  have kw3 : Kp (fun _ => False) w w3 := hk1.then hk3 (fun i hi e => by
    have : w.heap.size = i := by simpa [Value.ownBlock] using e
    omega)
  have Hrun := Lib.hid hrun
  have HI := Lib.hid (And.intro (RdF.of_rd hv3.rd) (And.intro kw3 hr))
  obtain ⟨n, hn⟩ : ∃ n, n = l.length := ⟨_, rfl⟩
  have CA := Lib.hid (fun w' => awake_any w')
  have CB := Lib.hid (fun w' => before_any x y w')
  have CBR := Lib.hid (fun w' => rbefore_any x y w')
  have CP := Lib.hid (fun w' h => pick_any va vc l w' h (by omega))
  have CPR := Lib.hid (fun w' h => rpick_any a c l w' h (by omega))
  have CO := Lib.hid (fun w' h => order_all va vc l w' h (by omega))
  have COR := Lib.hid (fun w' h W h1 h2 => rorder_any a c l w' h (by omega) W h1 h2)
  have CS := Lib.hid (fun a b c c' (W : List Nat) (hWn : W.length = l.length) w' h1 h2 => (by
    have := sameints_eq a b c c' W w' h1 h2 (by omega)
    rwa [hWn] at this : Calls Try.prog 23 #[.slice a l.length c, .slice b l.length c'] w' fun e w'' => e = .returned (.bool true) ∧ ∃ k, w'' = w'.drewN k))
  have HN := Lib.hid hn
  generalize pickAt l l.length = pk at *
  rw [← hn] at hl Hrun CP CPR CO COR CS ⊢
  generalize bef x y = bb at *
  have i1 : ¬ (200 : Int) < (n : Int) := by omega
  clear hown hk1 hrun hv3 hk3 kw3 hr hn
  go_enter Try.func7, Try.ntmps7
  go_wp2_with (first | (at_builtin; refine wpList_append_run _ Hrun.out rfl rfl rfl rfl ?_) | (go_at_call 11; (with_reducible refine (CB.out _).mono ?_); rintro e wz ⟨rfl, rfl⟩) | (go_at_call 20; (with_reducible refine (CBR.out _).mono ?_); rintro e wz ⟨rfl, rfl⟩) | (go_at_call 21; (with_reducible refine (CP.out _ HI.out.1).mono ?_); rintro e wz ⟨rfl, rfl⟩) | (go_at_call 22; (with_reducible refine (CPR.out _ (HI.out.2.2.kp0 HI.out.2.1 (fun _ _ h => h))).mono ?_); rintro e wp ⟨rfl, kz, rfl⟩) | (go_at_call 24; (with_reducible refine (CO.out _ (HI.out.1.kp0 ((Kp.refl (fun _ => False) _).drewN _) (fun _ _ h => h))).mono ?_); rintro e wo ⟨oa, oc, W, rfl, p1, p2, p3, ko⟩; have HO := Lib.hid (And.intro p1 (And.intro p2 (And.intro p3 ko))); clear p1 p2 p3 ko) | (go_at_call 25; (with_reducible refine (COR.out _ (HI.out.2.2.kp0 ((HI.out.2.1.drewN _).trans HO.out.2.2.2) (fun _ _ h => h)) W HO.out.1 HO.out.2.1).mono ?_); rintro e wq ⟨qa, qc, rfl, p3, kq⟩; have HQ := Lib.hid (And.intro p3 (And.intro kq (HO.out.2.2.1.kp kq (fun _ _ h => h)))); have HWL : W.length = n := (by rw [HO.out.2.1.length_eq, List.length_range]); have HWLH := Lib.hid HWL; clear p3 kq HWL) | (go_at_call 23; (with_reducible refine (CS.out _ _ _ _ W HWLH.out _ HQ.out.2.2 HQ.out.1).mono ?_); rintro e wz ⟨rfl, kz, rfl⟩))
  refine wp_world (fun wx => Kp (fun _ => False) w3 wx) (((((Kp.refl _ w3).drewN _).trans HO.out.2.2.2).trans HQ.out.2.1).drewN _) ?_
  intro w7 k7
  have H7 := Lib.hid (And.intro (HI.out.1.kp0 k7 (fun _ _ h => h)) (And.intro (HI.out.2.2.kp0 (HI.out.2.1.trans k7) (fun _ _ h => h)) (HI.out.2.1.trans k7)))
  clear k7
  go_loopw [8, 9] (fun f i wr => ∃ k : Nat, k ≤ n ∧ f = .bool true ∧ i = .int .i64 (k : Nat) ∧ ∃ q, wr = w7.drewN q) (fun _ i _ => n - (intOf i).toNat)
  case atStart => exact ⟨0, by omega, rfl, rfl, 0, rfl⟩
  case round =>
    obtain ⟨k, hkn, rfl, rfl, q, rfl⟩ := hrel
    by_cases hlt : k < n
    · have i2 : (k : Int) < (n : Int) := by omega
      obtain ⟨b1, o1, rfl, c1⟩ := H7.out.1 k (by rw [← HN.out]; exact hlt)
      obtain ⟨b2, o2, rfl, c2⟩ := H7.out.2.1 k (by rw [← HN.out]; exact hlt)
      have c3 : (w7.drewN q).cell? ⟨b1, o1 + k, none⟩ = some (.float .f64 (l.getD k 0)) := c1
      have c4 : (w7.drewN q).cell? ⟨b2, o2 + k, none⟩ = some (.float .f64 (l.getD k 0)) := c2
      have HW : Hid (∃ q', w7.drewN q = w7.drewN q') := ⟨q, rfl⟩
      clear c1 c2
      generalize l.getD k 0 = z at *
      have CF := fun w' nn => Calls.quiet_of_same (n := nn) (Calls.turn (samefloat_same z (World.drewN w' nn)))
      generalize w7.drewN q = w8 at *
      go_upto_region 8 with fail
      go_quiet ((go_at_call 17; with_reducible exact CF _ _))
      go_wp2
      go_roundw
      case rel =>
        obtain ⟨q1, e1⟩ := HW.out
        exact ⟨k + 1, by omega, rfl, by go_num, _, by rw [e1]; exact World.drewN_drewN _ _ _⟩
      case measure => simp [intOf]; omega
    · obtain rfl : k = n := by omega
      go_wp2_with (go_at_call 10; refine (CA.out _).mono ?_; rintro e w9 ⟨rfl, k9⟩; have K9 := Lib.hid k9; clear k9)
      go_ret
      exact ⟨rfl, ((H7.out.2.2.drewN _).trans K9.out).below (fun _ _ h => h)⟩
theorem ratioOrders_walk (x y : Nat) (a2 : Option Addr) (len2 cap2 : Nat) (w : World) (r0 : Rdg Try.prog w 22 (Value.float .f64 x).cells.toList) (r1 : Rdg Try.prog w 22 (Value.float .f64 y).cells.toList) (r2 : Rdg Try.prog w 33 [.slice a2 len2 cap2]) :
    Calls Try.prog 7 #[.float .f64 x, .float .f64 y, .slice a2 len2 cap2] w fun e w' => e = .returned (.bool true) ∧ Below w.heap.size w w' := by
  obtain ⟨l, rfl, hr, _, _, _⟩ := open_floats r2
  clear r0 r1 r2
  by_cases h1 : 200 < l.length
  · have i1 : (200 : Int) < ((l.length : Nat) : Int) := by omega
    generalize l.length = n at *
    clear hr
    go_enter Try.func7, Try.ntmps7
    go_wp2
    go_ret
    exact ⟨rfl, Below.refl _ _⟩
  · exact orders_main x y a2 cap2 l w hr (by omega)
end Go.Proofs.Ytdeallaohfbceaa
