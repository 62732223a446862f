/- Package net: First. -/
import Derived.Test.YtgcgcdgjooaipaaNetA
namespace Go.Proofs.Ytgcgcdgjooaipaa
open Go.RowKit
set_option linter.unusedVariables false
set_option linter.unusedSimpArgs false
attribute [local go_sem] Oper.semAt_some
/-- The first link to an end. -/
def firstOf : List Nd → Int → Int → Int
  | [], _, _ => -1
  | d :: r, to, k => if d.to = to then k else firstOf r to (k + 1)
theorem firstOf_at : ∀ (nds : List Nd) (to k : Int) (i : Nat), i < nds.length → (∀ j, j < i → (nd nds j).to ≠ to) → (nd nds i).to = to → firstOf nds to k = k + i
  | [], _, _, i, h, _, _ => absurd h (Nat.not_lt_zero _)
  | d :: r, to, k, 0, _, _, h => by unfold firstOf; rw [if_pos (show d.to = to from h)]; omega
  | d :: r, to, k, i + 1, h, hj, he => by
    unfold firstOf
    rw [if_neg (show ¬ d.to = to from hj 0 (by omega)), firstOf_at r to (k + 1) i (by simpa using h) (fun j hj' => hj (j + 1) (by omega)) he]
    omega
theorem firstOf_no : ∀ (nds : List Nd) (to k : Int), (∀ j, j < nds.length → (nd nds j).to ≠ to) → firstOf nds to k = -1
  | [], _, _, _ => rfl
  | d :: r, to, k, h => by
    unfold firstOf
    rw [if_neg (show ¬ d.to = to from h 0 (by simp)), firstOf_no r to (k + 1) (fun j hj => h (j + 1) (by simpa using hj))]
set_option maxHeartbeats 1000000 in
theorem first_any (nb mb : Nat) (nds : List Nd) (n lost to : Int) (w : World) (h : NetC w nb nds n mb lost) (hn : nds.length ≤ 10000) :
    Calls Try.prog 14 #[.pointer (some ⟨nb, 0, none⟩), .int .i64 to] w fun e w' => e = .returned (.int .i64 (firstOf nds to 0)) ∧ Kp (fun _ => False) w w' := by
  have c0 : w.cell? ⟨nb, 0, none⟩ = some (.bool true) := (h.hat.cell 0).trans rfl
  have hlt := h.hat.lt
  have HN := Lib.hid (fun w' (k : Kp (fun _ => False) w w') => none_at nb w' (k.cell c0 (fun h => h)))
  have H := Lib.hid h
  clear h
  refine (callsIn_wide (n := 5)).1 ?_
  refine callsIn_of_wp_marks Try.func14 rfl trivial ?_ rfl
  simp only [Try.ntmps14, List.size_toArray, List.length_cons, List.length_nil, Nat.reduceAdd, Nat.reduceSub, Array.replicate_succ, Array.replicate_zero, List.push_toArray, List.append_toArray, List.nil_append, List.cons_append]
  refine wpIn_wide.2 ?_
  go_upto_region 4 with (go_at_call 31; (with_reducible refine (HN.out _ (((Kp.refl _ w).alloc _).alloc _)).mono ?_); rintro e w' ⟨rfl, rfl⟩)
  refine wp_world (fun wx => At wx w.heap.size [.int .i64 to] ∧ At wx (w.heap.size + 1) [.int .i64 0] ∧ At wx (w.heap.size + 1 + 1) [.int .i64 0] ∧ Kp (fun _ => False) w wx ∧ wx.heap.size = w.heap.size + 3) ⟨((At.new w [.int .i64 to] 3).alloc _).alloc _,
    by have := At.new (w.alloc (.cells #[.int .i64 to] 3)) [.int .i64 0] 3; rw [World.size_alloc] at this; exact this.alloc _,
    by have := At.new ((w.alloc (.cells #[.int .i64 to] 3)).alloc (.cells #[.int .i64 0] 3)) [.int .i64 0] 3; rw [World.size_alloc, World.size_alloc] at this; exact this, ((((Kp.refl _ w).alloc _).alloc _).alloc _), by simp⟩ ?_
  rintro w4 ⟨q1, q2, q3, k4, s4⟩
  have H4 := Lib.hid (And.intro q1 (And.intro q2 (And.intro q3 (And.intro k4 s4))))
  clear q1 q2 q3 k4 s4
  go_wp2_with (go_at_call 36; (with_reducible refine (all_any _ _).mono ?_); rintro e w5 ⟨rfl, p1, k5⟩; have H5 := Lib.hid (And.intro p1 k5); clear p1 k5)
  have hN5 := H.out.kp (H4.out.2.2.2.1.trans H5.out.2) (fun _ _ h => h)
  have hsz : w.heap.size + 3 ≤ w4.heap.size := by have := H4.out.2.2.2.2; omega
  have hsz5 := H5.out.1.lt
  refine (wpIn_wide (n := 5)).1 ?_
  refine wpIn_rng (S := fun _ => False) rfl (by omega) (gf := 49) (lb := #[.pointer (some ⟨w4.heap.size, 0, none⟩)]) rfl trivial (enters_of Try.func49 (by kernel_rfl) rfl)
    (all_gives 4 (by omega) w4.heap.size nb mb nds n lost) (fun h => h ▸ Kp.refl _ _) (fun i hi => hi.elim) (fun _ => rfl)
    (fun pre W => At W w.heap.size [.int .i64 to] ∧ At W (w.heap.size + 1) [.int .i64 0] ∧ At W (w.heap.size + 1 + 1) [.int .i64 (pre.length : Nat)] ∧ (∀ j, j < pre.length → (nd nds j).to ≠ to) ∧ Kp (fun j => j = w.heap.size + 1 + 1) w5 W)
    (fun c pre W => c = .ret ∧ At W (w.heap.size + 1) [.int .i64 (firstOf nds to 0)] ∧ Kp (fun j => j = w.heap.size + 1 ∨ j = w.heap.size + 1 + 1) w5 W)
    ?hI ?hIx ?hT (fun _ _ _ h _ => h) (fun s A A' h k => k ▸ h) (fun c s A A' h k => k ▸ h) ?h0 ?hT0
    (fun x => { tmps := #[.pointer (some ⟨nb, 0, none⟩), .int .i64 to, undef, .pointer (some ⟨w.heap.size, 0, none⟩), .pointer (some ⟨w.heap.size + 1, 0, none⟩), .pointer (some ⟨w.heap.size + 1 + 1, 0, none⟩), undef, .pointer (some ⟨(nd nds x).g, 0, none⟩),
      .pointer (some ⟨nb, 0, none⟩), .bool false, .pointer (some ⟨nb, 0, none⟩),
      .func (.func 49) #[] #[.pointer (some ⟨w4.heap.size, 0, none⟩)], .pointer (some ⟨pB nb nds x, pO x, none⟩), .pointer (some ⟨(nd nds x).g, 0, none⟩), undef, undef, undef, undef, undef, undef, undef, undef, undef, undef], defers := [] }) ?assign ?body ?done ?stop
  case hI =>
    rintro pre A' A'' ⟨h1, h2, h3, h4, h5⟩ k
    exact ⟨k.at h1 (NC.not h1), k.at h2 (NC.not h2), k.at h3 (NC.not h3), h4, h5.then k (fun j hj e => by have := e.1; omega)⟩
  case hIx =>
    rintro c pre A' A'' ⟨h1, h2, h3⟩ k
    exact ⟨h1, k.at h2 (NC.not h2), h3.then k (fun j hj e => by have := e.1; omega)⟩
  case hT => exact fun pre A' A'' h k => h.abd k hsz5
  case h0 => exact ⟨H5.out.2.at H4.out.1 (fun h => h), H5.out.2.at H4.out.2.1 (fun h => h), H5.out.2.at H4.out.2.2.1 (fun h => h), fun j hj => absurd hj (Nat.not_lt_zero _), Kp.refl _ _⟩
  case hT0 => exact ⟨(H5.out.1.cell 0).trans rfl, hN5⟩
  case assign =>
    intro yl x W K hK
    unfold encN
    gi_wp2
    exact hK
  case body =>
    rintro yl pre x W hpre ⟨hat, har, hac, hnot, hkp⟩ ht
    obtain ⟨rfl, hx⟩ := range_pre hpre
    have hlen : (pre ++ [pre.length]).length = pre.length + 1 := by simp
    have hwi : w.heap.size + 2 < w5.heap.size := by omega
    have hnode := ht.2.node _ hx
    have xt : W.cell? ⟨(nd nds pre.length).g, 1, none⟩ = some (.int .i64 (nd nds pre.length).to) := (hnode.cell 1).trans rfl
    have xo : W.cell? ⟨w.heap.size, 0, none⟩ = some (.int .i64 to) := (hat.cell 0).trans rfl
    have xc : W.cell? ⟨w.heap.size + 1 + 1, 0, none⟩ = some (.int .i64 (pre.length : Nat)) := (hac.cell 0).trans rfl
    have fr := har.frozen 0
    have fc := hac.frozen 0
    have hpl : pre.length ≤ 10000 := by omega
    have HK := Lib.hid (And.intro hat (And.intro har (And.intro hac (And.intro hnot (And.intro hkp ht)))))
    obtain ⟨dto, hdto⟩ : ∃ t, t = (nd nds pre.length).to := ⟨_, rfl⟩
    rw [← hdto] at xt
    have HD := Lib.hid hdto
    clear hat har hac hnot hkp ht hnode hdto
    gi_wp2
    refine region_L_in (S := fun w' => w'.cell? ⟨(nd nds pre.length).g, 1, none⟩ = some (.int .i64 dto) ∧ w'.cell? ⟨w.heap.size, 0, none⟩ = some (.int .i64 to)) [] rfl (by kernel_rfl) (fun ⟨_, _, h⟩ => h) ?_
    have hSd : ∀ (w' : World) (n' : Nat), (w'.cell? ⟨(nd nds pre.length).g, 1, none⟩ = some (.int .i64 dto) ∧ w'.cell? ⟨w.heap.size, 0, none⟩ = some (.int .i64 to)) → ((w'.drewN n').cell? ⟨(nd nds pre.length).g, 1, none⟩ = some (.int .i64 dto) ∧ (w'.drewN n').cell? ⟨w.heap.size, 0, none⟩ = some (.int .i64 to)) := fun w' n' h => h
    have hS1 : W.drew.cell? ⟨(nd nds pre.length).g, 1, none⟩ = some (.int .i64 dto) ∧ W.drew.cell? ⟨w.heap.size, 0, none⟩ = some (.int .i64 to) := ⟨xt, xo⟩
    refine anyL_takeF (i := 0) (d := 14) (v := (.pointer (some ⟨(nd nds pre.length).g, 0, none⟩))) rfl rfl (by kernel_rfl) (by kernel_rfl) (by kernel_rfl) (fun _ _ _ h => h) hSd (by kernel_rfl) (.inl (.inl ⟨rfl, fun w' hS => rfl⟩)) (fun _ => hS1) ?_
    try simp only [List.setIfInBounds_toArray, List.set_cons_succ, List.set_cons_zero]
    refine anyL_takeF (i := 1) (d := 15) (v := (.pointer (some ⟨(nd nds pre.length).g, 0, none⟩))) rfl rfl (by kernel_rfl) (by kernel_rfl) (by kernel_rfl) (fun _ _ _ h => h) hSd (by kernel_rfl) (.inl (.inl ⟨rfl, fun w' hS => by go_simp⟩)) (fun _ => hS1) ?_
    try simp only [List.setIfInBounds_toArray, List.set_cons_succ, List.set_cons_zero]
    refine anyL_takeF (i := 2) (d := 16) (v := (.pointer (some ⟨(nd nds pre.length).g, 0, none⟩))) rfl rfl (by kernel_rfl) (by kernel_rfl) (by kernel_rfl) (fun _ _ _ h => h) hSd (by kernel_rfl) (.inl (.inl ⟨rfl, fun w' hS => by go_simp⟩)) (fun _ => hS1) ?_
    try simp only [List.setIfInBounds_toArray, List.set_cons_succ, List.set_cons_zero]
    refine anyL_takeF (i := 3) (d := 17) (v := (.pointer (some ⟨(nd nds pre.length).g, 1, none⟩))) rfl rfl (by kernel_rfl) (by kernel_rfl) (by kernel_rfl) (fun _ _ _ h => h) hSd (by kernel_rfl) (.inl (.inl ⟨rfl, fun w' hS => by go_simp⟩)) (fun _ => hS1) ?_
    try simp only [List.setIfInBounds_toArray, List.set_cons_succ, List.set_cons_zero]
    refine anyL_takeD (i := 4) (d := 18) (v := (.int .i64 dto)) rfl rfl (by kernel_rfl) (by kernel_rfl) (by kernel_rfl) (fun _ _ _ h => h) hSd (by kernel_rfl) (.inl (.inl ⟨rfl, fun w' hS => by have hc := hS.1; go_simp⟩)) hS1 ?_
    try simp only [List.setIfInBounds_toArray, List.set_cons_succ, List.set_cons_zero]
    refine anyL_takeD (i := 5) (d := 19) (v := (.int .i64 to)) rfl rfl (by kernel_rfl) (by kernel_rfl) (by kernel_rfl) (fun _ _ _ h => h) hSd (by kernel_rfl) (.inl (.inl ⟨rfl, fun w' hS => by have hc := hS.2; go_simp⟩)) hS1 ?_
    try simp only [List.setIfInBounds_toArray, List.set_cons_succ, List.set_cons_zero]
    refine anyL_takeF (i := 6) (d := 20) (v := (.bool (dto == to))) rfl rfl (by kernel_rfl) (by kernel_rfl) (by kernel_rfl) (fun _ _ _ h => h) hSd (by kernel_rfl) (.inl (.inl ⟨rfl, fun w' hS => by go_simp⟩)) (fun _ => hS1) ?_
    try simp only [List.setIfInBounds_toArray, List.set_cons_succ, List.set_cons_zero]
    refine anyL_done (by kernel_rfl) (fun nn => ?_) _
    have kd : Kp (fun _ => False) W (W.drew.drewN nn) := ((Kp.refl _ W).drew).drewN nn
    generalize W.drew.drewN nn = W2 at *
    have har2 := kd.at HK.out.2.1 (fun h => h)
    have hac2 := kd.at HK.out.2.2.1 (fun h => h)
    have xc2 : W2.cell? ⟨w.heap.size + 1 + 1, 0, none⟩ = some (.int .i64 (pre.length : Nat)) := (hac2.cell 0).trans rfl
    have xr2 : W2.cell? ⟨w.heap.size + 1, 0, none⟩ = some (.int .i64 0) := (har2.cell 0).trans rfl
    have fr2 := har2.frozen 0
    have fc2 := hac2.frozen 0
    have HK2 := Lib.hid (And.intro har2 (And.intro hac2 kd))
    clear har2 hac2 kd hSd hS1 xt xo xc fr fc
    cases hb : (dto == to)
    · have hne : dto ≠ to := by simpa using hb
      have HNE := Lib.hid hne
      clear hb hne
      gi_wp2
      have k1 := (Kp.refl (fun j => j = w.heap.size + 1 + 1) W2).setCell (p := ⟨w.heap.size + 1 + 1, 0, none⟩) (fun _ => rfl) (.int .i64 ((pre.length : Int) + 1))
      have kW := (HK2.out.2.2.mono (S' := fun j => j = w.heap.size + 1 + 1) (fun _ _ h => h.elim)).trans k1
      refine ⟨KeepsFrom.of_kp kW (fun j hj => .inl (by omega)), ⟨kW.at HK.out.1 (by omega), kW.at HK.out.2.1 (by omega), ?_, ?_, HK.out.2.2.2.2.1.trans kW⟩, HK.out.2.2.2.2.2.kp kW (by omega) ?_⟩
      · rw [hlen]
        exact HK2.out.2.1.set 0 (.int .i64 ((pre.length : Int) + 1))
      · rw [hlen]
        intro j hj
        rcases Nat.lt_or_ge j pre.length with hlt' | hge
        · exact HK.out.2.2.2.1 j hlt'
        · obtain rfl : j = pre.length := by omega
          rw [← HD.out]; exact HNE.out
      · intro b hb e
        have := H.out.lt hb
        omega
    · have heq : dto = to := by simpa using hb
      have HNE := Lib.hid heq
      clear hb heq
      gi_wp2
      have k1 := (Kp.refl (fun j => j = w.heap.size + 1 ∨ j = w.heap.size + 1 + 1) W2).setCell (p := ⟨w.heap.size + 1, 0, none⟩) (fun _ => .inl rfl) (.int .i64 (pre.length : Nat))
      have kW := (HK2.out.2.2.mono (S' := fun j => j = w.heap.size + 1 ∨ j = w.heap.size + 1 + 1) (fun _ _ h => h.elim)).trans k1
      refine ⟨KeepsFrom.of_kp kW (fun j hj => .inl (by omega)), rfl, ?_, (HK.out.2.2.2.2.1.mono (fun _ _ h => .inr h)).trans kW⟩
      have e := firstOf_at nds to 0 pre.length hx HK.out.2.2.2.1 (by rw [← HD.out]; exact HNE.out)
      rw [e, Int.zero_add]
      exact HK2.out.1.set 0 _
  case done =>
    rintro D W hD ⟨h1, h2, h3, h4, h5⟩ _ hd
    have fr := h2.frozen 0
    have cr : W.cell? ⟨w.heap.size + 1, 0, none⟩ = some (.int .i64 0) := (h2.cell 0).trans rfl
    have e := firstOf_no nds to 0 (by simpa using h4)
    have hlt5 : w.heap.size + 1 < D := by omega
    have k5 := h5
    have H2 := Lib.hid (And.intro h2 h5)
    have HE := Lib.hid e
    clear h1 h2 h3 h4 h5 k5 e
    go_wp2
    have k1 := (Kp.refl (fun j => j = w.heap.size + 1) W).setCell (p := ⟨w.heap.size + 1, 0, none⟩) (fun _ => rfl) (.int .i64 (-1))
    have hd1 := (KeepsFrom.of_kp (B := D) k1 (fun j hj => .inl (by omega))).same D _ (Nat.le_refl _) hd rfl
    have kx := Kp.putNC hD hd1 rfl (.deferred none)
    have h2' := H2.out.1.set 0 (.int .i64 (-1))
    refine ⟨by simp, .inl ⟨_, _, rfl, run_takeDeferred hd1, ?_⟩⟩
    refine ⟨_, results_cell_one rfl _ _ _ _ _ _ rfl (((kx.at h2' (NC.not h2')).cell 0).trans rfl) Try.underlying3 rfl, by rw [HE.out], ?_⟩
    exact (((H4.out.2.2.2.1.trans H5.out.2).then (H2.out.2.mono (S' := fun j => j = w.heap.size + 1 ∨ j = w.heap.size + 1 + 1) (fun _ _ h => .inr h) |>.trans (k1.mono (fun _ _ h => .inl h))) (fun j hj e => by omega)).thenNC kx (by have := H4.out.2.2.2.1.size; have := H5.out.2.size; omega))
  case stop =>
    rintro D c pre W hD hpre ⟨rfl, h2, h3⟩ hd
    refine wpIn_wide.2 ?_
    go_wp2
    have kx := Kp.putNC hD hd rfl (.deferred none)
    refine ⟨by simp, .inl ⟨_, _, rfl, run_takeDeferred hd, ?_⟩⟩
    refine ⟨_, results_cell_one rfl _ _ _ _ _ _ rfl (((kx.at h2 (NC.not h2)).cell 0).trans rfl) Try.underlying3 rfl, rfl, ?_⟩
    exact (((H4.out.2.2.2.1.trans H5.out.2).then h3 (fun j hj e => by omega)).thenNC kx (by have := H4.out.2.2.2.1.size; have := H5.out.2.size; omega))
end Go.Proofs.Ytgcgcdgjooaipaa
