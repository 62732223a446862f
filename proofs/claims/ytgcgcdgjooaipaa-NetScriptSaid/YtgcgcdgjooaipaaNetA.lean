/- Package net: at. -/
import Derived.Test.YtgcgcdgjooaipaaNetI
import Derived.Test.YtgcgcdgjooaipaaRegL
import Derived.Test.YtgcgcdgjooaipaaNcl
import Derived.Test.YtgcgcdgjooaipaaRes
namespace Go.Proofs.Ytgcgcdgjooaipaa
open Go.RowKit
set_option linter.unusedVariables false
set_option linter.unusedSimpArgs false
attribute [local go_sem] Oper.semAt_some
theorem NetC.abd {w w' : World} {nb mb B : Nat} {nds : List Nd} {n lost : Int} (h : NetC w nb nds n mb lost) (k : Kp (NC B w) w w') : NetC w' nb nds n mb lost :=
  h.kp k (fun b hb => by
    rcases hb with rfl | ⟨i, hi, rfl | hb⟩
    · exact NC.not h.hat
    · exact NC.not (h.node i hi)
    · exact (h.own i hi).own.notNC b hb)
theorem TN.kp {S : Nat → Prop} {w w' : World} {bN nb mb : Nat} {nds : List Nd} {n lost : Int} (h : TN bN nb mb nds n lost w) (k : Kp S w w') (h1 : ¬ S bN) (h2 : ∀ b, Mine nb nds b → ¬ S b) : TN bN nb mb nds n lost w' :=
  ⟨k.cell h.1 h1, h.2.kp k h2⟩
theorem TN.abd {w w' : World} {bN nb mb B : Nat} {nds : List Nd} {n lost : Int} (h : TN bN nb mb nds n lost w) (k : Kp (NC B w) w w') (hb : bN < B) : TN bN nb mb nds n lost w' :=
  ⟨k.cell h.1 (fun e => by have := e.1; simp at this; omega), h.2.abd k⟩
set_option maxHeartbeats 1000000 in
theorem at_no (nb mb : Nat) (nds : List Nd) (lost i : Int) (w : World) (h : NetC w nb nds nds.length mb lost) (hn : nds.length ≤ 10000) (hi : i < 0 ∨ (nds.length : Int) ≤ i) :
    Calls Try.prog 38 #[.pointer (some ⟨nb, 0, none⟩), .int .i64 i] w fun e w' => e = .returned (.pointer none) ∧ Kp (fun _ => False) w w' := by
  have c5 : w.cell? ⟨nb, 5, none⟩ = some (.int .i64 (nds.length : Nat)) := (h.hat.cell 5).trans rfl
  have hlt := h.hat.lt
  generalize nds.length = len at *
  by_cases h0 : i < 0
  · go_enter Try.func38, Try.ntmps38
    go_wp2
    go_quiet (fail)
    go_wp2
    have e := At.cell (At.set (cs := [.pointer none]) (b := w.heap.size + 1) (by have := At.new (w.alloc (.cells #[.int .i64 i] 3)) [.pointer none] 56; rw [World.size_alloc] at this; exact this.drewN nq) 0 (.pointer none)) 0
    refine bodyPost_ret (results_cell_one rfl _ _ _ _ _ _ rfl e Try.underlying56 rfl) rfl ⟨rfl, ?_⟩
    exact (((((Kp.refl _ w).alloc _).alloc _).drewN nq).setCell (p := ⟨w.heap.size + 1, 0, none⟩) (fun h => absurd h (by simp)) _)
  · have h1 : (len : Int) ≤ i := by omega
    have h0' : decide (i < 0) = false := by simp; omega
    go_enter Try.func38, Try.ntmps38
    go_wp2
    go_quiet (fail)
    go_wp2
    have e := At.cell (At.set (cs := [.pointer none]) (b := w.heap.size + 1) (by have := At.new (w.alloc (.cells #[.int .i64 i] 3)) [.pointer none] 56; rw [World.size_alloc] at this; exact this.drewN nq) 0 (.pointer none)) 0
    refine bodyPost_ret (results_cell_one rfl _ _ _ _ _ _ rfl e Try.underlying56 rfl) rfl ⟨rfl, ?_⟩
    exact (((((Kp.refl _ w).alloc _).alloc _).drewN nq).setCell (p := ⟨w.heap.size + 1, 0, none⟩) (fun h => absurd h (by simp)) _)
set_option maxHeartbeats 1000000 in
theorem at_yes (nb mb : Nat) (nds : List Nd) (lost : Int) (i : Nat) (w : World) (h : NetC w nb nds nds.length mb lost) (hn : nds.length ≤ 10000) (hi : i < nds.length) :
    Calls Try.prog 38 #[.pointer (some ⟨nb, 0, none⟩), .int .i64 i] w fun e w' => e = .returned (.pointer (some ⟨pB nb nds i, pO i, none⟩)) ∧ Kp (fun _ => False) w w' := by
  have c5 : w.cell? ⟨nb, 5, none⟩ = some (.int .i64 (nds.length : Nat)) := (h.hat.cell 5).trans rfl
  have hlt := h.hat.lt
  obtain ⟨len, hlen⟩ : ∃ len, len = nds.length := ⟨_, rfl⟩
  have HL := Lib.hid hlen
  have H := Lib.hid h
  rw [← hlen] at hn c5 hi
  clear hlen h
  have h0' : decide ((i : Int) < 0) = false := by simp
  have h1 : decide (len ≤ i) = false := by simp; omega
  refine (callsIn_wide (n := 5)).1 ?_
  refine callsIn_of_wp_marks Try.func38 rfl trivial ?_ rfl
  simp only [Try.ntmps38, List.size_toArray, List.length_cons, List.length_nil, Nat.reduceAdd, Nat.reduceSub, Array.replicate_succ, Array.replicate_zero, List.push_toArray, List.append_toArray, List.nil_append, List.cons_append]
  refine wpIn_wide.2 ?_
  go_wp2
  go_quiet (fail)
  go_upto_region 3 with fail
  refine wp_world (fun wx => At wx w.heap.size [.int .i64 i] ∧ At wx (w.heap.size + 1) [.pointer none] ∧ Kp (fun _ => False) w wx ∧ wx.heap.size = w.heap.size + 2) ⟨((At.new w [.int .i64 i] 3).alloc _).drewN nq, by have := At.new (w.alloc (.cells #[.int .i64 i] 3)) [.pointer none] 56; rw [World.size_alloc] at this; exact this.drewN nq, (((Kp.refl _ w).alloc _).alloc _).drewN nq, by simp⟩ ?_
  rintro w4 ⟨q1, q2, k4, s4⟩
  have H4 := Lib.hid (And.intro q1 (And.intro q2 (And.intro k4 s4)))
  clear q1 q2 k4 s4
  go_wp2_with (go_at_call 36; (with_reducible refine (all_any _ _).mono ?_); rintro e w5 ⟨rfl, p1, k5⟩; have H5 := Lib.hid (And.intro p1 k5); clear p1 k5)
  have hN5 := H.out.kp (H4.out.2.2.1.trans H5.out.2) (fun _ _ h => h)
  have hsz : w.heap.size + 2 ≤ w4.heap.size := by have := H4.out.2.2.2; omega
  have hsz5 := H5.out.1.lt
  rw [← HL.out] at hN5
  refine (wpIn_wide (n := 5)).1 ?_
  refine wpIn_rng (S := fun _ => False) rfl (by omega) (gf := 49) (lb := #[.pointer (some ⟨w4.heap.size, 0, none⟩)]) rfl trivial (enters_of Try.func49 (by kernel_rfl) rfl)
    (all_gives 4 (by omega) w4.heap.size nb mb nds len lost) (fun h => h ▸ Kp.refl _ _) (fun i hi => hi.elim) (fun _ => rfl)
    (fun pre W => At W w.heap.size [.int .i64 ((i : Int) - (pre.length : Nat))] ∧ At W (w.heap.size + 1) [.pointer none] ∧ pre.length ≤ i ∧ Kp (fun j => j = w.heap.size) w5 W)
    (fun c pre W => c = .ret ∧ At W (w.heap.size + 1) [.pointer (some ⟨pB nb nds i, pO i, none⟩)] ∧ Kp (fun j => j = w.heap.size ∨ j = w.heap.size + 1) w5 W)
    ?hI ?hIx ?hT (fun _ _ _ h _ => h) (fun s A A' h k => k ▸ h) (fun c s A A' h k => k ▸ h) ?h0 ?hT0
    (fun x => { tmps := #[.pointer (some ⟨nb, 0, none⟩), .int .i64 i, undef, .pointer (some ⟨w.heap.size, 0, none⟩), .pointer (some ⟨w.heap.size + 1, 0, none⟩), .pointer (some ⟨pB nb nds x, pO x, none⟩),
      .int .i64 i, .bool false, .bool false, .int .i64 i, .pointer (some ⟨nb, 0, none⟩), .pointer (some ⟨nb, 0, none⟩), .pointer (some ⟨nb, 5, none⟩), .int .i64 len, .bool false, .bool false, .pointer (some ⟨nb, 0, none⟩),
      .func (.func 49) #[] #[.pointer (some ⟨w4.heap.size, 0, none⟩)], .pointer (some ⟨pB nb nds x, pO x, none⟩), .pointer (some ⟨(nd nds x).g, 0, none⟩), undef, undef, undef, undef, undef], defers := [] }) ?assign ?body ?done ?stop
  case hI =>
    rintro pre A' A'' ⟨h1, h2, h3, h4⟩ k
    exact ⟨k.at h1 (NC.not h1), k.at h2 (NC.not h2), h3, h4.then k (fun j hj e => by have := e.1; omega)⟩
  case hIx =>
    rintro c pre A' A'' ⟨h1, h2, h3⟩ k
    exact ⟨h1, k.at h2 (NC.not h2), h3.then k (fun j hj e => by have := e.1; omega)⟩
  case hT => exact fun pre A' A'' h k => h.abd k hsz5
  case h0 => exact ⟨by simpa using H5.out.2.at H4.out.1 (fun h => h), H5.out.2.at H4.out.2.1 (fun h => h), Nat.zero_le _, Kp.refl _ _⟩
  case hT0 => exact ⟨(H5.out.1.cell 0).trans rfl, hN5⟩
  case assign =>
    intro yl x W K hK
    unfold encN
    gi_wp2
    exact hK
  case body =>
    rintro yl pre x W hpre ⟨hai, har, hpl, hkp⟩ ht
    obtain ⟨rfl, hx⟩ := range_pre hpre
    have hlen : (pre ++ [pre.length]).length = pre.length + 1 := by simp
    have fr := har.frozen 0
    have fi := hai.frozen 0
    have cr := (har.cell 0).trans (show _ = some (Value.pointer none) from rfl)
    have hwi : w.heap.size < w5.heap.size := by omega
    by_cases he : pre.length = i
    · have xi : W.cell? ⟨w.heap.size, 0, none⟩ = some (.int .i64 0) := (hai.cell 0).trans (by rw [he]; simp)
      have HK := Lib.hid (And.intro har hkp)
      rw [he]
      clear hai har hkp hpl hlen ht hx hpre he
      gi_wp2
      have k1 := (Kp.refl (fun j => j = w.heap.size ∨ j = w.heap.size + 1) W).setCell (p := ⟨w.heap.size + 1, 0, none⟩) (fun _ => .inr rfl) (.pointer (some ⟨pB nb nds i, pO i, none⟩))
      exact ⟨KeepsFrom.of_kp k1 (fun j hj => .inl (by omega)), rfl, HK.out.1.set 0 _, (HK.out.2.mono (fun _ _ h => .inl h)).trans k1⟩
    · obtain ⟨z, hz⟩ : ∃ z : Int, z = (i : Int) - (pre.length : Nat) := ⟨_, rfl⟩
      have hz1 : (z == 0) = false := by simp; omega
      have hz2 : 1 ≤ z := by omega
      have hz3 : z ≤ 10000 := by omega
      have xi : W.cell? ⟨w.heap.size, 0, none⟩ = some (.int .i64 z) := (hai.cell 0).trans (by rw [hz]; rfl)
      have HK := Lib.hid (And.intro hai (And.intro har (And.intro hkp (And.intro ht (And.intro hz (show pre.length + 1 ≤ i by omega))))))
      clear hai har hkp hpl ht hx hpre he hz
      gi_wp2
      have k1 := (Kp.refl (fun j => j = w.heap.size) W).setCell (p := ⟨w.heap.size, 0, none⟩) (fun _ => rfl) (.int .i64 (z - 1))
      have h1 := HK.out.1.set 0 (.int .i64 (z - 1))
      refine ⟨KeepsFrom.of_kp k1 (fun j hj => .inl (by omega)), ⟨?_, k1.at HK.out.2.1 (by omega), by rw [hlen]; exact HK.out.2.2.2.2.2, HK.out.2.2.1.trans k1⟩, HK.out.2.2.2.1.kp k1 ?_ ?_⟩
      · rw [hlen]
        have e : (i : Int) - ((pre.length + 1 : Nat) : Int) = z - 1 := by have := HK.out.2.2.2.2.1; omega
        rw [e]; exact h1
      · omega
      · intro b hb e
        have := H.out.lt hb
        omega
  case done =>
    rintro D W _ ⟨_, _, h3, _⟩ _ _
    simp at h3
    have := HL.out
    omega
  case stop =>
    rintro D c pre W hD hpre ⟨rfl, h2, h3⟩ hd
    refine wpIn_wide.2 ?_
    go_wp2
    have kx := Kp.putNC hD hd rfl (.deferred none)
    refine ⟨by simp, .inl ⟨_, _, rfl, run_takeDeferred hd, ?_⟩⟩
    refine ⟨_, results_cell_one rfl _ _ _ _ _ _ rfl (((kx.at h2 (NC.not h2)).cell 0).trans rfl) Try.underlying56 rfl, rfl, ?_⟩
    exact (((H4.out.2.2.1.trans H5.out.2).then h3 (fun j hj e => by omega)).thenNC kx (by have := H4.out.2.2.1.size; have := H5.out.2.size; omega))
end Go.Proofs.Ytgcgcdgjooaipaa
