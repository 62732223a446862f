/- The document's cutter: Push, End. (Written by wip/chkpush.py.) -/
import Derived.Test.YtlabkldpcbmjbaaChkD
namespace Go.Proofs.Ytlabkldpcbmjbaa
open Go.RowKit
set_option linter.unusedVariables false
set_option linter.unusedSimpArgs false
/-- What two read, one behind the other, behind an empty row: bytes of the call's own. -/
theorem join_new {w : World} {y z : List Int} {a1 a3 : Option Addr} {n1 n3 c1 c3 : Nat} (h1 : RdB w a1 y) (h3 : RdB w a3 z) (e1 : n1 = y.length) (e3 : n3 = z.length) (hl : y.length + z.length ≤ 1000000) (L : Nat) (hL : L = (y ++ z).length) :
    ∃ v3 w3 A c w4, (Builtin.append_ #[22, 22] 22 #[.slice (some ⟨w.heap.size, 0, none⟩) 0 0, .slice a1 n1 c1]).run Try.prog (w.alloc (.cells #[] 5)) = .ok v3 w3 ∧ (Builtin.append_ #[22, 22] 22 #[v3, .slice a3 n3 c3]).run Try.prog w3 = .ok (.slice A L c) w4 ∧ RdB w4 A (y ++ z) ∧ L ≤ c ∧ c ≤ maxLen ∧
      (∀ x, A = some x → w.heap.size ≤ x.block ∧ x.block < w4.heap.size) ∧ Kp (fun _ => False) w w4 := by
  subst e1; subst e3
  have k1 := (Kp.refl (fun _ => False) w).alloc (.cells #[] 5)
  obtain ⟨v3, w3, r3, o3, k3, b3⟩ := run_append_b (P := Try.prog) (t := 22) (tx := 22) (ty := 22) (w.alloc (.cells #[] 5)) Try.underlying22 elem_u8 Try.underlying22 (ownb_new w _) (a := a1) (c := c1) (m := y) (h1.kp0 k1 (fun _ _ h => h)) (by simp; omega)
  rw [List.nil_append] at o3
  have kw3 : Kp (fun _ => False) w w3 := k1.then k3 (fun i hi e => by simp [Value.ownBlock] at e; omega)
  have hg3 : ∀ g, v3.ownBlock = some g → w.heap.size ≤ g := fun g hg' => by
    rcases b3 with e | e
    · rw [e] at hg'; simp [Value.ownBlock] at hg'; omega
    · rw [e] at hg'; simp at hg'; omega
  have hs3 := kw3.size
  obtain ⟨v4, w4, r4, o4, k4, b4⟩ := run_append_b (P := Try.prog) (t := 22) (tx := 22) (ty := 22) w3 Try.underlying22 elem_u8 Try.underlying22 o3 (a := a3) (c := c3) (m := z) (h3.kp0 kw3 (fun _ _ h => h)) (by omega)
  obtain ⟨A, c, e4, hr, hc⟩ := o4.form
  have hcm : c ≤ maxLen := by
    obtain ⟨A', c', e5, _, hm⟩ := o4.own.form
    rw [e4] at e5; simp only [Value.slice.injEq] at e5
    rw [e5.2.2]; exact hm
  have hlt := o4.lt
  subst hL
  subst e4
  refine ⟨v3, w3, A, c, w4, r3, r4, hr, hc, hcm, fun x hx => ?_, kw3.then k4 (fun i hi e => by have := hg3 i e; omega)⟩
  have hb : (Value.slice A (y ++ z).length c).ownBlock = some x.block := by rw [hx]; rfl
  refine ⟨?_, hlt _ hb⟩
  rcases b4 with e | e
  · exact hg3 _ (e ▸ hb)
  · rw [e] at hb; simp only [Option.some.injEq] at hb; omega
theorem rend_over (rb : Nat) (v : Value) (w : World) (hat : At w rb [v, .bool true]) :
    Calls Try.prog 23 #[.pointer (some ⟨rb, 0, none⟩)] w fun e w' => e = .returned (.tuple #[.slice none 0 0, .int .i64 9]) ∧ w = w' := by
  have c1 : w.cell? ⟨rb, 1, none⟩ = some (.bool true) := (hat.cell 1).trans rfl
  go_enter Try.func23, Try.ntmps23
  go_wp2
  go_ret2
  exact ⟨rfl, rfl⟩
theorem rpush_over (rb : Nat) (v : Value) (a : Option Addr) (n c : Nat) (w : World) (hat : At w rb [v, .bool true]) :
    Calls Try.prog 27 #[.pointer (some ⟨rb, 0, none⟩), .slice a n c] w fun e w' => e = .returned (.tuple #[.slice none 0 0, .int .i64 9]) ∧ w = w' := by
  have c1 : w.cell? ⟨rb, 1, none⟩ = some (.bool true) := (hat.cell 1).trans rfl
  go_enter Try.func27, Try.ntmps27
  go_wp2
  go_ret2
  exact ⟨rfl, rfl⟩
theorem rend_any (rb : Nat) (a : Option Addr) (n c : Nat) (w : World) (hat : At w rb [.slice a n c, .bool false]) :
    Calls Try.prog 23 #[.pointer (some ⟨rb, 0, none⟩)] w fun e w' => e = .returned (.tuple #[.slice a n c, .int .i64 0]) ∧ At w' rb [.slice none 0 0, .bool true] ∧ Kp (· = rb) w w' := by
  have c0 : w.cell? ⟨rb, 0, none⟩ = some (.slice a n c) := (hat.cell 0).trans rfl
  have c1 : w.cell? ⟨rb, 1, none⟩ = some (.bool false) := (hat.cell 1).trans rfl
  have f0 := hat.frozen 0
  have f1 := hat.frozen 1
  go_enter Try.func23, Try.ntmps23
  go_wp2
  go_ret2
  exact ⟨rfl, (hat.set 1 _).set 0 _, ((Kp.refl (· = rb) w).setCell (fun _ => rfl) _).setCell (fun _ => rfl) _⟩
set_option maxHeartbeats 2000000 in
set_option maxRecDepth 20000 in
theorem rpush_any (rb : Nat) (a0 : Option Addr) (n0 c0 : Nat) (cur : List Int) (a : Option Addr) (n cap : Nat) (q : List Int) (w : World) (hat : At w rb [.slice a0 n0 c0, .bool false]) (e0 : n0 = cur.length) (hr0 : RdB w a0 cur) (eq : n = q.length) (hq : RdB w a q) (hop : Open cur) (hl : cur.length + q.length ≤ 100000) :
    Calls Try.prog 27 #[.pointer (some ⟨rb, 0, none⟩), .slice a n cap] w fun e w' => ∃ va vn vc vs A C, e = .returned (.tuple #[.slice va vn vc, .int .i64 0]) ∧ LLs w.heap.size w' (.slice va vn vc) (chs cur q).1 vs ∧ At w' rb [.slice A (chs cur q).2.length C, .bool false] ∧ RdB w' A (chs cur q).2 ∧ (∀ y, A = some y → w.heap.size ≤ y.block ∧ y.block < w'.heap.size) ∧ Kp (· = rb) w w' := by
  have x0 : w.cell? ⟨rb, 0, none⟩ = some (.slice a0 n0 c0) := (hat.cell 0).trans rfl
  have x1 : w.cell? ⟨rb, 1, none⟩ = some (.bool false) := (hat.cell 1).trans rfl
  have hlt := hat.lt
  obtain ⟨L, hL⟩ : ∃ L, L = (cur ++ q).length := ⟨_, rfl⟩
  obtain ⟨v3, w3, A1, d1, w4, r3, r4, hrd, hLd, hdm, hAb, k4⟩ := join_new (c1 := c0) (c3 := cap) hr0 hq e0 eq (by omega) L hL
  have hat4 := k4.at hat (fun h => h)
  have f4 := hat4.frozen 0
  have y0 : w4.cell? ⟨rb, 0, none⟩ = some (.slice a0 n0 c0) := (hat4.cell 0).trans rfl
  have HR3 := Lib.hid r3
  have HR4 := Lib.hid r4
  have hch := (chs_from cur q hop).symm
  have hs4 := k4.size
  have hLb : L ≤ 100000 := by rw [hL, List.length_append]; exact hl
  have ks := (Kp.refl (· = rb) w4).setCell (p := ⟨rb, 0, none⟩) (fun _ => rfl) (.slice A1 L d1)
  have H := Lib.hid (And.intro (hat4.set 0 (.slice A1 L d1)) (And.intro (hrd.kp ks (fun y hy e => by have := (hAb y hy).1; omega)) (And.intro ((k4.mono (S' := (· = rb)) (fun _ _ h => h.elim)).trans ks) hAb)))
  have HC := Lib.hid (And.intro hch hL)
  clear r3 r4 hrd hAb k4 hat4 hch ks hr0 hq eq e0 hat hop hL
  go_enter Try.func27, Try.ntmps27
  go_wp2_with (first | (at_builtin; refine wpList_append_run _ HR3.out rfl rfl rfl rfl ?_) | (at_builtin; refine wpList_append_run _ HR4.out rfl rfl rfl rfl ?_))
  go_loopg [6] L (fun gk ov wr => ∃ (x : List Int) (ms : List (List Int)) (vs : List Value) (A oa : Option Addr) (m c on oc : Nat), m = x.length ∧ m ≤ gk ∧ gk ≤ L ∧ ov = .slice oa on oc ∧ At wr rb [.slice A m c, .bool false] ∧ RdB wr A x ∧ m ≤ c ∧ c ≤ maxLen ∧ (∀ y, A = some y → w.heap.size ≤ y.block ∧ y.block < w4.heap.size) ∧
    LLs w4.heap.size wr (.slice oa on oc) ms vs ∧ chs cur q = (ms ++ (chs [] x).1, (chs [] x).2) ∧ ms.length + gk ≤ L ∧ Kp (· = rb) w wr ∧ w4.heap.size ≤ wr.heap.size)
  case atStart => exact ⟨cur ++ q, [], [], A1, none, L, d1, 0, 0, HC.out.2, Nat.le_refl _, Nat.le_refl _, rfl, H.out.1, H.out.2.1, hLd, hdm, H.out.2.2.2, LLs.nil _ _, by rw [HC.out.1]; rfl, by simp, H.out.2.2.1, by simp [World.setCell]⟩
  case round =>
    obtain ⟨x, ms, vs, A, oa, m, c, on, oc, hm, hmg, hgL, rfl, hatr, hrx, hxc, hcm, hA, hll, hchs, hmsL, hkr, hsz⟩ := hrel
    have z0 : wr.cell? ⟨rb, 0, none⟩ = some (.slice A m c) := (hatr.cell 0).trans rfl
    have fz := hatr.frozen 0
    have CN := Lib.hid (by rw [hm]; exact rnext_any A c x wr hrx (by omega) (by omega) : Calls Try.prog 35 #[.slice A m c] wr (NxtOut x wr))
    have HM := Lib.hid hm
    have HH := Lib.hid (And.intro hll (And.intro hchs (And.intro hkr (And.intro hrx (And.intro hatr hA)))))
    clear hll hchs hkr hrx hatr hA hm
    go_upto_region 6 with (go_at_call 35; (with_reducible refine CN.out.mono ?_); rintro e w' ⟨k, b, rfl, hnx, rfl⟩)
    have hx := hnx.chs
    cases b with
    | false =>
      rw [if_neg (by simp)] at hx
      clear hnx
      have HX := Lib.hid hx
      clear hx
      go_wp2
      go_ret2
      have e1 : chs cur q = (ms, x) := by rw [HH.out.2.1, HX.out]; simp
      refine ⟨oa, on, oc, vs, A, c, rfl, ?_, ?_, ?_, fun y hy => ⟨(HH.out.2.2.2.2.2 y hy).1, Nat.lt_of_lt_of_le (HH.out.2.2.2.2.2 y hy).2 hsz⟩, HH.out.2.2.1⟩
      · rw [e1]; exact HH.out.1.weaken hs4
      · rw [e1]; show At _ _ [.slice A x.length c, _]; rw [← HM.out]; exact HH.out.2.2.2.2.1
      · rw [e1]; exact HH.out.2.2.2.1
    | true =>
      rw [if_pos rfl] at hx
      have hk : 1 ≤ k ∧ k ≤ m := by
        rcases hnx with ⟨_, h1, h2, _⟩ | ⟨h1, _⟩
        · rw [HM.out]; exact ⟨h1, h2⟩
        · cases h1
      obtain ⟨hk1, hk2⟩ := hk
      have HX := Lib.hid hx
      clear hx hnx
      obtain ⟨b1, o1, rfl, _⟩ := HH.out.2.2.2.1.cell 0 (by rw [← HM.out]; omega)
      obtain ⟨hA1, hA2⟩ := HH.out.2.2.2.2.2 _ rfl
      simp only at hA1 hA2
      have hkc : (x.take k).length = k := by rw [List.length_take, ← HM.out]; omega
      have hdl : (x.drop k).length = m - k := by rw [List.length_drop, HM.out]
      have k1 := (Kp.refl (fun _ => False) wr).alloc (.cells #[] 5)
      obtain ⟨u, w2, hr2, hu2, ku2, hb2⟩ := run_append_b (P := Try.prog) (t := 22) (tx := 22) (ty := 22) (wr.alloc (.cells #[] 5)) Try.underlying22 elem_u8 Try.underlying22 (ownb_new wr _) (a := some ⟨b1, o1, none⟩) (c := c) (m := x.take k) ((HH.out.2.2.2.1.pre k).kp0 k1 (fun _ _ h => h)) (by rw [hkc]; simp; omega)
      rw [List.nil_append] at hu2
      rw [hkc] at hr2
      have k2 : Kp (fun _ => False) wr w2 := k1.then ku2 (fun i hi h => by simp [Value.ownBlock] at h; omega)
      have hug : ∀ g, u.ownBlock = some g → wr.heap.size ≤ g := fun g hg => by
        rcases hb2 with e | e
        · rw [e] at hg; simp [Value.ownBlock] at hg; omega
        · rw [e] at hg; simp at hg; omega
      obtain ⟨ua, uc, eu, _, _⟩ := hu2.form
      rw [hkc] at eu
      subst eu
      have k3 := k2.alloc (.cells #[.slice ua k uc] 22)
      have hll3 := HH.out.1.kp k3 (fun _ _ h => h) (fun _ _ _ _ h => h)
      have hat3 : At (w2.alloc (.cells #[.slice ua k uc] 22)) w2.heap.size [.slice ua k uc] := At.new w2 [.slice ua k uc] _
      have hk2s := k2.size
      obtain ⟨v8, w8, hr8, hll8, k8, hb8⟩ := hll3.app (P := Try.prog) (t := 24) (tx := 24) (ty := 24) Try.underlying24 elem_sl Try.underlying24 (by omega) (u := .slice ua k uc) (l := x.take k) (hu2.kp ((Kp.refl (fun _ => False) w2).alloc _) (fun _ _ h => h))
        (fun g hg => by
          have hgw := hug g hg
          exact ⟨fun hg' => absurd (HH.out.1.own.lt _ hg') (by omega), by omega, fun i hi hg' => absurd (HH.out.1.ltE hi hg') (by omega)⟩)
        (by omega) (by have := k3.size; omega) (bx := w2.heap.size) hat3
      obtain ⟨A8, c8, e8, _, _⟩ := hll8.own.form
      have hN8 : (ms ++ [x.take k]).length = ms.length + 1 := by simp
      obtain ⟨N8, hN8'⟩ : ∃ N8, N8 = (ms ++ [x.take k]).length := ⟨_, rfl⟩
      rw [← hN8'] at e8
      subst e8
      have hgeo : ∀ i, (Value.slice oa on oc).ownBlock = some i → w4.heap.size ≤ i := HH.out.1.ge
      have kr8 : Kp (fun i => (Value.slice oa on oc).ownBlock = some i) wr w8 := (k3.mono (fun _ _ h => h.elim)).then k8 (fun _ _ h => h)
      have hrb : (Value.slice oa on oc).ownBlock ≠ some rb := fun e => by have := hgeo _ e; omega
      have hat8 := kr8.at HH.out.2.2.2.2.1 hrb
      have z8 : w8.cell? ⟨rb, 0, none⟩ = some (.slice (some ⟨b1, o1, none⟩) m c) := (hat8.cell 0).trans rfl
      have f8 := hat8.frozen 0
      have zk : (wr.alloc (.cells #[] 5)).cell? ⟨rb, 0, none⟩ = some (.slice (some ⟨b1, o1, none⟩) m c) := k1.cell z0 (fun h => h)
      have hrx8 : RdB w8 (some ⟨b1, o1, none⟩) x := HH.out.2.2.2.1.kp kr8 (fun y hy h => by cases hy; have := hgeo _ h; simp at this; omega)
      have hrw := hrx8.mid2 k (m - k) (by rw [← HM.out]; exact hk2) (by rw [← HM.out]; exact hxc)
      obtain ⟨A9, hA9⟩ : ∃ A9 : Addr, (if c = k then (some ⟨b1, o1, none⟩ : Option Addr) else some ⟨b1, o1 + k, none⟩) = some A9 := by
        split
        · exact ⟨_, rfl⟩
        · exact ⟨_, rfl⟩
      rw [hA9, List.take_of_length_le (by omega)] at hrw
      have hsA : A9.block = b1 := by
        split at hA9 <;> (cases hA9; rfl)
      have ks := (Kp.refl (· = rb) w8).setCell (p := ⟨rb, 0, none⟩) (fun _ => rfl) (.slice (some A9) (m - k) (c - k))
      have hRlt : rb < w4.heap.size := by omega
      have HF := Lib.hid (And.intro (hll8.kp ks (fun g hg e => by have := hll8.ge g hg; omega) (fun i g hi hg e => by have := hll8.geE i g hi hg; omega)) (And.intro (hat8.set 0 (.slice (some A9) (m - k) (c - k)))
        (And.intro (hrw.kp ks (fun y hy e => by cases hy; omega)) (And.intro ((HH.out.2.2.1.then kr8 (fun i hi e => by have := hgeo _ e; omega)).trans ks) (And.intro hsA hdl)))))
      have HR2 := Lib.hid hr2
      have HR8 := Lib.hid hr8
      have hs8 := kr8.size
      have j1 : (k : Int) ≤ c := by omega
      have j2 : (k : Int) ≤ m := by omega
      have HN8 := Lib.hid hN8'
      clear hr2 hr8 hu2 ku2 hb2 k2 hug k3 hll3 hat3 hk2s hll8 k8 hb8 hN8 hN8' hgeo kr8 hrb hat8 hrx8 hrw hsA ks k1 hdl hkc
      go_wp2_with (first | (at_builtin; refine wpList_append_run _ HR2.out rfl rfl rfl rfl ?_) | (at_builtin; refine wpList_append_run _ HR8.out rfl rfl rfl rfl ?_))
      go_roundg (gk - 1)
      case measure => omega
      case rel =>
        refine ⟨x.drop k, ms ++ [x.take k], vs ++ [.slice ua k uc], some A9, A8, m - k, c - k, N8, c8, HF.out.2.2.2.2.2.symm, by omega, by omega, rfl, HF.out.2.1, HF.out.2.2.1, by omega, by omega, fun y hy => ?_, HF.out.1, ?_, by rw [List.length_append, List.length_singleton]; omega, HF.out.2.2.2.1, by simp [World.setCell]; omega⟩
        · cases hy
          rw [HF.out.2.2.2.2.1]; exact ⟨hA1, hA2⟩
        · rw [HH.out.2.1, HX.out]; simp
end Go.Proofs.Ytlabkldpcbmjbaa
