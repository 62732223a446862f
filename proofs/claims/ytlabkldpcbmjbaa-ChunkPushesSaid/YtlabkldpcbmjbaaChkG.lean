/- Chapter 06: the document's Split and Cut. -/
import Derived.Test.YtlabkldpcbmjbaaChkF
namespace Go.Proofs.Ytlabkldpcbmjbaa
open Go.RowKit
set_option linter.unusedVariables false
set_option linter.unusedSimpArgs false
theorem ownb_new (w : World) (T : TypeId) : OwnB (w.alloc (.cells #[] T)) (.slice (some ⟨w.heap.size, 0, none⟩) 0 0) [] :=
  ⟨⟨by simp, .inr ⟨w.heap.size, 0, [], rfl, At.new w [] T, by simp, by simp, by simp [maxLen]⟩⟩, fun k hk => ⟨[], by simp [Value.ownBlock] at hk; subst hk; exact At.new w [] T, fun u hu => by simp at hu⟩, fun x hx => by simp at hx, by simp⟩
set_option maxHeartbeats 4000000 in
set_option maxRecDepth 20000 in
theorem rsplit_any (a : Option Addr) (cap : Nat) (l : List Int) (w : World) (h : RdB w a l) (hl : l.length ≤ 100000) (hcap : l.length ≤ cap) (hcm : cap ≤ maxLen) :
    Calls Try.prog 14 #[.slice a l.length cap] w fun e w' => ∃ v vs, e = .returned v ∧ LLs w.heap.size w' v (chunks l) vs ∧ Kp (fun _ => False) w w' := by
  have hsa : l ≠ [] → ∀ y, a = some y → y.block < w.heap.size := fun hne y hy => by
    obtain ⟨b, o, e, hc⟩ := h.cell 0 (by cases l with | nil => exact absurd rfl hne | cons => simp)
    rw [e] at hy; cases hy
    exact World.block_lt_of_cell? w _ hc
  go_enter Try.func14, Try.ntmps14
  go_wp2
  go_loopw [0, 3] (fun s v wr => ∃ (x : List Int) (ls : List (List Int)) (vs : List Value) (A : Option Addr) (c : Nat), s = .slice A x.length c ∧ RdB wr A x ∧ (x ≠ [] → ∀ y, A = some y → y.block < w.heap.size) ∧ x.length ≤ l.length ∧ x.length ≤ c ∧ c ≤ maxLen ∧ LLs w.heap.size wr v ls vs ∧ chunks l = ls ++ chunks x ∧ Kp (fun _ => False) w wr)
    (fun s _ _ => match s with | .slice _ n _ => n | _ => 0)
  case atStart => exact ⟨l, [], [], a, cap, rfl, h, hsa, Nat.le_refl _, hcap, hcm, LLs.nil _ _, rfl, Kp.refl _ _⟩
  case round =>
    clear h hcap hcm hsa
    obtain ⟨x, ls, vs, A, c, rfl, hr, hsx, hxl, hxc, hcm, hll, hch, hkp⟩ := hrel
    by_cases hx0 : x = []
    · subst hx0
      have HF := Lib.hid (And.intro hll (And.intro hch hkp))
      clear hll hch hkp hr
      simp only [List.length_nil] at hxc ⊢
      go_wp2
      go_ret
      exact ⟨_, vs, rfl, by have := HF.out.2.1; rw [chunks_nil, List.append_nil] at this; rw [this]; exact HF.out.1, HF.out.2.2⟩
    · obtain ⟨m, hm⟩ : ∃ m, m = x.length := ⟨_, rfl⟩
      have hm0 : 0 < m := by rw [hm]; cases x with | nil => exact absurd rfl hx0 | cons => simp
      obtain ⟨b1, o1, rfl, _⟩ := hr.cell 0 (by omega)
      have hb1 : b1 < w.heap.size := hsx hx0 _ rfl
      have CN := Lib.hid (rnext_any (some ⟨b1, o1, none⟩) c x wr hr (by omega) hxc)
      have hlb : ls.length ≤ l.length + 1 := by
        have := congrArg List.length hch
        rw [List.length_append] at this
        have := chunks_len l
        omega
      have hlb2 : ls.length + (chunks x).length ≤ l.length + 1 := by
        have := congrArg List.length hch
        rw [List.length_append] at this
        have := chunks_len l
        omega
      rw [← hm] at CN hxl hxc ⊢
      have HM := Lib.hid hm
      have HH := Lib.hid (And.intro hll (And.intro hch (And.intro hkp hr)))
      clear hll hch hkp hr hm
      have i0 : (0 : Int) < (m : Int) := by omega
      go_upto_region 4 with (go_at_call 35; (with_reducible refine CN.out.mono ?_); rintro e w' ⟨k, b, rfl, hnx, rfl⟩)
      obtain ⟨n1, n2, n3⟩ := hnx.chunks hx0
      have n2' : k ≤ m := by rw [HM.out]; exact n2
      have hkc : (x.take k).length = k := by rw [List.length_take]; omega
      have hdl : (x.drop k).length = m - k := by rw [List.length_drop, HM.out]
      have hne := congrArg List.length n3
      rw [List.length_cons] at hne
      -- the first append
      have k1 := (Kp.refl (fun _ => False) wr).alloc (.cells #[] 5)
      obtain ⟨u, w2, hr2, hu2, ku2, hb2⟩ := run_append_b (P := Try.prog) (t := 22) (tx := 22) (ty := 22) (wr.alloc (.cells #[] 5)) Try.underlying22 elem_u8 Try.underlying22 (ownb_new wr _) (a := some ⟨b1, o1, none⟩) (c := c) (m := x.take k) ((HH.out.2.2.2.pre k).kp0 k1 (fun _ _ h => h)) (by rw [hkc]; simp; omega)
      rw [List.nil_append] at hu2
      rw [hkc] at hr2
      have k2 : Kp (fun _ => False) wr w2 := k1.then ku2 (fun i hi h => by simp [Value.ownBlock] at h; omega)
      have hug : ∀ g, u.ownBlock = some g → wr.heap.size ≤ g := fun g hg => by
        rcases hb2 with e | e
        · rw [e] at hg; simp [Value.ownBlock] at hg; omega
        · rw [e] at hg; simp at hg; omega
      obtain ⟨ua, uc, eu, _, _⟩ := hu2.form
      rw [hkc] at eu
      subst eu
      have k3 := k2.alloc (.cells #[.slice ua k uc] 22)
      have hll3 := HH.out.1.kp k3 (fun _ _ h => h) (fun _ _ _ _ h => h)
      have hat3 : At (w2.alloc (.cells #[.slice ua k uc] 22)) w2.heap.size [.slice ua k uc] := At.new w2 [.slice ua k uc] _
      obtain ⟨v8, w8, hr8, hll8, k8, hb8⟩ := hll3.app (P := Try.prog) (t := 24) (tx := 24) (ty := 24) Try.underlying24 elem_sl Try.underlying24 (by omega) (u := .slice ua k uc) (l := x.take k) (hu2.kp ((Kp.refl (fun _ => False) w2).alloc _) (fun _ _ h => h))
        (fun g hg => by
          have hgw := hug g hg
          have := HH.out.2.2.1.size
          exact ⟨fun hg' => absurd (HH.out.1.own.lt _ hg') (by omega), by omega, fun i hi hg' => absurd (HH.out.1.ltE hi hg') (by omega)⟩)
        (by omega) (by have := HH.out.2.2.1.size; have := k3.size; omega) (bx := w2.heap.size) hat3
      obtain ⟨N8, hN8⟩ : ∃ N8, N8 = (ls ++ [x.take k]).length := ⟨_, rfl⟩
      obtain ⟨A8, c8, e8, _, _⟩ := hll8.own.form
      rw [← hN8] at e8
      subst e8
      clear hN8
      have k18 : Kp (fun _ => False) w w8 := (HH.out.2.2.1.trans k3).then k8 (fun i hi h => by have := HH.out.1.ge i h; omega)
      have kr8 : Kp (fun i => u3.ownBlock = some i) wr w8 := (k3.mono (fun _ _ h => h.elim)).then k8 (fun _ _ h => h)
      have hrx8 : RdB w8 (some ⟨b1, o1, none⟩) x := HH.out.2.2.2.kp kr8 (fun y hy h => by cases hy; have := HH.out.1.ge _ h; simp at this; omega)
      have hrw := hrx8.mid2 k (m - k) n2 (by rw [← HM.out]; exact hxc)
      have HR2 := Lib.hid hr2
      have HR8 := Lib.hid hr8
      have HF := Lib.hid (And.intro hll8 (And.intro k18 n3))
      obtain ⟨A1, hA1⟩ : ∃ A1 : Addr, (if c = k then (some ⟨b1, o1, none⟩ : Option Addr) else some ⟨b1, o1 + k, none⟩) = some A1 := by
        split
        · exact ⟨_, rfl⟩
        · exact ⟨_, rfl⟩
      rw [hA1, List.take_of_length_le (by omega)] at hrw
      have hsA : A1.block < w.heap.size := by
        split at hA1 <;> (cases hA1; exact hb1)
      have HFF := Lib.hid (And.intro hrw (And.intro hsA hdl))
      have j1 : (k : Int) ≤ c := by omega
      have j2 : (k : Int) ≤ m := by omega
      clear hrw hsA hrx8 kr8 k18 hll8 k8 hb8 hll3 hat3 k3 hug k2 ku2 hb2 hu2 k1 hr2 hr8 hne
      go_wp2_with (first | (at_builtin; refine wpList_append_run _ HR2.out rfl rfl rfl rfl ?_) | (at_builtin; refine wpList_append_run _ HR8.out rfl rfl rfl rfl ?_))
      refine ⟨⟨x.drop k, ls ++ [x.take k], vs ++ [.slice ua k uc], some A1, c - k, by rw [HFF.out.2.2], HFF.out.1, fun _ y hy => by cases hy; exact HFF.out.2.1, by rw [HFF.out.2.2]; omega, by rw [HFF.out.2.2]; omega, Nat.le_trans (Nat.sub_le _ _) hcm, HF.out.1, ?_, HF.out.2.1⟩, ?_⟩
      · rw [HH.out.2.1, HF.out.2.2]; simp
      · show m - k < m
        omega
set_option maxHeartbeats 4000000 in
theorem rcut_any (a : Option Addr) (cap : Nat) (l : List Int) (w : World) (h : RdB w a l) (hl : l.length ≤ 100000) (hcap : l.length ≤ cap) (hcm : cap ≤ maxLen) :
    Calls Try.prog 17 #[.slice a l.length cap] w fun e w' => ∃ v, e = .returned v ∧ Own w' v (chunks l).length 1 (ints (lens (chunks l))) ∧ (∀ g, v.ownBlock = some g → w.heap.size ≤ g) ∧ Kp (fun _ => False) w w' := by
  have C := Lib.hid (rsplit_any a cap l w h hl hcap hcm)
  have hcl := chunks_len l
  generalize hls : chunks l = ls at *
  generalize l.length = n at *
  clear hls h
  go_enter Try.func17, Try.ntmps17
  go_upto_region 2 with (go_at_call 14; (with_reducible refine C.out.mono ?_); rintro e w1 ⟨v, vs, rfl, hv, k1⟩; obtain ⟨A, cv, rfl, _, _⟩ := hv.own.form; have H1 := Lib.hid (And.intro hv k1); clear hv k1)
  generalize hN : ls.length = N at *
  have HN := Lib.hid hN
  clear hN
  go_wp2_with fail
  go_loopw [5, 4] (fun i v wr => ∃ k : Nat, k ≤ N ∧ i = .int .i64 k ∧ Own wr v k 1 (ints ((lens ls).take k)) ∧ (∀ g, v.ownBlock = some g → w1.heap.size ≤ g) ∧ Kp (fun _ => False) w1 wr) (fun i _ _ => N - (intOf i).toNat)
  case atStart => exact ⟨0, by omega, rfl, Own.nil _ 1, fun g hg => by simp [Value.ownBlock] at hg, Kp.refl _ _⟩
  case round =>
    obtain ⟨k, hk, rfl, ho, hvb, hkp⟩ := hrel
    by_cases hlt : k < N
    · have i1 : (k : Int) < N := by omega
      have hvl := H1.out.1.len
      have how := H1.out.1.own
      rw [HN.out] at how
      obtain ⟨b, off, rfl, hc⟩ := how.rd k (show k < vs.length by have := HN.out; omega)
      obtain ⟨ai, ci, e, _, _⟩ := (H1.out.1.each k (by have := HN.out; omega)).form
      have e2 : vs.getD k (Value.int .i64 0) = vs.getD k undef := by
        rw [List.getD_eq_getElem?_getD, List.getD_eq_getElem?_getD, List.getElem?_eq_getElem (show k < vs.length by have := HN.out; omega)]; rfl
      have hc2 : wr.cell? ⟨b, off + k, none⟩ = some (.slice ai (ls.getD k []).length ci) := hkp.cell (by rw [← e]; exact hc) (fun h => h)
      have HL := Lib.hid ((take_snoc (lens ls) 0 k (by rw [lens_len]; have := HN.out; omega)).trans (by rw [lens_getD]))
      generalize (ls.getD k []).length = m at *
      have hka := (Kp.refl (fun _ => False) wr).alloc (.cells #[.int .i64 (m : Nat)] 3)
      have hat : At (wr.alloc (.cells #[.int .i64 (m : Nat)] 3)) wr.heap.size [.int .i64 (m : Nat)] := At.new wr [.int .i64 (m : Nat)] _
      obtain ⟨v', w', h1, h2, h3, h4, _⟩ := run_append_at (P := Try.prog) (t := 26) (tx := 26) (ty := 26) (wr.alloc (.cells #[.int .i64 (m : Nat)] 3)) Try.underlying26 elem_int Try.underlying26 (ho.kp hka (fun _ _ h => h)) (a := some ⟨wr.heap.size, 0, none⟩) (m := 1) (c := 1) (news := [.int .i64 (m : Nat)]) (by simp)
        (fun i hi => by simp at hi; subst hi; exact ⟨_, _, rfl, by rw [hat.cell]; rfl⟩) (by simp [Value.oneCell']) (by unfold maxLen; omega) (by omega)
      have HR4 := Lib.hid h1
      obtain ⟨A', c', e2, _, _⟩ := h2.form
      subst e2
      have HF := Lib.hid (And.intro h2 (And.intro (show ∀ x, (Value.slice A' (k + 1) c').ownBlock = some x → w1.heap.size ≤ x from fun x hx => by
        rcases h4 with e | e
        · exact hvb x (e ▸ hx)
        · rw [hx] at e; have := hka.size; have := hkp.size; simp only [Option.some.injEq] at e; omega) ((hkp.trans hka).then h3 (fun i hi e => by have := hvb i e; omega))))
      clear ho hvb hkp hka h1 h2 h3 h4 hat hc e
      go_wp2_with (at_builtin; refine wpList_append_run _ HR4.out rfl rfl rfl rfl ?_)
      go_roundw
      case rel => exact ⟨k + 1, by omega, by go_num, by rw [HL.out, ints_snoc]; exact HF.out.1, HF.out.2.1, HF.out.2.2⟩
      case measure => simp [intOf]; omega
    · obtain rfl : k = N := by omega
      go_wp2
      go_ret
      rw [List.take_of_length_le (by rw [lens_len]; have := HN.out; omega)] at ho
      exact ⟨_, rfl, by rw [HN.out]; exact ho, fun g hg => by have := hvb g hg; have := H1.out.2.size; omega, H1.out.2.trans hkp⟩
end Go.Proofs.Ytlabkldpcbmjbaa
