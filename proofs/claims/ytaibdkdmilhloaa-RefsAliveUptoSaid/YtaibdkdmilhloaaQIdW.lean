/- Package refs: without, Dead, Lost. (Written by wip/ref20f.py.) -/
import Derived.Test.YtaibdkdmilhloaaQIdS
namespace Go.Proofs.Ytaibdkdmilhloaa
open Go.RowKit Go.Maps
set_option linter.unusedVariables false
set_option linter.unusedSimpArgs false
attribute [local go_sem] Oper.semAt_some
/-- Those that are not in base, each once, in order. -/
def newL (base l : List Id) : List Id := l.foldl (fun acc x => if x ∈ base ∨ x ∈ acc then acc else acc ++ [x]) []
theorem newL_snoc (base l : List Id) (x : Id) : newL base (l ++ [x]) = if x ∈ base ∨ x ∈ newL base l then newL base l else newL base l ++ [x] := by
  unfold newL; rw [List.foldl_append]; rfl
theorem snoc_ind {P : List Id → Prop} (h0 : P []) (h1 : ∀ l x, P l → P (l ++ [x])) : ∀ (n : Nat) (l : List Id), l.length = n → P l
  | 0, l, h => by rw [List.eq_nil_of_length_eq_zero h]; exact h0
  | n + 1, l, h => by
    rcases List.eq_nil_or_concat l with rfl | ⟨L, b, rfl⟩
    · simp at h
    · rw [List.concat_eq_append]
      exact h1 L b (snoc_ind h0 h1 n L (by simpa using h))
theorem newL_len (base : List Id) (l : List Id) : (newL base l).length ≤ l.length := by
  refine snoc_ind (P := fun l => (newL base l).length ≤ l.length) (by simp [newL]) (fun l x ih => ?_) _ l rfl
  rw [newL_snoc, List.length_append, List.length_singleton]
  split
  · omega
  · rw [List.length_append, List.length_singleton]; omega
theorem newL_ids {base l : List Id} (h : Ids l) : Ids (newL base l) := by
  refine snoc_ind (P := fun l => Ids l → Ids (newL base l)) (by simp [newL, Ids]) (fun l x ih h => ?_) _ l rfl h
  have h1 : Ids l := fun y hy => h y (by simp [hy])
  rw [newL_snoc]
  split
  · exact ih h1
  · exact (ih h1).app (fun y hy => by rw [List.mem_singleton.1 hy]; exact h x (by simp))
theorem newL_mem (base l : List Id) (y : Id) : y ∈ newL base l ↔ y ∈ l ∧ y ∉ base := by
  refine snoc_ind (P := fun l => y ∈ newL base l ↔ y ∈ l ∧ y ∉ base) (by simp [newL]) (fun l x ih => ?_) _ l rfl
  · rw [newL_snoc, List.mem_append, List.mem_singleton]
    by_cases hx : x ∈ base ∨ x ∈ newL base l
    · rw [if_pos hx, ih]
      constructor
      · rintro ⟨h1, h2⟩; exact ⟨.inl h1, h2⟩
      · rintro ⟨h1 | rfl, h2⟩
        · exact ⟨h1, h2⟩
        · rcases hx with h | h
          · exact absurd h h2
          · exact ih.1 h
    · rw [if_neg hx, List.mem_append, List.mem_singleton, ih]
      constructor
      · rintro (⟨h1, h2⟩ | rfl)
        · exact ⟨.inl h1, h2⟩
        · exact ⟨.inr rfl, fun h => hx (.inl h)⟩
      · rintro ⟨h1 | rfl, h2⟩
        · exact .inl ⟨h1, h2⟩
        · exact .inr rfl
/-- It hangs on who is in base alone. -/
theorem newL_congr {base base' : List Id} (h : ∀ x, x ∈ base ↔ x ∈ base') (l : List Id) : newL base l = newL base' l := by
  unfold newL
  congr 1
  funext acc x
  simp only [h x]
/-- What without has behind some. -/
def WoR (w3 : World) (mb mv ov N : Nat) (base pre : List Id) (W : World) : Prop :=
  SetI W mb (N + pre.length) (base ++ newL base pre) ∧ At W mv [.map (some mb)] ∧ ∃ vo, OwnI W vo (newL base pre) ∧ At W ov [vo] ∧ (∀ g, vo.ownBlock = some g → w3.heap.size ≤ g) ∧ Kp (fun j => j = mb ∨ j = ov) w3 W
theorem WoR.kp {w3 W W' : World} {mb mv ov N : Nat} {base pre : List Id} {S : Nat → Prop} (h : WoR w3 mb mv ov N base pre W) (k : Kp S W W') (h1 : ¬ S mb) (h2 : ∀ b cs, At W b cs → ¬ S b) (h3 : ∀ i, i < w3.heap.size → ¬ S i) : WoR w3 mb mv ov N base pre W' := by
  obtain ⟨hs, hm, vo, ho, ha, hg, hk⟩ := h
  refine ⟨hs.kp k h1, k.at hm (h2 _ _ hm), vo, ho.kp k (fun g hg' => ?_), k.at ha (h2 _ _ ha), hg, hk.then k (fun i hi e => absurd e (h3 i hi))⟩
  obtain ⟨cs, hc⟩ := ho.own.at' hg'
  exact h2 _ _ hc
set_option maxHeartbeats 4000000 in
set_option maxRecDepth 20000 in
theorem without_any (wc : World) (v1 : Value) (l base : List Id) (mb N : Nat) (w : World) (hi1 : Itr wc v1 l) (hwc : Kp (fun i => wc.heap.size ≤ i) wc w) (hwm : wc.heap.size ≤ mb) (hs : SetI w mb N base) (hb : N + l.length ≤ 200000) :
    Calls Try.prog 41 #[v1, .map (some mb)] w fun e w' => ∃ v, e = .returned v ∧ OwnI w' v (newL base l) ∧ (∀ g, v.ownBlock = some g → w.heap.size ≤ g) ∧ Kp (· = mb) w w' := by
  obtain ⟨hids1, gf1, lb1, rfl, en1, gv1⟩ := hi1
  obtain ⟨ZA, hz16, hZ⟩ := id_zero
  have HI1 := Lib.hid (And.intro hids1 (And.intro en1 gv1))
  have HWC := Lib.hid hwc
  have hws := hwc.size
  have HC := Lib.hid (And.intro hz16 (And.intro hb hs))
  have hmbl := hs.lt
  clear hids1 en1 gv1 hz16 hb hs hwc
  refine (callsIn_wide (n := 5)).1 ?_
  refine callsIn_of_wp_marks Try.func41 rfl trivial ?_ rfl
  simp only [Try.ntmps41, List.size_toArray, List.length_cons, List.length_nil, Nat.reduceAdd, Nat.reduceSub, Array.replicate_succ, Array.replicate_zero, List.push_toArray, List.append_toArray, List.nil_append, List.cons_append]
  refine wpIn_wide.2 ?_
  go_upto_region 2 with fail
  refine wp_world (fun wx => At wx w.heap.size [.map (some mb)] ∧ At wx (w.heap.size + 1) [.slice none 0 0] ∧ Kp (fun _ => False) w wx) ?_ ?_
  · have h1 := (At.new w [.map (some mb)] 69).alloc (.cells #[.slice none 0 0] 34)
    have h2 := At.new (w.alloc (.cells #[.map (some mb)] 69)) [.slice none 0 0] 34
    rw [World.size_alloc] at h2
    exact ⟨h1, h2, ((Kp.refl _ w).alloc _).alloc _⟩
  rintro w2 ⟨v2, o2, k2⟩
  obtain ⟨mv, hmv⟩ : ∃ mv, mv = w.heap.size := ⟨_, rfl⟩
  rw [← hmv] at v2 o2 ⊢
  obtain ⟨ov, hov⟩ : ∃ ov, ov = mv + 1 := ⟨_, rfl⟩
  rw [← hov] at o2 ⊢
  have H2 := Lib.hid (And.intro v2 (And.intro o2 (And.intro k2 (And.intro (show mv = w.heap.size ∧ ov = mv + 1 from ⟨hmv, hov⟩) (show mb < w.heap.size from hmbl)))))
  have hne1 : mb ≠ mv := by omega
  have hne2 : mb ≠ ov := by omega
  have hne3 : mv ≠ ov := by omega
  clear v2 o2 k2 hmv hov
  go_wp2
  refine (wpIn_wide (n := 5)).1 ?_
  refine wpIn_rngA (S := fun _ => False) rfl (by omega) (gf := gf1) (lb := lb1) rfl trivial HI1.out.2.1
    (HI1.out.2.2 4 (by omega)) (fun h => h) (fun i hi => hi.elim) (fun _ => rfl)
    (fun pre W => WoR w2 mb mv ov N base pre W) (fun c pre W => False)
    ?hI (fun _ _ _ _ h _ => h) ?hT (fun _ _ _ h _ => h) (fun s A A' h k => h.kp k (fun h => h) (fun _ _ _ h => h) (fun _ _ h => h)) (fun c s A A' h k => h) ?h0 ?hT0
    (fun x W a' W2 => a' = { tmps := #[.func (.func gf1) #[] lb1, .map (some mb), undef, .pointer (some ⟨mv, 0, none⟩), .slice none 0 0, .pointer (some ⟨ov, 0, none⟩), .pointer (some ⟨W.heap.size, 0, none⟩), undef, undef, .func (.func gf1) #[] lb1, idV x, undef, undef, undef, undef, undef, undef, undef, undef, undef, undef, undef, undef, undef, undef, undef, undef], defers := [] } ∧ x.length = 16 ∧ W2 = W.alloc (.cells (idB x) 41)) ?hBk ?hIK ?hTK ?assign ?body ?done ?stop
  case hI =>
    rintro pre A A' h k
    exact h.kp k (fun e => by have := e.1; have := H2.out.2.2.1.size; omega) (fun b cs h => NC.not h) (fun i hi e => by have := e.1; omega)
  case hT => exact fun pre A A' h k => ge_kp h k (fun i e => by have := e.1; have := H2.out.2.2.1.size; omega)
  case h0 => exact ⟨by simpa [newL] using HC.out.2.2.kp H2.out.2.2.1 (fun h => h), H2.out.1, _, OwnI.nil _, H2.out.2.1, fun g hg => by simp [Value.ownBlock] at hg, Kp.refl _ _⟩
  case hT0 => exact ge_kp0 HWC.out H2.out.2.2.1
  case hBk =>
    rintro x A A' a' ⟨_, _, rfl⟩
    exact (Kp.refl _ A).alloc _
  case hIK => exact fun s A A' h k => h.kp k (fun h => h) (fun _ _ _ h => h) (fun _ _ h => h)
  case hTK => exact fun s A A' h k => ge_kp0 h k
  case assign =>
    intro yl x W K hx hK
    have hx16 := HI1.out.1 x hx
    have HS2 := Lib.hid (store_new hx16 HC.out.1 W)
    have hv := idV_B x
    have HK := Lib.hid hK
    rw [hv] at HS2 ⊢
    clear hK
    gi_wp2_with (refine wpListIn_store_run HS2.out rfl rfl rfl rfl ?_)
    exact HK.out _ _ ⟨by rw [hv]; rfl, hx16, rfl⟩
  case stop =>
    rintro D c pre W hD hpre h
    exact h.elim
  case done =>
    rintro D W hD ⟨hs, hm, vo, ho, ha, hg, hk⟩ _ hd
    have co := (ha.cell 0).trans (show _ = some vo from rfl)
    have HR := Lib.hid (And.intro ho (And.intro hg hk))
    obtain ⟨A, c, rfl, _, _⟩ := ho.form
    clear hs hm ho ha hg hk
    go_wp2
    have kx := Kp.putNC hD hd rfl (.deferred none)
    refine ⟨by simp, .inl ⟨_, _, rfl, run_takeDeferred hd, ?_⟩⟩
    have hs2 := H2.out.2.2.1.size
    refine ⟨_, results_tmp rfl _ _ _, .slice A (newL base l).length c, rfl, HR.out.1.kp kx (fun g hg => HR.out.1.own.notNC g hg), fun g hg => by have := HR.out.2.1 g hg; omega, ((H2.out.2.2.1.mono (fun _ _ h => h.elim)).then HR.out.2.2 (fun i hi e => ?_)).thenNC kx (by omega)⟩
    rcases e with e | e
    · exact e
    · have := H2.out.2.2.2.1; omega
  case body =>
    rintro yl pre x W W2 W' a' hpre ⟨rfl, hx16, rfl⟩ k2 hr ht
    obtain ⟨hs, hm, vo, ho, ha, hg, hk⟩ := hr
    have hat2 : At (W.alloc (.cells (idB x) 41)) W.heap.size (idW x) := At.new W (idW x) 41
    have hat := k2.at hat2 (NC.not hat2)
    have hbx2 : W.heap.size < W'.heap.size := hat.lt
    obtain ⟨bx, hbx⟩ : ∃ bx, bx = W.heap.size := ⟨_, rfl⟩
    rw [← hbx] at hat hbx2 ⊢
    clear hbx
    have ld := fun (w' : World) (k : At w' bx (idW x)) => load_id (o := 0) (at_range (pre := []) (post := []) (by simpa using k)) hx16
    have HL0 := Lib.hid (ld W' hat)
    have HLK := Lib.hid (hs.look hx16)
    have cm := (hm.cell 0).trans (show _ = some (.map (some mb)) from rfl)
    have hmlt := hm.lt
    have hplen : pre.length + 1 ≤ l.length := by
      have := hpre.length_le
      simpa using this
    have k1 := (Kp.refl (fun _ => False) W').alloc (.cells #[] 78)
    have hv := idV_B x
    have hsW' := hk.size
    have KX := Lib.hid (And.intro hs (And.intro hm (And.intro ho (And.intro ha (And.intro hg (And.intro hk (And.intro ht (And.intro hat hsW'))))))))
    have KP := Lib.hid hplen
    clear hat2 k2 hplen hsW'
    by_cases hin : x ∈ base ++ newL base pre
    · rw [decide_eq_true hin] at HLK
      rw [hv] at HL0 HLK ⊢
      have HIN := Lib.hid hin
      have K1 := Lib.hid k1
      clear ld hv hs hm ho ha hg hk ht hat k1 hin
      generalize hVA : idB x = VA at *
      clear hVA
      gi_wp2_with (first | (refine wpListIn_load_run HL0.out rfl rfl rfl ?_) | (refine wpListIn_lookup_run HLK.out rfl rfl rfl rfl ?_))
      have e1 : newL base (pre ++ [x]) = newL base pre := by
        rw [newL_snoc, if_pos (by simpa using HIN.out)]
      refine ⟨KeepsFrom.of_kp K1.out (fun _ h => h.elim), ⟨?_, K1.out.at KX.out.2.1 (fun h => h), vo, ?_, K1.out.at KX.out.2.2.2.1 (fun h => h), KX.out.2.2.2.2.1, KX.out.2.2.2.2.2.1.trans (K1.out.mono (fun _ _ h => h.elim))⟩, ge_kp0 KX.out.2.2.2.2.2.2.1 K1.out⟩
      · rw [e1]
        obtain ⟨f, h1, h2⟩ := KX.out.1.kp K1.out (fun h => h)
        exact ⟨f, h1.mono (by simp), h2⟩
      · rw [e1]
        exact KX.out.2.2.1.kp0 K1.out
    · rw [decide_eq_false hin] at HLK
      have hmbW := hs.lt
      have hs1 := hs.kp k1 (fun h => h)
      obtain ⟨w9, hu9, hs9, k9⟩ := hs1.store (by have := KP.out; have := HC.out.2.1; omega) hx16
      have HU := Lib.hid hu9
      have hbm : bx ≠ mb := fun e => by
        obtain ⟨f, h1, _⟩ := hs
        exact h1.not hat e
      have k19 : Kp (· = mb) W' w9 := (k1.mono (fun _ _ h => h.elim)).trans k9
      have hovW := ha.lt
      have hat9 := k19.at hat (fun e => hbm e)
      have HL1 := Lib.hid (ld _ (k1.at hat (fun h => h)))
      have HL9 := Lib.hid (ld w9 hat9)
      have ho9 := ho.kp k19 (fun g hg e => by
        obtain ⟨cs, hc⟩ := ho.own.at' hg
        obtain ⟨f, h1, _⟩ := hs
        exact h1.not hc e)
      have ha9 := k19.at ha (fun e => hne2 e.symm)
      have co9 := (ha9.cell 0).trans (show _ = some vo from rfl)
      have ka := (Kp.refl (fun _ => False) w9).alloc (.cells (idB x) 41)
      have hbl : (newL base pre).length ≤ 1000000 := by have := newL_len base pre; have := KP.out; have := HC.out.2.1; omega
      obtain ⟨v10, w10, hr10, ho10, k10, hb10⟩ := (ho9.kp0 ka).app hbl hx16 (bx := w9.heap.size) (At.new w9 (idW x) 41)
      obtain ⟨A0, c0', rfl, _, _⟩ := ho.form
      obtain ⟨A1, c1', rfl, _, _⟩ := ho10.form
      have hnov : ∀ g, (Value.slice A0 (newL base pre).length c0').ownBlock = some g → g ≠ ov := fun g hg' e => by have := hg g hg'; have := H2.out.2.1.lt; omega
      have f10 := ((k10.at (ka.at ha9 (fun h => h)) (fun e => hnov _ e rfl))).frozen 0
      have hat10 := (k10.at (ka.at ha9 (fun h => h)) (fun e => hnov _ e rfl))
      have co10 := (hat10.cell 0).trans (show _ = some (Value.slice A0 (newL base pre).length c0') from rfl)
      have HR10 := Lib.hid hr10
      have HB9 := Lib.hid (bs_one hx16 w9)
      have HIN := Lib.hid hin
      have K10 := Lib.hid (And.intro hs9 (And.intro k9 (And.intro k19 (And.intro ka (And.intro k10 (And.intro ho10 (And.intro hb10 (And.intro hat10 (And.intro hnov k1)))))))))
      clear hs hm ho ha hg hk ht hat k1 hin hs1 hu9 hs9 k9 k19 hat9 ho9 ha9 ka hr10 ho10 k10 hb10 hat10 hbl hnov ld
      have hlen1 : (newL base pre ++ [x]).length = (newL base pre).length + 1 := by simp
      rw [hlen1] at HR10 K10
      rw [hv] at HL0 HLK HU HL1 HL9 HB9 ⊢
      generalize hVA : idB x = VA at *
      clear hVA hlen1
      generalize hLN : (newL base pre).length = LN at *
      gi_wp2_with (first | (refine wpListIn_load_run HL0.out rfl rfl rfl ?_) | (refine wpListIn_lookup_run HLK.out rfl rfl rfl rfl ?_) | (refine wpListIn_load_run HL1.out rfl rfl rfl ?_) | (refine wpListIn_mapUpdate_run HU.out rfl rfl rfl rfl rfl ?_) | (refine wpListIn_load_run HL9.out rfl rfl rfl ?_) | (simp only [Act.put, List.setIfInBounds_toArray, List.set_cons_succ, List.set_cons_zero]; refine wpListIn_buildSlice_run (ps := #[(0, .agg VA)]) rfl rfl rfl HB9.out ?_) | (simp only [Act.put, List.setIfInBounds_toArray, List.set_cons_succ, List.set_cons_zero]; refine wpListIn_append_run HR10.out rfl rfl rfl rfl ?_))
      have e1 : newL base (pre ++ [x]) = newL base pre ++ [x] := by
        rw [newL_snoc, if_neg (by simpa using HIN.out)]
      have kT : Kp (fun j => j = mb ∨ j = ov ∨ (Value.slice A0 LN c0').ownBlock = some j) W' (w10.setCell ⟨ov, 0, none⟩ (.slice A1 (LN + 1) c1')) :=
        (((K10.out.2.2.1.mono (fun _ _ h => .inl h)).trans (K10.out.2.2.2.1.mono (fun _ _ h => h.elim))).trans (K10.out.2.2.2.2.1.mono (fun _ _ h => .inr (.inr h)))).setCell (fun _ => .inr (.inl rfl)) _
      have k10' : Kp (fun j => j = ov ∨ (Value.slice A0 LN c0').ownBlock = some j) w9 (w10.setCell ⟨ov, 0, none⟩ (.slice A1 (LN + 1) c1')) :=
        ((K10.out.2.2.2.1.mono (fun _ _ h => h.elim)).trans (K10.out.2.2.2.2.1.mono (fun _ _ h => .inr h))).setCell (fun _ => .inl rfl) _
      have ks10 : Kp (fun j => j = ov) w10 (w10.setCell ⟨ov, 0, none⟩ (.slice A1 (LN + 1) c1')) := (Kp.refl (fun j => j = ov) w10).setCell (p := ⟨ov, 0, none⟩) (fun _ => rfl) _
      have hg0 := KX.out.2.2.2.2.1
      have hw2s := H2.out.2.2.1.size
      have hmbw2 := H2.out.2.2.2.2
      have e7 := H2.out.2.2.2.1
      have ovl := H2.out.2.1.lt
      have hw9 := K10.out.2.2.1.size
      have hW2 := KX.out.2.2.2.2.2.2.2.2
      have hgA : ∀ g, (Value.slice A1 (LN + 1) c1').ownBlock = some g → w2.heap.size ≤ g := fun g hg => by
        rcases K10.out.2.2.2.2.2.2.1 with h | h
        · exact hg0 g (h ▸ hg)
        · rw [hg, World.size_alloc] at h
          have := Option.some.inj h
          omega
      refine ⟨KeepsFrom.of_kp kT (fun j hj => ?_), ⟨?_, kT.at KX.out.2.1 (fun e => ?_), _, ?_, K10.out.2.2.2.2.2.2.2.1.set 0 _, fun g hg => ?_, KX.out.2.2.2.2.2.1.then kT (fun i hi e => ?_)⟩, ge_kp KX.out.2.2.2.2.2.2.1 kT (fun i e => ?_)⟩
      · rcases hj with h | h | h
        · exact .inl (by omega)
        · exact .inl (by omega)
        · exact .inr (KX.out.2.2.1.own.at' h)
      · rw [e1, List.length_append, List.length_singleton, ← List.append_assoc, ← Nat.add_assoc]
        exact K10.out.1.kp k10' (fun e => e.elim (fun e => by omega) (fun e => by have := hg0 _ e; omega))
      · exact e.elim (fun e => by omega) (fun e => e.elim (fun e => by omega) (fun e => by have := hg0 _ e; omega))
      · rw [e1]
        exact K10.out.2.2.2.2.2.1.kp ks10 (fun g hg e => by have := hgA g hg; omega)
      · exact hgA g hg
      · exact e.elim (fun e => .inl e) (fun e => e.elim (fun e => .inr e) (fun e => by have := hg0 _ e; omega))
      · exact e.elim (fun e => by omega) (fun e => e.elim (fun e => by omega) (fun e => by have := hg0 _ e; omega))
end Go.Proofs.Ytaibdkdmilhloaa
