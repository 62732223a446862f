/- Package refs: set. (Written by wip/ref20e.py.) -/
import Derived.Test.YtaibdkdmilhloaaQIdM
import Derived.Test.YtaibdkdmilhloaaQNcl
import Derived.Test.YtaibdkdmilhloaaQRngA
import Derived.LoopN
namespace Go.Proofs.Ytaibdkdmilhloaa
open Go.RowKit Go.Maps
set_option linter.unusedVariables false
set_option linter.unusedSimpArgs false
attribute [local go_sem] Oper.semAt_some
/-- A set of IDs in block mb, known by a variable in block mv. -/
def SetI (w : World) (mb : Nat) (N : Nat) (l : List Id) : Prop := ∃ f, SetV Try.prog 41 w mb N f ∧ ∀ x : Id, x.length = 16 → f (idV x) = decide (x ∈ l)
theorem SetI.made (w : World) : SetI (w.alloc (.map #[] 0)) w.heap.size 0 [] := ⟨_, SetV.made w, fun x _ => by simp⟩
theorem SetI.kp {S : Nat → Prop} {w w' : World} {mb N : Nat} {l : List Id} (h : SetI w mb N l) (k : Kp S w w') (hs : ¬ S mb) : SetI w' mb N l := by
  obtain ⟨f, h1, h2⟩ := h; exact ⟨f, h1.kp k hs, h2⟩
theorem SetI.lt {w : World} {mb N : Nat} {l : List Id} (h : SetI w mb N l) : mb < w.heap.size := by obtain ⟨f, h1, h2⟩ := h; exact h1.lt
theorem SetI.store {w : World} {mb N : Nat} {l : List Id} (h : SetI w mb N l) (hn : N < 100000000) {x : Id} (hx : x.length = 16) :
    ∃ w', (Instr.mapUpdate 69 (.map (some mb)) (idV x) (.agg #[])).run Try.prog w = .ok () w' ∧ SetI w' mb (N + 1) (l ++ [x]) ∧ Kp (· = mb) w w' := by
  obtain ⟨f, h1, h2⟩ := h
  obtain ⟨k, hk⟩ := id_key hx
  obtain ⟨w', hr, ⟨f', hs, e1, e2⟩, kk⟩ := h1.store id_law Try.underlying69 (by unfold maxLen; omega) hk
  refine ⟨w', hr, ⟨f', hs, fun y hy => ?_⟩, kk⟩
  by_cases he : y = x
  · subst he; rw [e1]; simp
  · rw [e2 _ (fun e => he (idV_inj e)), h2 y hy]
    simp [he]
theorem SetI.look {w : World} {mb N : Nat} {l : List Id} (h : SetI w mb N l) {x : Id} (hx : x.length = 16) :
    (Instr.lookup 69 (.map (some mb)) (idV x) true).run Try.prog w = .ok (.tuple #[.agg #[], .bool (decide (x ∈ l))]) w := by
  obtain ⟨f, h1, h2⟩ := h
  obtain ⟨k, hk⟩ := id_key hx
  rw [← h2 x hx]
  exact h1.look id_law Try.underlying69 (by kernel_rfl) hk
theorem SetI.perm {w : World} {mb N : Nat} {l l' : List Id} (h : SetI w mb N l) (he : ∀ x, x ∈ l' ↔ x ∈ l) : SetI w mb N l' := by
  obtain ⟨f, h1, h2⟩ := h
  exact ⟨f, h1, fun x hx => by rw [h2 x hx]; exact decide_eq_decide.2 (he x).symm⟩
/-- What a round adds. -/
def SetR (w3 : World) (mb mv : Nat) (base : List Id) (pre : List Id) (W : World) : Prop := SetI W mb (base.length + pre.length) (base ++ pre) ∧ At W mv [.map (some mb)] ∧ Kp (fun j => j = mb) w3 W
theorem SetR.kp {w3 W W' : World} {mb mv : Nat} {base pre : List Id} {S : Nat → Prop} (h : SetR w3 mb mv base pre W) (k : Kp S W W') (h1 : ¬ S mb) (h2 : ¬ S mv) (h3 : ∀ i, i < w3.heap.size → ¬ S i) : SetR w3 mb mv base pre W' :=
  ⟨h.1.kp k h1, k.at h.2.1 h2, h.2.2.then k (fun i hi e => absurd e (h3 i hi))⟩
theorem NC.map {B : Nat} {A : World} {b : Nat} {es : Array MapEntry} {clock : Nat} (h : A.heap[b]? = some (.map es clock)) (hb : b < B) : ¬ NC B A b := fun e => by have := e.1; omega
set_option maxHeartbeats 2000000 in
set_option maxRecDepth 20000 in
theorem set_one (a : Option Addr) (c : Nat) (v1 : Value) (l1 : List Id) (w : World) (hr : Rd w a [v1]) (hi1 : Itr w v1 l1) (hb : l1.length ≤ 100000) :
    Calls Try.prog 43 #[.slice a 1 c] w fun e w' => ∃ mb, e = .returned (.map (some mb)) ∧ SetI w' mb l1.length l1 ∧ w.heap.size ≤ mb ∧ Kp (fun _ => False) w w' := by
  have hmm := @run_makeMap Try.prog
  obtain ⟨hids1, gf1, lb1, rfl, en1, gv1⟩ := hi1
  obtain ⟨b0, o0, rfl, hc0⟩ := hr 0 (by simp)
  have hc0 : w.cell? ⟨b0, o0, none⟩ = some (.func (.func gf1) #[] lb1) := hc0
  obtain ⟨ZA, hz16, hZ⟩ := id_zero
  have HI1 := Lib.hid (And.intro hids1 (And.intro en1 gv1))
  have HC := Lib.hid (And.intro hc0 hz16)
  clear hids1 en1 gv1 hr hc0 hz16
  refine (callsIn_wide (n := 5)).1 ?_
  refine callsIn_of_wp_marks Try.func43 rfl trivial ?_ rfl
  simp only [Try.ntmps43, List.size_toArray, List.length_cons, List.length_nil, Nat.reduceAdd, Nat.reduceSub, Array.replicate_succ, Array.replicate_zero, List.push_toArray, List.append_toArray, List.nil_append, List.cons_append]
  refine wpIn_wide.2 ?_
  go_upto_region 2 with fail
  refine wp_world (fun wx => SetI wx w.heap.size 0 [] ∧ At wx (w.heap.size + 1) [.map (some w.heap.size)] ∧ Kp (fun _ => False) w wx) ?_ ?_
  · have k1 := (Kp.refl (fun _ => False) w).alloc (.map #[] 0)
    have h2 := At.new (w.alloc (.map #[] 0)) [.map (some w.heap.size)] 69
    rw [World.size_alloc] at h2
    exact ⟨(SetI.made w).kp ((Kp.refl (fun _ => False) _).alloc _) (fun h => h), h2, k1.alloc _⟩
  rintro w2 ⟨s2, v2, k2⟩
  obtain ⟨mb, hmb⟩ : ∃ mb, mb = w.heap.size := ⟨_, rfl⟩
  rw [← hmb] at s2 v2 ⊢
  obtain ⟨mv, hmv⟩ : ∃ mv, mv = mb + 1 := ⟨_, rfl⟩
  rw [← hmv] at v2 ⊢
  have c0 := k2.cell HC.out.1 (fun h => h)
  have H2 := Lib.hid (And.intro s2 (And.intro v2 (And.intro k2 (And.intro (show w.heap.size ≤ mb by omega) (show mb ≠ mv by omega)))))
  clear s2 v2 k2 hmb hmv hmm
  go_wp2
  refine wp_loop_rounds 2 ?_
  rw [rounds_succ]
  go_wp2
  have H10 := Lib.hid (show SetI w2 mb 0 [] ∧ At w2 mv [.map (some mb)] ∧ Kp (fun i => w.heap.size ≤ i) w w2 from ⟨H2.out.1, H2.out.2.1, H2.out.2.2.1.mono (fun _ _ h => h.elim)⟩)
  refine (wpIn_wide (n := 5)).1 ?_
  refine wpIn_rngA (S := fun _ => False) rfl (by omega) (gf := gf1) (lb := lb1) rfl trivial HI1.out.2.1
    (HI1.out.2.2 4 (by omega)) (fun h => h) (fun i hi => hi.elim) (fun _ => rfl)
    (fun pre W => SetR w2 mb mv [] pre W) (fun c pre W => False)
    ?hI1 (fun _ _ _ _ h _ => h) ?hT1 (fun _ _ _ h _ => h) ?hIS1 (fun c s A A' h k => h) ?h01 ?hT01
    (fun x W a' W2 => a' = { tmps := #[.slice (some ⟨b0, o0, none⟩) 1 c, undef, .map none, .pointer (some ⟨mv, 0, none⟩), undef, .func (.func gf1) #[] lb1, .pointer (some ⟨W.heap.size, 0, none⟩), .map (some mb), .slice (some ⟨b0, o0, none⟩) 1 c, .int .i64 1, .int .i64 0, .bool true, .pointer (some ⟨b0, o0, none⟩), .func (.func gf1) #[] lb1, .func (.func gf1) #[] lb1, idV x, undef, undef, undef, undef, undef], defers := [] } ∧ x.length = 16 ∧ W2 = W.alloc (.cells (idB x) 41)) ?hBk1 ?hIK1 ?hTK1 ?assign1 ?body1 ?done1 ?stop1
  case hI1 =>
    rintro pre A A' h k
    exact h.kp k (fun e => by have := e.1; have := H10.out.1.lt; omega) (NC.not h.2.1) (fun i hi e => by have := e.1; omega)
  case hT1 => exact fun pre A A' h k => ge_kp h k (fun i e => by have := e.1; have := H10.out.2.2.size; omega)
  case hIS1 =>
    rintro s A A' h k
    exact h.kp k (fun h => h) (fun h => h) (fun _ _ h => h)
  case h01 => exact ⟨by simpa using H10.out.1, H10.out.2.1, Kp.refl _ _⟩
  case hT01 => exact H10.out.2.2
  case hBk1 =>
    rintro x A A' a' ⟨_, _, rfl⟩
    exact (Kp.refl _ A).alloc _
  case hIK1 =>
    rintro s A A' h k
    exact h.kp k (fun h => h) (fun h => h) (fun _ _ h => h)
  case hTK1 => exact fun s A A' h k => ge_kp0 h k
  case assign1 =>
    intro yl x W K hx hK
    have hx16 := HI1.out.1 x hx
    have HS2 := Lib.hid (store_new hx16 HC.out.2 W)
    have hv := idV_B x
    have HK := Lib.hid hK
    rw [hv] at HS2 ⊢
    clear hK
    gi_wp2_with (refine wpListIn_store_run HS2.out rfl rfl rfl rfl ?_)
    exact HK.out _ _ ⟨by rw [hv]; rfl, hx16, rfl⟩
  case stop1 =>
    rintro D c pre W hD hpre h
    exact h.elim
  case body1 =>
    rintro yl pre x W W2 W' a' hpre ⟨rfl, hx16, rfl⟩ k2 hr ht
    have hat2 : At (W.alloc (.cells (idB x) 41)) W.heap.size (idW x) := At.new W (idW x) 41
    have hat := k2.at hat2 (NC.not hat2)
    have HL := Lib.hid (load_id (o := 0) (at_range (pre := []) (post := []) (by simpa using hat)) hx16)
    have cm := (hr.2.1.cell 0).trans (show _ = some (.map (some mb)) from rfl)
    have hplen : pre.length < 200000 := by
      have := hpre.length_le
      simp at this; omega
    obtain ⟨w9, hu, hs9, k9⟩ := hr.1.store (by have := pre.length; simp; omega) hx16
    have HU := Lib.hid hu
    have hv := idV_B x
    rw [hv] at HU HL ⊢
    have H9 := Lib.hid (And.intro hs9 (And.intro k9 (And.intro hr ht)))
    
    have hW' := W'.heap.size
    have HKP := Lib.hid (show W.heap.size < W'.heap.size from hat.lt)
    clear hat2 hat hu hs9 k9 hr ht hv k2 
    generalize idB x = VA at *
    gi_wp2_with (first | (refine wpListIn_load_run HL.out rfl rfl rfl ?_) | (refine wpListIn_mapUpdate_run HU.out rfl rfl rfl rfl rfl ?_))
    have hmbl := H10.out.1.lt
    refine ⟨KeepsFrom.of_kp H9.out.2.1 (fun j hj => .inl (by omega)), ⟨?_, H9.out.2.1.at H9.out.2.2.1.2.1 (fun e => H2.out.2.2.2.2 e.symm), H9.out.2.2.1.2.2.trans H9.out.2.1⟩, ge_kp H9.out.2.2.2 H9.out.2.1 (fun i e => by have := H2.out.2.2.2.1; omega)⟩
    · have h9 := H9.out.1
      rw [List.length_append, List.length_singleton, ← List.append_assoc, ← Nat.add_assoc]
      exact h9
  case done1 =>
    rintro D W hD hr _ hd
    have cm := (hr.2.1.cell 0).trans (show _ = some (.map (some mb)) from rfl)
    have HR := Lib.hid hr
    clear hr c0
    go_wp2
    rw [rounds_succ]
    go_wp2
    have kx := Kp.putNC hD hd rfl (.deferred none)
    refine ⟨by simp, .inl ⟨_, _, rfl, run_takeDeferred hd, ?_⟩⟩
    have hmbl := H10.out.1.lt
    refine ⟨_, results_tmp rfl _ _ _, mb, rfl, ?_, H2.out.2.2.2.1, ?_⟩
    · have h9 := HR.out.1
      rw [List.nil_append, List.length_nil, Nat.zero_add] at h9
      exact h9.kp kx (fun e => by have := e.1; omega)
    · exact (H2.out.2.2.1.then HR.out.2.2 (fun i hi e => by have := H2.out.2.2.2.1; omega)).thenNC kx (by have := H2.out.2.2.1.size; omega)
set_option maxHeartbeats 4000000 in
set_option maxRecDepth 20000 in
theorem set_two (a : Option Addr) (c : Nat) (v1 v2 : Value) (l1 l2 : List Id) (w : World) (hr : Rd w a [v1, v2]) (hi1 : Itr w v1 l1) (hi2 : Itr w v2 l2) (hb : l1.length + l2.length ≤ 100000) :
    Calls Try.prog 43 #[.slice a 2 c] w fun e w' => ∃ mb, e = .returned (.map (some mb)) ∧ SetI w' mb (l1.length + l2.length) (l1 ++ l2) ∧ w.heap.size ≤ mb ∧ Kp (fun _ => False) w w' := by
  have hmm := @run_makeMap Try.prog
  obtain ⟨hids1, gf1, lb1, rfl, en1, gv1⟩ := hi1
  obtain ⟨hids2, gf2, lb2, rfl, en2, gv2⟩ := hi2
  obtain ⟨b0, o0, rfl, hc0⟩ := hr 0 (by simp)
  have hc0 : w.cell? ⟨b0, o0, none⟩ = some (.func (.func gf1) #[] lb1) := hc0
  obtain ⟨b0', o0', he, hc1⟩ := hr 1 (by simp)
  cases he
  have hc1 : w.cell? ⟨b0, o0 + 1, none⟩ = some (.func (.func gf2) #[] lb2) := hc1
  obtain ⟨ZA, hz16, hZ⟩ := id_zero
  have HI1 := Lib.hid (And.intro hids1 (And.intro en1 gv1))
  have HI2 := Lib.hid (And.intro hids2 (And.intro en2 gv2))
  have HC := Lib.hid (And.intro hc0 hz16)
  have HC1 := Lib.hid hc1
  have HB := Lib.hid hb
  clear hids1 en1 gv1 hids2 en2 gv2 hr hc0 hz16 hc1 hb
  refine (callsIn_wide (n := 5)).1 ?_
  refine callsIn_of_wp_marks Try.func43 rfl trivial ?_ rfl
  simp only [Try.ntmps43, List.size_toArray, List.length_cons, List.length_nil, Nat.reduceAdd, Nat.reduceSub, Array.replicate_succ, Array.replicate_zero, List.push_toArray, List.append_toArray, List.nil_append, List.cons_append]
  refine wpIn_wide.2 ?_
  go_upto_region 2 with fail
  refine wp_world (fun wx => SetI wx w.heap.size 0 [] ∧ At wx (w.heap.size + 1) [.map (some w.heap.size)] ∧ Kp (fun _ => False) w wx) ?_ ?_
  · have k1 := (Kp.refl (fun _ => False) w).alloc (.map #[] 0)
    have h2 := At.new (w.alloc (.map #[] 0)) [.map (some w.heap.size)] 69
    rw [World.size_alloc] at h2
    exact ⟨(SetI.made w).kp ((Kp.refl (fun _ => False) _).alloc _) (fun h => h), h2, k1.alloc _⟩
  rintro w2 ⟨s2, v2, k2⟩
  obtain ⟨mb, hmb⟩ : ∃ mb, mb = w.heap.size := ⟨_, rfl⟩
  rw [← hmb] at s2 v2 ⊢
  obtain ⟨mv, hmv⟩ : ∃ mv, mv = mb + 1 := ⟨_, rfl⟩
  rw [← hmv] at v2 ⊢
  have c0 := k2.cell HC.out.1 (fun h => h)
  have H2 := Lib.hid (And.intro s2 (And.intro v2 (And.intro k2 (And.intro (show w.heap.size ≤ mb by omega) (show mb ≠ mv by omega)))))
  clear s2 v2 k2 hmb hmv hmm
  go_wp2
  refine wp_loop_rounds 3 ?_
  rw [rounds_succ]
  go_wp2
  have H10 := Lib.hid (show SetI w2 mb 0 [] ∧ At w2 mv [.map (some mb)] ∧ Kp (fun i => w.heap.size ≤ i) w w2 from ⟨H2.out.1, H2.out.2.1, H2.out.2.2.1.mono (fun _ _ h => h.elim)⟩)
  refine (wpIn_wide (n := 5)).1 ?_
  refine wpIn_rngA (S := fun _ => False) rfl (by omega) (gf := gf1) (lb := lb1) rfl trivial HI1.out.2.1
    (HI1.out.2.2 4 (by omega)) (fun h => h) (fun i hi => hi.elim) (fun _ => rfl)
    (fun pre W => SetR w2 mb mv [] pre W) (fun c pre W => False)
    ?hI1 (fun _ _ _ _ h _ => h) ?hT1 (fun _ _ _ h _ => h) ?hIS1 (fun c s A A' h k => h) ?h01 ?hT01
    (fun x W a' W2 => a' = { tmps := #[.slice (some ⟨b0, o0, none⟩) 2 c, undef, .map none, .pointer (some ⟨mv, 0, none⟩), undef, .func (.func gf1) #[] lb1, .pointer (some ⟨W.heap.size, 0, none⟩), .map (some mb), .slice (some ⟨b0, o0, none⟩) 2 c, .int .i64 2, .int .i64 0, .bool true, .pointer (some ⟨b0, o0, none⟩), .func (.func gf1) #[] lb1, .func (.func gf1) #[] lb1, idV x, undef, undef, undef, undef, undef], defers := [] } ∧ x.length = 16 ∧ W2 = W.alloc (.cells (idB x) 41)) ?hBk1 ?hIK1 ?hTK1 ?assign1 ?body1 ?done1 ?stop1
  case hI1 =>
    rintro pre A A' h k
    exact h.kp k (fun e => by have := e.1; have := H10.out.1.lt; omega) (NC.not h.2.1) (fun i hi e => by have := e.1; omega)
  case hT1 => exact fun pre A A' h k => ge_kp h k (fun i e => by have := e.1; have := H10.out.2.2.size; omega)
  case hIS1 =>
    rintro s A A' h k
    exact h.kp k (fun h => h) (fun h => h) (fun _ _ h => h)
  case h01 => exact ⟨by simpa using H10.out.1, H10.out.2.1, Kp.refl _ _⟩
  case hT01 => exact H10.out.2.2
  case hBk1 =>
    rintro x A A' a' ⟨_, _, rfl⟩
    exact (Kp.refl _ A).alloc _
  case hIK1 =>
    rintro s A A' h k
    exact h.kp k (fun h => h) (fun h => h) (fun _ _ h => h)
  case hTK1 => exact fun s A A' h k => ge_kp0 h k
  case assign1 =>
    intro yl x W K hx hK
    have hx16 := HI1.out.1 x hx
    have HS2 := Lib.hid (store_new hx16 HC.out.2 W)
    have hv := idV_B x
    have HK := Lib.hid hK
    rw [hv] at HS2 ⊢
    clear hK
    gi_wp2_with (refine wpListIn_store_run HS2.out rfl rfl rfl rfl ?_)
    exact HK.out _ _ ⟨by rw [hv]; rfl, hx16, rfl⟩
  case stop1 =>
    rintro D c pre W hD hpre h
    exact h.elim
  case body1 =>
    rintro yl pre x W W2 W' a' hpre ⟨rfl, hx16, rfl⟩ k2 hr ht
    have hat2 : At (W.alloc (.cells (idB x) 41)) W.heap.size (idW x) := At.new W (idW x) 41
    have hat := k2.at hat2 (NC.not hat2)
    have HL := Lib.hid (load_id (o := 0) (at_range (pre := []) (post := []) (by simpa using hat)) hx16)
    have cm := (hr.2.1.cell 0).trans (show _ = some (.map (some mb)) from rfl)
    have hplen : pre.length < 200000 := by
      have := hpre.length_le
      simp at this; have := HB.out; omega
    obtain ⟨w9, hu, hs9, k9⟩ := hr.1.store (by have := pre.length; simp; omega) hx16
    have HU := Lib.hid hu
    have hv := idV_B x
    rw [hv] at HU HL ⊢
    have H9 := Lib.hid (And.intro hs9 (And.intro k9 (And.intro hr ht)))
    
    have hW' := W'.heap.size
    have HKP := Lib.hid (show W.heap.size < W'.heap.size from hat.lt)
    clear hat2 hat hu hs9 k9 hr ht hv k2 
    generalize idB x = VA at *
    gi_wp2_with (first | (refine wpListIn_load_run HL.out rfl rfl rfl ?_) | (refine wpListIn_mapUpdate_run HU.out rfl rfl rfl rfl rfl ?_))
    have hmbl := H10.out.1.lt
    refine ⟨KeepsFrom.of_kp H9.out.2.1 (fun j hj => .inl (by omega)), ⟨?_, H9.out.2.1.at H9.out.2.2.1.2.1 (fun e => H2.out.2.2.2.2 e.symm), H9.out.2.2.1.2.2.trans H9.out.2.1⟩, ge_kp H9.out.2.2.2 H9.out.2.1 (fun i e => by have := H2.out.2.2.2.1; omega)⟩
    · have h9 := H9.out.1
      rw [List.length_append, List.length_singleton, ← List.append_assoc, ← Nat.add_assoc]
      exact h9
  case done1 =>
    rintro D1 WA hD hr _ hd
    have cm := (hr.2.1.cell 0).trans (show _ = some (.map (some mb)) from rfl)
    have hmbl := H10.out.1.lt
    have H20 := Lib.hid (show SetI WA mb l1.length l1 ∧ At WA mv [.map (some mb)] ∧ Kp (fun i => w.heap.size ≤ i) w WA from ⟨by
      have h9 := hr.1
      rw [List.nil_append, List.length_nil, Nat.zero_add] at h9
      exact h9, hr.2.1, H10.out.2.2.trans (hr.2.2.mono (fun i _ e => by have := H2.out.2.2.2.1; omega))⟩)
    have HD20 := Lib.hid hd
    have HD2 := Lib.hid (show D1 < WA.heap.size from (Array.getElem?_eq_some_iff.1 hd).1)
    have H21 := Lib.hid (show mb < D1 by omega)
    have KW := Lib.hid ((H2.out.2.2.1.then hr.2.2 (fun i hi e => by have := H2.out.2.2.2.1; omega)))
    have c1 : WA.cell? ⟨b0, o0 + 1, none⟩ = some (.func (.func gf2) #[] lb2) := KW.out.cell HC1.out (fun h => h)
    have HD1 := Lib.hid hD
    clear hr c0 hD hmbl hd cm
    go_wp2
    rw [rounds_succ]
    go_wp2
    refine (wpIn_wide (n := 5)).1 ?_
    refine wpIn_rngA (S := fun _ => False) rfl (by omega) (gf := gf2) (lb := lb2) rfl trivial HI2.out.2.1
      (HI2.out.2.2 4 (by omega)) (fun h => h) (fun i hi => hi.elim) (fun _ => rfl)
      (fun pre W => SetR WA mb mv l1 pre W ∧ W.heap[D1]? = some (.deferred (some []))) (fun c pre W => False)
      ?hI2 (fun _ _ _ _ h _ => h) ?hT2 (fun _ _ _ h _ => h) ?hIS2 (fun c s A A' h k => h) ?h02 ?hT02
      (fun x W a' W2 => a' = { tmps := #[.slice (some ⟨b0, o0, none⟩) 2 c, undef, .map none, .pointer (some ⟨mv, 0, none⟩), undef, .func (.func gf2) #[] lb2, .pointer (some ⟨W.heap.size, 0, none⟩), .map (some mb), .slice (some ⟨b0, o0, none⟩) 2 c, .int .i64 2, .int .i64 1, .bool true, .pointer (some ⟨b0, o0 + 1, none⟩), .func (.func gf2) #[] lb2, .func (.func gf2) #[] lb2, idV x, undef, undef, undef, .int .i64 1, undef], defers := [] } ∧ x.length = 16 ∧ W2 = W.alloc (.cells (idB x) 41)) ?hBk2 ?hIK2 ?hTK2 ?assign2 ?body2 ?done2 ?stop2
    case hI2 =>
      rintro pre A A' ⟨h, hd⟩ k
      refine ⟨ h.kp k (fun e => by have := e.1; have := H20.out.1.lt; omega) (NC.not h.2.1) (fun i hi e => by have := e.1; omega), ?_⟩
      exact (k.block _ (Array.getElem?_eq_some_iff.1 hd).1 (fun e => by have := e.1; have := HD2.out; omega)).trans hd
    case hT2 => exact fun pre A A' h k => ge_kp h k (fun i e => by have := e.1; have := H20.out.2.2.size; omega)
    case hIS2 =>
      rintro s A A' ⟨h, hd⟩ k
      exact ⟨h.kp k (fun h => h) (fun h => h) (fun _ _ h => h), (k.block _ (Array.getElem?_eq_some_iff.1 hd).1 (fun h => h)).trans hd⟩
    case h02 => exact ⟨⟨by rw [List.append_nil, List.length_nil, Nat.add_zero]; exact H20.out.1, H20.out.2.1, Kp.refl _ _⟩, HD20.out⟩
    case hT02 => exact H20.out.2.2
    case hBk2 =>
      rintro x A A' a' ⟨_, _, rfl⟩
      exact (Kp.refl _ A).alloc _
    case hIK2 =>
      rintro s A A' ⟨h, hd⟩ k
      exact ⟨h.kp k (fun h => h) (fun h => h) (fun _ _ h => h), (k.block _ (Array.getElem?_eq_some_iff.1 hd).1 (fun h => h)).trans hd⟩
    case hTK2 => exact fun s A A' h k => ge_kp0 h k
    case assign2 =>
      intro yl x W K hx hK
      have hx16 := HI2.out.1 x hx
      have HS2 := Lib.hid (store_new hx16 HC.out.2 W)
      have hv := idV_B x
      have HK := Lib.hid hK
      rw [hv] at HS2 ⊢
      clear hK
      gi_wp2_with (refine wpListIn_store_run HS2.out rfl rfl rfl rfl ?_)
      exact HK.out _ _ ⟨by rw [hv]; rfl, hx16, rfl⟩
    case stop2 =>
      rintro D c pre W hD hpre h
      exact h.elim
    case body2 =>
      rintro yl pre x W W2 W' a' hpre ⟨rfl, hx16, rfl⟩ k2 ⟨hr, hd⟩ ht
      have hat2 : At (W.alloc (.cells (idB x) 41)) W.heap.size (idW x) := At.new W (idW x) 41
      have hat := k2.at hat2 (NC.not hat2)
      have HL := Lib.hid (load_id (o := 0) (at_range (pre := []) (post := []) (by simpa using hat)) hx16)
      have cm := (hr.2.1.cell 0).trans (show _ = some (.map (some mb)) from rfl)
      have hplen : pre.length < 200000 := by
        have := hpre.length_le
        simp at this; have := HB.out; omega
      obtain ⟨w9, hu, hs9, k9⟩ := hr.1.store (by have := HB.out; omega) hx16
      have HU := Lib.hid hu
      have hv := idV_B x
      rw [hv] at HU HL ⊢
      have H9 := Lib.hid (And.intro hs9 (And.intro k9 (And.intro hr ht)))
      have HDD := Lib.hid hd
      have hW' := W'.heap.size
      have HKP := Lib.hid (show W.heap.size < W'.heap.size from hat.lt)
      clear hat2 hat hu hs9 k9 hr ht hv k2 hd
      generalize idB x = VA at *
      gi_wp2_with (first | (refine wpListIn_load_run HL.out rfl rfl rfl ?_) | (refine wpListIn_mapUpdate_run HU.out rfl rfl rfl rfl rfl ?_))
      have hmbl := H20.out.1.lt
      refine ⟨KeepsFrom.of_kp H9.out.2.1 (fun j hj => .inl (by omega)), ⟨⟨?_, H9.out.2.1.at H9.out.2.2.1.2.1 (fun e => H2.out.2.2.2.2 e.symm), H9.out.2.2.1.2.2.trans H9.out.2.1⟩, ?_⟩, ge_kp H9.out.2.2.2 H9.out.2.1 (fun i e => by have := H2.out.2.2.2.1; omega)⟩
      · have h9 := H9.out.1
        rw [List.length_append, List.length_singleton, ← List.append_assoc, ← Nat.add_assoc]
        exact h9
      · exact (H9.out.2.1.block _ (Array.getElem?_eq_some_iff.1 HDD.out).1 (fun e => by have := HD2.out; have := H21.out; omega)).trans HDD.out

    case done2 =>
      rintro D2 W2 hD ⟨hr, hd1⟩ _ hd
      have cm := (hr.2.1.cell 0).trans (show _ = some (.map (some mb)) from rfl)
      have HR := Lib.hid hr
      clear hr c1
      go_wp2
      rw [rounds_succ]
      go_wp2
      have kx := Kp.putNC hD hd rfl (.deferred none)
      have hd1' := (World.putObj_heap_other (o := Obj.deferred none) (show D1 ≠ D2 by have := HD2.out; omega)).trans hd1
      refine ⟨by simp, .inl ⟨_, _, rfl, run_takeDeferred hd, ?_⟩⟩
      have kx2 := Kp.putNC (B := w2.heap.size) HD1.out hd1' rfl (.deferred none)
      refine ⟨by simp, .inl ⟨_, _, rfl, run_takeDeferred hd1', ?_⟩⟩
      have hmbl := H10.out.1.lt
      have hwa := KW.out.size
      have h21 := H21.out
      have hd2 := HD2.out
      refine ⟨_, results_tmp rfl _ _ _, mb, rfl, ?_, H2.out.2.2.2.1, ?_⟩
      · exact (HR.out.1.kp kx (fun e => by have := e.1; omega)).kp kx2 (fun e => by have := e.1; omega)
      · exact ((KW.out.then HR.out.2.2 (fun i hi e => by have := H2.out.2.2.2.1; omega)).thenNC kx (by omega)).thenNC kx2 (by have := H2.out.2.2.1.size; omega)
end Go.Proofs.Ytaibdkdmilhloaa
