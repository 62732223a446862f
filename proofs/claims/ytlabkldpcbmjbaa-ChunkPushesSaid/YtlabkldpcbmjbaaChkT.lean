/- Package chunk: Split. (Written by wip/chktgen.py.) -/
import Derived.Test.YtlabkldpcbmjbaaChkU
namespace Go.Proofs.Ytlabkldpcbmjbaa
open Go.RowKit
set_option linter.unusedVariables false
set_option linter.unusedSimpArgs false
attribute [local go_sem] Oper.semAt_some
/-- cuts hands back the iterator; its two variables are boxed. -/
theorem cuts_any (eb : Nat) (a : Option Addr) (n c : Nat) (w : World) :
    Calls Try.prog 34 #[.pointer (some ⟨eb, 0, none⟩), .slice a n c] w fun e w' => e = .returned (.func (.func 39) #[] #[.pointer (some ⟨w.heap.size + 1, 0, none⟩), .pointer (some ⟨w.heap.size, 0, none⟩)]) ∧
      At w' w.heap.size [.pointer (some ⟨eb, 0, none⟩)] ∧ At w' (w.heap.size + 1) [.slice a n c] ∧ Kp (fun _ => False) w w' ∧ w'.heap.size = w.heap.size + 2 := by
  go_enter Try.func34, Try.ntmps34
  go_wp2
  go_ret
  have h0 := At.new w [.pointer (some ⟨eb, 0, none⟩)] 70
  have h1 := At.new (w.alloc (.cells #[.pointer (some ⟨eb, 0, none⟩)] 70)) [.slice a n c] 22
  rw [World.size_alloc] at h1
  exact ⟨rfl, h0.alloc _, h1, ((Kp.refl _ w).alloc _).alloc _, by simp⟩
theorem wpList_store_to {P : Program} {ops : Array Oper} {rest : List Oper} {op : Oper} {a : Act} {w : World} {Q : Exit → Act → World → Prop} (I : World → Prop) (hgd : op.guard = none) (ty : TypeId) (x y : Operand) (ho : op.op = .store ty x y)
    (b o : Nat) (cells : Array Value) (hx : a.eval x = .pointer (some ⟨b, o, none⟩)) (hy : a.eval y = .agg cells)
    (ht : w.there b o cells.size) (hi : (P.info? ty).map (·.size) = some cells.size) (h1 : cells.all (·.oneCell') = true) (hI : I (w.setCells b o cells.toList))
    (h : ∀ w', I w' → wpList P ops Q rest (a.put op.dst undef) w') : wpList P ops Q (op :: rest) a w :=
  wpList_store_mid hgd ty x y ho b o cells hx hy ht hi h1 (h _ hI)
theorem edge_new (w : World) (T T' : TypeId) : ((w.alloc (.cells #[.int .u8 0, .int .u8 0, .int .u8 0, .int .u8 0, .int .u8 0, .int .u8 0, .int .u8 0, .int .u8 0, .int .u8 0, .int .u8 0, .int .u8 0, .int .u8 0, .int .u8 0, .int .u8 0, .int .u8 0, .int .u8 0, .int .i64 0, .int .u32 0, .bool false, .int .i64 0] T)).alloc (.cells #[.int .i64 0] T')).there w.heap.size 0 freshC.toArray.size ∧
    EdgeAt (((w.alloc (.cells #[.int .u8 0, .int .u8 0, .int .u8 0, .int .u8 0, .int .u8 0, .int .u8 0, .int .u8 0, .int .u8 0, .int .u8 0, .int .u8 0, .int .u8 0, .int .u8 0, .int .u8 0, .int .u8 0, .int .u8 0, .int .u8 0, .int .i64 0, .int .u32 0, .bool false, .int .i64 0] T)).alloc (.cells #[.int .i64 0] T')).setCells w.heap.size 0 freshC) w.heap.size [] [] ∧
    At (((w.alloc (.cells #[.int .u8 0, .int .u8 0, .int .u8 0, .int .u8 0, .int .u8 0, .int .u8 0, .int .u8 0, .int .u8 0, .int .u8 0, .int .u8 0, .int .u8 0, .int .u8 0, .int .u8 0, .int .u8 0, .int .u8 0, .int .u8 0, .int .i64 0, .int .u32 0, .bool false, .int .i64 0] T)).alloc (.cells #[.int .i64 0] T')).setCells w.heap.size 0 freshC) (w.heap.size + 1) [.int .i64 0] ∧
    Kp (fun _ => False) w (((w.alloc (.cells #[.int .u8 0, .int .u8 0, .int .u8 0, .int .u8 0, .int .u8 0, .int .u8 0, .int .u8 0, .int .u8 0, .int .u8 0, .int .u8 0, .int .u8 0, .int .u8 0, .int .u8 0, .int .u8 0, .int .u8 0, .int .u8 0, .int .i64 0, .int .u32 0, .bool false, .int .i64 0] T)).alloc (.cells #[.int .i64 0] T')).setCells w.heap.size 0 freshC) := by
  have h0 := (At.new w [.int .u8 0, .int .u8 0, .int .u8 0, .int .u8 0, .int .u8 0, .int .u8 0, .int .u8 0, .int .u8 0, .int .u8 0, .int .u8 0, .int .u8 0, .int .u8 0, .int .u8 0, .int .u8 0, .int .u8 0, .int .u8 0, .int .i64 0, .int .u32 0, .bool false, .int .i64 0] T).alloc (.cells #[.int .i64 0] T')
  have h1 := At.new (w.alloc (.cells #[.int .u8 0, .int .u8 0, .int .u8 0, .int .u8 0, .int .u8 0, .int .u8 0, .int .u8 0, .int .u8 0, .int .u8 0, .int .u8 0, .int .u8 0, .int .u8 0, .int .u8 0, .int .u8 0, .int .u8 0, .int .u8 0, .int .i64 0, .int .u32 0, .bool false, .int .i64 0] T)) [.int .i64 0] T'
  rw [World.size_alloc] at h1
  have k0 : Kp (fun _ => False) w ((w.alloc (.cells #[.int .u8 0, .int .u8 0, .int .u8 0, .int .u8 0, .int .u8 0, .int .u8 0, .int .u8 0, .int .u8 0, .int .u8 0, .int .u8 0, .int .u8 0, .int .u8 0, .int .u8 0, .int .u8 0, .int .u8 0, .int .u8 0, .int .i64 0, .int .u32 0, .bool false, .int .i64 0] T)).alloc (.cells #[.int .i64 0] T')) := ((Kp.refl _ w).alloc _).alloc _
  generalize hW : (w.alloc (.cells #[.int .u8 0, .int .u8 0, .int .u8 0, .int .u8 0, .int .u8 0, .int .u8 0, .int .u8 0, .int .u8 0, .int .u8 0, .int .u8 0, .int .u8 0, .int .u8 0, .int .u8 0, .int .u8 0, .int .u8 0, .int .u8 0, .int .i64 0, .int .u32 0, .bool false, .int .i64 0] T)).alloc (.cells #[.int .i64 0] T') = W at *
  refine ⟨fun j hj => ?_, ?_, ?_, Kp.setCells (fun hh => absurd hh (Nat.lt_irrefl _)) _ _ k0⟩
  · have hj' : j < 20 := hj
    exact ⟨by rw [Nat.zero_add, h0.cell, List.getElem?_eq_getElem (by exact hj')]; rfl, h0.frozen _⟩
  · have := At.setCells freshC 0 h0 (by simp [freshC, rollC])
    exact EdgeAt.fresh this
  · exact (Kp.setCells (S := (· = w.heap.size)) (fun _ => rfl) _ _ (Kp.refl _ W)).at h1 (by omega)
set_option maxHeartbeats 4000000 in
set_option maxRecDepth 20000 in
theorem split_any (a : Option Addr) (cap : Nat) (l : List Int) (w : World) (h : RdB w a l) (hl : l.length ≤ 100000) (hcap : l.length ≤ cap) (hcm : cap ≤ maxLen) :
    Calls Try.prog 12 #[.slice a l.length cap] w fun e w' => ∃ v vs, e = .returned v ∧ LLs w.heap.size w' v (chunks l) vs ∧ Kp (fun _ => False) w w' := by
  refine (callsIn_wide (n := 5)).1 ?_
  refine callsIn_of_wp_marks Try.func12 rfl trivial ?_ rfl
  simp only [Try.ntmps12, List.size_toArray, List.length_cons, List.length_nil, Nat.reduceAdd, Nat.reduceSub, Array.replicate_succ, Array.replicate_zero, List.push_toArray, List.append_toArray, List.nil_append, List.cons_append]
  refine wpIn_wide.2 ?_
  have hi : (Try.prog.info? 54).map (·.size) = some freshC.toArray.size := by kernel_rfl
  have h1c : freshC.toArray.all (·.oneCell') = true := by simp [freshC, rollC, Value.oneCell']
  obtain ⟨A, hA⟩ : ∃ A, A = freshC.toArray := ⟨_, rfl⟩
  have HF := Lib.hid fresh_any
  rw [← hA] at hi h1c HF
  have HA := Lib.hid hA
  have HI := Lib.hid hi
  have HO := Lib.hid h1c
  clear hA hi h1c
  have HR := Lib.hid h
  obtain ⟨n, hn⟩ : ∃ n, n = l.length := ⟨_, rfl⟩
  rw [← hn] at hl hcap ⊢
  have HN := Lib.hid hn
  clear hn h
  go_upto_region 2 with fail
  refine wp_world (fun wx => At wx w.heap.size [.slice a n cap] ∧ At wx (w.heap.size + 1) [.slice none 0 0] ∧ Kp (fun _ => False) w wx ∧ wx.heap.size = w.heap.size + 2) ⟨(At.new w [.slice a n cap] _).alloc _, by have := At.new (w.alloc (.cells #[.slice a n cap] 22)) [.slice none 0 0] 24; rwa [World.size_alloc] at this, ((Kp.refl _ w).alloc _).alloc _, by simp⟩ ?_
  rintro w1 ⟨hb1, ho1, k1, hs1⟩
  have H1 := Lib.hid (And.intro hb1 (And.intro ho1 (And.intro k1 hs1)))
  clear hb1 ho1 k1 hs1
  go_upto_region 3 with (first | (go_at_call 33; (with_reducible refine (HF.out _).mono ?_); rintro e w2 ⟨rfl, k2⟩; have HT := Lib.hid (edge_new w2 54 3); have H2 := Lib.hid k2; clear k2) | (refine wpList_store_to (fun w3 => Hid (EdgeAt w3 w2.heap.size [] [] ∧ At w3 (w2.heap.size + 1) [.int .i64 0] ∧ Kp (fun _ => False) w2 w3)) rfl 54 (.tmp 4) (.tmp 7) rfl w2.heap.size 0 A rfl rfl (by rw [HA.out]; exact HT.out.1) HI.out HO.out (by rw [HA.out]; exact HT.out.2) ?_; intro w3 H3; have c5 := (H3.out.2.1.cell 0).trans (show _ = some (.int .i64 0) from rfl); have f5 := H3.out.2.1.frozen 0))
  have hle : w.heap.size + 2 ≤ w2.heap.size := by have := H2.out.size; have := H1.out.2.2.2; omega
  generalize w2.heap.size = eb at *
  refine wp_world (fun wx => At wx w.heap.size [.slice a n cap] ∧ At wx (w.heap.size + 1) [.slice none 0 0] ∧ EdgeAt wx eb [] [] ∧ At wx (eb + 1) [.int .i64 0] ∧ Kp (fun _ => False) w wx) ?_ ?_
  · have k13 := H2.out.trans H3.out.2.2
    have ks := (Kp.refl (fun i => i = eb + 1) w3).setCell (p := ⟨eb + 1, 0, none⟩) (fun _ => rfl) (.int .i64 0)
    exact ⟨ks.at (k13.at H1.out.1 (fun h => h)) (by omega), ks.at (k13.at H1.out.2.1 (fun h => h)) (by omega), H3.out.1.kp ks (by omega), H3.out.2.1.set 0 _, (H1.out.2.2.1.trans k13).then ks (fun i hi e => by omega)⟩
  rintro w4 ⟨hb4, ho4, he4, ha4, k4⟩
  have cb := (hb4.cell 0).trans (show _ = some (.slice a n cap) from rfl)
  have H4 := Lib.hid (And.intro hb4 (And.intro ho4 (And.intro he4 (And.intro ha4 k4))))
  clear hb4 ho4 he4 ha4 k4 c5 f5 HT H1 H2 H3
  go_wp2_with (go_at_call 34; (with_reducible refine (cuts_any _ _ _ _ _).mono ?_); rintro e w5 ⟨rfl, p1, p2, k5, s5⟩; have H5 := Lib.hid (And.intro p1 (And.intro p2 (And.intro k5 s5))); clear p1 p2 k5 s5)
  have hbz : w5.heap.size = w4.heap.size + 2 := H5.out.2.2.2
  have hez : eb + 1 < w4.heap.size := H4.out.2.2.2.1.lt
  have hL : RdB w5 a l := HR.out.kp0 (H4.out.2.2.2.2.trans H5.out.2.2.1) (fun _ _ h => h)
  have hL4 : RdB w4 a l := HR.out.kp0 H4.out.2.2.2.2 (fun _ _ h => h)
  have hsa : l ≠ [] → ∀ y, a = some y → y.block < w.heap.size := fun hne y hy => by
    obtain ⟨b, o, e, hc⟩ := HR.out.cell 0 (by cases l with | nil => exact absurd rfl hne | cons => simp)
    rw [e] at hy; cases hy
    exact World.block_lt_of_cell? w _ hc
  refine (wpIn_wide (n := 5)).1 ?_
  refine wpIn_rng (S := (· = eb)) rfl (by omega) (gf := 39) (lb := #[.pointer (some ⟨w4.heap.size + 1, 0, none⟩), .pointer (some ⟨w4.heap.size, 0, none⟩)]) rfl trivial (enters_of Try.func39 (by kernel_rfl) rfl)
    (cuts_gives 4 (by omega) eb (w4.heap.size + 1) w4.heap.size a cap l [] (by omega) (by omega) (fun hne y hy => by have := hsa hne y hy; omega) (by rw [← HN.out]; omega) Open.nil) (fun h => h.1) (fun i hi => by omega) (fun _ => rfl)
    (fun pre W => ∃ v vs, LLs w5.heap.size W v ((chs [] l).1.take pre.length) vs ∧ At W (w.heap.size + 1) [v] ∧ At W (eb + 1) [.int .i64 (lastP pre : Nat)] ∧ Kp (fun i => i = w.heap.size + 1 ∨ i = eb ∨ i = eb + 1) w5 W)
    (fun _ _ _ => False)
    ?hI (fun _ _ _ _ h _ => h) ?hT ?hE ?hIS (fun _ _ _ _ h _ => h) ?h0 ?hT0
    (fun x => { tmps := #[.slice a n cap, .pointer (some ⟨w.heap.size, 0, none⟩), .slice none 0 0, .pointer (some ⟨w.heap.size + 1, 0, none⟩), .pointer (some ⟨eb, 0, none⟩), .pointer (some ⟨eb + 1, 0, none⟩), .int .i64 (x : Nat), .agg A, .slice a n cap,
      .func (.func 39) #[] #[.pointer (some ⟨w4.heap.size + 1, 0, none⟩), .pointer (some ⟨w4.heap.size, 0, none⟩)], .int .i64 (x : Nat), undef, undef, undef, undef, undef, undef, undef, undef, undef, undef, undef, undef, undef, undef, undef, undef, undef, undef, undef, undef, undef], defers := [] }) ?assign ?body ?done ?stop
  case hI =>
    rintro pre A' A'' ⟨v, vs, h1, h2, h3, h4⟩ k
    exact ⟨v, vs, h1.abd k, k.at h2 (NC.not h2), k.at h3 (NC.not h3), h4.then k (fun i hi e => by have := e.1; omega)⟩
  case hT => exact fun pre A' A'' h k => h.abd k hL (Nat.le_refl _) (by omega) (by omega)
  case hE => exact fun _ A' A'' h k => h.abd k hL (Nat.le_refl _) (by omega) (by omega)
  case hIS =>
    rintro pre A' A'' ⟨v, vs, h1, h2, h3, h4⟩ ⟨k, _⟩
    exact ⟨v, vs, h1.kp k (fun g hg e => by have := h1.ge g hg; omega) (fun i g hi hg e => by have := h1.geE i g hi hg; omega), k.at h2 (by omega), k.at h3 (by omega), h4.trans (k.mono (fun i _ e => .inr (.inl e)))⟩
  case h0 => exact ⟨_, _, LLs.nil _ _, H5.out.2.2.1.at H4.out.2.1 (fun h => h), H5.out.2.2.1.at H4.out.2.2.2.1 (fun h => h), Kp.refl _ _⟩
  case hT0 =>
    rw [if_pos rfl]
    exact ⟨⟨_, H4.out.2.2.1.kp H5.out.2.2.1 (fun h => h)⟩, by rw [← HN.out]; exact (H5.out.2.1.cell 0).trans rfl, (H5.out.1.cell 0).trans rfl, hL⟩
  case assign =>
    intro yl x W K hK
    gi_wp2
    exact hK
  case stop =>
    rintro D c pre W _ _ h _
    exact h.elim
  case body =>
    rintro yl pre x W hpre ⟨v, vs, hll, hout, hat, hkp⟩ hti
    obtain ⟨p1, p2, p3⟩ := cuts_step hpre
    have hlne : l ≠ [] := fun e => by rw [e] at p2; simp at p2; omega
    have HT := Lib.hid hti
    obtain ⟨⟨T, hed⟩, _, _, hRW⟩ := hti
    obtain ⟨b1, o1, rfl, _⟩ := hRW.cell 0 (by omega)
    have hbb := hsa hlne _ rfl
    have hbb : b1 < w.heap.size := hbb
    have xb : W.cell? ⟨w.heap.size, 0, none⟩ = some (.slice (some ⟨b1, o1, none⟩) n cap) := hkp.cell (H5.out.2.2.1.cell cb (fun h => h)) (by simp; omega)
    have xo : W.cell? ⟨w.heap.size + 1, 0, none⟩ = some v := (hout.cell 0).trans rfl
    have xa : W.cell? ⟨eb + 1, 0, none⟩ = some (.int .i64 (lastP pre : Nat)) := (hat.cell 0).trans rfl
    have fo := hout.frozen 0
    have fa := hat.frozen 0
    have q1 : ((lastP pre : Nat) : Int) ≤ (x : Nat) := by omega
    have q2 : ((x : Nat) : Int) ≤ cap := by have := HN.out; omega
    have q3 : lastP pre < cap := by have := HN.out; omega
    generalize lastP pre = t at *
    gi_wp2
    refine region_L_in (S := fun w' => w'.cell? ⟨w.heap.size, 0, none⟩ = some (.slice (some ⟨b1, o1, none⟩) n cap) ∧ w'.cell? ⟨w.heap.size + 1, 0, none⟩ = some v ∧ w'.cell? ⟨eb + 1, 0, none⟩ = some (.int .i64 (t : Nat))) [9, 10] rfl (by kernel_rfl) (fun ⟨_, _, h⟩ => h) ?_
    have hSd : ∀ (w' : World) (n' : Nat), (w'.cell? ⟨w.heap.size, 0, none⟩ = some (.slice (some ⟨b1, o1, none⟩) n cap) ∧ w'.cell? ⟨w.heap.size + 1, 0, none⟩ = some v ∧ w'.cell? ⟨eb + 1, 0, none⟩ = some (.int .i64 (t : Nat))) → ((w'.drewN n').cell? ⟨w.heap.size, 0, none⟩ = some (.slice (some ⟨b1, o1, none⟩) n cap) ∧ (w'.drewN n').cell? ⟨w.heap.size + 1, 0, none⟩ = some v ∧ (w'.drewN n').cell? ⟨eb + 1, 0, none⟩ = some (.int .i64 (t : Nat))) := fun w' n' h => h
    have hS1 : W.drew.cell? ⟨w.heap.size, 0, none⟩ = some (.slice (some ⟨b1, o1, none⟩) n cap) ∧ W.drew.cell? ⟨w.heap.size + 1, 0, none⟩ = some v ∧ W.drew.cell? ⟨eb + 1, 0, none⟩ = some (.int .i64 (t : Nat)) := ⟨xb, xo, xa⟩
    refine anyL_takeD (i := 0) (d := 11) (v := v) rfl rfl (by kernel_rfl) (by kernel_rfl) (by kernel_rfl) (fun _ _ _ h => h) hSd (by kernel_rfl) (.inl (.inl ⟨rfl, fun w' hS => by have hc := hS.2.1; go_simp⟩)) hS1 ?_
    try simp only [List.setIfInBounds_toArray, List.set_cons_succ, List.set_cons_zero]
    refine anyL_takeD (i := 1) (d := 12) (v := .slice (some ⟨b1, o1, none⟩) n cap) rfl rfl (by kernel_rfl) (by kernel_rfl) (by kernel_rfl) (fun _ _ _ h => h) hSd (by kernel_rfl) (.inl (.inl ⟨rfl, fun w' hS => by have hc := hS.1; go_simp⟩)) hS1 ?_
    try simp only [List.setIfInBounds_toArray, List.set_cons_succ, List.set_cons_zero]
    refine anyL_takeD (i := 2) (d := 13) (v := .int .i64 (t : Nat)) rfl rfl (by kernel_rfl) (by kernel_rfl) (by kernel_rfl) (fun _ _ _ h => h) hSd (by kernel_rfl) (.inl (.inl ⟨rfl, fun w' hS => by have hc := hS.2.2; go_simp⟩)) hS1 ?_
    try simp only [List.setIfInBounds_toArray, List.set_cons_succ, List.set_cons_zero]
    refine anyL_takeD (i := 3) (d := 14) (v := .int .i64 (x : Nat)) rfl rfl (by kernel_rfl) (by kernel_rfl) (by kernel_rfl) (fun _ _ _ h => h) hSd (by kernel_rfl) (.inl (.inl ⟨rfl, fun w' hS => rfl⟩)) hS1 ?_
    try simp only [List.setIfInBounds_toArray, List.set_cons_succ, List.set_cons_zero]
    refine anyL_takeF (i := 8) (d := 19) (v := .int .i64 (x : Nat)) rfl rfl (by kernel_rfl) (by kernel_rfl) (by kernel_rfl) (fun _ _ _ h => h) hSd (by kernel_rfl) (.inl (.inl ⟨rfl, fun w' hS => rfl⟩)) (fun _ => hS1) ?_
    try simp only [List.setIfInBounds_toArray, List.set_cons_succ, List.set_cons_zero]
    refine anyL_takeD (i := 4) (d := 15) (v := .slice (some ⟨b1, o1 + t, none⟩) (x - t) (cap - t)) rfl rfl (by kernel_rfl) (by kernel_rfl) (by kernel_rfl) (fun _ _ _ h => h) hSd (by kernel_rfl) (.inl (.inl ⟨rfl, fun w' hS => by go_simp; omega⟩)) hS1 ?_
    try simp only [List.setIfInBounds_toArray, List.set_cons_succ, List.set_cons_zero]
    refine anyL_all (rs := [5]) (by kernel_rfl) (by simp) ?_
    intro n5 i hi
    simp only [List.mem_cons, List.not_mem_nil, or_false] at hi
    obtain rfl := hi
    have hcl : ((l.drop t).take (x - t)).length = x - t := by rw [List.length_take, List.length_drop]; omega
    have hRd : RdB (W.drew.drewN n5) (some ⟨b1, o1 + t, none⟩) ((l.drop t).take (x - t)) := (show RdB (W.drew.drewN n5) (some ⟨b1, o1, none⟩) l from ⟨hRW.cell, hRW.bd, hRW.len⟩).slice t (x - t)
    obtain ⟨u, w6, hr6, hu6, ku6, hb6⟩ := run_append_b (P := Try.prog) (t := 22) (tx := 22) (ty := 22) (W.drew.drewN n5) Try.underlying22 elem_u8 Try.underlying22 (OwnB.nil' _) (a := some ⟨b1, o1 + t, none⟩) (c := cap - t) hRd (by have := HN.out; rw [hcl]; simp; omega)
    rw [List.nil_append] at hu6
    rw [hcl] at hr6
    have k6 : Kp (fun _ => False) W w6 := ((Kp.refl (fun _ => False) W).drew.drewN n5).trans (ku6.mono (fun _ _ h => by cases h))
    have hug : ∀ g, u.ownBlock = some g → g = W.heap.size := fun g hg => by
      rcases hb6 with e | e
      · rw [e] at hg; cases hg
      · rw [e] at hg; cases hg; rfl
    obtain ⟨ua, uc, rfl, _, _⟩ := hu6.form
    rw [hcl] at hr6 hu6 hug
    refine wpOp_of rfl rfl ?_
    refine wp_append_go hr6 rfl rfl rfl ?_
    refine ⟨fun _ => ⟨k6.cell xb (fun h => h), k6.cell xo (fun h => h), k6.cell xa (fun h => h)⟩, ?_⟩
    dsimp only [Act.put]
    try simp only [List.setIfInBounds_toArray, List.set_cons_succ, List.set_cons_zero]
    refine anyL_all (rs := [6]) (by kernel_rfl) (by simp) ?_
    intro n6 i hi
    simp only [List.mem_cons, List.not_mem_nil, or_false] at hi
    obtain rfl := hi
    refine wpOp_of rfl rfl ?_
    go_simp
    have k7 : Kp (fun _ => False) w6 ((w6.drewN n6).alloc (.cells #[.slice ua (x - t) uc] 22)) := ((Kp.refl (fun _ => False) w6).drewN n6).alloc _
    have hat7 : At ((w6.drewN n6).alloc (.cells #[.slice ua (x - t) uc] 22)) w6.heap.size [.slice ua (x - t) uc] := At.new (w6.drewN n6) [.slice ua (x - t) uc] _
    have k67 := k6.trans k7
    refine ⟨fun _ => ⟨k67.cell xb (fun h => h), k67.cell xo (fun h => h), k67.cell xa (fun h => h)⟩, ?_⟩
    refine anyL_world (J := fun w' => Kp (fun _ => False) w6 w' ∧ At w' w6.heap.size [.slice ua (x - t) uc]) ⟨k7, hat7⟩ ?_
    clear k7 hat7 k67
    rintro w7 ⟨k7, hat7⟩
    try dsimp only [Act.put]
    try simp only [List.setIfInBounds_toArray, List.set_cons_succ, List.set_cons_zero]
    refine anyL_all (rs := [7]) (by kernel_rfl) (by simp) ?_
    intro n7 i hi
    simp only [List.mem_cons, List.not_mem_nil, or_false] at hi
    obtain rfl := hi
    have hsz : w5.heap.size ≤ W.heap.size := hkp.size
    have k7n := k7.drewN n7
    have hll7 : LLs w5.heap.size (w7.drewN n7) v ((chs [] l).1.take pre.length) vs := hll.kp (k6.trans k7n) (fun _ _ h => h) (fun _ _ _ _ h => h)
    have hpl : ((chs [] l).1.take pre.length).length = pre.length := by
      have := (cuts_spec l [] 0).1
      have := hpre.length_le
      rw [List.length_append, List.length_singleton] at this
      rw [List.length_take]; omega
    have hpn : pre.length + 1 ≤ 1000000 := by
      have := (cuts_spec l [] 0).1
      have h9 := hpre.length_le
      rw [List.length_append, List.length_singleton] at h9
      have := chs_len_le l []
      have := HN.out
      omega
    obtain ⟨v8, w8, hr8, hll8, k8, hb8⟩ := hll7.app (P := Try.prog) (t := 24) (tx := 24) (ty := 24) Try.underlying24 elem_sl Try.underlying24 (by omega) (u := .slice ua (x - t) uc) (l := (l.drop t).take (x - t)) (hu6.kp k7n (fun _ _ h => h))
      (fun g hg => by
        have e := hug g hg
        subst e
        exact ⟨fun hg' => absurd (hll.own.lt _ hg') (Nat.lt_irrefl _), hsz, fun i hi hg' => absurd (hll.ltE hi hg') (Nat.lt_irrefl _)⟩)
      (by rw [hpl]; omega) (by have := (k6.trans k7n).size; omega) (bx := w6.heap.size) (((Kp.refl (fun _ => False) w7).drewN n7).at hat7 (fun h => h))
    rw [show ([Value.slice ua (x - t) uc] : List Value) = [.slice ua (x - t) uc] from rfl] at hll8
    obtain ⟨N8, hN8⟩ : ∃ N8, N8 = ((chs [] l).1.take pre.length ++ [(l.drop t).take (x - t)]).length := ⟨_, rfl⟩
    obtain ⟨A8, c8, e8, _, _⟩ := hll8.own.form
    rw [← hN8] at e8
    subst e8
    clear hN8
    refine wpOp_of rfl rfl ?_
    refine wp_append_go hr8 rfl rfl rfl ?_
    have k68 : Kp (fun k => v.ownBlock = some k) W w8 := ((k6.trans k7n).mono (fun _ _ h => h.elim)).then k8 (fun _ _ h => h)
    have hvB : ∀ k, v.ownBlock = some k → w5.heap.size ≤ k := hll.ge
    have xo8 : w8.cell? ⟨w.heap.size + 1, 0, none⟩ = some v := k68.cell xo (fun h => by have := hvB _ h; simp at this; omega)
    have xa8 : w8.cell? ⟨eb + 1, 0, none⟩ = some (.int .i64 (t : Nat)) := k68.cell xa (fun h => by have := hvB _ h; simp at this; omega)
    have hout8 := k68.at hout (fun h => by have := hvB _ h; omega)
    have hat8 := k68.at hat (fun h => by have := hvB _ h; omega)
    have fo8 := hout8.frozen 0
    have fa8 := hat8.frozen 0
    refine ⟨fun _ => ⟨k68.cell xb (fun h => by have := hvB _ h; simp at this; omega), xo8, xa8⟩, ?_⟩
    dsimp only [Act.put]
    try simp only [List.setIfInBounds_toArray, List.set_cons_succ, List.set_cons_zero]
    refine anyL_all (rs := [9]) (by kernel_rfl) (by simp) ?_
    intro n9 i hi
    simp only [List.mem_cons, List.not_mem_nil, or_false] at hi
    obtain rfl := hi
    refine wpOp_of rfl rfl ?_
    go_simp
    refine ⟨fun h => Bool.noConfusion (show false = true from h), ?_⟩
    refine anyL_world (J := fun w' => LLs w5.heap.size w' (.slice A8 N8 c8) ((chs [] l).1.take pre.length ++ [(l.drop t).take (x - t)]) (vs ++ [.slice ua (x - t) uc]) ∧ At w' (w.heap.size + 1) [.slice A8 N8 c8] ∧ Kp (fun i => i = w.heap.size + 1 ∨ v.ownBlock = some i) W w') ⟨?_, ?_, ?_⟩ ?_
    · have ks := ((Kp.refl (fun i => i = w.heap.size + 1) w8).drewN n9).setCell (p := ⟨w.heap.size + 1, 0, none⟩) (fun _ => rfl) (.slice A8 N8 c8)
      exact hll8.kp ks (fun g hg e => by have := hll8.ge g hg; omega) (fun i g hi hg e => by have := hll8.geE i g hi hg; omega)
    · exact (show At (w8.drewN n9) (w.heap.size + 1) [v] from hout8).set 0 _
    · exact ((k68.mono (fun _ _ h => .inr h)).drewN n9).setCell (p := ⟨w.heap.size + 1, 0, none⟩) (fun _ => .inl rfl) _
    rintro w9 ⟨hll9, hout9, k9⟩
    have xa9 : w9.cell? ⟨eb + 1, 0, none⟩ = some (.int .i64 (t : Nat)) := k9.cell xa (fun h => by rcases h with h | h; simp at h; omega; have := hvB _ h; simp at this; omega)
    have hat9 := k9.at hat (fun h => by rcases h with h | h; omega; have := hvB _ h; omega)
    have fa9 := hat9.frozen 0
    clear hout8 hat8 xo8 xa8 fo8 fa8 k68 k8 hr8 hll8 hb8
    try dsimp only [Act.put]
    try simp only [List.setIfInBounds_toArray, List.set_cons_succ, List.set_cons_zero]
    refine anyL_all (rs := [10]) (by kernel_rfl) (by simp) ?_
    intro n10 i hi
    simp only [List.mem_cons, List.not_mem_nil, or_false] at hi
    obtain rfl := hi
    refine wpOp_of rfl rfl ?_
    go_simp
    refine ⟨fun h => Bool.noConfusion (show false = true from h), anyL_done (by kernel_rfl) (fun nn => ?_) _⟩
    have ks := (((Kp.refl (fun i => i = eb + 1) w9).drewN n10).setCell (p := ⟨eb + 1, 0, none⟩) (fun _ => rfl) (.int .i64 (x : Nat))).drewN nn
    have hll10 := hll9.kp ks (fun g hg e => by have := hll9.ge g hg; omega) (fun i g hi hg e => by have := hll9.geE i g hi hg; omega)
    have hout10 := ks.at hout9 (by omega)
    have hat10 := ((show At (w9.drewN n10) (eb + 1) [.int .i64 (t : Nat)] from hat9).set 0 (.int .i64 (x : Nat))).drewN nn
    have k10 := (k9.mono (S' := fun i => i = w.heap.size + 1 ∨ i = eb + 1 ∨ v.ownBlock = some i) (fun i _ h => h.elim .inl (fun h => .inr (.inr h)))).then ks (fun i _ h => .inr (.inl h))
    generalize (((w9.drewN n10).setCell ⟨eb + 1, 0, none⟩ (.int .i64 (x : Nat))).drewN nn) = wF at *
    have hfin : KeepsFrom w5.heap.size W wF ∧ (∃ v vs, LLs w5.heap.size wF v ((chs [] l).1.take (pre ++ [x]).length) vs ∧ At wF (w.heap.size + 1) [v] ∧ At wF (eb + 1) [.int .i64 (lastP (pre ++ [x]) : Nat)] ∧ Kp (fun i => i = w.heap.size + 1 ∨ i = eb ∨ i = eb + 1) w5 wF) ∧ TI eb (w4.heap.size + 1) w4.heap.size (some ⟨b1, o1, none⟩) cap l (if pre ++ [x] = [] then [] else []) wF := by
     refine ⟨KeepsFrom.of_kp k10 (fun i h => ?_), ⟨.slice A8 N8 c8, vs ++ [.slice ua (x - t) uc], ?_, hout10, ?_, ?_⟩, ?_⟩
     · rcases h with h | h | h
       · left; omega
       · left; omega
       · exact .inr (hll.own.at' h)
     · rw [List.length_append, List.length_singleton, p3, ite_self, List.nil_append]; exact hll10
     · rw [lastP_snoc]; exact hat10
     · exact hkp.then k10 (fun i hi h => h.elim .inl (fun h => h.elim (fun h => .inr (.inr h)) (fun h => by have := hvB _ h; omega)))
     · rw [if_neg (by simp)]
       rw [if_neg (by simp)] at hed
       refine ⟨⟨T, hed.kp k10 (fun h => ?_)⟩, k10.cell HT.out.2.1 (fun h => ?_), k10.cell HT.out.2.2.1 (fun h => ?_), HR.out.keeps hRW k10 (fun i hi h => ?_)⟩
       · rcases h with h | h | h
         · omega
         · omega
         · have := hvB _ h; omega
       · rcases h with h | h | h
         · simp at h; omega
         · simp at h; omega
         · have := hvB _ h; simp at this; omega
       · rcases h with h | h | h
         · simp at h; omega
         · simp at h; omega
         · have := hvB _ h; simp at this; omega
       · rcases h with h | h | h
         · omega
         · omega
         · have := hvB _ h; omega
    exact hfin
  case done =>
    rintro D W hD ⟨v, vs, hll, hout, hat, hkp⟩ _ hd
    obtain ⟨p1, p2, p3⟩ := cuts_end l []
    rw [p1] at hll
    rw [ite_self, List.nil_append] at p3
    have HK := Lib.hid p3
    generalize lastP (cutsAt [] l 0) = t at *
    have xb : W.cell? ⟨w.heap.size, 0, none⟩ = some (.slice a n cap) := hkp.cell (H5.out.2.2.1.cell cb (fun h => h)) (by simp; omega)
    have xo : W.cell? ⟨w.heap.size + 1, 0, none⟩ = some v := (hout.cell 0).trans rfl
    have xa : W.cell? ⟨eb + 1, 0, none⟩ = some (.int .i64 (t : Nat)) := (hat.cell 0).trans rfl
    have fo := hout.frozen 0
    have hvB : ∀ k, v.ownBlock = some k → w5.heap.size ≤ k := hll.ge
    have hw5 : w.heap.size + 2 ≤ w5.heap.size := by omega
    have kwW : Kp (fun _ => False) w W := (H4.out.2.2.2.2.trans H5.out.2.2.1).then hkp (fun i hi h => by rcases h with h | h | h <;> omega)
    clear p1 p3
    by_cases htn : t < n
    · have i1 : (t : Int) < (n : Int) := by omega
      have hlne : l ≠ [] := fun e => by have := HN.out; rw [e] at this; simp at this; omega
      have hRW : RdB W a l := HR.out.kp0 kwW (fun _ _ h => h)
      obtain ⟨b1, o1, rfl, _⟩ := hRW.cell 0 (by have := HN.out; omega)
      have hbb := hsa hlne _ rfl
      have hbb : b1 < w.heap.size := hbb
      have q1 : (t : Int) ≤ cap := by omega
      have q2 : (n : Int) ≤ cap := by omega
      have q3 : t < cap := by omega
      have q4 : ((n : Int) - t).toNat = n - t := by omega
      go_wp2
      refine region_N (S := fun w' => w'.cell? ⟨w.heap.size, 0, none⟩ = some (.slice (some ⟨b1, o1, none⟩) n cap) ∧ w'.cell? ⟨w.heap.size + 1, 0, none⟩ = some v ∧ w'.cell? ⟨eb + 1, 0, none⟩ = some (.int .i64 (t : Nat))) [7] rfl ?_
      have hSd : ∀ (w' : World) (n' : Nat), (w'.cell? ⟨w.heap.size, 0, none⟩ = some (.slice (some ⟨b1, o1, none⟩) n cap) ∧ w'.cell? ⟨w.heap.size + 1, 0, none⟩ = some v ∧ w'.cell? ⟨eb + 1, 0, none⟩ = some (.int .i64 (t : Nat))) → ((w'.drewN n').cell? ⟨w.heap.size, 0, none⟩ = some (.slice (some ⟨b1, o1, none⟩) n cap) ∧ (w'.drewN n').cell? ⟨w.heap.size + 1, 0, none⟩ = some v ∧ (w'.drewN n').cell? ⟨eb + 1, 0, none⟩ = some (.int .i64 (t : Nat))) := fun w' n' h => h
      have hS1 : W.drew.cell? ⟨w.heap.size, 0, none⟩ = some (.slice (some ⟨b1, o1, none⟩) n cap) ∧ W.drew.cell? ⟨w.heap.size + 1, 0, none⟩ = some v ∧ W.drew.cell? ⟨eb + 1, 0, none⟩ = some (.int .i64 (t : Nat)) := ⟨xb, xo, xa⟩
      refine anyL_takeD (i := 0) (d := 24) (v := v) rfl rfl (by kernel_rfl) (by kernel_rfl) (by kernel_rfl) (fun _ _ _ h => h) hSd (by kernel_rfl) (.inl (.inl ⟨rfl, fun w' hS => by have hc := hS.2.1; go_simp⟩)) hS1 ?_
      try simp only [List.setIfInBounds_toArray, List.set_cons_succ, List.set_cons_zero]
      refine anyL_takeD (i := 1) (d := 25) (v := .slice (some ⟨b1, o1, none⟩) n cap) rfl rfl (by kernel_rfl) (by kernel_rfl) (by kernel_rfl) (fun _ _ _ h => h) hSd (by kernel_rfl) (.inl (.inl ⟨rfl, fun w' hS => by have hc := hS.1; go_simp⟩)) hS1 ?_
      try simp only [List.setIfInBounds_toArray, List.set_cons_succ, List.set_cons_zero]
      refine anyL_takeD (i := 2) (d := 26) (v := .int .i64 (t : Nat)) rfl rfl (by kernel_rfl) (by kernel_rfl) (by kernel_rfl) (fun _ _ _ h => h) hSd (by kernel_rfl) (.inl (.inl ⟨rfl, fun w' hS => by have hc := hS.2.2; go_simp⟩)) hS1 ?_
      try simp only [List.setIfInBounds_toArray, List.set_cons_succ, List.set_cons_zero]
      refine anyL_takeD (i := 3) (d := 27) (v := .slice (some ⟨b1, o1 + t, none⟩) (n - t) (cap - t)) rfl rfl (by kernel_rfl) (by kernel_rfl) (by kernel_rfl) (fun _ _ _ h => h) hSd (by kernel_rfl) (.inl (.inl ⟨rfl, fun w' hS => by go_simp; rw [if_pos (by omega), if_neg (by omega)]⟩)) hS1 ?_
      try simp only [List.setIfInBounds_toArray, List.set_cons_succ, List.set_cons_zero]
      refine anyL_all (rs := [4]) (by kernel_rfl) (by simp) ?_
      intro n4 i hi
      simp only [List.mem_cons, List.not_mem_nil, or_false] at hi
      obtain rfl := hi
      have hcl : (l.drop t).length = n - t := by rw [List.length_drop, HN.out]
      have hRd : RdB (W.drew.drewN n4) (some ⟨b1, o1 + t, none⟩) (l.drop t) := by
        have := (show RdB (W.drew.drewN n4) (some ⟨b1, o1, none⟩) l from ⟨hRW.cell, hRW.bd, hRW.len⟩).slice t (n - t)
        rwa [List.take_of_length_le (by omega)] at this
      obtain ⟨u, w6, hr6, hu6, ku6, hb6⟩ := run_append_b (P := Try.prog) (t := 22) (tx := 22) (ty := 22) (W.drew.drewN n4) Try.underlying22 elem_u8 Try.underlying22 (OwnB.nil' _) (a := some ⟨b1, o1 + t, none⟩) (c := cap - t) hRd (by rw [hcl]; simp; omega)
      rw [List.nil_append] at hu6
      rw [hcl] at hr6
      have k6 : Kp (fun _ => False) W w6 := ((Kp.refl (fun _ => False) W).drew.drewN n4).trans (ku6.mono (fun _ _ h => by cases h))
      have hug : ∀ g, u.ownBlock = some g → g = W.heap.size := fun g hg => by
        rcases hb6 with e | e
        · rw [e] at hg; cases hg
        · rw [e] at hg; cases hg; rfl
      obtain ⟨ua, uc, rfl, _, _⟩ := hu6.form
      rw [hcl] at hr6 hu6 hug
      refine wpOp_of rfl rfl ?_
      refine wp_append_go hr6 rfl rfl rfl ?_
      refine ⟨fun _ => ⟨k6.cell xb (fun h => h), k6.cell xo (fun h => h), k6.cell xa (fun h => h)⟩, ?_⟩
      dsimp only [Act.put]
      try simp only [List.setIfInBounds_toArray, List.set_cons_succ, List.set_cons_zero]
      refine anyL_all (rs := [5]) (by kernel_rfl) (by simp) ?_
      intro n5 i hi
      simp only [List.mem_cons, List.not_mem_nil, or_false] at hi
      obtain rfl := hi
      refine wpOp_of rfl rfl ?_
      go_simp
      have k7 : Kp (fun _ => False) w6 ((w6.drewN n5).alloc (.cells #[.slice ua (n - t) uc] 22)) := ((Kp.refl (fun _ => False) w6).drewN n5).alloc _
      have hat7 : At ((w6.drewN n5).alloc (.cells #[.slice ua (n - t) uc] 22)) w6.heap.size [.slice ua (n - t) uc] := At.new (w6.drewN n5) [.slice ua (n - t) uc] _
      have k67 := k6.trans k7
      refine ⟨fun _ => ⟨k67.cell xb (fun h => h), k67.cell xo (fun h => h), k67.cell xa (fun h => h)⟩, ?_⟩
      refine anyL_world (J := fun w' => Kp (fun _ => False) w6 w' ∧ At w' w6.heap.size [.slice ua (n - t) uc]) ⟨k7, hat7⟩ ?_
      clear k7 hat7 k67
      rintro w7 ⟨k7, hat7⟩
      try dsimp only [Act.put]
      try simp only [List.setIfInBounds_toArray, List.set_cons_succ, List.set_cons_zero]
      refine anyL_all (rs := [6]) (by kernel_rfl) (by simp) ?_
      intro n7 i hi
      simp only [List.mem_cons, List.not_mem_nil, or_false] at hi
      obtain rfl := hi
      have hsz : w5.heap.size ≤ W.heap.size := hkp.size
      have k7n := k7.drewN n7
      have hll7 : LLs w5.heap.size (w7.drewN n7) v (chs [] l).1 vs := hll.kp (k6.trans k7n) (fun _ _ h => h) (fun _ _ _ _ h => h)
      have hpn : (chs [] l).1.length + 1 ≤ 1000000 := by
        have := chs_len_le l []
        have := HN.out
        omega
      obtain ⟨v8, w8, hr8, hll8, k8, hb8⟩ := hll7.app (P := Try.prog) (t := 24) (tx := 24) (ty := 24) Try.underlying24 elem_sl Try.underlying24 (by omega) (u := .slice ua (n - t) uc) (l := l.drop t) (hu6.kp k7n (fun _ _ h => h))
        (fun g hg => by
          have e := hug g hg
          subst e
          exact ⟨fun hg' => absurd (hll.own.lt _ hg') (Nat.lt_irrefl _), hsz, fun i hi hg' => absurd (hll.ltE hi hg') (Nat.lt_irrefl _)⟩)
        (by omega) (by have := (k6.trans k7n).size; omega) (bx := w6.heap.size) (((Kp.refl (fun _ => False) w7).drewN n7).at hat7 (fun h => h))
      obtain ⟨N8, hN8⟩ : ∃ N8, N8 = ((chs [] l).1 ++ [l.drop t]).length := ⟨_, rfl⟩
      obtain ⟨A8, c8, e8, _, _⟩ := hll8.own.form
      rw [← hN8] at e8
      subst e8
      clear hN8
      refine wpOp_of rfl rfl ?_
      refine wp_append_go hr8 rfl rfl rfl ?_
      have k68 : Kp (fun k => v.ownBlock = some k) W w8 := ((k6.trans k7n).mono (fun _ _ h => h.elim)).then k8 (fun _ _ h => h)
      have xo8 : w8.cell? ⟨w.heap.size + 1, 0, none⟩ = some v := k68.cell xo (fun h => by have := hvB _ h; simp at this; omega)
      have xa8 : w8.cell? ⟨eb + 1, 0, none⟩ = some (.int .i64 (t : Nat)) := k68.cell xa (fun h => by have := hvB _ h; simp at this; omega)
      have hout8 := k68.at hout (fun h => by have := hvB _ h; omega)
      have fo8 := hout8.frozen 0
      refine ⟨fun _ => ⟨k68.cell xb (fun h => by have := hvB _ h; simp at this; omega), xo8, xa8⟩, ?_⟩
      dsimp only [Act.put]
      try simp only [List.setIfInBounds_toArray, List.set_cons_succ, List.set_cons_zero]
      refine anyL_all (rs := [7]) (by kernel_rfl) (by simp) ?_
      intro n9 i hi
      simp only [List.mem_cons, List.not_mem_nil, or_false] at hi
      obtain rfl := hi
      refine wpOp_of rfl rfl ?_
      go_simp
      refine ⟨fun h => Bool.noConfusion (show false = true from h), anyL_done (by kernel_rfl) (fun nn => ?_) _⟩
      have ks := (((Kp.refl (fun i => i = w.heap.size + 1) w8).drewN n9).setCell (p := ⟨w.heap.size + 1, 0, none⟩) (fun _ => rfl) (.slice A8 N8 c8)).drewN nn
      have hll9 := hll8.kp ks (fun g hg e => by have := hll8.ge g hg; omega) (fun i g hi hg e => by have := hll8.geE i g hi hg; omega)
      have hout9 := ((show At (w8.drewN n9) (w.heap.size + 1) [v] from hout8).set 0 (.slice A8 N8 c8)).drewN nn
      have k9 := (((k68.mono (S' := fun i => i = w.heap.size + 1 ∨ v.ownBlock = some i) (fun _ _ h => .inr h)).drewN n9).setCell (p := ⟨w.heap.size + 1, 0, none⟩) (fun _ => .inl rfl) (.slice A8 N8 c8)).drewN nn
      dsimp only [onlyN]
      generalize (((w8.drewN n9).setCell ⟨w.heap.size + 1, 0, none⟩ (.slice A8 N8 c8)).drewN nn) = w9 at *
      have hd9 : w9.heap[D]? = some (.deferred (some [])) := (KeepsFrom.of_kp (B := w5.heap.size) k9 (fun i h => h.elim (fun h => .inl (by omega)) (fun h => .inr (hll.own.at' h)))).same D _ hD hd rfl
      have x9 : w9.cell? ⟨w.heap.size + 1, 0, none⟩ = some (.slice A8 N8 c8) := (hout9.cell 0).trans rfl
      have HF := Lib.hid (And.intro hll9 (kwW.then k9 (fun i hi h => h.elim (fun h => by omega) (fun h => by have := hvB _ h; omega))))
      clear hll9 k9 ks hout9 hll8 k8 k68 hout8 xo8 xa8 fo8 hll7 hS1 hSd
      go_wp2
      have kx := Kp.putNC hD hd9 rfl (.deferred none)
      refine ⟨by simp, .inl ⟨_, _, rfl, run_takeDeferred hd9, ?_⟩⟩
      have hc : chunks l = (chs [] l).1 ++ [l.drop t] := by
        unfold chunks
        rw [HK.out, if_neg (by intro e; rw [e] at hcl; simp at hcl; omega)]
      exact ⟨_, results_tmp rfl _ _ _, _, _, rfl, by rw [hc]; exact (HF.out.1.abd kx).weaken (by omega), HF.out.2.thenNC kx (by omega)⟩
    · have i1 : ¬ (t : Int) < (n : Int) := by omega
      go_wp2
      have kx := Kp.putNC hD hd rfl (.deferred none)
      refine ⟨by simp, .inl ⟨_, _, rfl, run_takeDeferred hd, ?_⟩⟩
      have hc : chunks l = (chs [] l).1 := by
        unfold chunks
        rw [HK.out, List.drop_of_length_le (by have := HN.out; omega)]; simp
      exact ⟨_, results_tmp rfl _ _ _, v, rfl, ⟨vs, by rw [hc]; exact (hll.abd kx).weaken (by omega)⟩, kwW.thenNC kx (by omega)⟩
end Go.Proofs.Ytlabkldpcbmjbaa
