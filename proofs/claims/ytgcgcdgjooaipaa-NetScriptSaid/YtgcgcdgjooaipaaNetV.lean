/- Package net: Waiting. -/
import Derived.Test.YtgcgcdgjooaipaaNetQ
import Derived.Test.YtgcgcdgjooaipaaDgl
import Derived.Test.YtgcgcdgjooaipaaNetF
namespace Go.Proofs.Ytgcgcdgjooaipaa
open Go.RowKit
set_option linter.unusedVariables false
set_option linter.unusedSimpArgs false
attribute [local go_sem] Oper.semAt_some
theorem elem_dg : Elem Try.prog 28 (.agg #[.int .i64 0, .int .i64 0, .slice none 0 0]) 3 40 := Elem.mk' (by kernel_rfl) rfl (by omega) (by simp [Value.cells, Value.oneCell'])
theorem DgL.notNC {B0 B : Nat} {w w' : World} {v : Value} {ds : List Nd} (h : DgL B0 w v ds) (k : Kp (NC B w) w w') : DgL B0 w' v ds :=
  h.kp k (fun b hb => by
    rcases hb with hb | ⟨i, hi, hb⟩
    · exact h.own.notNC b hb
    · exact (h.each i hi).own.notNC b hb)
theorem wpListIn_append_run {F : Fence} {n : Nat} {P : Program} {ops : Array Oper} {rest : List Oper} {o : Oper} {a : Act} {Q : Exit → Act → World → Prop} {w w' : World} {s x : Operand} {t tx : TypeId} {v X v' : Value}
    (hrun : (Builtin.append_ #[t, tx] o.type #[v, X]).run P w = .ok v' w') (hg : o.guard = none) (hop : o.op = Op.call { callee := Callee.builtin Builtin.append, args := #[s, x], argTypes := #[t, tx] })
    (hs : a.eval s = v) (hx : a.eval x = X) (h : wpListIn F n P ops Q rest (a.put o.dst v') w') : wpListIn F n P ops Q (o :: rest) a w := by
  refine wpListIn_plain hg fun K hK' => ?_
  unfold Oper.wpIn
  refine ⟨?_, ?_⟩
  · simp [Oper.about, hop, resolve, Target.leads, Sem.run_pure]
  · rw [Oper.semAt_plain F _ _ (by rw [hop]; intro c hc'; cases hc')]
    simp [execOp, hop, resolve, invoke, builtin, hs, hx, hrun, Result.andThen]
    exact hK' _ _ h
theorem wait_app {B0 : Nat} {W : World} {v : Value} {es : List Nd} (hdg : DgL B0 W v es) (hB : B0 ≤ W.heap.size) (hn : es.length ≤ 100000) (fr to : Int) (B : Value) {w9 : World} {A9 : Option Addr} {m c9 : Nat} {l : List Int} (T : TypeId) (ho : OwnB w9 (.slice A9 m c9) l)
    (hg : ∀ g, (Value.slice A9 m c9).ownBlock = some g → W.heap.size + 1 ≤ g) (k : Kp (fun _ => False) (W.alloc (.cells #[.int .i64 fr, .int .i64 to, B] T)) w9) :
    ∃ v' w', (Builtin.append_ #[22, 22] 22 #[v, .slice (some ⟨w9.heap.size, 0, none⟩) 1 1]).run Try.prog ((w9.setCell ⟨W.heap.size, 2, none⟩ (.slice A9 m c9)).alloc (.cells #[.int .i64 fr, .int .i64 to, .slice A9 m c9] 28)) = .ok v' w' ∧
      DgL B0 w' v' (es ++ [⟨0, fr, to, .slice A9 m c9, l⟩]) ∧ Kp (fun j => v.ownBlock = some j) W w' := by
  have k0 : Kp (fun _ => False) W w9 := ((Kp.refl _ W).alloc _).trans k
  have ks := (Kp.refl (· = W.heap.size) w9).setCell (p := ⟨W.heap.size, 2, none⟩) (fun _ => rfl) (.slice A9 m c9)
  have d1 := (hdg.kp0 k0).kp ks (fun b hb e => by have := hdg.lt hb; omega)
  have o1 := ho.kp ks (fun g hg' e => by have := hg g hg'; omega)
  have k1 : Kp (fun _ => False) W (w9.setCell ⟨W.heap.size, 2, none⟩ (.slice A9 m c9)) := k0.then ks (fun j hj e => by omega)
  have hz : (w9.setCell ⟨W.heap.size, 2, none⟩ (.slice A9 m c9)).heap.size = w9.heap.size := by simp [World.setCell]
  have hat := At.new (w9.setCell ⟨W.heap.size, 2, none⟩ (.slice A9 m c9)) (dgC fr to (.slice A9 m c9)) 28
  rw [hz] at hat
  generalize w9.setCell ⟨W.heap.size, 2, none⟩ (.slice A9 m c9) = w10 at *
  have ka := (Kp.refl (fun _ => False) w10).alloc (.cells (dgC fr to (.slice A9 m c9)).toArray 28)
  have hs1 := k1.size
  obtain ⟨v', w', hr, hd, k2, _⟩ := (d1.kp0 ka).app (P := Try.prog) (ty := 22) Try.underlying22 elem_dg Try.underlying22 (by omega) ⟨0, fr, to, .slice A9 m c9, l⟩ (o1.kp ka (fun _ _ h => h))
    (fun b hb => ⟨by have := hg b hb; omega, fun hf => by have := hg b hb; have := hdg.lt hf; omega⟩) hn (by rw [World.size_alloc]; omega) hat
  exact ⟨v', w', hr, hd, (k1.trans ka |>.mono (fun _ _ h => h.elim)).trans k2⟩
theorem waiting_none (p : Option Addr) (w : World) (hno : ∀ w', Kp (fun _ => False) w w' → Calls Try.prog 31 #[.pointer p] w' fun e w'' => e = .returned (.bool true) ∧ w' = w'') :
    Calls Try.prog 13 #[.pointer p] w fun e w' => e = .returned (.slice none 0 0) ∧ w = w' := by
  have HN := Lib.hid hno
  clear hno
  go_enter Try.func13, Try.ntmps13
  go_wp2_with (go_at_call 31; (with_reducible refine (HN.out _ (Kp.refl _ w)).mono ?_); rintro e w' ⟨rfl, rfl⟩)
  go_ret
  exact ⟨rfl, rfl⟩
set_option maxHeartbeats 2000000 in
set_option maxRecDepth 20000 in
theorem waiting_any (nb mb : Nat) (nds : List Nd) (n lost : Int) (w : World) (h : NetC w nb nds n mb lost) (hn : nds.length ≤ 10000) (hl : ∀ i, i < nds.length → (nd nds i).l.length ≤ 1000000) :
    Calls Try.prog 13 #[.pointer (some ⟨nb, 0, none⟩)] w fun e w' => ∃ v es, e = .returned v ∧ DgL w.heap.size w' v es ∧ es.map dkey = nds.map dkey ∧ Kp (fun _ => False) w w' := by
  have c0 : w.cell? ⟨nb, 0, none⟩ = some (.bool true) := (h.hat.cell 0).trans rfl
  have hlt := h.hat.lt
  have HN := Lib.hid (fun w' (k : Kp (fun _ => False) w w') => none_at nb w' (k.cell c0 (fun h => h)))
  have H := Lib.hid (And.intro h hl)
  clear h hl
  refine (callsIn_wide (n := 5)).1 ?_
  refine callsIn_of_wp_marks Try.func13 rfl trivial ?_ rfl
  simp only [Try.ntmps13, List.size_toArray, List.length_cons, List.length_nil, Nat.reduceAdd, Nat.reduceSub, Array.replicate_succ, Array.replicate_zero, List.push_toArray, List.append_toArray, List.nil_append, List.cons_append]
  refine wpIn_wide.2 ?_
  go_upto_region 4 with (go_at_call 31; (with_reducible refine (HN.out _ (Kp.refl _ w)).mono ?_); rintro e w' ⟨rfl, rfl⟩)
  refine wp_world (fun wx => At wx w.heap.size [.slice none 0 0] ∧ Kp (fun _ => False) w wx) ⟨At.new w [.slice none 0 0] _, (Kp.refl _ w).alloc _⟩ ?_
  rintro w4 ⟨q1, k4⟩
  have H4 := Lib.hid (And.intro q1 k4)
  clear q1 k4
  go_wp2_with (go_at_call 36; (with_reducible refine (all_any _ _).mono ?_); rintro e w5 ⟨rfl, p1, k5⟩; have H5 := Lib.hid (And.intro p1 k5); clear p1 k5)
  have hN5 := H.out.1.kp (H4.out.2.trans H5.out.2) (fun _ _ h => h)
  have hsz : w.heap.size + 1 ≤ w4.heap.size := H4.out.1.lt
  have hsz5 := H5.out.1.lt
  refine (wpIn_wide (n := 5)).1 ?_
  refine wpIn_rng (S := fun _ => False) rfl (by omega) (gf := 49) (lb := #[.pointer (some ⟨w4.heap.size, 0, none⟩)]) rfl trivial (enters_of Try.func49 (by kernel_rfl) rfl)
    (all_gives 4 (by omega) w4.heap.size nb mb nds n lost) (fun h => h ▸ Kp.refl _ _) (fun i hi => hi.elim) (fun _ => rfl)
    (fun pre W => ∃ v es, DgL w5.heap.size W v es ∧ At W w.heap.size [v] ∧ es.map dkey = (nds.take pre.length).map dkey ∧ Kp (fun j => j = w.heap.size) w5 W)
    (fun c pre W => False)
    ?hI (fun _ _ _ _ h _ => h) ?hT (fun _ _ _ h _ => h) (fun s A A' h k => k ▸ h) (fun c s A A' h k => h) ?h0 ?hT0
    (fun x => { tmps := #[.pointer (some ⟨nb, 0, none⟩), undef, .slice none 0 0, .pointer (some ⟨w.heap.size, 0, none⟩), undef, .pointer (some ⟨(nd nds x).g, 0, none⟩), undef,
      .pointer (some ⟨nb, 0, none⟩), .bool false, .pointer (some ⟨nb, 0, none⟩),
      .func (.func 49) #[] #[.pointer (some ⟨w4.heap.size, 0, none⟩)], .pointer (some ⟨pB nb nds x, pO x, none⟩), .pointer (some ⟨(nd nds x).g, 0, none⟩), undef, undef, undef, undef, undef, undef, undef, undef, undef, undef, undef, undef, undef], defers := [] }) ?assign ?body ?done ?stop
  case hI =>
    rintro pre A' A'' ⟨v, es, h1, h2, h3, h4⟩ k
    exact ⟨v, es, h1.notNC k, k.at h2 (NC.not h2), h3, h4.then k (fun j hj e => by have := e.1; omega)⟩
  case hT => exact fun pre A' A'' h k => h.abd k hsz5
  case h0 => exact ⟨_, [], DgL.nil _ _, H5.out.2.at H4.out.1 (fun h => h), rfl, Kp.refl _ _⟩
  case hT0 => exact ⟨(H5.out.1.cell 0).trans rfl, hN5⟩
  case assign =>
    intro yl x W K hK
    unfold encN
    gi_wp2
    exact hK
  case stop =>
    rintro D c pre W hD hpre h
    exact h.elim
  case done =>
    rintro D W hD ⟨v, es, h1, h2, h3, h4⟩ _ hd
    have hv : W.cell? ⟨w.heap.size, 0, none⟩ = some v := (h2.cell 0).trans rfl
    obtain ⟨A, c, rfl, _, _⟩ := h1.rdd
    have H1 := Lib.hid (And.intro h1 (And.intro h3 h4))
    clear h1 h2 h3 h4
    go_wp2
    have kx := Kp.putNC hD hd rfl (.deferred none)
    refine ⟨by simp, .inl ⟨_, _, rfl, run_takeDeferred hd, ?_⟩⟩
    have hs5 := H5.out.2.size
    refine ⟨_, results_tmp rfl _ _ _, _, es, rfl, ?_, by rw [H1.out.2.1]; simp, ((H4.out.2.trans H5.out.2).then H1.out.2.2 (fun j hj e => by omega)).thenNC kx (by omega)⟩
    have hd2 := H1.out.1.notNC kx
    exact ⟨hd2.own, hd2.each, hd2.dis, hd2.apart, fun b hb => by have := hd2.ge b hb; omega, fun i b hi hb => by have := hd2.geE i b hi hb; omega⟩
  case body =>
    rintro yl pre x W hpre ⟨v, es, hdg, hout, hkey, hkp⟩ ht
    obtain ⟨rfl, hx⟩ := range_pre hpre
    have hlen : (pre ++ [pre.length]).length = pre.length + 1 := by simp
    obtain ⟨A, m, hB, hR, _⟩ := (ht.2.own _ hx).form
    have hel : es.length = pre.length := by
      have := congrArg List.length hkey
      simp at this; omega
    obtain ⟨n0, n1, n2, _⟩ := nd_cells (ht.2.node _ hx)
    rw [hB] at n2
    have co : W.cell? ⟨w.heap.size, 0, none⟩ = some v := (hout.cell 0).trans rfl
    have fo := hout.frozen 0
    have hws := hkp.size
    have hll := H.out.2 _ hx
    have HC := Lib.hid (fun w' (k : Kp (fun _ => False) W w') => ((callsIn_wide (n := 2)).2 (clone_any A m (nd nds pre.length).l w' (hR.kp0 k (fun _ _ h => h)) hll)).inRound yl)
    have HAP := Lib.hid (fun w9 A9 m9 c9 l9 (ho : OwnB w9 (.slice A9 m9 c9) l9) hg k => wait_app hdg hws (by rw [hel]; omega) (nd nds pre.length).fr (nd nds pre.length).to (.slice A (nd nds pre.length).l.length m) (w9 := w9) (A9 := A9) (m := m9) (c9 := c9) (l := l9) 28 ho hg k)
    have HEL := Lib.hid hel
    clear hel
    have hvf : ∃ A c, v = .slice A es.length c := by obtain ⟨A, c, e, _, _⟩ := hdg.rdd; exact ⟨A, c, e⟩
    obtain ⟨A1, c1, hv1⟩ := hvf
    have htk : (nds.take (pre.length + 1)).map dkey = (nds.take pre.length).map dkey ++ [dkey (nd nds pre.length)] := by
      rw [take_snoc nds default pre.length hx, List.map_append]; rfl
    have HK := Lib.hid (And.intro hdg (And.intro hout (And.intro hkey (And.intro hkp (And.intro ht htk)))))
    have hdk : dkey (nd nds pre.length) = ((nd nds pre.length).fr, (nd nds pre.length).to, (nd nds pre.length).l) := rfl
    have HDK := Lib.hid hdk
    have HNE := Lib.hid (show ¬ v.ownBlock = some w.heap.size from fun e => by have := hdg.ge _ e; omega)
    have hwi : w.heap.size < W.heap.size := by omega
    have hwn : W.heap.size ≠ w.heap.size := by omega
    subst hv1
    clear hdg hout hkey hkp ht hB hR hpre htk hdk hlen
    generalize (nd nds pre.length).fr = fr at *
    generalize (nd nds pre.length).to = to at *
    generalize (nd nds pre.length).l = l at *
    generalize hlm : l.length = m0 at *
    have HLM := Lib.hid hlm
    clear hlm
    gi_wp2_with (first | (refine ⟨trivial, ?_⟩; gi_at_call 37; (with_reducible refine (HC.out _ ((Kp.refl _ W).alloc _)).mono ?_); rintro e w9 ⟨v9, rfl, ho9, hg9, k9⟩; obtain ⟨A9, c9, rfl, _, _⟩ := ho9.form; have hbx := k9.at (At.new W (dgC fr to (.slice A m0 m)) 28) (fun h => h); obtain ⟨x0, x1, x2, f0, f1, f2⟩ := dg_cells hbx; have kW := ((Kp.refl (fun _ => False) W).alloc (.cells #[.int .i64 fr, .int .i64 to, .slice A m0 m] 28)).trans k9; have co9 := kW.cell co (fun h => h); have fo9 := (kW.at HK.out.2.1 (fun h => h)).frozen 0; have hs9 : W.heap.size < w9.heap.size := hbx.lt; obtain ⟨v2, w2, hr, hd2, k2⟩ := HAP.out w9 A9 _ c9 l ho9 (fun g hg => by simpa using hg9 g hg) k9; obtain ⟨A2, c2, rfl, _, _⟩ := hd2.rdd; have co2 := k2.cell co HNE.out; have fo2 := (k2.at HK.out.2.1 HNE.out).frozen 0; have HR := Lib.hid hr; have H2 := Lib.hid (And.intro hd2 k2); clear hr hd2 k2 ho9 hg9 k9 hbx kW) | (gi_at_builtin; refine wpListIn_append_run HR.out rfl rfl rfl rfl ?_))
    have k3 := (Kp.refl (· = w.heap.size) w2).setCell (p := ⟨w.heap.size, 0, none⟩) (fun _ => rfl) (.slice A2 (es.length + 1) c2)
    have hd3 := H2.out.1
    rw [List.length_append, List.length_singleton] at hd3
    have kW2 := (H2.out.2.mono (S' := fun j => (Value.slice A1 es.length c1).ownBlock = some j ∨ j = w.heap.size) (fun _ _ h => .inl h)).trans (k3.mono (fun _ _ h => .inr h))
    have hge := HK.out.1.ge
    refine ⟨KeepsFrom.of_kp kW2 (fun j hj => ?_), ⟨_, _, hd3.kp k3 (fun b hb e => by have := hd3.ofGe hb; omega), (H2.out.2.at HK.out.2.1 HNE.out).set 0 _, ?_, HK.out.2.2.2.1.then kW2 (fun j hj h => ?_)⟩, HK.out.2.2.2.2.1.kp kW2 (fun h => ?_) (fun b hb h => ?_)⟩
    · rcases hj with hj | hj
      · exact .inr (HK.out.1.own.at' hj)
      · exact .inl (by omega)
    · rw [List.length_append, List.length_singleton, HK.out.2.2.2.2.2, List.map_append, HK.out.2.2.1, HDK.out]; rfl
    · rcases h with h | h
      · have := hge _ h; omega
      · exact h
    · rcases h with h | h
      · have := hge _ h; omega
      · omega
    · rcases h with h | h
      · have := hge _ h; have := hN5.lt hb; omega
      · have := H.out.1.lt hb; omega
end Go.Proofs.Ytgcgcdgjooaipaa
