/- The document's net: Send, Copy. (Written by wip/refnet3.py.) -/
import Derived.Test.YtgcgcdgjooaipaaDnL
import Derived.Test.YtgcgcdgjooaipaaMemK
import Derived.Test.YtgcgcdgjooaipaaRegL
namespace Go.Proofs.Ytgcgcdgjooaipaa
open Go.RowKit Go.Maps
set_option linter.unusedVariables false
set_option linter.unusedSimpArgs false
theorem wp_append_go {P : Program} {o : Oper} {a : Act} {w w' : World} {K : Act → World → Prop} {Q : Exit → Act → World → Prop} {s x : Operand} {t tx : TypeId} {v X v' : Value}
    (hrun : (Builtin.append_ #[t, tx] o.type #[v, X]).run P w = .ok v' w') (ho : o.op = .call { callee := .builtin .append, args := #[s, x], argTypes := #[t, tx] })
    (hs : a.eval s = v) (hx : a.eval x = X) (h : K (a.put o.dst v') w') : Oper.wp P o a w K Q := by
  unfold Oper.wp execOp
  simp only [ho, resolve, invoke, builtin, Sem.run_bind, Sem.run_pure, Result.andThen_ok, List.map_toArray, List.map_cons, List.map_nil, hs, hx, hrun]
  exact h
section
variable {w w' : World} {db : Nat} {L O : Value} {ds : List Nd} {os : List (Int × Int)} {lost : Int}
/-- One more datagram, laid behind the list, which is stored anew. -/
theorem DN.app {nL cL : Nat} {aL : Option Addr} (h : DN w db (.slice aL nL cL) O ds os lost) (hn : ds.length ≤ 100000) {fr to : Int} {A : Option Addr} {n C : Nat} {l : List Int} (hd : OwnB w (.slice A n C) l) (hne : ∀ g, (Value.slice A n C).ownBlock = some g → ¬ DMine db (.slice aL nL cL) O ds g) {bx : Nat} (hat : At w bx (dgC fr to (.slice A n C))) :
    ∃ v' w', (Builtin.append_ #[22, 22] 22 #[.slice aL nL cL, .slice (some ⟨bx, 0, none⟩) 1 1]).run Try.prog w = .ok v' w' ∧ (∃ va vc, v' = .slice va (nL + 1) vc) ∧ DN (w'.setCell ⟨db, 0, none⟩ v') db v' O (ds ++ [⟨0, fr, to, .slice A n C, l⟩]) os lost ∧
      Kp (fun k => (Value.slice aL nL cL).ownBlock = some k) w w' ∧ w'.frozen? ⟨db, 0, none⟩ = false ∧ w'.cell? ⟨db, 0, none⟩ = some (.slice aL nL cL) ∧ (v'.ownBlock = (Value.slice aL nL cL).ownBlock ∨ v'.ownBlock = some w.heap.size) ∧ (∀ lb j u, aL = some ⟨lb, 0, none⟩ → (dgsC ds)[j]? = some u → w'.cell? ⟨lb, j, none⟩ = some u) := by
  obtain ⟨v', w', hr, hl, k, hb⟩ := h.l.app (P := Try.prog) (ty := 22) Try.underlying22 elem_dg Try.underlying22 (by omega) ⟨0, fr, to, .slice A n C, l⟩ hd (fun b hb => ⟨Nat.zero_le _, fun hf => hne b hb (.inr (.inr hf))⟩) hn (Nat.zero_le _) hat
  obtain ⟨va, vc, e, _, _⟩ := hl.own.form
  have hnl : nL = ds.length := by
    obtain ⟨a', c', e', _⟩ := h.l.rdd
    simp only [Value.slice.injEq] at e'
    exact e'.2.1
  have nd : ¬ (Value.slice aL nL cL).ownBlock = some db := fun e => h.dl (.inl e)
  have hat' := k.at h.hat nd
  have ks := (Kp.refl (· = db) w').setCell (p := ⟨db, 0, none⟩) (fun _ => rfl) v'
  have hnew : ∀ b, DgL.Of v' (ds ++ [⟨0, fr, to, .slice A n C, l⟩]) b → DgL.Of (.slice aL nL cL) ds b ∨ (Value.slice A n C).ownBlock = some b ∨ b = w.heap.size := fun b hf => by
    rcases of_app (v := .slice aL nL cL) hf with h1 | h1 | h1
    · rcases hb with e | e <;> rw [e] at h1
      · exact .inl (.inl h1)
      · simp only [Option.some.injEq] at h1; exact .inr (.inr h1.symm)
    · exact .inl h1
    · exact .inr (.inl h1)
  have hdb : ¬ DgL.Of v' (ds ++ [⟨0, fr, to, .slice A n C, l⟩]) db := fun hf => by
    rcases hnew db hf with h1 | h1 | h1
    · exact h.dl h1
    · exact hne db h1 (.inl rfl)
    · have := h.hat.lt; omega
  refine ⟨v', w', hr, ⟨va, vc, by rw [e, hnl]; simp⟩, ⟨hat'.set 0 v', hl.kp ks (fun b hb e => hdb (e ▸ hb)), (h.o.kp k (fun g hg e => h.ol g hg (.inl e))).kp ks (fun g hg e => h.dO (e ▸ hg)), hdb, h.dO, fun b hb hf => ?_⟩, k, hat'.frozen 0, (hat'.cell 0).trans rfl, hb, fun lb j u hlb hu => ?_⟩
  · rcases hnew b hf with h1 | h1 | h1
    · exact h.ol b hb h1
    · exact hne b h1 (.inr (.inl hb))
    · have := h.o.lt b hb; omega
  · have hj := (List.getElem?_eq_some_iff.1 hu).1
    rw [append_keeps (P := Try.prog) (z := .agg #[.int .i64 0, .int .i64 0, .slice none 0 0]) w Try.underlying22 elem_dg h.l.own (src_of_rd (P := Try.prog) w Try.underlying22 (a := some ⟨bx, 0, none⟩) (n := 1) (c := 1) (news := dgC fr to (.slice A n C)) (by simp [dgC]) (by omega)
      (fun i hi => ⟨bx, 0, rfl, by rw [hat.cell, Nat.zero_add, List.getD_eq_getElem?_getD, List.getElem?_eq_getElem hi]; rfl⟩) (fun u hu => by
        simp only [dgC, List.mem_cons, List.not_mem_nil, or_false] at hu
        rcases hu with rfl | rfl | rfl <;> rfl)) (by unfold maxLen; omega) (by omega) hr (by rw [hlb, hnl]) j hj, hu]
theorem fin_app {nL cL : Nat} {aL : Option Addr} {fr to : Int} {A : Option Addr} {n C : Nat} {l : List Int} {v' : Value} {m5 m7 : Nat} {w2 : World} (h : DN w' db v' O (ds ++ [⟨0, fr, to, .slice A n C, l⟩]) os lost) (k : Kp (DMine db (.slice aL nL cL) O ds) w2 w')
    (hg : (v'.ownBlock = (Value.slice aL nL cL).ownBlock ∨ v'.ownBlock = some m7) ∧ (∀ g, (Value.slice A n C).ownBlock = some g → w2.heap.size ≤ g) ∧ w2.heap.size ≤ m5 ∧ w2.heap.size ≤ m7) (k2 : Kp (fun _ => False) w w2) (hL : L = .slice aL nL cL) :
    Ending.returned (.int .i64 0) = .returned (.int .i64 0) ∧ ∃ L' d, DN w' db L' O (ds ++ [d]) os lost ∧ DStp db L O ds w L' O (ds ++ [d]) w' ∧ d.fr = fr ∧ d.to = to ∧ d.l = l := by
  subst hL
  refine ⟨rfl, _, _, h, ⟨(k2.mono (fun _ _ h => h.elim)).trans k, fun b hb => ?_⟩, rfl, rfl, rfl⟩
  have hs := k2.size
  rcases hb with hb | hb | hb
  · exact .inl (.inl hb)
  · exact .inl (.inr (.inl hb))
  · rcases of_app (v := .slice aL nL cL) hb with h1 | h1 | h1
    · rcases hg.1 with e | e <;> rw [e] at h1
      · exact .inl (.inr (.inr (.inl h1)))
      · simp only [Option.some.injEq] at h1
        have := hg.2.2.2
        exact .inr (by omega)
    · exact .inl (.inr (.inr h1))
    · have := hg.2.1 b h1
      exact .inr (by omega)
set_option maxHeartbeats 1000000 in
set_option maxRecDepth 20000 in
theorem dsend_arg (h : DN w db L O ds os lost) (hos : os.length ≤ 10000) (hds : ds.length ≤ 2000) (fr to : Int) (a : Option Addr) (n c : Nat) (l : List Int) (hn : n = l.length) (hb : RdB w a l) (he : isEnd fr = false ∨ isEnd to = false) :
    Calls Try.prog 47 #[.pointer (some ⟨db, 0, none⟩), .agg #[.int .i64 fr, .int .i64 to, .slice a n c]] w fun e w' => e = .returned (.int .i64 2) ∧ Kp (fun _ => False) w w' := by
  cases h1 : isEnd fr
  · have E1 := Lib.hid (fun w' => (dend_any fr w'))
    rw [h1] at E1
    clear he hb hn h hds hos
    go_enter Try.func47, Try.ntmps47
    go_wp2_with (go_at_call 52; (with_reducible refine (E1.out _).mono ?_); rintro e w' ⟨rfl, rfl⟩)
    go_ret
    exact ⟨rfl, (Kp.refl _ w).alloc _⟩
  · have h2 : isEnd to = false := by rcases he with h | h; (rw [h1] at h; cases h); exact h
    have E1 := Lib.hid (fun w' => (dend_any fr w'))
    have E2 := Lib.hid (fun w' => (dend_any to w'))
    rw [h1] at E1
    rw [h2] at E2
    clear he hb hn h hds hos
    go_enter Try.func47, Try.ntmps47
    go_wp2_with (first | (go_at_call 52; (with_reducible refine (E1.out _).mono ?_); rintro e w' ⟨rfl, rfl⟩) | (go_at_call 52; (with_reducible refine (E2.out _).mono ?_); rintro e w' ⟨rfl, rfl⟩))
    go_ret
    exact ⟨rfl, (Kp.refl _ w).alloc _⟩
set_option maxHeartbeats 1000000 in
set_option maxRecDepth 20000 in
theorem dsend_long (h : DN w db L O ds os lost) (hos : os.length ≤ 10000) (hds : ds.length ≤ 2000) (fr to : Int) (a : Option Addr) (n c : Nat) (l : List Int) (hn : n = l.length) (hb : RdB w a l) (h1 : isEnd fr = true) (h2 : isEnd to = true) (hl : 1500 < n) :
    Calls Try.prog 47 #[.pointer (some ⟨db, 0, none⟩), .agg #[.int .i64 fr, .int .i64 to, .slice a n c]] w fun e w' => e = .returned (.int .i64 3) ∧ Kp (fun _ => False) w w' := by
  have E1 := Lib.hid (fun w' => (dend_any fr w'))
  have E2 := Lib.hid (fun w' => (dend_any to w'))
  rw [h1] at E1
  rw [h2] at E2
  have b1 : (1500 : Int) < (n : Int) := by omega
  clear hb hn h hds hos h1 h2
  go_enter Try.func47, Try.ntmps47
  go_wp2_with (first | (go_at_call 52; (with_reducible refine (E1.out _).mono ?_); rintro e w' ⟨rfl, rfl⟩) | (go_at_call 52; (with_reducible refine (E2.out _).mono ?_); rintro e w' ⟨rfl, rfl⟩))
  go_ret
  exact ⟨rfl, (Kp.refl _ w).alloc _⟩
set_option maxHeartbeats 1000000 in
set_option maxRecDepth 20000 in
theorem dsend_cut (h : DN w db L O ds os lost) (hos : os.length ≤ 10000) (hds : ds.length ≤ 2000) (fr to : Int) (a : Option Addr) (n c : Nat) (l : List Int) (hn : n = l.length) (hb : RdB w a l) (h1 : isEnd fr = true) (h2 : isEnd to = true) (hl : n ≤ 1500) (hlo : 0 ≤ lost ∧ lost ≤ 10000) (hoff : decide (prOf fr to ∈ os) = true) :
    Calls Try.prog 47 #[.pointer (some ⟨db, 0, none⟩), .agg #[.int .i64 fr, .int .i64 to, .slice a n c]] w fun e w' => e = .returned (.int .i64 0) ∧ DN w' db L O ds os (lost + 1) ∧ Kp (· = db) w w' := by
  have E1 := Lib.hid (fun w' => (dend_any fr w'))
  have E2 := Lib.hid (fun w' => (dend_any to w'))
  rw [h1] at E1
  rw [h2] at E2
  obtain ⟨aL, cL, hL, hcL, _, c0⟩ := h.lf
  have c2 := h.c2
  have CC := Lib.hid (fun w' (k : Kp (fun _ => False) w w') => dcut_any (h.kp0 k) hos fr to)
  rw [hoff] at CC
  have hlt := h.hat.lt
  have B0 := Lib.hid (At.new w (dgC fr to (.slice a n c)) 28)
  obtain ⟨nL, hnL⟩ : ∃ nL, nL = ds.length := ⟨_, rfl⟩
  rw [← hnL] at hL hcL c0
  have H0 := Lib.hid (And.intro hL h)
  have HC := Lib.hid (And.intro c0 c2)
  have b1 : ¬ (1500 : Int) < (n : Int) := by omega
  clear hoff h hb hn h1 h2 c0 c2 hL hnL hds hos
  go_enter Try.func47, Try.ntmps47
  go_wp2_with (first | (go_at_call 52; (with_reducible refine (E1.out _).mono ?_); rintro e w' ⟨rfl, rfl⟩) | (go_at_call 52; (with_reducible refine (E2.out _).mono ?_); rintro e w' ⟨rfl, rfl⟩) | (go_at_call 54; (with_reducible refine (CC.out _ ((Kp.refl _ w).alloc _)).mono ?_); rintro e w2 ⟨rfl, k2⟩; have K2 := Lib.hid (((Kp.refl (fun _ => False) w).alloc _).trans k2); have X2 := Lib.hid (k2.at B0.out (fun h => h)); have x0 := K2.out.cell HC.out.1 (fun h => h); have x2 := K2.out.cell HC.out.2 (fun h => h); have f2 := (K2.out.at H0.out.2.hat (fun h => h)).frozen 2; clear k2))
  go_ret
  have hN1 := H0.out.2.kp0 K2.out
  have ks := (Kp.refl (· = db) w2).setCell (p := ⟨db, 2, none⟩) (fun _ => rfl) (.int .i64 (lost + 1))
  exact ⟨rfl, ⟨hN1.hat.set 2 _, hN1.l.kp ks (fun b hb e => hN1.dl (e ▸ hb)), hN1.o.kp ks (fun b hb e => hN1.dO (e ▸ hb)), hN1.dl, hN1.dO, hN1.ol⟩, (K2.out.mono (fun _ _ h => h.elim)).trans ks⟩
set_option maxHeartbeats 1000000 in
set_option maxRecDepth 20000 in
theorem dsend_full (h : DN w db L O ds os lost) (hos : os.length ≤ 10000) (hds : ds.length ≤ 2000) (fr to : Int) (a : Option Addr) (n c : Nat) (l : List Int) (hn : n = l.length) (hb : RdB w a l) (h1 : isEnd fr = true) (h2 : isEnd to = true) (hl : n ≤ 1500) (hoff : decide (prOf fr to ∈ os) = false) (hroom : 2000 ≤ ds.length) :
    Calls Try.prog 47 #[.pointer (some ⟨db, 0, none⟩), .agg #[.int .i64 fr, .int .i64 to, .slice a n c]] w fun e w' => e = .returned (.int .i64 8) ∧ Kp (fun _ => False) w w' := by
  have E1 := Lib.hid (fun w' => (dend_any fr w'))
  have E2 := Lib.hid (fun w' => (dend_any to w'))
  rw [h1] at E1
  rw [h2] at E2
  obtain ⟨aL, cL, hL, hcL, _, c0⟩ := h.lf
  have c2 := h.c2
  have CC := Lib.hid (fun w' (k : Kp (fun _ => False) w w') => dcut_any (h.kp0 k) hos fr to)
  rw [hoff] at CC
  have hlt := h.hat.lt
  have B0 := Lib.hid (At.new w (dgC fr to (.slice a n c)) 28)
  obtain ⟨nL, hnL⟩ : ∃ nL, nL = ds.length := ⟨_, rfl⟩
  rw [← hnL] at hL hcL c0
  have H0 := Lib.hid (And.intro hL h)
  have HC := Lib.hid (And.intro c0 c2)
  have b1 : ¬ (1500 : Int) < (n : Int) := by omega
  have b2 : (2000 : Int) ≤ (nL : Int) := by omega
  clear hoff h hb hn h1 h2 c0 c2 hL hnL hds hos hroom
  go_enter Try.func47, Try.ntmps47
  go_wp2_with (first | (go_at_call 52; (with_reducible refine (E1.out _).mono ?_); rintro e w' ⟨rfl, rfl⟩) | (go_at_call 52; (with_reducible refine (E2.out _).mono ?_); rintro e w' ⟨rfl, rfl⟩) | (go_at_call 54; (with_reducible refine (CC.out _ ((Kp.refl _ w).alloc _)).mono ?_); rintro e w2 ⟨rfl, k2⟩; have K2 := Lib.hid (((Kp.refl (fun _ => False) w).alloc _).trans k2); have X2 := Lib.hid (k2.at B0.out (fun h => h)); have x0 := K2.out.cell HC.out.1 (fun h => h); have x2 := K2.out.cell HC.out.2 (fun h => h); have f2 := (K2.out.at H0.out.2.hat (fun h => h)).frozen 2; clear k2))
  go_ret
  exact ⟨rfl, K2.out⟩
set_option maxHeartbeats 1000000 in
set_option maxRecDepth 20000 in
theorem dsend_ok (h : DN w db L O ds os lost) (hos : os.length ≤ 10000) (hds : ds.length ≤ 2000) (fr to : Int) (a : Option Addr) (n c : Nat) (l : List Int) (hn : n = l.length) (hb : RdB w a l) (h1 : isEnd fr = true) (h2 : isEnd to = true) (hl : n ≤ 1500) (hoff : decide (prOf fr to ∈ os) = false) (hroom : ds.length < 2000) :
    Calls Try.prog 47 #[.pointer (some ⟨db, 0, none⟩), .agg #[.int .i64 fr, .int .i64 to, .slice a n c]] w fun e w' => e = .returned (.int .i64 0) ∧ ∃ L' d, DN w' db L' O (ds ++ [d]) os lost ∧ DStp db L O ds w L' O (ds ++ [d]) w' ∧ d.fr = fr ∧ d.to = to ∧ d.l = l := by
  have E1 := Lib.hid (fun w' => (dend_any fr w'))
  have E2 := Lib.hid (fun w' => (dend_any to w'))
  rw [h1] at E1
  rw [h2] at E2
  obtain ⟨aL, cL, hL, hcL, _, c0⟩ := h.lf
  have c2 := h.c2
  have CC := Lib.hid (fun w' (k : Kp (fun _ => False) w w') => dcut_any (h.kp0 k) hos fr to)
  rw [hoff] at CC
  have hlt := h.hat.lt
  have B0 := Lib.hid (At.new w (dgC fr to (.slice a n c)) 28)
  obtain ⟨nL, hnL⟩ : ∃ nL, nL = ds.length := ⟨_, rfl⟩
  rw [← hnL] at hL hcL c0
  have H0 := Lib.hid (And.intro hL h)
  have HC := Lib.hid (And.intro c0 c2)
  have b1 : ¬ (1500 : Int) < (n : Int) := by omega
  have b2 : ¬ (2000 : Int) ≤ (nL : Int) := by omega
  have HB := Lib.hid (And.intro hb hn)
  clear hoff h hb hn h1 h2 c0 c2 hL hnL hos
  go_enter Try.func47, Try.ntmps47
  go_upto_region 10 with (first | (go_at_call 52; (with_reducible refine (E1.out _).mono ?_); rintro e w' ⟨rfl, rfl⟩) | (go_at_call 52; (with_reducible refine (E2.out _).mono ?_); rintro e w' ⟨rfl, rfl⟩) | (go_at_call 54; (with_reducible refine (CC.out _ ((Kp.refl _ w).alloc _)).mono ?_); rintro e w2 ⟨rfl, k2⟩; have K2 := Lib.hid (((Kp.refl (fun _ => False) w).alloc _).trans k2); have X2 := Lib.hid (k2.at B0.out (fun h => h)); have x0 := K2.out.cell HC.out.1 (fun h => h); have x2 := K2.out.cell HC.out.2 (fun h => h); have f2 := (K2.out.at H0.out.2.hat (fun h => h)).frozen 2; clear k2))
  have H9 := Lib.hid (fun (b : Nat) (hb : DMine db L O ds b) => H0.out.2.lt hb)
  obtain ⟨rfl, _⟩ := H0.out
  have HD := Lib.hid (H0.out.2.kp0 K2.out)
  have H1 := Lib.hid (And.intro H0.out.1 K2.out)
  have H0 := H1
  have ned : ¬ (Value.slice aL nL cL).ownBlock = some db := fun e => HD.out.dl (.inl e)
  have nbx : ¬ (Value.slice aL nL cL).ownBlock = some w.heap.size := fun e => Nat.lt_irrefl _ (H9.out _ (.inr (.inr (.inl e))))
  have y0 : w2.cell? ⟨w.heap.size, 0, none⟩ = some (.int .i64 fr) := (X2.out.cell 0).trans rfl
  have y1 : w2.cell? ⟨w.heap.size, 1, none⟩ = some (.int .i64 to) := (X2.out.cell 1).trans rfl
  have y2 : w2.cell? ⟨w.heap.size, 2, none⟩ = some (.slice a n c) := (X2.out.cell 2).trans rfl
  have CO := Lib.hid (fun w' (k : Kp (fun _ => False) w2 w') => down_any fr to a n c l HB.out.2 w' ((HB.out.1.kp0 K2.out (fun _ _ h => h)).kp0 k (fun _ _ h => h)) (by omega))
  refine region_L (S := fun w' => Kp (fun k => (Value.slice aL nL cL).ownBlock = some k) w2 w') [11] rfl ?_
  have hSd : ∀ (w' : World) (n' : Nat), Kp (fun k => (Value.slice aL nL cL).ownBlock = some k) w2 w' → Kp (fun k => (Value.slice aL nL cL).ownBlock = some k) w2 (w'.drewN n') := fun w' n' h => h.drewN n'
  have hS1 : Kp (fun k => (Value.slice aL nL cL).ownBlock = some k) w2 w2.drew := (Kp.refl _ w2).drew
  refine anyL_takeF (i := 0) (d := 38) (v := (.pointer (some ⟨db, 0, none⟩))) rfl rfl (by kernel_rfl) (by kernel_rfl) (by kernel_rfl) (fun _ _ _ h => h) hSd (by kernel_rfl) (.inl (.inl ⟨rfl, fun w' hS => rfl⟩)) (fun _ => hS1) ?_
  try simp only [List.setIfInBounds_toArray, List.set_cons_succ, List.set_cons_zero]
  refine anyL_takeF (i := 1) (d := 39) (v := (.pointer (some ⟨db, 0, none⟩))) rfl rfl (by kernel_rfl) (by kernel_rfl) (by kernel_rfl) (fun _ _ _ h => h) hSd (by kernel_rfl) (.inl (.inl ⟨rfl, fun w' hS => rfl⟩)) (fun _ => hS1) ?_
  try simp only [List.setIfInBounds_toArray, List.set_cons_succ, List.set_cons_zero]
  refine anyL_takeF (i := 2) (d := 40) (v := (.pointer (some ⟨db, 0, none⟩))) rfl rfl (by kernel_rfl) (by kernel_rfl) (by kernel_rfl) (fun _ _ _ h => h) hSd (by kernel_rfl) (.inl (.inl ⟨rfl, fun w' hS => by go_simp⟩)) (fun _ => hS1) ?_
  try simp only [List.setIfInBounds_toArray, List.set_cons_succ, List.set_cons_zero]
  refine anyL_takeF (i := 3) (d := 41) (v := (.pointer (some ⟨db, 0, none⟩))) rfl rfl (by kernel_rfl) (by kernel_rfl) (by kernel_rfl) (fun _ _ _ h => h) hSd (by kernel_rfl) (.inl (.inl ⟨rfl, fun w' hS => by go_simp⟩)) (fun _ => hS1) ?_
  try simp only [List.setIfInBounds_toArray, List.set_cons_succ, List.set_cons_zero]
  refine anyL_takeD (i := 4) (d := 42) (v := (.slice aL nL cL)) rfl rfl (by kernel_rfl) (by kernel_rfl) (by kernel_rfl) (fun _ _ _ h => h) hSd (by kernel_rfl) (.inl (.inl ⟨rfl, fun w' hS => by have hc := Kp.cell hS x0 ned; go_simp⟩)) hS1 ?_
  try simp only [List.setIfInBounds_toArray, List.set_cons_succ, List.set_cons_zero]
  refine anyL_takeD (i := 5) (d := 43) (v := (.agg #[.int .i64 fr, .int .i64 to, .slice a n c])) rfl rfl (by kernel_rfl) (by kernel_rfl) (by kernel_rfl) (fun _ _ _ h => h) hSd (by kernel_rfl) (.inl (.inl ⟨rfl, fun w' hS => by have hc0 := Kp.cell hS y0 nbx; have hc1 := Kp.cell hS y1 nbx; have hc2 := Kp.cell hS y2 nbx; go_simp⟩)) hS1 ?_
  try simp only [List.setIfInBounds_toArray, List.set_cons_succ, List.set_cons_zero]
  refine anyL_all (rs := [6]) (by kernel_rfl) (by simp) ?_
  intro n6 i hi
  simp only [List.mem_cons, List.not_mem_nil, or_false] at hi
  obtain rfl := hi
  refine wpOp_of rfl rfl ?_
  go_simp
  refine (CO.out _ ((Kp.refl _ w2).drewN _)).mono ?_
  rintro e w5 ⟨A5, C5, rfl, o5, g5, k5⟩
  have g5 : ∀ g, (Value.slice A5 n C5).ownBlock = some g → w2.heap.size ≤ g := g5
  have k25 : Kp (fun _ => False) w2 w5 := ((Kp.refl _ w2).drewN _).trans k5
  try dsimp only
  refine ⟨fun _ => k25.mono (fun _ _ h => h.elim), ?_⟩
  try simp only [List.setIfInBounds_toArray, List.set_cons_succ, List.set_cons_zero]
  refine anyL_all (rs := [7]) (by kernel_rfl) (by simp) ?_
  intro n7 i hi
  simp only [List.mem_cons, List.not_mem_nil, or_false] at hi
  obtain rfl := hi
  refine wpOp_of rfl rfl ?_
  go_simp
  try dsimp only
  refine ⟨fun _ => (((k25.drewN n7).alloc _).mono (fun _ _ h => h.elim)), ?_⟩
  try rw [show (w5.drewN n7).heap.size = w5.heap.size from rfl]
  refine anyL_world (fun wx => At wx w5.heap.size (dgC fr to (.slice A5 n C5)) ∧ Kp (fun _ => False) w5 wx) ⟨At.new (w5.drewN n7) (dgC fr to (.slice A5 n C5)) _, ((Kp.refl _ w5).drewN n7).alloc _⟩ ?_
  rintro w7 ⟨b7, k7⟩
  have k27 : Kp (fun _ => False) w2 w7 := k25.trans k7
  try simp only [List.setIfInBounds_toArray, List.set_cons_succ, List.set_cons_zero]
  refine anyL_all (rs := [8]) (by kernel_rfl) (by simp) ?_
  intro n8 i hi
  simp only [List.mem_cons, List.not_mem_nil, or_false] at hi
  obtain rfl := hi
  refine wpOp_of rfl rfl ?_
  obtain ⟨v8, w8, hr8, ⟨va, vc, rfl⟩, hn8, k8, f8, c8, hb8, e8⟩ := ((HD.out.kp0 k27).kp0 ((Kp.refl _ w7).drewN n8)).app (by omega) (A := A5) (n := n) (C := C5) (l := l) ((o5.kp k7 (fun _ _ h => h)).kp ((Kp.refl (fun _ => False) w7).drewN n8) (fun _ _ h => h)) (fun g hg hm => by have := g5 g hg; have := HD.out.lt hm; omega) (bx := w5.heap.size) (fr := fr) (to := to) (((Kp.refl (fun _ => False) w7).drewN n8).at b7 (fun h => h))
  refine wp_append_go hr8 rfl rfl rfl ?_
  have k28 : Kp (fun k => (Value.slice aL nL cL).ownBlock = some k) w2 w8 := ((k27.drewN _).mono (fun _ _ h => h.elim)).trans k8
  refine ⟨fun _ => k28, ?_⟩
  try simp only [List.setIfInBounds_toArray, List.set_cons_succ, List.set_cons_zero]
  have hS1 := k28
  refine anyL_takeF (i := 9) (d := 47) (v := (.pointer (some ⟨db, 0, none⟩))) rfl rfl (by kernel_rfl) (by kernel_rfl) (by kernel_rfl) (fun _ _ _ h => h) hSd (by kernel_rfl) (.inl (.inl ⟨rfl, fun w' hS => by go_simp⟩)) (fun _ => hS1) ?_
  try simp only [List.setIfInBounds_toArray, List.set_cons_succ, List.set_cons_zero]
  refine anyL_takeF (i := 10) (d := 48) (v := (.pointer (some ⟨db, 0, none⟩))) rfl rfl (by kernel_rfl) (by kernel_rfl) (by kernel_rfl) (fun _ _ _ h => h) hSd (by kernel_rfl) (.inl (.inl ⟨rfl, fun w' hS => by go_simp⟩)) (fun _ => hS1) ?_
  try simp only [List.setIfInBounds_toArray, List.set_cons_succ, List.set_cons_zero]
  refine anyL_all (rs := [11]) (by kernel_rfl) (by simp) ?_
  intro n11 i hi
  simp only [List.mem_cons, List.not_mem_nil, or_false] at hi
  obtain rfl := hi
  refine wpOp_of rfl rfl ?_
  have c8' : (w8.drewN n11).cell? ⟨db, 0, none⟩ = some (.slice aL nL cL) := c8
  have f8' : (w8.drewN n11).frozen? ⟨db, 0, none⟩ = false := f8
  go_simp
  refine ⟨by first | exact fun h => Bool.noConfusion (show false = true from h) | kernel_rfl, anyL_done (by kernel_rfl) (fun nn => ?_) _⟩
  skip
  have HN := Lib.hid ((hn8.kp0 ((Kp.refl _ _).drewN n11)).kp0 ((Kp.refl _ _).drewN nn))
  have HK := Lib.hid (((k28.mono (S' := DMine db (.slice aL nL cL) O ds) (fun _ _ h => .inr (.inr (.inl h)))).setCell (p := ⟨db, 0, none⟩) (fun _ => .inl rfl) (.slice va (nL + 1) vc)).drewN n11 |>.drewN nn)
  have HG := Lib.hid (And.intro hb8 (And.intro g5 (And.intro k25.size (Nat.le_trans k25.size k7.size))))
  clear hn8 hb8 e8 g5 k5 k7 k25 k27 k28 hr8 c8 f8 c8' f8' hS1 hSd b7 o5 x0 ned k8
  go_wp2
  go_ret
  exact fin_app HN.out HK.out HG.out H0.out.2 rfl
set_option maxHeartbeats 1000000 in
set_option maxRecDepth 20000 in
theorem dcopy_no (h : DN w db L O ds os lost) (i : Int) (hi : ¬ (0 ≤ i ∧ i < ds.length)) :
    Calls Try.prog 42 #[.pointer (some ⟨db, 0, none⟩), .int .i64 i] w fun e w' => e = .returned (.int .i64 6) ∧ w = w' := by
  obtain ⟨aL, cL, hL, hcL, _, c0⟩ := h.lf
  have CT := Lib.hid (dthere_any db ds.length cL aL i w c0)
  rw [decide_eq_false hi] at CT
  clear h hi hL c0
  go_enter Try.func42, Try.ntmps42
  go_wp2_with (go_at_call 50; (with_reducible refine CT.out.mono ?_); rintro e w' ⟨rfl, rfl⟩)
  go_ret
  exact ⟨rfl, rfl⟩
set_option maxHeartbeats 1000000 in
set_option maxRecDepth 20000 in
theorem dcopy_full (h : DN w db L O ds os lost) (i : Int) (hi : 0 ≤ i ∧ i < ds.length) (hr : 2000 ≤ ds.length) :
    Calls Try.prog 42 #[.pointer (some ⟨db, 0, none⟩), .int .i64 i] w fun e w' => e = .returned (.int .i64 8) ∧ w = w' := by
  obtain ⟨aL, cL, hL, hcL, _, c0⟩ := h.lf
  have CT := Lib.hid (dthere_any db ds.length cL aL i w c0)
  rw [decide_eq_true hi] at CT
  obtain ⟨n, hn⟩ : ∃ n, n = ds.length := ⟨_, rfl⟩
  rw [← hn] at c0
  have hr : 2000 ≤ n := by omega
  have b2 : (2000 : Int) ≤ (n : Int) := by omega
  clear h hi hL hn
  go_enter Try.func42, Try.ntmps42
  go_wp2_with (go_at_call 50; (with_reducible refine CT.out.mono ?_); rintro e w' ⟨rfl, rfl⟩)
  go_ret
  exact ⟨rfl, rfl⟩
/-- The list's element at a place: its cells, in the list's own block. -/
theorem DN.elem {aL : Option Addr} {nL cL : Nat} (h : DN w db (.slice aL nL cL) O ds os lost) {k : Nat} (hk : k < ds.length) : ∃ lb a c, aL = some ⟨lb, 0, none⟩ ∧ (nd ds k).B = .slice a (nd ds k).l.length c ∧ w.cell? ⟨lb, k * 3, none⟩ = some (.int .i64 (nd ds k).fr) ∧ w.cell? ⟨lb, k * 3 + 1, none⟩ = some (.int .i64 (nd ds k).to) ∧
    w.cell? ⟨lb, k * 3 + 2, none⟩ = some (.slice a (nd ds k).l.length c) ∧ RdB w a (nd ds k).l ∧ OwnB w (.slice a (nd ds k).l.length c) (nd ds k).l := by
  obtain ⟨a, c, e, hr, _⟩ := (h.l.each k hk).form
  have ho := h.l.each k hk
  have hl := dgsC_len ds
  have hg := fun j hj => dgsC_get ds k j hk hj
  rcases h.l.own.2 with ⟨he, h0⟩ | ⟨g, cap, sp, he, hat, _⟩
  · omega
  · simp only [Value.slice.injEq] at he
    obtain ⟨rfl, _, _⟩ := he
    have get : ∀ j u, (dgC (nd ds k).fr (nd ds k).to (nd ds k).B)[j]? = some u → j < 3 → w.cell? ⟨g, k * 3 + j, none⟩ = some u := fun j u hu hj => by
      rw [hat.cell, List.getElem?_append_left (by omega), hg j hj, hu]
    refine ⟨g, a, c, rfl, e, get 0 _ rfl (by omega), get 1 _ rfl (by omega), ?_, hr, by rw [← e]; exact ho⟩
    have := get 2 _ rfl (by omega)
    rw [e] at this
    exact this
set_option maxHeartbeats 1000000 in
set_option maxRecDepth 20000 in
theorem dcopy_ok (h : DN w db L O ds os lost) (k : Nat) (hk : k < ds.length) (hm : (nd ds k).l.length ≤ 1000000) (hr : ds.length < 2000) :
    Calls Try.prog 42 #[.pointer (some ⟨db, 0, none⟩), .int .i64 k] w fun e w' => e = .returned (.int .i64 0) ∧ ∃ L' d, DN w' db L' O (ds ++ [d]) os lost ∧ DStp db L O ds w L' O (ds ++ [d]) w' ∧ d.fr = (nd ds k).fr ∧ d.to = (nd ds k).to ∧ d.l = (nd ds k).l := by
  obtain ⟨aL, cL, hL, hcL, _, c0⟩ := h.lf
  subst hL
  obtain ⟨lb, a, c, rfl, hB, e0, e1, e2, hrb, _⟩ := h.elem hk
  have hg := fun j hj => dgsC_get ds k j hk hj
  have CT := Lib.hid (dthere_any db ds.length cL (some ⟨lb, 0, none⟩) k w c0)
  rw [decide_eq_true (show (0 : Int) ≤ k ∧ (k : Int) < ds.length by omega)] at CT
  obtain ⟨fr, hfr⟩ : ∃ fr, fr = (nd ds k).fr := ⟨_, rfl⟩
  obtain ⟨to, hto⟩ : ∃ to, to = (nd ds k).to := ⟨_, rfl⟩
  obtain ⟨l, hl⟩ : ∃ l, l = (nd ds k).l := ⟨_, rfl⟩
  have hg2 := hg 2 (by omega)
  rw [hB] at hg2
  have HE : Hid ((dgsC ds)[k * 3]? = some (.int .i64 fr) ∧ (dgsC ds)[k * 3 + 1]? = some (.int .i64 to) ∧ (dgsC ds)[k * 3 + 2]? = some (.slice a l.length c)) := ⟨(hg 0 (by omega)).trans (by rw [hfr]; rfl), (hg 1 (by omega)).trans (by rw [hto]; rfl), hg2.trans (by rw [hl]; rfl)⟩
  rw [← hfr, ← hto, ← hl]
  rw [← hfr] at e0
  rw [← hto] at e1
  rw [← hl] at e2 hrb hm
  clear hg hg2 hB hfr hto hl
  obtain ⟨n, hn⟩ : ∃ n, n = l.length := ⟨_, rfl⟩
  rw [← hn] at e2 HE hm
  obtain ⟨nL, hnL⟩ : ∃ nL, nL = ds.length := ⟨_, rfl⟩
  rw [← hnL] at c0 h hcL
  have H0 := Lib.hid (And.intro hnL h)
  have b2 : ¬ (2000 : Int) ≤ (nL : Int) := by omega
  have b3 : (k : Int) < (nL : Int) := by omega
  have HRB := Lib.hid (And.intro hrb hn)
  have CO := Lib.hid (fun w' (k : Kp (fun _ => False) w w') => down_any fr to a n c l hn w' (hrb.kp0 k (fun _ _ h => h)) hm)
  have hds : ds.length ≤ 100000 := by omega
  clear h hr hnL hrb hn
  go_enter Try.func42, Try.ntmps42
  go_upto_region 5 with (go_at_call 50; (with_reducible refine CT.out.mono ?_); rintro e w' ⟨rfl, rfl⟩)
  have x0 := c0
  have y0 := e0
  have y1 := e1
  have y2 := e2
  have x1 := trivial
  clear c0 e0 e1 e2
  obtain ⟨w2, hw2⟩ : ∃ w2, w2 = w := ⟨_, rfl⟩
  have HD := Lib.hid (show DN w2 db (.slice (some ⟨lb, 0, none⟩) nL cL) O ds os lost by rw [hw2]; exact H0.out.2)
  have SK : ∀ w', Kp (fun _ => False) w w' → w'.cell? ⟨db, 0, none⟩ = some (.slice (some ⟨lb, 0, none⟩) nL cL) ∧ w'.cell? ⟨lb, k * 3, none⟩ = some (.int .i64 fr) ∧ w'.cell? ⟨lb, k * 3 + 1, none⟩ = some (.int .i64 to) ∧ w'.cell? ⟨lb, k * 3 + 2, none⟩ = some (.slice a n c) := fun w' kk => ⟨kk.cell x0 (fun h => h), kk.cell y0 (fun h => h), kk.cell y1 (fun h => h), kk.cell y2 (fun h => h)⟩
  have ned : ¬ (Value.slice (some ⟨lb, 0, none⟩) nL cL).ownBlock = some db := fun e => HD.out.dl (.inl e)
  have HLN := Lib.hid H0.out.1
  have H1 := Lib.hid (And.intro H0.out.1 (Kp.refl (fun _ => False) w))
  have H0 := H1
  subst hw2
  refine region_L (S := fun w' => w'.cell? ⟨db, 0, none⟩ = some (.slice (some ⟨lb, 0, none⟩) nL cL) ∧ w'.cell? ⟨lb, k * 3, none⟩ = some (.int .i64 fr) ∧ w'.cell? ⟨lb, k * 3 + 1, none⟩ = some (.int .i64 to) ∧ w'.cell? ⟨lb, k * 3 + 2, none⟩ = some (.slice a n c)) [17] rfl ?_
  have hSd : ∀ (w' : World) (n' : Nat), (w'.cell? ⟨db, 0, none⟩ = some (.slice (some ⟨lb, 0, none⟩) nL cL) ∧ w'.cell? ⟨lb, k * 3, none⟩ = some (.int .i64 fr) ∧ w'.cell? ⟨lb, k * 3 + 1, none⟩ = some (.int .i64 to) ∧ w'.cell? ⟨lb, k * 3 + 2, none⟩ = some (.slice a n c)) → ((w'.drewN n').cell? ⟨db, 0, none⟩ = some (.slice (some ⟨lb, 0, none⟩) nL cL) ∧ (w'.drewN n').cell? ⟨lb, k * 3, none⟩ = some (.int .i64 fr) ∧ (w'.drewN n').cell? ⟨lb, k * 3 + 1, none⟩ = some (.int .i64 to) ∧ (w'.drewN n').cell? ⟨lb, k * 3 + 2, none⟩ = some (.slice a n c)) := fun w' n' h => h
  have hS1 : w2.drew.cell? ⟨db, 0, none⟩ = some (.slice (some ⟨lb, 0, none⟩) nL cL) ∧ w2.drew.cell? ⟨lb, k * 3, none⟩ = some (.int .i64 fr) ∧ w2.drew.cell? ⟨lb, k * 3 + 1, none⟩ = some (.int .i64 to) ∧ w2.drew.cell? ⟨lb, k * 3 + 2, none⟩ = some (.slice a n c) := ⟨x0, y0, y1, y2⟩
  refine anyL_takeF (i := 0) (d := 15) (v := (.pointer (some ⟨db, 0, none⟩))) rfl rfl (by kernel_rfl) (by kernel_rfl) (by kernel_rfl) (fun _ _ _ h => h) hSd (by kernel_rfl) (.inl (.inl ⟨rfl, fun w' hS => rfl⟩)) (fun _ => hS1) ?_
  try simp only [List.setIfInBounds_toArray, List.set_cons_succ, List.set_cons_zero]
  refine anyL_takeF (i := 1) (d := 16) (v := (.pointer (some ⟨db, 0, none⟩))) rfl rfl (by kernel_rfl) (by kernel_rfl) (by kernel_rfl) (fun _ _ _ h => h) hSd (by kernel_rfl) (.inl (.inl ⟨rfl, fun w' hS => rfl⟩)) (fun _ => hS1) ?_
  try simp only [List.setIfInBounds_toArray, List.set_cons_succ, List.set_cons_zero]
  refine anyL_takeF (i := 2) (d := 17) (v := (.pointer (some ⟨db, 0, none⟩))) rfl rfl (by kernel_rfl) (by kernel_rfl) (by kernel_rfl) (fun _ _ _ h => h) hSd (by kernel_rfl) (.inl (.inl ⟨rfl, fun w' hS => by go_simp⟩)) (fun _ => hS1) ?_
  try simp only [List.setIfInBounds_toArray, List.set_cons_succ, List.set_cons_zero]
  refine anyL_takeF (i := 3) (d := 18) (v := (.pointer (some ⟨db, 0, none⟩))) rfl rfl (by kernel_rfl) (by kernel_rfl) (by kernel_rfl) (fun _ _ _ h => h) hSd (by kernel_rfl) (.inl (.inl ⟨rfl, fun w' hS => by go_simp⟩)) (fun _ => hS1) ?_
  try simp only [List.setIfInBounds_toArray, List.set_cons_succ, List.set_cons_zero]
  refine anyL_takeD (i := 4) (d := 19) (v := (.slice (some ⟨lb, 0, none⟩) nL cL)) rfl rfl (by kernel_rfl) (by kernel_rfl) (by kernel_rfl) (fun _ _ _ h => h) hSd (by kernel_rfl) (.inl (.inl ⟨rfl, fun w' hS => by have hc := hS.1; go_simp⟩)) hS1 ?_
  try simp only [List.setIfInBounds_toArray, List.set_cons_succ, List.set_cons_zero]
  refine anyL_takeF (i := 5) (d := 20) (v := (.pointer (some ⟨db, 0, none⟩))) rfl rfl (by kernel_rfl) (by kernel_rfl) (by kernel_rfl) (fun _ _ _ h => h) hSd (by kernel_rfl) (.inl (.inl ⟨rfl, fun w' hS => rfl⟩)) (fun _ => hS1) ?_
  try simp only [List.setIfInBounds_toArray, List.set_cons_succ, List.set_cons_zero]
  refine anyL_takeF (i := 6) (d := 21) (v := (.pointer (some ⟨db, 0, none⟩))) rfl rfl (by kernel_rfl) (by kernel_rfl) (by kernel_rfl) (fun _ _ _ h => h) hSd (by kernel_rfl) (.inl (.inl ⟨rfl, fun w' hS => by go_simp⟩)) (fun _ => hS1) ?_
  try simp only [List.setIfInBounds_toArray, List.set_cons_succ, List.set_cons_zero]
  refine anyL_takeF (i := 7) (d := 22) (v := (.pointer (some ⟨db, 0, none⟩))) rfl rfl (by kernel_rfl) (by kernel_rfl) (by kernel_rfl) (fun _ _ _ h => h) hSd (by kernel_rfl) (.inl (.inl ⟨rfl, fun w' hS => by go_simp⟩)) (fun _ => hS1) ?_
  try simp only [List.setIfInBounds_toArray, List.set_cons_succ, List.set_cons_zero]
  refine anyL_takeD (i := 8) (d := 23) (v := (.slice (some ⟨lb, 0, none⟩) nL cL)) rfl rfl (by kernel_rfl) (by kernel_rfl) (by kernel_rfl) (fun _ _ _ h => h) hSd (by kernel_rfl) (.inl (.inl ⟨rfl, fun w' hS => by have hc := hS.1; go_simp⟩)) hS1 ?_
  try simp only [List.setIfInBounds_toArray, List.set_cons_succ, List.set_cons_zero]
  refine anyL_takeF (i := 9) (d := 24) (v := (.int .i64 (k : Nat))) rfl rfl (by kernel_rfl) (by kernel_rfl) (by kernel_rfl) (fun _ _ _ h => h) hSd (by kernel_rfl) (.inl (.inl ⟨rfl, fun w' hS => rfl⟩)) (fun _ => hS1) ?_
  try simp only [List.setIfInBounds_toArray, List.set_cons_succ, List.set_cons_zero]
  refine anyL_takeF (i := 10) (d := 25) (v := (.pointer (some ⟨lb, k * 3, none⟩))) rfl rfl (by kernel_rfl) (by kernel_rfl) (by kernel_rfl) (fun _ _ _ h => h) hSd (by kernel_rfl) (.inl (.inl ⟨rfl, fun w' hS => by go_simp⟩)) (fun _ => hS1) ?_
  try simp only [List.setIfInBounds_toArray, List.set_cons_succ, List.set_cons_zero]
  refine anyL_takeD (i := 11) (d := 26) (v := (.agg #[.int .i64 fr, .int .i64 to, .slice a n c])) rfl rfl (by kernel_rfl) (by kernel_rfl) (by kernel_rfl) (fun _ _ _ h => h) hSd (by kernel_rfl) (.inl (.inl ⟨rfl, fun w' hS => by have hc0 := hS.2.1; have hc1 := hS.2.2.1; have hc2 := hS.2.2.2; go_simp⟩)) hS1 ?_
  try simp only [List.setIfInBounds_toArray, List.set_cons_succ, List.set_cons_zero]
  refine anyL_all (rs := [12]) (by kernel_rfl) (by simp) ?_
  intro n12 i hi
  simp only [List.mem_cons, List.not_mem_nil, or_false] at hi
  obtain rfl := hi
  refine wpOp_of rfl rfl ?_
  go_simp
  refine (CO.out _ ((Kp.refl _ w2).drewN _)).mono ?_
  rintro e w5 ⟨A5, C5, rfl, o5, g5, k5⟩
  have g5 : ∀ g, (Value.slice A5 n C5).ownBlock = some g → w2.heap.size ≤ g := g5
  have k25 : Kp (fun _ => False) w2 w5 := ((Kp.refl _ w2).drewN _).trans k5
  try dsimp only
  refine ⟨fun _ => SK _ k25, ?_⟩
  try simp only [List.setIfInBounds_toArray, List.set_cons_succ, List.set_cons_zero]
  refine anyL_all (rs := [13]) (by kernel_rfl) (by simp) ?_
  intro n13 i hi
  simp only [List.mem_cons, List.not_mem_nil, or_false] at hi
  obtain rfl := hi
  refine wpOp_of rfl rfl ?_
  go_simp
  try dsimp only
  refine ⟨fun _ => SK _ ((k25.drewN n13).alloc _), ?_⟩
  try rw [show (w5.drewN n13).heap.size = w5.heap.size from rfl]
  refine anyL_world (fun wx => At wx w5.heap.size (dgC fr to (.slice A5 n C5)) ∧ Kp (fun _ => False) w5 wx) ⟨At.new (w5.drewN n13) (dgC fr to (.slice A5 n C5)) _, ((Kp.refl _ w5).drewN n13).alloc _⟩ ?_
  rintro w7 ⟨b7, k7⟩
  have k27 : Kp (fun _ => False) w2 w7 := k25.trans k7
  try simp only [List.setIfInBounds_toArray, List.set_cons_succ, List.set_cons_zero]
  refine anyL_all (rs := [14]) (by kernel_rfl) (by simp) ?_
  intro n14 i hi
  simp only [List.mem_cons, List.not_mem_nil, or_false] at hi
  obtain rfl := hi
  refine wpOp_of rfl rfl ?_
  obtain ⟨v8, w8, hr8, ⟨va, vc, rfl⟩, hn8, k8, f8, c8, hb8, e8⟩ := ((HD.out.kp0 k27).kp0 ((Kp.refl _ w7).drewN n14)).app (by omega) (A := A5) (n := n) (C := C5) (l := l) ((o5.kp k7 (fun _ _ h => h)).kp ((Kp.refl (fun _ => False) w7).drewN n14) (fun _ _ h => h)) (fun g hg hm => by have := g5 g hg; have := HD.out.lt hm; omega) (bx := w5.heap.size) (fr := fr) (to := to) (((Kp.refl (fun _ => False) w7).drewN n14).at b7 (fun h => h))
  refine wp_append_go hr8 rfl rfl rfl ?_
  have k28 : Kp (fun k => (Value.slice (some ⟨lb, 0, none⟩) nL cL).ownBlock = some k) w2 w8 := ((k27.drewN _).mono (fun _ _ h => h.elim)).trans k8
  have S8 : w8.cell? ⟨db, 0, none⟩ = some (.slice (some ⟨lb, 0, none⟩) nL cL) ∧ w8.cell? ⟨lb, k * 3, none⟩ = some (.int .i64 fr) ∧ w8.cell? ⟨lb, k * 3 + 1, none⟩ = some (.int .i64 to) ∧ w8.cell? ⟨lb, k * 3 + 2, none⟩ = some (.slice a n c) := ⟨c8, e8 _ _ _ rfl HE.out.1, e8 _ _ _ rfl HE.out.2.1, e8 _ _ _ rfl HE.out.2.2⟩
  refine ⟨fun _ => S8, ?_⟩
  try simp only [List.setIfInBounds_toArray, List.set_cons_succ, List.set_cons_zero]
  have hS1 := S8
  refine anyL_takeF (i := 15) (d := 30) (v := (.pointer (some ⟨db, 0, none⟩))) rfl rfl (by kernel_rfl) (by kernel_rfl) (by kernel_rfl) (fun _ _ _ h => h) hSd (by kernel_rfl) (.inl (.inl ⟨rfl, fun w' hS => by go_simp⟩)) (fun _ => hS1) ?_
  try simp only [List.setIfInBounds_toArray, List.set_cons_succ, List.set_cons_zero]
  refine anyL_takeF (i := 16) (d := 31) (v := (.pointer (some ⟨db, 0, none⟩))) rfl rfl (by kernel_rfl) (by kernel_rfl) (by kernel_rfl) (fun _ _ _ h => h) hSd (by kernel_rfl) (.inl (.inl ⟨rfl, fun w' hS => by go_simp⟩)) (fun _ => hS1) ?_
  try simp only [List.setIfInBounds_toArray, List.set_cons_succ, List.set_cons_zero]
  refine anyL_all (rs := [17]) (by kernel_rfl) (by simp) ?_
  intro n17 i hi
  simp only [List.mem_cons, List.not_mem_nil, or_false] at hi
  obtain rfl := hi
  refine wpOp_of rfl rfl ?_
  have c8' : (w8.drewN n17).cell? ⟨db, 0, none⟩ = some (.slice (some ⟨lb, 0, none⟩) nL cL) := c8
  have f8' : (w8.drewN n17).frozen? ⟨db, 0, none⟩ = false := f8
  go_simp
  refine ⟨by first | exact fun h => Bool.noConfusion (show false = true from h) | kernel_rfl, anyL_done (by kernel_rfl) (fun nn => ?_) _⟩
  skip
  have HN := Lib.hid ((hn8.kp0 ((Kp.refl _ _).drewN n17)).kp0 ((Kp.refl _ _).drewN nn))
  have HK := Lib.hid (((k28.mono (S' := DMine db (.slice (some ⟨lb, 0, none⟩) nL cL) O ds) (fun _ _ h => .inr (.inr (.inl h)))).setCell (p := ⟨db, 0, none⟩) (fun _ => .inl rfl) (.slice va (nL + 1) vc)).drewN n17 |>.drewN nn)
  have HG := Lib.hid (And.intro hb8 (And.intro g5 (And.intro k25.size (Nat.le_trans k25.size k7.size))))
  clear S8 SK x1 y0 y1 y2 hn8 hb8 e8 g5 k5 k7 k25 k27 k28 hr8 c8 f8 c8' f8' hS1 hSd b7 o5 x0 ned k8
  go_wp2
  go_ret
  exact fin_app HN.out HK.out HG.out H0.out.2 (by rw [HLN.out])
end
end Go.Proofs.Ytgcgcdgjooaipaa
