/- A map of counts in memory, told by its values. No program in sight. -/
import Derived.Test.YtaibdkdmilhloaaQMapS
import Derived.WideKeyEntry
import Derived.Maps.Views
namespace Go.Proofs.Ytaibdkdmilhloaa
open Go.RowKit Go.Maps
open Go.WideMaps (KeyLaw)
open Go.ChangeMaps (setBlock heap_setBlock_same)
set_option linter.unusedVariables false
/-- Block mb is a map of at most N values, of which f tells the counts. -/
def CntV (P : Program) (K e : TypeId) (w : World) (mb N : Nat) (f : Value → Int) : Prop :=
  ∃ D : DataW Unit, w.ownsMap P K (plainElem P e) mb N D ∧ ∀ v k, keyOf P K v = some k → D.atKey k (.lit (.int .i64 0)) = .lit (.int .i64 (f v))
variable {P : Program} {K e : TypeId} {w : World} {mb N : Nat} {f : Value → Int}
theorem CntV.made (w : World) : CntV P K e (w.alloc (.map #[] 0)) w.heap.size 0 (fun _ => 0) :=
  ⟨_, World.ownsMap_made w P K _, fun _ _ _ => rfl⟩
theorem CntV.lt (h : CntV P K e w mb N f) : mb < w.heap.size := by obtain ⟨D, h, _⟩ := h; exact h.lt
theorem CntV.kp {S : Nat → Prop} {w' : World} (h : CntV P K e w mb N f) (k : Kp S w w') (hs : ¬ S mb) : CntV P K e w' mb N f := by
  obtain ⟨D, h, hf⟩ := h
  have hlt := h.lt
  obtain ⟨es, clock, hb, r⟩ := h
  exact ⟨D, ⟨es, clock, (k.block mb hlt hs).trans hb, r⟩, hf⟩
theorem CntV.not {b : Nat} {cs : List Value} (h : CntV P K e w mb N f) (ha : At w b cs) : b ≠ mb := fun e => by
  obtain ⟨D, ⟨es, clock, hb, _⟩, _⟩ := h
  obtain ⟨T, ha⟩ := ha
  subst e
  rw [ha] at hb; cases hb
theorem CntV.mono (h : CntV P K e w mb N f) {N' : Nat} (hn : N ≤ N') : CntV P K e w mb N' f := by
  obtain ⟨D, h, hf⟩ := h; exact ⟨D, h.mono hn, hf⟩
theorem CntV.look {t : TypeId} (h : CntV P K e w mb N f) (L : KeyLaw P K) (ht : P.underlying t = some (.map K e)) (he : P.underlying e = some (.int .i64)) (hz : (zeroValue e).run P w = .ok (.int .i64 0) w) {v : Value} {k : Lit} (hk : keyOf P K v = some k) :
    (Instr.lookup t (.map (some mb)) v false).run P w = .ok (.int .i64 (f v)) w := by
  obtain ⟨D, h, hf⟩ := h
  obtain ⟨c, hr, ha, _⟩ := h.lookup_int (t := t) (Keyed.of_law L) ht he hz hk
  rw [hf v k hk] at ha
  simp only [DataW.lit.injEq, Lit.int.injEq, true_and] at ha
  rw [ha]
  exact hr
theorem upN_ex (f : Value → Int) (v : Value) (x : Int) : ∃ f' : Value → Int, f' v = x ∧ ∀ u, u ≠ v → f' u = f u := by
  classical
  exact ⟨fun u => if u = v then x else f u, by simp, fun u hu => by simp [hu]⟩
theorem CntV.entry {t : TypeId} (h : CntV P K e w mb N f) (L : KeyLaw P K) (ht : P.underlying t = some (.map K e)) (he : P.underlying e = some (.int .i64)) (hz : ∀ u : World, (zeroValue e).run P u = .ok (.int .i64 0) u) (hn : N < maxLen) {v : Value} {k : Lit} (hk : keyOf P K v = some k) {n : Int} (hw : (Lit.int .i64 n).wf = true) :
    ∃ (v0 : Value) (st : Nat) (w1 : World) (f' : Value → Int), (Instr.mapEntry t (.map (some mb)) v).run P w = .ok (.tuple #[v0, goInt st]) w1 ∧ Kp (· = mb) w w1 ∧ (f' v = n ∧ ∀ u, u ≠ v → f' u = f u) ∧
      ∀ m, ∃ w', (Instr.entryStore t (.map (some mb)) (goInt st) (.int .i64 n)).run P (w1.drewN m) = .ok () w' ∧ CntV P K e w' mb (N + 1) f' ∧ Kp (· = mb) w1 w' := by
  obtain ⟨f', e1, e2⟩ := upN_ex f v n
  obtain ⟨D, h, hf⟩ := h
  have hM := h.isMap
  obtain ⟨w', hr, ho, htt⟩ := h.store (t := t) (Keyed.of_law L) ht hn hk (val := .int .i64 n) (plainElem_int he hw)
  obtain ⟨es, clock, hb, F, hs, hD⟩ := h
  obtain ⟨v0, st, es1, clock1, hr1, _, h2⟩ := Go.WideElems.entry_then_store L ht hz hb F hk
  have hb1 : (setBlock w mb (.map es1 clock1)).heap[mb]? = some (.map es1 clock1) := heap_setBlock_same hb _
  refine ⟨v0, st, _, f', hr1, Kp.turned ⟨es, clock, es1, clock1, hb, rfl⟩, ⟨e1, e2⟩, fun m => ?_⟩
  have hb2 : ((setBlock w mb (.map es1 clock1)).drewN m).heap[mb]? = some (.map es1 clock1) := by rw [World.heap_drewN]; exact hb1
  obtain ⟨es', clock', hs2, hu⟩ := h2 _ (.int .i64 n) hb2
  have hw' : w' = setBlock w mb (.map es' clock') := by
    rw [hr] at hu
    exact (Result.ok.inj hu).2
  have hb3 : (setBlock w mb (.map es' clock')).heap[mb]? = some (.map es' clock') := heap_setBlock_same hb _
  have hb4 : (setBlock ((setBlock w mb (.map es1 clock1)).drewN m) mb (.map es' clock')).heap[mb]? = some (.map es' clock') := heap_setBlock_same hb2 _
  refine ⟨_, hs2, ⟨D.put k (.lit (.int .i64 n)), ?_, fun u k' hk' => ?_⟩, ((Kp.refl _ _).drewN m).trans (Kp.turned ⟨es1, clock1, es', clock', hb2, rfl⟩)⟩
  · obtain ⟨es3, clock3, g1, g2⟩ := ho
    rw [hw', hb3] at g1
    cases g1
    exact ⟨_, _, hb4, g2⟩
  · by_cases hu : u = v
    · subst hu
      rw [hk] at hk'; cases hk'
      rw [e1, Maps.atKey_put_same hM ((Keyed.of_law L).key hk)]
    · rw [e2 u hu, Maps.atKey_put_other (fun e => hu (L.inj hk' (by rw [e]; exact hk)))]
      exact hf u k' hk'
/-- What mapEntry lays changes no count. -/
theorem CntV.entry_keeps {t : TypeId} (h : CntV P K e w mb N f) (L : KeyLaw P K) (ht : P.underlying t = some (.map K e)) (he : P.underlying e = some (.int .i64)) (hz : ∀ u : World, (zeroValue e).run P u = .ok (.int .i64 0) u) (hn : N < maxLen) {v : Value} {k : Lit} (hk : keyOf P K v = some k)
    {r : Value} {w1 : World} (hr : (Instr.mapEntry t (.map (some mb)) v).run P w = .ok r w1) : CntV P K e w1 mb (N + 1) f := by
  have hlook := h.look (t := t) L ht he (hz w) hk
  obtain ⟨D, h, hf⟩ := h
  have hM := h.isMap
  obtain ⟨w', hr', ho, htt⟩ := h.store (t := t) (Keyed.of_law L) ht hn hk (val := .int .i64 0) (plainElem_int he (by decide))
  obtain ⟨es, clock, hb, F, hs, hD⟩ := h
  rcases L.find w hk es.toList F.keys with ⟨h1, h2⟩ | ⟨j, e0, h1, h2, h3⟩
  · have e1 : (Instr.mapEntry t (.map (some mb)) v).run P w = .ok (.tuple #[.int .i64 0, goInt clock]) (setBlock w mb (.map (es.push ⟨v, .int .i64 0, clock⟩) (clock + 1))) := by
      simp [Instr.mapEntry, run_underlying ht, MapKept.run_getObj_map hb, L.check w false hk, h1, hz, MapKept.run_setObj_map _ hb, Result.andThen, setBlock]
    have e2 : (Instr.mapUpdate t (.map (some mb)) v (.int .i64 0)).run P w = .ok () (setBlock w mb (.map (es.push ⟨v, .int .i64 0, clock⟩) (clock + 1))) := by
      simp [Instr.mapUpdate, run_underlying ht, MapKept.run_getObj_map hb, L.check w false hk, h1, MapKept.run_setObj_map _ hb, Result.andThen, setBlock]
    have e3 : (Instr.lookup t (.map (some mb)) v false).run P w = .ok (.int .i64 0) w := by
      simp [Instr.lookup, run_underlying ht, MapKept.run_getObj_map hb, L.check w _ hk, h1, hz, Result.andThen]
    rw [e3] at hlook
    have hf0 : f v = 0 := by simpa using (congrArg (fun r => match r with | Result.ok (.int .i64 x) _ => x | _ => 1) hlook).symm
    rw [e1] at hr
    rw [e2] at hr'
    obtain ⟨_, rfl⟩ := Result.ok.inj hr
    obtain ⟨_, rfl⟩ := Result.ok.inj hr'
    refine ⟨_, ho, fun u k' hk' => ?_⟩
    by_cases hu : u = v
    · subst hu
      rw [hk] at hk'; cases hk'
      rw [hf0, Maps.atKey_put_same hM ((Keyed.of_law L).key hk)]
    · rw [Maps.atKey_put_other (fun e => hu (L.inj hk' (by rw [e]; exact hk)))]
      exact hf u k' hk'
  · have hj : es[j]? = some e0 := by simpa using h2
    have hsame : es.modify j (fun e => { e with key := v }) = es := by
      apply Array.ext'
      rw [Array.toList_modify, Go.ChangeMaps.modify_eq_set _ _ _ _ h2]
      have : ({ e0 with key := v } : MapEntry) = e0 := by rw [← h3]
      rw [this]
      exact Go.WideElems.set_self _ _ _ h2
    have e1 : (Instr.mapEntry t (.map (some mb)) v).run P w = .ok (.tuple #[e0.val, goInt e0.born]) (setBlock w mb (.map es clock)) := by
      simp [Instr.mapEntry, run_underlying ht, MapKept.run_getObj_map hb, L.check w false hk, h1, hj, h3, L.stays w hk, hsame, MapKept.run_setObj_map _ hb, Result.andThen, setBlock]
    rw [e1] at hr
    obtain ⟨_, rfl⟩ := Result.ok.inj hr
    exact ⟨D, ⟨es, clock, heap_setBlock_same hb _, F, by omega, hD⟩, hf⟩
end Go.Proofs.Ytaibdkdmilhloaa
