/- A set in memory, told by its values. No program in sight. -/
import Derived.Test.YtaibdkdmilhloaaQBase
import Derived.Maps.OwnSet
import Derived.WideKeyPair
namespace Go.Proofs.Ytaibdkdmilhloaa
open Go.RowKit Go.Maps
set_option linter.unusedVariables false
/-- Block mb is a set of at most N values, of which f tells which are in it. -/
def SetV (P : Program) (K : TypeId) (w : World) (mb N : Nat) (f : Value → Bool) : Prop :=
  ∃ D : DataW Unit, w.ownsMap P K unitElem mb N D ∧ ∀ v k, keyOf P K v = some k → Maps.has D k = f v
variable {P : Program} {K : TypeId} {w : World} {mb N : Nat} {f : Value → Bool}
theorem SetV.made (w : World) : SetV P K (w.alloc (.map #[] 0)) w.heap.size 0 (fun _ => false) :=
  ⟨_, World.ownsMap_made w P K _, fun _ _ _ => rfl⟩
theorem SetV.lt (h : SetV P K w mb N f) : mb < w.heap.size := by obtain ⟨D, h, _⟩ := h; exact h.lt
theorem SetV.kp {S : Nat → Prop} {w' : World} (h : SetV P K w mb N f) (k : Kp S w w') (hs : ¬ S mb) : SetV P K w' mb N f := by
  obtain ⟨D, h, hf⟩ := h
  have hlt := h.lt
  obtain ⟨es, clock, hb, r⟩ := h
  exact ⟨D, ⟨es, clock, (k.block mb hlt hs).trans hb, r⟩, hf⟩
theorem SetV.not {b : Nat} {cs : List Value} (h : SetV P K w mb N f) (ha : At w b cs) : b ≠ mb := fun e => by
  obtain ⟨D, ⟨es, clock, hb, _⟩, _⟩ := h
  obtain ⟨T, ha⟩ := ha
  subst e
  rw [ha] at hb; cases hb
theorem SetV.look {t e : TypeId} (h : SetV P K w mb N f) (L : Keyed P K) (ht : P.underlying t = some (.map K e)) (hz : (zeroValue e).run P w = .ok (.agg #[]) w) {v : Value} {k : Lit} (hk : keyOf P K v = some k) :
    (Instr.lookup t (.map (some mb)) v true).run P w = .ok (.tuple #[.agg #[], .bool (f v)]) w := by
  obtain ⟨D, h, hf⟩ := h
  obtain ⟨u, ps, hr, hu⟩ := h.look_ok (t := t) L ht hz (zd := .agg []) (zp := []) unitElem_mk hk
  obtain ⟨rfl, _⟩ := unitElem_inv hu
  rw [hf v k hk] at hr; exact hr
theorem Kp.turned {w' : World} (h : w.mapTurned w' mb) : Kp (· = mb) w w' := by
  exact (Kp.refl _ w).grown h.grown (fun k e _ => by cases e; rfl)
theorem up_ex (f : Value → Bool) (v : Value) (x : Bool) : ∃ f' : Value → Bool, f' v = x ∧ ∀ u, u ≠ v → f' u = f u := by
  classical
  exact ⟨fun u => if u = v then x else f u, by simp, fun u hu => by simp [hu]⟩
theorem SetV.drop {t e : TypeId} (h : SetV P K w mb N f) (L : Keyed P K) (ht : P.underlying t = some (.map K e)) {v : Value} {k : Lit} (hk : keyOf P K v = some k) (ty : TypeId) :
    ∃ w', (Builtin.delete_ #[t, K] ty #[.map (some mb), v]).run P w = .ok (.tuple #[]) w' ∧ (∃ f', SetV P K w' mb N f' ∧ f' v = false ∧ ∀ u, u ≠ v → f' u = f u) ∧ Kp (· = mb) w w' := by
  obtain ⟨f', e1, e2⟩ := up_ex f v false
  obtain ⟨D, h, hf⟩ := h
  obtain ⟨w', hr, ho, ht⟩ := h.drop (t := t) L ht hk ty
  refine ⟨w', hr, ⟨f', ⟨_, ho, fun u k' hk' => ?_⟩, e1, e2⟩, Kp.turned ht⟩
  by_cases hu : u = v
  · subst hu
    rw [hk] at hk'; cases hk'
    rw [e1, Maps.has_del_same]
  · rw [e2 u hu, Maps.has_del_other (fun e => hu (L.inj hk' (by rw [e]; exact hk)))]
    exact hf u k' hk'
theorem SetV.store {t e : TypeId} (h : SetV P K w mb N f) (L : Keyed P K) (ht : P.underlying t = some (.map K e)) (hn : N < maxLen) {v : Value} {k : Lit} (hk : keyOf P K v = some k) :
    ∃ w', (Instr.mapUpdate t (.map (some mb)) v (.agg #[])).run P w = .ok () w' ∧ (∃ f', SetV P K w' mb (N + 1) f' ∧ f' v = true ∧ ∀ u, u ≠ v → f' u = f u) ∧ Kp (· = mb) w w' := by
  obtain ⟨f', e1, e2⟩ := up_ex f v true
  obtain ⟨D, h, hf⟩ := h
  have hM := h.isMap
  obtain ⟨w', hr, ho, ht⟩ := h.store (t := t) L ht hn hk (d := .agg []) (ps := []) (unitElem_mk)
  refine ⟨w', hr, ⟨f', ⟨_, ho, fun u k' hk' => ?_⟩, e1, e2⟩, Kp.turned ht⟩
  by_cases hu : u = v
  · subst hu
    rw [hk] at hk'; cases hk'
    rw [e1, Maps.has_put_same hM (L.key hk)]
  · rw [e2 u hu, Maps.has_put_other (fun e => hu (L.inj hk' (by rw [e]; exact hk)))]
    exact hf u k' hk'
theorem SetV.mono (h : SetV P K w mb N f) {N' : Nat} (hn : N ≤ N') : SetV P K w mb N' f := by
  obtain ⟨D, h, hf⟩ := h; exact ⟨D, h.mono hn, hf⟩
end Go.Proofs.Ytaibdkdmilhloaa
