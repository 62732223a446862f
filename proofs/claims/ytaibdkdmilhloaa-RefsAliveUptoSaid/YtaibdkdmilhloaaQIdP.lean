/- Lists of IDs: copies, what among tells, an ID stored in the midst of others; plain facts on newL. -/
import Derived.Test.YtaibdkdmilhloaaQNmM
import Derived.Test.YtaibdkdmilhloaaQCntA
import Derived.Test.YtaibdkdmilhloaaQIdE
import Derived.Test.YtaibdkdmilhloaaQIdW
namespace Go.Proofs.Ytaibdkdmilhloaa
open Go.RowKit
set_option linter.unusedVariables false
set_option linter.unusedSimpArgs false
theorem OwnI.empty (w : World) (T : TypeId) : OwnI (w.alloc (.cells #[] T)) (.slice (some ⟨w.heap.size, 0, none⟩) 0 0) [] := ⟨fun x hx => (by cases hx), ⟨by simp [idC], .inr ⟨w.heap.size, 0, [], rfl, At.new w [] T, by simp, Nat.le_refl _, by simp [maxLen]⟩⟩⟩
/-- A copy of some. -/
theorem copy_ids {w : World} {a : Option Addr} (c : Nat) {l : List Id} (h : RdI w a l) (n : Nat) (hn : n = l.length) (hb : n ≤ 1000000) :
    ∃ a' c' w', (Builtin.append_ #[34, 34] 34 #[.slice (some ⟨w.heap.size, 0, none⟩) 0 0, .slice a n c]).run Try.prog (w.alloc (.cells #[] 41)) = .ok (.slice a' n c') w' ∧ RdI w' a' l ∧ n ≤ c' ∧ Kp (fun _ => False) w w' := by
  subst hn
  have k0 := (Kp.refl (fun _ => False) w).alloc (.cells #[] 41)
  obtain ⟨v', w', hr, ho, k, hb'⟩ := (OwnI.empty w 41).apps (by simpa using hb) c (h.kp0 k0)
  rw [List.nil_append] at ho
  obtain ⟨a', c', rfl, hrd, hc⟩ := ho.form
  exact ⟨a', c', w', hr, hrd, hc, k0.then k (fun i hi e => by
    have e : some w.heap.size = some i := e
    have e := Option.some.inj e
    omega)⟩
theorem among_yes (a : Option Addr) (n c : Nat) (l : List Id) (hn : n = l.length) (x : Id) (hx : x.length = 16) (hm : x ∈ l) (w : World) (h : RdI w a l) (hb : n ≤ 1000000) :
    Calls Try.prog 19 #[.slice a n c, .agg (idB x)] w fun e w' => e = .returned (.bool true) ∧ Kp (fun _ => False) w w' :=
  (among_any a n c l hn x hx w h hb).mono fun e w' ⟨h1, h2⟩ => ⟨by rw [h1, decide_eq_true hm], h2⟩
theorem among_no (a : Option Addr) (n c : Nat) (l : List Id) (hn : n = l.length) (x : Id) (hx : x.length = 16) (hm : x ∉ l) (w : World) (h : RdI w a l) (hb : n ≤ 1000000) :
    Calls Try.prog 19 #[.slice a n c, .agg (idB x)] w fun e w' => e = .returned (.bool false) ∧ Kp (fun _ => False) w w' :=
  (among_any a n c l hn x hx w h hb).mono fun e w' ⟨h1, h2⟩ => ⟨by rw [h1, decide_eq_false hm], h2⟩
theorem newL_filter (L : List Id) : ∀ A, newL L A = (newL [] A).filter (fun x => decide (x ∉ L)) := by
  intro A
  refine snoc_ind (P := fun A => newL L A = (newL [] A).filter (fun x => decide (x ∉ L))) rfl (fun A x ih => ?_) A.length A rfl
  show newL L (A ++ [x]) = _
  rw [newL_snoc, newL_snoc]
  by_cases h2 : x ∈ L
  · rw [if_pos (.inl h2)]
    by_cases h1 : x ∈ newL [] A
    · rw [if_pos (.inr h1)]; exact ih
    · rw [if_neg (fun h => h.elim (fun h => by cases h) h1), List.filter_append, ih]; simp [h2]
  · by_cases h1 : x ∈ newL [] A
    · have h3 : x ∈ newL L A := (newL_mem L A x).2 ⟨((newL_mem [] A x).1 h1).1, h2⟩
      rw [if_pos (.inr h3), if_pos (.inr h1)]; exact ih
    · have h3 : x ∉ newL L A := fun h => h1 ((newL_mem [] A x).2 ⟨((newL_mem L A x).1 h).1, by simp⟩)
      rw [if_neg (fun h => h.elim h2 h3), if_neg (fun h => h.elim (fun h => by cases h) h1), List.filter_append, ih]; simp [h2]
theorem newL_nodup : ∀ A, (newL [] A).Nodup := by
  intro A
  refine snoc_ind (P := fun A => (newL [] A).Nodup) (by simp [newL]) (fun A x ih => ?_) A.length A rfl
  show (newL [] (A ++ [x])).Nodup
  rw [newL_snoc]
  by_cases h1 : x ∈ newL [] A
  · rw [if_pos (.inr h1)]; exact ih
  · rw [if_neg (fun h => h.elim (fun h => by cases h) h1)]
    rw [List.nodup_append]
    refine ⟨ih, by simp, fun y hy z hz e => ?_⟩
    rw [List.mem_singleton] at hz
    subst e; subst hz
    exact h1 hy
theorem nodup_take {l : List Id} (h : l.Nodup) {i : Nat} (hi : i < l.length) : idn l i ∉ l.take i := fun hm => by
  obtain ⟨j, hj, e⟩ := List.getElem_of_mem hm
  rw [List.length_take] at hj
  rw [List.getElem_take] at e
  have e2 : idn l i = l[i] := by unfold idn; rw [List.getD_eq_getElem?_getD, List.getElem?_eq_getElem hi]; rfl
  have := (List.getElem_inj h).1 (e.trans e2)
  omega
/-- What Count tells, one by one. -/
theorem cntL_len (A : List Id) : (cntL A).length = (newL [] A).length := by simp [cntL]
theorem cntL_at {A : List Id} {i : Nat} (hi : i < (newL [] A).length) : nmn (cntL A) i = (idn (newL [] A) i, A.count (idn (newL [] A) i)) := by
  unfold nmn cntL idn
  simp [List.getD_eq_getElem?_getD, hi]
/-- A named chunk's ID, read. -/
theorem rangeAt_left {w : World} {b o : Nat} {cs ds : List Value} (h : w.rangeAt b o (cs ++ ds)) : w.rangeAt b o cs := fun j v hv => h j v (by
  rw [List.getElem?_append_left (List.getElem?_eq_some_iff.1 hv).1]; exact hv)
theorem RdN.id {w : World} {a : Option Addr} {A : List Id} (h : RdN w a (cntL A)) {i : Nat} (hi : i < (newL [] A).length) : ∃ b off, a = some ⟨b, off, none⟩ ∧ w.rangeAt b (off + i * 17) (idW (idn (newL [] A) i)) ∧ w.cell? ⟨b, off + i * 17 + 16, none⟩ = some (.int .i64 (A.count (idn (newL [] A) i) : Nat)) ∧ (idn (newL [] A) i).length = 16 := by
  obtain ⟨b, off, e, hr⟩ := h.at' i (by rw [cntL_len]; exact hi)
  have hx := h.ids.nmn (i := i) (by rw [cntL_len]; exact hi)
  rw [cntL_at hi] at hr hx
  refine ⟨b, off, e, rangeAt_left hr, hr 16 _ ?_, hx⟩
  unfold nmW
  rw [List.getElem?_append_right (by rw [idW_len, hx]; omega), idW_len, hx]; rfl
/-- An ID is stored among others of one's own. -/
theorem store_id {w : World} {b o : Nat} {cs : List Value} (hat : At w b cs) (ho : o + 16 ≤ cs.length) {x : Id} (hx : x.length = 16) :
    ∃ w' ds, (Instr.storeAt 41 (.pointer (some ⟨b, o, none⟩)) (.agg (idB x))).run Try.prog w = .ok () w' ∧ Kp (· = b) w w' ∧ At w' b ds ∧ ds.length = cs.length := by
  have ht : w.there b o (idB x).size := fun j hj => by
    rw [idB_size, hx] at hj
    exact ⟨by rw [hat.cell, List.getElem?_eq_getElem (by omega)]; rfl, hat.frozen _⟩
  refine ⟨_, _, run_storeAt_mid w b o 41 (idB x) ht (by rw [idB_size, hx]; exact id_size) (idB_one x), ?_, hat.setCells _ _ ?_, ?_⟩
  · exact Kp.setCells (S := (· = b)) (fun _ => rfl) _ _ (Kp.refl _ w)
  · simp [idB, idW_len, hx]; omega
  · simp [idB, idW_len, hx]; omega
end Go.Proofs.Ytaibdkdmilhloaa
