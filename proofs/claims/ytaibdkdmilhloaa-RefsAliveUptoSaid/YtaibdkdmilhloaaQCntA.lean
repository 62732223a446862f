/- Package refs: Count. (Written by wip/ref20h.py.) -/
import Derived.Test.YtaibdkdmilhloaaQNmM
import Derived.Test.YtaibdkdmilhloaaQIdW
import Derived.Test.YtaibdkdmilhloaaQMapN
namespace Go.Proofs.Ytaibdkdmilhloaa
open Go.RowKit Go.Maps
set_option linter.unusedVariables false
set_option linter.unusedSimpArgs false
attribute [local go_sem] Oper.semAt_some
/-- Counts of IDs in block mb. -/
def CntI (w : World) (mb N : Nat) (A : List Id) : Prop := ∃ f, CntV Try.prog 41 3 w mb N f ∧ ∀ x : Id, x.length = 16 → f (idV x) = (A.count x : Nat)
theorem CntI.made (w : World) : CntI (w.alloc (.map #[] 0)) w.heap.size 0 [] := ⟨_, CntV.made w, fun x _ => by simp⟩
theorem CntI.kp {S : Nat → Prop} {w w' : World} {mb N : Nat} {A : List Id} (h : CntI w mb N A) (k : Kp S w w') (hs : ¬ S mb) : CntI w' mb N A := by
  obtain ⟨f, h1, h2⟩ := h; exact ⟨f, h1.kp k hs, h2⟩
theorem CntI.mono {w : World} {mb N N' : Nat} {A : List Id} (h : CntI w mb N A) (hn : N ≤ N') : CntI w mb N' A := by
  obtain ⟨f, h1, h2⟩ := h; exact ⟨f, h1.mono hn, h2⟩
theorem CntI.lt {w : World} {mb N : Nat} {A : List Id} (h : CntI w mb N A) : mb < w.heap.size := by obtain ⟨f, h1, h2⟩ := h; exact h1.lt
theorem CntI.not {w : World} {mb N b : Nat} {A : List Id} {cs : List Value} (h : CntI w mb N A) (ha : At w b cs) : b ≠ mb := by obtain ⟨f, h1, h2⟩ := h; exact h1.not ha
theorem int_zero (u : World) : (zeroValue 3).run Try.prog u = .ok (.int .i64 0) u := by kernel_rfl
theorem CntI.look {w : World} {mb N : Nat} {A : List Id} (h : CntI w mb N A) {x : Id} (hx : x.length = 16) :
    (Instr.lookup 72 (.map (some mb)) (idV x) false).run Try.prog w = .ok (.int .i64 (A.count x : Nat)) w := by
  obtain ⟨f, h1, h2⟩ := h
  obtain ⟨k, hk⟩ := id_key hx
  rw [← h2 x hx]
  exact h1.look id_arr.law Try.underlying72 Try.underlying3 (int_zero w) hk
theorem CntI.entry {w : World} {mb N : Nat} {A : List Id} (h : CntI w mb N A) (hn : N < 100000000) (ha : A.length < 100000000) {x : Id} (hx : x.length = 16) :
    ∃ (v0 : Value) (st : Nat) (w1 : World), (Instr.mapEntry 72 (.map (some mb)) (idV x)).run Try.prog w = .ok (.tuple #[v0, goInt st]) w1 ∧ Kp (· = mb) w w1 ∧ CntI w1 mb (N + 1) A ∧
      ∀ m, ∃ w', (Instr.entryStore 72 (.map (some mb)) (goInt st) (.int .i64 ((A.count x : Nat) + 1))).run Try.prog (w1.drewN m) = .ok () w' ∧ CntI w' mb (N + 1) (A ++ [x]) ∧ Kp (· = mb) w1 w' := by
  obtain ⟨f, h1, h2⟩ := h
  obtain ⟨k, hk⟩ := id_key hx
  have hc := List.count_le_length (a := x) (l := A)
  obtain ⟨v0, st, w1, f', hr, k1, ⟨e1, e2⟩, hst⟩ := h1.entry id_arr.law Try.underlying72 Try.underlying3 int_zero (by unfold maxLen; omega) hk (n := (A.count x : Nat) + 1) (by simp [Lit.wf, IntKind.wrap, IntKind.min, IntKind.max, IntKind.signed, IntKind.bits]; omega)
  refine ⟨v0, st, w1, hr, k1, ⟨f, h1.entry_keeps id_arr.law Try.underlying72 Try.underlying3 int_zero (by unfold maxLen; omega) hk hr, h2⟩, fun m => ?_⟩
  obtain ⟨w', g1, g2, g3⟩ := hst m
  refine ⟨w', g1, ⟨f', g2, fun y hy => ?_⟩, g3⟩
  by_cases he : y = x
  · subst he; rw [e1]; simp [List.count_append]
  · rw [e2 _ (fun e => he (idV_inj e)), h2 y hy, List.count_append]
    simp [List.count_singleton, Ne.symm he]
/-- What Count tells. -/
def cntL (A : List Id) : List Nmd := (newL [] A).map (fun x => (x, A.count x))
/-- What Count has behind some. -/
def CoR (w3 : World) (mb mv ov : Nat) (pre : List Id) (W : World) : Prop :=
  CntI W mb pre.length pre ∧ At W mv [.map (some mb)] ∧ ∃ vo, OwnI W vo (newL [] pre) ∧ At W ov [vo] ∧ (∀ g, vo.ownBlock = some g → w3.heap.size ≤ g) ∧ Kp (fun j => j = mb ∨ j = ov) w3 W
theorem CoR.kp {w3 W W' : World} {mb mv ov : Nat} {pre : List Id} {S : Nat → Prop} (h : CoR w3 mb mv ov pre W) (k : Kp S W W') (h1 : ¬ S mb) (h2 : ∀ b cs, At W b cs → ¬ S b) (h3 : ∀ i, i < w3.heap.size → ¬ S i) : CoR w3 mb mv ov pre W' := by
  obtain ⟨hs, hm, vo, ho, ha, hg, hk⟩ := h
  refine ⟨hs.kp k h1, k.at hm (h2 _ _ hm), vo, ho.kp k (fun g hg' => ?_), k.at ha (h2 _ _ ha), hg, hk.then k (fun i hi e => absurd e (h3 i hi))⟩
  obtain ⟨cs, hc⟩ := ho.own.at' hg'
  exact h2 _ _ hc
end Go.Proofs.Ytaibdkdmilhloaa
