/- A range over a function that may WRITE memory between two rounds: a law of our own, over the kit's laws on one round and on the loop's record. -/
import Derived.Test.YtokembhfebnjpaaGreatQBaseM
import Derived.RangeFuncNested
import Derived.RangeFuncBound
import Derived.RangeFuncCalls
import Derived.RangeFuncLeaves
import Derived.Shelf.Abstract
import Derived.Shelf.RegionOpen
import Derived.WalkKit
import Derived.OwnWalkIn
import Derived.TacticsInMore
import Derived.LoopNIn
import Derived.LoopIn
namespace Go.Proofs.YtokembhfebnjpaaGreat
set_option maxRecDepth 20000
open Go.RowKit
set_option linter.unusedVariables false
def NC (B : Nat) (A : World) : Nat → Prop := fun i => B ≤ i ∧ ∃ o : Obj, A.heap[i]? = some o ∧ o.isCells = false
def Abd {β : Type} (B : Nat) (I : β → World → Prop) : Prop := ∀ s A A', I s A → Kp (NC B A) A A' → I s A'
theorem Kp.putNC {B : Nat} {A : World} {l : Nat} {o : Obj} (hB : B ≤ l) (h : A.heap[l]? = some o) (ho : o.isCells = false) (o' : Obj) : Kp (NC B A) A (A.putObj l o') :=
 (Kp.refl _ A).grown (grownBy_putObj' A l o') (fun k e _ => by cases e; exact ⟨hB, o, h, ho⟩)
theorem NC.not {B : Nat} {A : World} {b : Nat} {cs : List Value} (h : At A b cs) : ¬ NC B A b := fun ⟨_, o, ho, hc⟩ => by
 obtain ⟨e, he⟩ := h
 rw [ho] at he; cases he; cases hc
def rngPost {α : Type} (B : Nat) (I : List α → World → Prop) (T : List α → World → Prop) (Ix : Code → List α → World → Prop) (xs : List α) (W : World) : Exit → Act → World → Prop
 | .normal, _, W' => KeepsFrom B W W' ∧ I xs W' ∧ T xs W'
 | .ret, _, W' => KeepsFrom B W W' ∧ Ix .ret xs W'
 | .exit id, _, W' => KeepsFrom B W W' ∧ Ix (.exit id) xs W'
 | .goto t, _, W' => KeepsFrom B W W' ∧ Ix (.goto t) xs W'
 | .panic _, _, _ => False
 | .outgrown, _, _ => False

variable {F : Fence} {n : Nat} {P : Program}
def rngRec (fn : Nat) (a : Act) (ps : Array Tmp) (assign body : Code) (D : Nat) (st : LoopState) (pe : Option Code) : Loop :=
 { state := st, pending := pe, fn, tmps := a.tmps, params := ps, assign, body, defers := D }

end Go.Proofs.YtokembhfebnjpaaGreat
namespace Go.Proofs.YtokembhfebnjpaaGreat
set_option maxRecDepth 20000
open Go.RowKit
set_option linter.unusedVariables false
def GivesB {α : Type} (F : Fence) (n : Nat) (P : Program) (g : Nat) (pb lb : Array Value) (encs : α → Array Value) (xs : List α) (Wr : World → World → Prop) (T : List α → World → Prop) (E : World → Prop) : Prop :=
 ∀ (l : Nat) (J Jx : List α → World → Prop) (W : World), (∀ s A A', J s A → Wr A A' → J s A') → (∀ s A A', Jx s A → Wr A A' → Jx s A') →
  (∀ pre x W1, pre ++ [x] <+: xs → J pre W1 → T (pre ++ [x]) W1 → YieldAt F (n - 1) P l (encs x) W1 fun e W' =>
   (e = .returned (.bool true) ∧ J (pre ++ [x]) W' ∧ T (pre ++ [x]) W') ∨ (e = .returned (.bool false) ∧ Jx (pre ++ [x]) W')) →
  J [] W → T [] W →
  CallsIn F n P g (pb ++ #[.func (.yield l) #[] #[]] ++ lb) W fun e W' => (∃ v, e = .returned v) ∧ ((J xs W' ∧ E W') ∨ (∃ pre, pre <+: xs ∧ Jx pre W'))

variable {F : Fence} {n : Nat} {P : Program}
set_option maxHeartbeats 1000000 in
theorem wpIn_rngB {α : Type} {g : Operand} {ps : Array Tmp} {assign body : Code} {Q : Exit → Act → World → Prop} {a : Act} {w : World}
 (hro : F.round = none) (h1 : 1 ≤ n) {gf : Nat} {pb lb : Array Value} (hg : a.eval g = .func (.func gf) pb lb) (hFg : F.fn gf) (eg : ∀ args w, (callFunc gf args).run P w = .ok (.enter gf args) w)
 {encs : α → Array Value} {xs : List α} {S : Nat → Prop} {Wr : World → World → Prop} {T : List α → World → Prop} {E : World → Prop} (hit : GivesB F (n - 1) P gf pb lb encs xs Wr T E)
 (hW : ∀ {A A' : World}, Wr A A' → Kp S A A') (hS : ∀ i, S i → i < w.heap.size) (hps : ∀ x, (encs x).size = ps.size)
 (I : List α → World → Prop) (Ix : Code → List α → World → Prop) (hI : Abd w.heap.size I) (hIx : ∀ c, Abd w.heap.size (Ix c)) (hT : Abd w.heap.size T) (hE : Abd w.heap.size (fun (_ : Unit) => E))
 (hIS : ∀ s A A', I s A → Wr A A' → I s A') (hIxS : ∀ c s A A', Ix c s A → Wr A A' → Ix c s A')
 (h0 : I [] w) (hT0 : T [] w) (B : α → World → Act → World → Prop) (hBk : ∀ {x A a' A'}, B x A a' A' → Kp (fun _ => False) A A')
 (hIK : ∀ s A A', I s A → Kp (fun _ => False) A A' → I s A') (hTK : ∀ s A A', T s A → Kp (fun _ => False) A A' → T s A')
 (hassign : ∀ (l : Nat) (x : α) (W : World) (K : Act → World → Prop), x ∈ xs → (∀ a' W', B x W a' W' → K a' W') →
  assign.wpIn (F.inRound l) (n - 1 - 1) P (Exit.then K (fun _ _ _ => False)) { tmps := (ps.zip (encs x)).foldl (fun t (p, v) => t.setIfInBounds p v) a.tmps, defers := [] } W)
 (hbody : ∀ (l : Nat) (pre : List α) (x : α) (W W2 W' : World) (a' : Act), pre ++ [x] <+: xs → I pre W → B x W a' W2 → Kp (NC w.heap.size W2) W2 W' → I pre W' → T (pre ++ [x]) W' → body.wpIn (F.inRound l) (n - 1 - 1) P (rngPost w.heap.size I T Ix (pre ++ [x]) W') a' W')
 (hdone : ∀ (D : Nat) (W : World), w.heap.size ≤ D → I xs W → E W → W.heap[D]? = some (.deferred (some [])) → Q .normal { a with defers := { target := .collected D, args := #[] } :: a.defers } W)
 (hstop : ∀ (D : Nat) (c : Code) (pre : List α) (W : World), w.heap.size ≤ D → pre <+: xs → Ix c pre W → W.heap[D]? = some (.deferred (some [])) → c.wpIn F n P Q { a with defers := { target := .collected D, args := #[] } :: a.defers } W) :
 (Code.rangeFunc g ps assign body).wpIn F n P Q a w := by
 refine wpIn_rangeFunc ?_
 intro fn hfn
 rw [hro]
 obtain ⟨R, hR⟩ : ∃ R : LoopState → Option Code → Loop, R = rngRec fn a ps assign body w.heap.size := ⟨_, rfl⟩
 obtain ⟨W1, hW1⟩ : ∃ W1, (w.alloc (.deferred (some []))).alloc (.loop (R .ready none)) = W1 := ⟨_, rfl⟩
 have kW1 : Kp (fun _ => False) w W1 := by rw [← hW1]; exact ((Kp.refl _ w).alloc _).alloc _
 have hl1 : W1.heap[w.heap.size + 1]? = some (.loop (R .ready none)) := by
  rw [← hW1]; have := World.alloc_heap_new (w.alloc (.deferred (some []))) (.loop (R .ready none)); rwa [World.size_alloc] at this
 have hd1 : W1.heap[w.heap.size]? = some (.deferred (some [])) := by
  rw [← hW1]; exact (Below.heap_alloc _ _ _ (by simp)).trans (World.alloc_heap_new w _)
 refine ⟨w.heap.size + 1, [{ target := .collected w.heap.size, args := #[] }], W1, { target := .fn (.func gf) lb, args := pb ++ #[.func (.yield (w.heap.size + 1)) #[] #[]] }, W1, gf,
  pb ++ #[.func (.yield (w.heap.size + 1)) #[] #[]] ++ lb, W1, ?_, ?_, ?_, ?_, fun _ => h1, ?_⟩
 · rw [← hW1, hR]; exact run_enterLoop_outer _ _ _ _ _
 · simp only [resolve, hg]
   simp [go_sem]
 · intro f' hf'
   simp [Target.leads] at hf'
   subst hf'; exact hFg
 · simp [invoke, go_sem, eg]
 -- a block of book-keeping is not among what the iterator writes
 have blkS : ∀ {A A' : World} {i : Nat} {o : Obj}, Kp S A A' → w.heap.size ≤ i → A.heap[i]? = some o → A'.heap[i]? = some o := fun k hi ho =>
  (k.block _ (Array.getElem?_eq_some_iff.1 ho).1 (fun hs => by have := hS _ hs; omega)).trans ho
 have k1 : Kp (NC w.heap.size w) w W1 := kW1.mono (fun _ _ h => h.elim)
 refine (hit (w.heap.size + 1)
  (fun pre W => I pre W ∧ W.heap[w.heap.size + 1]? = some (.loop (R .ready none)) ∧ W.heap[w.heap.size]? = some (.deferred (some [])))
  (fun pre W => ∃ c, Ix c pre W ∧ W.heap[w.heap.size + 1]? = some (.loop (R .done (some c))) ∧ W.heap[w.heap.size]? = some (.deferred (some [])))
  W1 (fun s A A' h k => ⟨hIS s A A' h.1 k, blkS (hW k) (by omega) h.2.1, blkS (hW k) (by omega) h.2.2⟩)
  (fun s A A' ⟨c, h, h2, h3⟩ k => ⟨c, hIxS c s A A' h k, blkS (hW k) (by omega) h2, blkS (hW k) (by omega) h3⟩)
  ?_ ⟨hI _ _ _ h0 k1, hl1, hd1⟩ (hT _ _ _ hT0 k1)).mono ?_
 · -- one round
   rintro pre x W hpre ⟨hi, hl, hd⟩ ht
   have hy := run_yield (P := P) (args := encs x) hl (by rw [hR]; exact hps x)
   refine ⟨_, _, _, _, hy, roundIn_of_wpIn (by rw [hR]; exact hfn) ?_⟩
   rw [hR] at hl ⊢
   refine hassign _ x W _ (hpre.subset (by simp)) (fun a' W2 hB => ?_)
   have kB := hBk hB
   have hi0 := hi
   replace hl := (kB.block _ (Array.getElem?_eq_some_iff.1 hl).1 (fun h => h)).trans hl
   replace hd := (kB.block _ (Array.getElem?_eq_some_iff.1 hd).1 (fun h => h)).trans hd
   replace hi := hIK _ _ _ hi kB
   replace ht := hTK _ _ _ ht kB
   refine ⟨_, run_beginRound hl rfl, ?_⟩
   have hlt := (Array.getElem?_eq_some_iff.1 hl).1
   have kb : Kp (NC w.heap.size W2) W2 (W2.putObj (w.heap.size + 1) (.loop { rngRec fn a ps assign body w.heap.size .ready none with state := .busy })) := Kp.putNC (by omega) hl rfl _
   have hl2 := World.putObj_heap_same (o := Obj.loop { rngRec fn a ps assign body w.heap.size .ready none with state := .busy }) hlt
   have hd2 : (W2.putObj (w.heap.size + 1) (.loop { rngRec fn a ps assign body w.heap.size .ready none with state := .busy })).heap[w.heap.size]? = some (.deferred (some [])) := (World.putObj_heap_other (by omega)).trans hd
   refine wpIn_mono (hbody _ pre x W W2 _ a' hpre hi0 hB kb (hI _ _ _ hi kb) (hT _ _ _ ht kb)) ?_
   have fin : ∀ (jump : Option Code) (W3 : World), KeepsFrom w.heap.size (W2.putObj (w.heap.size + 1) (.loop { rngRec fn a ps assign body w.heap.size .ready none with state := .busy })) W3 →
    ∃ v W4, (Instr.endRound (w.heap.size + 1) jump).run P W3 = .ok v W4 ∧ v = .bool jump.isNone ∧ Kp (NC w.heap.size W3) W3 W4 ∧
    W4.heap[w.heap.size + 1]? = some (.loop (rngRec fn a ps assign body w.heap.size (if jump.isNone then .ready else .done) jump)) ∧ W4.heap[w.heap.size]? = some (.deferred (some [])) := fun jump W3 hk3 => by
    have hl3 := hk3.same _ _ (by omega) hl2 rfl
    have hr3 := run_endRound (P := P) jump hl3
    refine ⟨_, _, hr3, rfl, Kp.putNC (by omega) hl3 rfl _, World.putObj_heap_same (Array.getElem?_eq_some_iff.1 hl3).1, (World.putObj_heap_other (by omega)).trans (hk3.same _ _ (Nat.le_refl _) hd2 rfl)⟩
   rintro e a3 W3 hp
   cases e with
   | normal =>
    obtain ⟨hk3, hi3, ht3⟩ := hp
    obtain ⟨v, W4, hr, rfl, k4, hl4, hd4⟩ := fin none W3 hk3
    exact ⟨_, _, hr, .inl ⟨rfl, ⟨hI _ _ _ hi3 k4, hl4, hd4⟩, hT _ _ _ ht3 k4⟩⟩
   | ret =>
    obtain ⟨v, W4, hr, rfl, k4, hl4, hd4⟩ := fin (some .ret) W3 hp.1
    exact ⟨_, _, hr, .inr ⟨rfl, .ret, hIx _ _ _ _ hp.2 k4, hl4, hd4⟩⟩
   | exit id =>
    obtain ⟨v, W4, hr, rfl, k4, hl4, hd4⟩ := fin (some (.exit id)) W3 hp.1
    exact ⟨_, _, hr, .inr ⟨rfl, .exit id, hIx _ _ _ _ hp.2 k4, hl4, hd4⟩⟩
   | goto t =>
    obtain ⟨v, W4, hr, rfl, k4, hl4, hd4⟩ := fin (some (.goto t)) W3 hp.1
    exact ⟨_, _, hr, .inr ⟨rfl, .goto t, hIx _ _ _ _ hp.2 k4, hl4, hd4⟩⟩
   | panic ch => exact hp.elim
   | outgrown => exact hp.elim
 · -- behind the iterator
   rintro e W2 ⟨⟨v, rfl⟩, (⟨⟨hi, hl, hd⟩, hEE⟩ | ⟨pre, hpre, c, hi, hl, hd⟩)⟩
   · have kx : Kp (NC w.heap.size W2) W2 (W2.putObj (w.heap.size + 1) (.loop { R .ready none with state := .exhausted })) := Kp.putNC (by omega) hl rfl _
     exact ⟨none, _, by have := run_endLoop (P := P) hl (by rw [hR]; simp [rngRec]); rw [hR] at this ⊢; exact this, hdone _ _ (Nat.le_refl _) (hI _ _ _ hi kx) (hE () _ _ hEE kx) ((World.putObj_heap_other (by omega)).trans hd)⟩
   · have kx : Kp (NC w.heap.size W2) W2 (W2.putObj (w.heap.size + 1) (.loop { R .done (some c) with state := .exhausted })) := Kp.putNC (by omega) hl rfl _
     exact ⟨some c, _, by have := run_endLoop (P := P) hl (by rw [hR]; simp [rngRec]); rw [hR] at this ⊢; exact this, hstop _ c pre _ (Nat.le_refl _) hpre (hIx c _ _ _ hi kx) ((World.putObj_heap_other (by omega)).trans hd)⟩
end Go.Proofs.YtokembhfebnjpaaGreat
