/- As XRegG, but what the taken operations lean on need not hold behind the operations of L (the stores at the region's end, that all others come ahead of); and the law in a round of a range over a function. -/
import Derived.OrdersHeld
import Derived.OrdersIn
import Derived.TacticsIn
import Derived.RangeFuncCalls
import Derived.Deep.Draws
namespace Go.Proofs.YtokembhfebnjpaaGreat
open Go
set_option linter.unusedVariables false
section
variable {P : Program} {ops : Array Oper} {Q : Exit → Act → World → Prop} {md : Region.Mode} {S : World → Prop} {L : List Nat}
def fresh (L : List Nat) (listed : Array Bool) : Bool := L.all fun j => !listed.getD j false
theorem fresh_set {L : List Nat} {listed : Array Bool} {i : Nat} (hi : i ∉ L) : fresh L (listed.setIfInBounds i true) = fresh L listed := by
 unfold fresh
 apply Bool.eq_iff_iff.2
 rw [List.all_eq_true, List.all_eq_true]
 constructor
 · intro h j hj
   have := h j hj
   rwa [getD_set_ne false (show i ≠ j from fun e => hi (by rw [e]; exact hj))] at this
 · intro h j hj
   rw [getD_set_ne false (show i ≠ j from fun e => hi (by rw [e]; exact hj))]
   exact h j hj
def AnyL (P : Program) (md : Region.Mode) (ops : Array Oper) (Q : Exit → Act → World → Prop) (S : World → Prop) (L : List Nat) : Nat → Array Bool → Act → World → Prop
 | 0, listed, a, w => Region.ready md ops listed = [] ∧ ∀ n, Q .normal a (w.drewN n)
 | fuel + 1, listed, a, w => ∀ n, (Region.ready md ops listed = [] → Q .normal a (w.drewN n)) ∧
  ∀ i ∈ Region.ready md ops listed, wpOp P ops Q i (fun a' w' => (fresh L (listed.setIfInBounds i true) = true → S w') ∧ AnyL P md ops Q S L fuel (listed.setIfInBounds i true) a' w') a (w.drewN n)
theorem AnyL.drew : ∀ {fuel : Nat} {listed : Array Bool} {a : Act} {w : World} (m : Nat), AnyL P md ops Q S L fuel listed a w → AnyL P md ops Q S L fuel listed a (w.drewN m)
 | 0, _, _, w, m, h => ⟨h.1, fun n => by rw [World.drewN_drewN]; exact h.2 (m + n)⟩
 | fuel + 1, _, _, w, m, h => fun n => by rw [World.drewN_drewN]; exact h (m + n)
theorem any_of_L : ∀ (fuel : Nat) (listed : Array Bool) (a : Act) (w : World), AnyL P md ops Q S L fuel listed a w → wpAny P md ops Q fuel listed a (w.drewN 0)
 | 0, _, _, w, h => ⟨h.1, h.2 0⟩
 | fuel + 1, _, _, w, h => ⟨(h 0).1, fun i hi => wpOp_mono (fun a' w' h' => any_of_L fuel _ a' w' h'.2) ((h 0).2 i hi)⟩
def lateB (md : Region.Mode) (ops : Array Oper) (L : List Nat) (i : Nat) : Bool := L.all fun j => match ops[j]? with | some o => o.after.any (fun e => Region.binds md e && e.on == i) | none => true
theorem lateB_spec {i : Nat} (h : lateB md ops L i = true) {j : Nat} (hj : j ∈ L) {o : Oper} (ho : ops[j]? = some o) : ∃ e ∈ o.after, Region.binds md e = true ∧ e.on = i := by
 have := List.all_eq_true.1 h j hj
 rw [ho] at this
 obtain ⟨k, hk, h2⟩ := Array.any_eq_true.1 this
 exact ⟨_, Array.getElem_mem hk, by simpa using h2⟩
def Takes (P : Program) (ops : Array Oper) (S : World → Prop) (o : Oper) (v : Value) (a : Act) : Prop :=
 YieldsIf P ops S o v a ∨ (Region.wanted o (yielded ops a.tmps) = true ∧ ∀ w, S w → ∃ f args, (execOp a.eval o).run P w = .ok (.enter f args) w ∧ Calls P f args w fun e w' => e = .returned v ∧ ∃ k, w' = w.drewN k)
theorem Takes.of_same {o : Oper} {v : Value} {a a' : Act} (hy : Takes P ops S o v a) (he : execOp a'.eval o = execOp a.eval o)
 (hw : Region.wanted o (yielded ops a'.tmps) = Region.wanted o (yielded ops a.tmps)) : Takes P ops S o v a' := by
 rcases hy with h | ⟨h1, h2⟩
 · exact .inl (h.of_same he hw)
 · exact .inr ⟨by rw [hw]; exact h1, fun w hS => by rw [he]; exact h2 w hS⟩
theorem Takes.wpOp {i : Nat} {o : Oper} {v : Value} {a : Act} (hi : ops[i]? = some o) (hy : Takes P ops S o v a)
 {K : Act → World → Prop} {w : World} (hS : S w) (h : ∀ k, K (a.put o.dst v) (w.drewN k)) : wpOp P ops Q i K a w := by
 rcases hy with hy | ⟨hw, hr⟩
 · exact hy.wpOp hi hS (h 0)
 · unfold Go.wpOp
   obtain ⟨f, args, e, c⟩ := hr w hS
   simp only [hi, hw, if_true, Oper.wp, e, Oper.upon]
   refine .inl (Calls.mono c fun e' w' he => ?_)
   obtain ⟨rfl, k, rfl⟩ := he
   exact h k
theorem wpOp_takes {j : Nat} {oi oj : Oper} {v : Value} (hj : ops[j]? = some oj) (hap : oi.apart ops oj = true)
 (hsi : ∀ cs b, oi.op ≠ .select cs b) (hsj : ∀ cs b, oj.op ≠ .select cs b)
 (hQ : ∀ c a w, Q (.panic c) (a.put oi.dst v) w → Q (.panic c) a w) {K : Act → World → Prop} {a : Act} {w : World}
 (hy : Takes P ops S oi v a) (h : wpOp P ops Q j K (a.put oi.dst v) w) :
 wpOp P ops Q j (fun a' w' => Takes P ops S oi v a' ∧ K (a'.put oi.dst v) w') a w := by
 obtain ⟨h1, h2, h3⟩ := Oper.apart_spec hap
 have keep : ∀ (a : Act), Takes P ops S oi v a → ∀ u, Takes P ops S oi v (a.put oj.dst u) := fun a hy u =>
  hy.of_same (execOp_put oi hsi a oj.dst u h3) (wanted_put oi a oj.dst u h3)
 have keepD : ∀ d, Takes P ops S oi v { a with defers := d :: a.defers } := fun d => hy.of_same rfl rfl
 unfold wpOp at *
 simp only [hj] at *
 rw [wanted_put oj a oi.dst v h1] at h
 split
 · rename_i hw
   simp only [hw, if_true] at h
   rcases h with h | ⟨hasks, hlets⟩
   case inr => exact .inr ⟨by unfold Oper.asks at *; rw [execOp_put oj hsj a oi.dst v h1] at hasks; exact hasks, hlets⟩
   refine .inl ?_
   unfold Oper.wp at *
   rw [execOp_put oj hsj a oi.dst v h1] at h
   generalize (execOp a.eval oj).run P w = r at *
   cases r with
   | ok n w' =>
    cases n <;> simp only [Oper.upon] at h ⊢
    case value u => exact ⟨keep a hy u, by rw [← Act.put_comm a v u h2]; exact h⟩
    case skip => exact ⟨keep a hy _, by rw [← Act.put_comm a v undef h2]; exact h⟩
    case defer d =>
     refine ⟨keep _ (keepD d) _, ?_⟩
     rw [← Act.put_comm _ v undef h2, ← Act.put_defers]
     exact h
    case enter f args =>
     refine Calls.mono h fun e w'' he => ?_
     cases e with
     | returned u => exact ⟨keep a hy u, by rw [← Act.put_comm a v u h2]; exact he⟩
     | panicked c => exact hQ _ _ _ he
     | outgrown => exact he
    case row row args => exact Rows.mono h fun u w'' he => ⟨keep a hy u, by rw [← Act.put_comm a v u h2]; exact he⟩
   | halt x w' =>
    cases x <;> simp only [Oper.upon] at h ⊢
    case panic u => exact hQ _ _ _ h
 · rename_i hw
   simp only [hw] at h
   exact ⟨keep a hy _, by rw [← Act.put_comm a v undef h2]; exact h⟩
theorem anyL_first {i : Nat} {oi : Oper} {v : Value} (hi : ops[i]? = some oi) (hsel : ∀ (j : Nat) (o : Oper) cs b, ops[j]? = some o → o.op ≠ .select cs b)
 (hQ : ∀ c a w, Q (.panic c) (a.put oi.dst v) w → Q (.panic c) a w) (S' : World → Prop) (hSd : ∀ w n, S w → S (w.drewN n)) (hSd' : ∀ w n, S' w → S' (w.drewN n)) (hiL : i ∉ L)
 (hdep : (∀ w, S' w) ∨ ((∀ w, S w → S' w) ∧ lateB md ops L i = true)) :
 ∀ (fuel : Nat) (listed : Array Bool) (a : Act) (w : World),
  (∀ j oj, ops[j]? = some oj → j ≠ i → listed.getD j true = false → (∀ e ∈ oj.after, Region.binds md e = true → e.on ≠ i) → oi.apart ops oj = true) →
  i ∈ Region.ready md ops listed → Takes P ops S' oi v a → (fresh L listed = true → S w) → ((∀ w, S' w) ∨ fresh L listed = true) →
  AnyL P md ops Q S L fuel (listed.setIfInBounds i true) (a.put oi.dst v) w → AnyL P md ops Q S L (fuel + 1) listed a w := by
 have hS' : ∀ {listed : Array Bool} {w : World}, (fresh L listed = true → S w) → ((∀ w, S' w) ∨ fresh L listed = true) → S' w := fun {listed w} h1 h2 => by
  rcases h2 with h2 | h2
  · exact h2 w
  · rcases hdep with h3 | h3
    · exact h3 w
    · exact h3.1 w (h1 h2)
 intro fuel
 induction fuel with
 | zero =>
  intro listed a w _ hr hy hS hfr H n
  refine ⟨fun h => (by rw [h] at hr; cases hr), fun j hj => ?_⟩
  by_cases hji : j = i
  · subst hji
    exact hy.wpOp hi (hSd' _ _ (hS' hS hfr)) (fun k => ⟨fun h => hSd _ _ (hSd _ _ (hS (by rwa [fresh_set hiL] at h))), (H.drew n).drew k⟩)
  · have := ready_mono hj hji
    rw [H.1] at this
    cases this
 | succ fuel ih =>
  intro listed a w hfree hr hy hS hfr H n
  refine ⟨fun h => (by rw [h] at hr; cases hr), fun j hj => ?_⟩
  by_cases hji : j = i
  · subst hji
    exact hy.wpOp hi (hSd' _ _ (hS' hS hfr)) (fun k => ⟨fun h => hSd _ _ (hSd _ _ (hS (by rwa [fresh_set hiL] at h))), (H.drew n).drew k⟩)
  · have h1 := (H n).2 j (ready_mono hj hji)
    obtain ⟨hjun, oj, hoj, hall⟩ := mem_ready.1 hj
    have hnot : ∀ e ∈ oj.after, Region.binds md e = true → e.on ≠ i := fun e he hb heq => by
     have h1 := hall e he hb
     have h0 := (mem_ready.1 hr).1
     rw [heq] at h1
     rcases Nat.lt_or_ge i listed.size with h' | h'
     · simp [h'] at h0 h1; rw [h0] at h1; cases h1
     · simp [Array.getElem?_eq_none h'] at h1
    have h2 := wpOp_takes hoj (hfree j oj hoj hji hjun hnot) (fun cs b => hsel i oi cs b hi) (fun cs b => hsel j oj cs b hoj) hQ hy h1
    have hfree' : ∀ k ok, ops[k]? = some ok → k ≠ i → (listed.setIfInBounds j true).getD k true = false →
     (∀ e ∈ ok.after, Region.binds md e = true → e.on ≠ i) → oi.apart ops ok = true := fun k ok hk hki hun hno => by
     refine hfree k ok hk hki ?_ hno
     by_cases hjk : j = k
     · subst hjk; exact hjun
     · rw [getD_set_ne true hjk] at hun; exact hun
    have hfr' : (∀ w, S' w) ∨ fresh L (listed.setIfInBounds j true) = true := by
     rcases hfr with h | h
     · exact .inl h
     · rcases hdep with h3 | h3
       · exact .inl h3
       · refine .inr ?_
         rw [fresh_set (fun hjL => by
          obtain ⟨e, he, hb, hon⟩ := lateB_spec h3.2 hjL hoj
          exact hnot e he hb hon)]
         exact h
    refine wpOp_mono (fun a' w' h3 => ?_) h2
    have hS2 : fresh L (listed.setIfInBounds j true) = true → S w' := fun h => h3.2.1 (by rw [Array.setIfInBounds_comm _ _ (Ne.symm hji), fresh_set hiL]; exact h)
    refine ⟨hS2, ih (listed.setIfInBounds j true) a' w' hfree' (ready_mono hr (Ne.symm hji)) h3.1 hS2 hfr' ?_⟩
    rw [Array.setIfInBounds_comm _ _ hji]
    exact h3.2.2
theorem anyL_takeD {i d : Nat} {oi : Oper} {v : Value} {fuel : Nat} {listed : Array Bool} {T : Array Value} {Ds : List Deferred} {w : World} (hi : ops[i]? = some oi) (hd : oi.dst = some d)
 (hs : Region.noSelect ops = true) (hf : Region.free md ops listed i = true) (hr : (Region.ready md ops listed).contains i = true)
 (hQ : ∀ c a w, Q (.panic c) (a.put oi.dst v) w → Q (.panic c) a w) (hSd : ∀ w n, S w → S (w.drewN n)) (hlate : (lateB md ops L i && !L.contains i && fresh L listed) = true) (hy : Takes P ops S oi v { tmps := T, defers := Ds }) (hS : S w)
 (h : AnyL P md ops Q S L fuel (listed.setIfInBounds i true) { tmps := T.setIfInBounds d v, defers := Ds } w) : AnyL P md ops Q S L (fuel + 1) listed { tmps := T, defers := Ds } w := by
 simp only [Bool.and_eq_true, Bool.not_eq_true', List.contains_eq_mem, decide_eq_false_iff_not] at hlate
 refine anyL_first hi (Region.noSelect_spec hs) hQ S hSd hSd hlate.1.2 (.inr ⟨fun _ h => h, hlate.1.1⟩) fuel listed _ w (Region.free_spec hi hf) (by simpa using hr) hy (fun _ => hS) (.inr hlate.2) ?_
 rw [hd]
 exact h
theorem anyL_takeF {i d : Nat} {oi : Oper} {v : Value} {fuel : Nat} {listed : Array Bool} {T : Array Value} {Ds : List Deferred} {w : World} (hi : ops[i]? = some oi) (hd : oi.dst = some d)
 (hs : Region.noSelect ops = true) (hf : Region.free md ops listed i = true) (hr : (Region.ready md ops listed).contains i = true)
 (hQ : ∀ c a w, Q (.panic c) (a.put oi.dst v) w → Q (.panic c) a w) (hSd : ∀ w n, S w → S (w.drewN n)) (hiL : (!L.contains i) = true) (hy : Takes P ops (fun _ => True) oi v { tmps := T, defers := Ds }) (hS : fresh L listed = true → S w)
 (h : AnyL P md ops Q S L fuel (listed.setIfInBounds i true) { tmps := T.setIfInBounds d v, defers := Ds } w) : AnyL P md ops Q S L (fuel + 1) listed { tmps := T, defers := Ds } w := by
 simp only [Bool.not_eq_true', List.contains_eq_mem, decide_eq_false_iff_not] at hiL
 refine anyL_first hi (Region.noSelect_spec hs) hQ (fun _ => True) hSd (fun _ _ _ => trivial) hiL (.inl fun _ => trivial) fuel listed _ w (Region.free_spec hi hf) (by simpa using hr) hy hS (.inl fun _ => trivial) ?_
 rw [hd]
 exact h
theorem mC {α : Type} : (∀ (a b : α) (l : List α), a ∈ b :: l ↔ a = b ∨ a ∈ l) ∧ (∀ a : α, a ∈ ([] : List α) ↔ False) ∧ (∀ p : Prop, (p ∨ False) = p) := ⟨fun _ _ _ => List.mem_cons, fun _ => by simp, fun _ => by simp⟩
theorem sC {α : Type} : (∀ (l : List α) (i : Nat) (a : α), l.toArray.setIfInBounds i a = (l.set i a).toArray) ∧ (∀ (a : α) (l : List α) (n : Nat) (b : α), (a :: l).set (n + 1) b = a :: l.set n b) ∧ (∀ (a : α) (l : List α) (b : α), (a :: l).set 0 b = b :: l) := ⟨fun l i a => List.setIfInBounds_toArray .., fun _ _ _ _ => rfl, fun _ _ _ => rfl⟩
theorem tF (i d : Nat) (v : Value) {oi : Oper} {fuel : Nat} {listed : Array Bool} {T : Array Value} {Ds : List Deferred} {w : World} (hi : ops[i]? = some oi) (hd : oi.dst = some d) (hSd : ∀ w n, S w → S (w.drewN n)) (hS : fresh L listed = true → S w)
    (h : AnyL P md ops Q S L fuel (listed.setIfInBounds i true) { tmps := T.setIfInBounds d v, defers := Ds } w) (hs : Region.noSelect ops = true := by kernel_rfl) (hf : Region.free md ops listed i = true := by kernel_rfl) (hr : (Region.ready md ops listed).contains i = true := by kernel_rfl)
    (hQ : ∀ c a w, Q (.panic c) (a.put oi.dst v) w → Q (.panic c) a w := by exact fun _ _ _ h => h) (hiL : (!L.contains i) = true := by kernel_rfl) (hy : Takes P ops (fun _ => True) oi v { tmps := T, defers := Ds } := by exact .inl (.inl ⟨rfl, fun w' hS => by first | rfl | go_simp⟩)) :
    AnyL P md ops Q S L (fuel + 1) listed { tmps := T, defers := Ds } w := anyL_takeF hi hd hs hf hr hQ hSd hiL hy hS h
theorem tD (i d : Nat) (v : Value) {oi : Oper} {fuel : Nat} {listed : Array Bool} {T : Array Value} {Ds : List Deferred} {w : World} (hi : ops[i]? = some oi) (hd : oi.dst = some d) (hSd : ∀ w n, S w → S (w.drewN n)) (hy : Takes P ops S oi v { tmps := T, defers := Ds }) (hS : S w)
    (h : AnyL P md ops Q S L fuel (listed.setIfInBounds i true) { tmps := T.setIfInBounds d v, defers := Ds } w) (hs : Region.noSelect ops = true := by kernel_rfl) (hf : Region.free md ops listed i = true := by kernel_rfl) (hr : (Region.ready md ops listed).contains i = true := by kernel_rfl)
    (hQ : ∀ c a w, Q (.panic c) (a.put oi.dst v) w → Q (.panic c) a w := by exact fun _ _ _ h => h) (hlate : (lateB md ops L i && !L.contains i && fresh L listed) = true := by kernel_rfl) :
    AnyL P md ops Q S L (fuel + 1) listed { tmps := T, defers := Ds } w := anyL_takeD hi hd hs hf hr hQ hSd hlate hy hS h
theorem wpOp_of {i : Nat} {o : Oper} {a : Act} {w : World} {K : Act → World → Prop} (hi : ops[i]? = some o) (hw : Region.wanted o (yielded ops a.tmps) = true) (h : Oper.wp P o a w K Q) : wpOp P ops Q i K a w := by
 unfold wpOp
 simp only [hi, hw, if_true]
 exact .inl h
theorem anyL_all {rs : List Nat} {fuel : Nat} {listed : Array Bool} {a : Act} {w : World} (hr : Region.ready md ops listed = rs) (hne : rs ≠ [])
 (h : ∀ n, ∀ i ∈ rs, wpOp P ops Q i (fun a' w' => (fresh L (listed.setIfInBounds i true) = true → S w') ∧ AnyL P md ops Q S L fuel (listed.setIfInBounds i true) a' w') a (w.drewN n)) : AnyL P md ops Q S L (fuel + 1) listed a w :=
 fun n => ⟨fun h0 => absurd (hr ▸ h0) hne, hr ▸ h n⟩
theorem tA (i : Nat) {fuel : Nat} {listed : Array Bool} {a : Act} {w : World} (h : ∀ n, wpOp P ops Q i (fun a' w' => (fresh L (listed.setIfInBounds i true) = true → S w') ∧ AnyL P md ops Q S L fuel (listed.setIfInBounds i true) a' w') a (w.drewN n)) (hr : Region.ready md ops listed = [i] := by kernel_rfl) : AnyL P md ops Q S L (fuel + 1) listed a w :=
 anyL_all hr (by simp) (fun n j hj => by obtain rfl := List.mem_singleton.1 hj; exact h n)
theorem anyL_done {listed : Array Bool} {a : Act} {w : World} (hr : Region.ready md ops listed = []) (h : ∀ n, Q .normal a (w.drewN n)) : ∀ fuel, AnyL P md ops Q S L fuel listed a w
 | 0 => ⟨hr, h⟩
 | _ + 1 => fun n => ⟨fun _ => h n, by rw [hr]; simp⟩
theorem anyL_world {fuel : Nat} {listed : Array Bool} {a : Act} {w : World} (J : World → Prop) (hJ : J w) (h : ∀ w', J w' → AnyL P md ops Q S L fuel listed a w') : AnyL P md ops Q S L fuel listed a w := h w hJ
theorem region_L {id : Nat} {a : Act} {w : World} (L : List Nat) (hm : P.follows .mixedOrders = true)
 (h : AnyL P .any ops Q S L ops.size (Array.replicate ops.size false) a w.drew) : (Code.region id ops true).wp P Q a w :=
 wp_region_any hm (any_of_L _ _ _ _ h)
end
end Go.Proofs.YtokembhfebnjpaaGreat
