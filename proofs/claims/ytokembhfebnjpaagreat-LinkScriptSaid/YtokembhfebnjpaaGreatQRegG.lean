/- A region that draws its order: an operation that only reads may be taken first, though it draws (a call whose contract is 'it returns v, and so many draws have been made'). -/
import Derived.OrdersHeld
import Derived.Deep.Draws
namespace Go.Proofs.YtokembhfebnjpaaGreat
set_option linter.unusedVariables false
section
variable {P : Program} {ops : Array Oper} {Q : Exit → Act → World → Prop} {md : Region.Mode} {S : World → Prop}
def AnyG (P : Program) (md : Region.Mode) (ops : Array Oper) (Q : Exit → Act → World → Prop) (S : World → Prop) : Nat → Array Bool → Act → World → Prop
 | 0, listed, a, w => Region.ready md ops listed = [] ∧ ∀ n, Q .normal a (w.drewN n)
 | fuel + 1, listed, a, w => ∀ n, (Region.ready md ops listed = [] → Q .normal a (w.drewN n)) ∧
  ∀ i ∈ Region.ready md ops listed, wpOp P ops Q i (fun a' w' => S w' ∧ AnyG P md ops Q S fuel (listed.setIfInBounds i true) a' w') a (w.drewN n)
theorem AnyG.drew : ∀ {fuel : Nat} {listed : Array Bool} {a : Act} {w : World} (m : Nat), AnyG P md ops Q S fuel listed a w → AnyG P md ops Q S fuel listed a (w.drewN m)
 | 0, _, _, w, m, h => ⟨h.1, fun n => by rw [World.drewN_drewN]; exact h.2 (m + n)⟩
 | fuel + 1, _, _, w, m, h => fun n => by rw [World.drewN_drewN]; exact h (m + n)
theorem anyH_of_G : ∀ (fuel : Nat) (listed : Array Bool) (a : Act) (w : World), AnyG P md ops Q S fuel listed a w → wpAnyH P md ops Q S fuel listed a (w.drewN 0)
 | 0, _, _, w, h => ⟨h.1, h.2 0⟩
 | fuel + 1, _, _, w, h => ⟨(h 0).1, fun i hi => wpOp_mono (fun a' w' h' => ⟨h'.1, anyH_of_G fuel _ a' w' h'.2⟩) ((h 0).2 i hi)⟩
def TakesG (P : Program) (ops : Array Oper) (S : World → Prop) (o : Oper) (v : Value) (a : Act) : Prop :=
 YieldsIf P ops S o v a ∨ (Region.wanted o (yielded ops a.tmps) = true ∧ ∀ w, S w → ∃ f args, (execOp a.eval o).run P w = .ok (.enter f args) w ∧ Calls P f args w fun e w' => e = .returned v ∧ ∃ k, w' = w.drewN k)
theorem TakesG.of_same {o : Oper} {v : Value} {a a' : Act} (hy : TakesG P ops S o v a) (he : execOp a'.eval o = execOp a.eval o)
 (hw : Region.wanted o (yielded ops a'.tmps) = Region.wanted o (yielded ops a.tmps)) : TakesG P ops S o v a' := by
 rcases hy with h | ⟨h1, h2⟩
 · exact .inl (h.of_same he hw)
 · exact .inr ⟨by rw [hw]; exact h1, fun w hS => by rw [he]; exact h2 w hS⟩
theorem TakesG.wpOp {i : Nat} {o : Oper} {v : Value} {a : Act} (hi : ops[i]? = some o) (hy : TakesG P ops S o v a)
 {K : Act → World → Prop} {w : World} (hS : S w) (h : ∀ k, K (a.put o.dst v) (w.drewN k)) : wpOp P ops Q i K a w := by
 rcases hy with hy | ⟨hw, hr⟩
 · exact hy.wpOp hi hS (h 0)
 · unfold Go.wpOp
   obtain ⟨f, args, e, c⟩ := hr w hS
   simp only [hi, hw, if_true, Oper.wp, e, Oper.upon]
   refine .inl (Calls.mono c fun e' w' he => ?_)
   obtain ⟨rfl, k, rfl⟩ := he
   exact h k
theorem wpOp_takesG {j : Nat} {oi oj : Oper} {v : Value} (hj : ops[j]? = some oj) (hap : oi.apart ops oj = true)
 (hsi : ∀ cs b, oi.op ≠ .select cs b) (hsj : ∀ cs b, oj.op ≠ .select cs b)
 (hQ : ∀ c a w, Q (.panic c) (a.put oi.dst v) w → Q (.panic c) a w) {K : Act → World → Prop} {a : Act} {w : World}
 (hy : TakesG P ops S oi v a) (h : wpOp P ops Q j K (a.put oi.dst v) w) :
 wpOp P ops Q j (fun a' w' => TakesG P ops S oi v a' ∧ K (a'.put oi.dst v) w') a w := by
 obtain ⟨h1, h2, h3⟩ := Oper.apart_spec hap
 have keep : ∀ (a : Act), TakesG P ops S oi v a → ∀ u, TakesG P ops S oi v (a.put oj.dst u) := fun a hy u =>
  hy.of_same (execOp_put oi hsi a oj.dst u h3) (wanted_put oi a oj.dst u h3)
 have keepD : ∀ d, TakesG P ops S oi v { a with defers := d :: a.defers } := fun d => hy.of_same rfl rfl
 unfold wpOp at *
 simp only [hj] at *
 rw [wanted_put oj a oi.dst v h1] at h
 split
 · rename_i hw
   simp only [hw, if_true] at h
   rcases h with h | ⟨hasks, hlets⟩
   case inr => exact .inr ⟨by unfold Oper.asks at *; rw [execOp_put oj hsj a oi.dst v h1] at hasks; exact hasks, hlets⟩
   refine .inl ?_
   unfold Oper.wp at *
   rw [execOp_put oj hsj a oi.dst v h1] at h
   generalize (execOp a.eval oj).run P w = r at *
   cases r with
   | ok n w' =>
    cases n <;> simp only [Oper.upon] at h ⊢
    case value u => exact ⟨keep a hy u, by rw [← Act.put_comm a v u h2]; exact h⟩
    case skip => exact ⟨keep a hy _, by rw [← Act.put_comm a v undef h2]; exact h⟩
    case defer d =>
     refine ⟨keep _ (keepD d) _, ?_⟩
     rw [← Act.put_comm _ v undef h2, ← Act.put_defers]
     exact h
    case enter f args =>
     refine Calls.mono h fun e w'' he => ?_
     cases e with
     | returned u => exact ⟨keep a hy u, by rw [← Act.put_comm a v u h2]; exact he⟩
     | panicked c => exact hQ _ _ _ he
     | outgrown => exact he
    case row row args => exact Rows.mono h fun u w'' he => ⟨keep a hy u, by rw [← Act.put_comm a v u h2]; exact he⟩
   | halt x w' =>
    cases x <;> simp only [Oper.upon] at h ⊢
    case panic u => exact hQ _ _ _ h
 · rename_i hw
   simp only [hw] at h
   exact ⟨keep a hy _, by rw [← Act.put_comm a v undef h2]; exact h⟩
theorem anyG_first {i : Nat} {oi : Oper} {v : Value} (hi : ops[i]? = some oi) (hsel : ∀ (j : Nat) (o : Oper) cs b, ops[j]? = some o → o.op ≠ .select cs b)
 (hQ : ∀ c a w, Q (.panic c) (a.put oi.dst v) w → Q (.panic c) a w) (hSd : ∀ w n, S w → S (w.drewN n)) :
 ∀ (fuel : Nat) (listed : Array Bool) (a : Act) (w : World),
  (∀ j oj, ops[j]? = some oj → j ≠ i → listed.getD j true = false → (∀ e ∈ oj.after, Region.binds md e = true → e.on ≠ i) → oi.apart ops oj = true) →
  i ∈ Region.ready md ops listed → TakesG P ops S oi v a → S w →
  AnyG P md ops Q S fuel (listed.setIfInBounds i true) (a.put oi.dst v) w → AnyG P md ops Q S (fuel + 1) listed a w := by
 intro fuel
 induction fuel with
 | zero =>
  intro listed a w _ hr hy hS H n
  refine ⟨fun h => (by rw [h] at hr; cases hr), fun j hj => ?_⟩
  by_cases hji : j = i
  · subst hji; exact hy.wpOp hi (hSd _ _ hS) (fun k => ⟨hSd _ _ (hSd _ _ hS), (H.drew n).drew k⟩)
  · have := ready_mono hj hji
    rw [H.1] at this
    cases this
 | succ fuel ih =>
  intro listed a w hfree hr hy hS H n
  refine ⟨fun h => (by rw [h] at hr; cases hr), fun j hj => ?_⟩
  by_cases hji : j = i
  · subst hji; exact hy.wpOp hi (hSd _ _ hS) (fun k => ⟨hSd _ _ (hSd _ _ hS), (H.drew n).drew k⟩)
  · have h1 := (H n).2 j (ready_mono hj hji)
    obtain ⟨hjun, oj, hoj, hall⟩ := mem_ready.1 hj
    have hnot : ∀ e ∈ oj.after, Region.binds md e = true → e.on ≠ i := fun e he hb heq => by
     have h1 := hall e he hb
     have h0 := (mem_ready.1 hr).1
     rw [heq] at h1
     rcases Nat.lt_or_ge i listed.size with h' | h'
     · simp [h'] at h0 h1; rw [h0] at h1; cases h1
     · simp [Array.getElem?_eq_none h'] at h1
    have h2 := wpOp_takesG hoj (hfree j oj hoj hji hjun hnot) (fun cs b => hsel i oi cs b hi) (fun cs b => hsel j oj cs b hoj) hQ hy h1
    have hfree' : ∀ k ok, ops[k]? = some ok → k ≠ i → (listed.setIfInBounds j true).getD k true = false →
     (∀ e ∈ ok.after, Region.binds md e = true → e.on ≠ i) → oi.apart ops ok = true := fun k ok hk hki hun hno => by
     refine hfree k ok hk hki ?_ hno
     by_cases hjk : j = k
     · subst hjk; exact hjun
     · rw [getD_set_ne true hjk] at hun; exact hun
    refine wpOp_mono (fun a' w' h3 => ⟨h3.2.1, ih (listed.setIfInBounds j true) a' w' hfree' (ready_mono hr (Ne.symm hji)) h3.1 h3.2.1 ?_⟩) h2
    rw [Array.setIfInBounds_comm _ _ hji]
    exact h3.2.2
theorem anyG_take {i : Nat} {oi : Oper} {v : Value} {fuel : Nat} {listed : Array Bool} {a : Act} {w : World} (hi : ops[i]? = some oi)
 (hs : Region.noSelect ops = true) (hf : Region.free md ops listed i = true) (hr : (Region.ready md ops listed).contains i = true)
 (hQ : ∀ c a w, Q (.panic c) (a.put oi.dst v) w → Q (.panic c) a w) (hSd : ∀ w n, S w → S (w.drewN n)) (hy : TakesG P ops S oi v a) (hS : S w)
 (h : AnyG P md ops Q S fuel (listed.setIfInBounds i true) (a.put oi.dst v) w) : AnyG P md ops Q S (fuel + 1) listed a w :=
 anyG_first hi (Region.noSelect_spec hs) hQ hSd fuel listed a w (Region.free_spec hi hf) (by simpa using hr) hy hS h
theorem anyG_takeD {i d : Nat} {oi : Oper} {v : Value} {fuel : Nat} {listed : Array Bool} {T : Array Value} {w : World} (hi : ops[i]? = some oi) (hd : oi.dst = some d)
 (hs : Region.noSelect ops = true) (hf : Region.free md ops listed i = true) (hr : (Region.ready md ops listed).contains i = true)
 (hQ : ∀ c a w, Q (.panic c) (a.put oi.dst v) w → Q (.panic c) a w) (hSd : ∀ w n, S w → S (w.drewN n)) (hy : TakesG P ops S oi v { tmps := T, defers := [] }) (hS : S w)
 (h : AnyG P md ops Q S fuel (listed.setIfInBounds i true) { tmps := T.setIfInBounds d v, defers := [] } w) : AnyG P md ops Q S (fuel + 1) listed { tmps := T, defers := [] } w := by
 refine anyG_take hi hs hf hr hQ hSd hy hS ?_
 rw [hd]
 exact h
theorem wpOp_ofG {i : Nat} {o : Oper} {a : Act} {w : World} {K : Act → World → Prop} (hi : ops[i]? = some o) (hw : Region.wanted o (yielded ops a.tmps) = true) (h : Oper.wp P o a w K Q) : wpOp P ops Q i K a w := by
 unfold wpOp
 simp only [hi, hw, if_true]
 exact .inl h
theorem anyG_all {rs : List Nat} {fuel : Nat} {listed : Array Bool} {a : Act} {w : World} (hr : Region.ready md ops listed = rs) (hne : rs ≠ [])
 (h : ∀ n, ∀ i ∈ rs, wpOp P ops Q i (fun a' w' => S w' ∧ AnyG P md ops Q S fuel (listed.setIfInBounds i true) a' w') a (w.drewN n)) : AnyG P md ops Q S (fuel + 1) listed a w :=
 fun n => ⟨fun h0 => absurd (hr ▸ h0) hne, hr ▸ h n⟩
theorem anyG_done {listed : Array Bool} {a : Act} {w : World} (hr : Region.ready md ops listed = []) (h : ∀ n, Q .normal a (w.drewN n)) : ∀ fuel, AnyG P md ops Q S fuel listed a w
 | 0 => ⟨hr, h⟩
 | _ + 1 => fun n => ⟨fun _ => h n, by rw [hr]; simp⟩
theorem anyG_world {fuel : Nat} {listed : Array Bool} {a : Act} {w : World} (J : World → Prop) (hJ : J w) (h : ∀ w', J w' → AnyG P md ops Q S fuel listed a w') : AnyG P md ops Q S fuel listed a w := h w hJ
theorem region_G {id : Nat} {a : Act} {w : World} (hm : P.follows .mixedOrders = true)
 (h : AnyG P .any ops Q S ops.size (Array.replicate ops.size false) a w.drew) : (Code.region id ops true).wp P Q a w :=
 wp_region_held hm (anyH_of_G _ _ _ _ h)
end
end Go.Proofs.YtokembhfebnjpaaGreat
