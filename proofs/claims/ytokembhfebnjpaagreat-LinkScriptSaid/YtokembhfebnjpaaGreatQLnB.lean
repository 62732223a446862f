/- Chapter 15: a frame's bytes laid behind others. -/
import Derived.Test.YtokembhfebnjpaaGreatQKt0M
import Derived.Test.YtokembhfebnjpaaGreatQRunL
import Derived.Test.YtokembhfebnjpaaGreatQFrmPM
import Derived.Test.YtokembhfebnjpaaGreatQLnAM
namespace Go.Proofs.YtokembhfebnjpaaGreat
set_option maxRecDepth 20000
open Go.RowKit Flt
set_option linter.unusedVariables false
theorem elem_sl : Elem Tryz.prog 32 (.slice none 0 0) 1 24 := Elem.mk' (by kernel_rfl) rfl (by omega) (by simp [Value.cells, Value.oneCell'])
def layP (ls : List (List Int)) (f : Fr) : List (List Int) := if errF f = 0 then ls ++ [layF f] else ls
theorem LLs.kpB {B : Nat} {w w' : World} {v : Value} {ls : List (List Int)} {vs : List Value} {S : Nat → Prop} (h : LLs B w v ls vs) (k : Kp S w w') (hS : ∀ k, S k → k < B) : LLs B w' v ls vs :=
 h.kp k (fun g hg e => by have := h.ge g hg; have := hS g e; omega) (fun i g hi hg e => by have := h.geE i g hi hg; have := hS g e; omega)
theorem LLs.kp0 {B : Nat} {w w' : World} {v : Value} {ls : List (List Int)} {vs : List Value} (h : LLs B w v ls vs) (k : Kp (fun _ => False) w w') : LLs B w' v ls vs := h.kpB k (fun _ h => h.elim)
theorem LLs.form {B : Nat} {w : World} {v : Value} {ls : List (List Int)} {vs : List Value} (h : LLs B w v ls vs) : ∃ a c, v = .slice a ls.length c ∧ ls.length ≤ c := by
 obtain ⟨a, c, e, h1, _⟩ := h.own.form
 exact ⟨a, c, e, h1⟩
set_option maxHeartbeats 1000000 in
theorem lay_any {B : Nat} {w : World} {v : Value} {ls : List (List Int)} {vs : List Value} (h : LLs B w v ls vs) (f : Fr) (a : Option Addr) (c : Nat) (hI : frI f) (hr : RdB w a f.bd) (hc : f.bd.length ≤ c) (hB : B ≤ w.heap.size) (hn : ls.length ≤ 1000000) (hl : f.bd.length ≤ 4611686018427387904) :
 Calls Tryz.prog 113 #[v, .agg (frA f a c)] w fun e w' => ∃ v' vs', e = .returned v' ∧ LLs B w' v' (layP ls f) vs' ∧ (∀ g, v'.ownBlock = some g → v.ownBlock = some g ∨ w.heap.size ≤ g) ∧ Kp (fun k => v.ownBlock = some k) w w' := by
 obtain ⟨w1, hw1⟩ : ∃ w1, w1 = w.alloc (.cells (frA f a c) 34) := ⟨_, rfl⟩
 have k1 : Kp (fun _ => False) w w1 := by rw [hw1]; exact (Kp.refl _ w).alloc _
 by_cases he : errF f = 0
 · have CP := fput_ok f a c w1 hI (hr.kp k1 (fun _ _ h => h)) hc he
   have HL := Lib.hid (h.kp0 k1)
   have K1 := Lib.hid k1
   have hs := k1.size
   have HE := Lib.hid he
   obtain ⟨va, vc, hv, _⟩ := h.form
   obtain ⟨nl, hnl⟩ : ∃ nl, nl = ls.length := ⟨_, rfl⟩
   rw [← hnl] at hv hn
   have HNL := Lib.hid hnl
   rw [hw1] at CP
   have CP := Lib.hid CP
   have HW := Lib.hid hw1
   have HV := Lib.hid hv
   subst hv
   obtain ⟨ty, se, bo, sq, ac, bd⟩ := f
   dsimp only [frA] at *
   generalize bd.length = nb at *
   clear h hr hI hc k1 hw1 he hl hnl
   go_enter Tryz.func113, Tryz.ntmps113
   go_wp2_with fail
   go_at_call 120
   refine CP.out.mono ?_
   rintro e w2 ⟨u, rfl, hu, hug, k2⟩
   rw [← HW.out] at hug k2
   obtain ⟨ua, uc, eu, _, _⟩ := hu.form
   have hll := HL.out.kp0 k2
   have hs2 := k2.size
   obtain ⟨w3, hw3⟩ : ∃ w3, w3 = w2.alloc (.cells #[u] 32) := ⟨_, rfl⟩
   have k3 : Kp (fun _ => False) w2 w3 := by rw [hw3]; exact (Kp.refl _ w2).alloc _
   have hat : At w3 w2.heap.size [u] := by rw [hw3]; exact At.new w2 [u] _
   have hll3 := hll.kp0 k3
   obtain ⟨v', w4, hr4, hll4, k4, hb4⟩ := hll3.app (P := Tryz.prog) (t := 67) (tx := 67) (ty := 67) Tryz.underlying67 elem_sl Tryz.underlying67 (by omega) (hu.kp k3 (fun _ _ h => h)) (fun g hg => by
    have h1 := hug g hg
    refine ⟨fun e => ?_, by omega, fun i hi e => ?_⟩
    · have := HL.out.own.lt g e; omega
    · have := HL.out.ltE hi e; omega) (by have := HNL.out; omega) (by have := k3.size; omega) hat
   have hs3 := k3.size
   have K4 := Lib.hid (And.intro (show ∀ g, v'.ownBlock = some g → (Value.slice va nl vc).ownBlock = some g ∨ w.heap.size ≤ g from fun g hg => by
    rcases hb4 with e | e
    · exact .inl (e ▸ hg)
    · rw [hg] at e; have := Option.some.inj e; right; omega) (show Kp (fun k => (Value.slice va nl vc).ownBlock = some k) w w4 from (((K1.out.trans k2).trans k3).mono (fun _ _ h => h.elim)).trans k4))
   have HR := Lib.hid hll4
   rw [eu] at hw3
   rw [hw3] at hr4
   have HR4 := Lib.hid hr4
   subst eu
   obtain ⟨nb2, hnb2⟩ : ∃ n, n = (layF ⟨ty, se, bo, sq, ac, bd⟩).length := ⟨_, rfl⟩
   rw [← hnb2] at HR4 ⊢
   clear hs3 hb4 hu hug k2 hll hs2 hw3 k3 hat hll3 hr4 hll4 k4 hnb2
   go_wp2_with (at_builtin; refine wpList_append_run _ HR4.out rfl rfl rfl rfl ?_)
   go_ret
   exact ⟨v', _, rfl, by unfold layP; rw [if_pos HE.out]; exact HR.out, K4.out.1, K4.out.2⟩
 · have CP := fput_bad f a c w1 hI hl he
   have HL := Lib.hid h
   have K1 := Lib.hid k1
   have HE := Lib.hid he
   have hne : (errF f != 0) = true := by simpa using he
   obtain ⟨va, vc, hv, _⟩ := h.form
   obtain ⟨nl, hnl⟩ : ∃ nl, nl = ls.length := ⟨_, rfl⟩
   rw [← hnl] at hv hn
   rw [hw1] at CP
   have CP := Lib.hid CP
   have HW := Lib.hid hw1
   have HV := Lib.hid hv
   subst hv
   have HF : Hid (layP ls f = ls) := Lib.hid (by unfold layP; rw [if_neg he])
   generalize layP ls f = lp at *
   generalize errF f = er at *
   obtain ⟨ty, se, bo, sq, ac, bd⟩ := f
   dsimp only [frA] at *
   generalize bd.length = nb at *
   clear h hr hI hc k1 hw1 he hl hnl HE
   go_enter Tryz.func113, Tryz.ntmps113
   go_wp2_with fail
   go_at_call 120
   refine CP.out.mono ?_
   rintro e w2 ⟨rfl, k2⟩
   rw [← HW.out] at k2
   have K2 := Lib.hid (K1.out.trans k2)
   clear k2
   go_wp2_with fail
   go_ret
   refine ⟨.slice va nl vc, vs, rfl, ?_, fun g hg => .inl hg, K2.out.mono (fun _ _ h => h.elim)⟩
   rw [HF.out]
   exact HL.out.kp0 K2.out
end Go.Proofs.YtokembhfebnjpaaGreat
