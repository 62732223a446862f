/- InboxTakes: the document's Take at whatever number; what is told is written over. -/
import Derived.Test.YtnigdgopmmccgaaRfT
import Derived.Test.YtnigdgopmmccgaaInbL
import Derived.Test.YtnigdgopmmccgaaOver
namespace Go.Proofs.Ytnigdgopmmccgaa
open Go.RowKit
set_option linter.unusedVariables false
theorem rtake_any {w : World} {r : Nat} {v : Value} {size n : Nat} {L : List (Nat × Value)} {f : Bodies} {G : Nat → Prop} (h : RefC w r v size n L f G) (hfn : f n = none) (seq : Int) (hs : -9223372036854775808 ≤ seq ∧ seq ≤ 9223372036854775807) (a : Option Addr) (len cap : Nat) (l : List Int) (hr : RdB w a l) (hll : l.length = len) (hlen : len ≤ 1000000000) :
    Calls Try.prog 14 #[.pointer (some ⟨r, 0, none⟩), .int .i64 seq, .slice a len cap] w fun e w' =>
      ∃ n' v' L' G' vo vs, e = .returned (.tuple #[vo, .int .i64 (cd f n size seq)]) ∧ RefC w' r v' size n' L' (nf f n size seq l) G' ∧ nf f n size seq l n' = none ∧ n ≤ n' ∧ n' ≤ n + size ∧ vs.length = n' - n ∧ Own w' vo (n' - n) 1 vs ∧
        (∀ i, i < vs.length → ∃ y, nf f n size seq l (n + i) = some y ∧ OwnB w' (vs.getD i undef) y) ∧ (∀ g, G' g → G g ∨ w.heap.size ≤ g) ∧ Kp G w w' := by
  subst hll
  have bad : ∀ w' (k : Int), cd f n size seq = k → k ≠ 0 → Kp (fun _ => False) w w' → (∃ n' v' L' G' vo vs, Ending.returned (.tuple #[.slice none 0 0, .int .i64 k]) = .returned (.tuple #[vo, .int .i64 (cd f n size seq)]) ∧ RefC w' r v' size n' L' (nf f n size seq l) G' ∧ nf f n size seq l n' = none ∧ n ≤ n' ∧ n' ≤ n + size ∧ vs.length = n' - n ∧ Own w' vo (n' - n) 1 vs ∧
        (∀ i, i < vs.length → ∃ y, nf f n size seq l (n + i) = some y ∧ OwnB w' (vs.getD i undef) y) ∧ (∀ g, G' g → G g ∨ w.heap.size ≤ g) ∧ Kp G w w') := fun w' k hk h0 hkp => by
    refine ⟨n, v, L, G, .slice none 0 0, [], by rw [hk], ?_, ?_, Nat.le_refl _, by omega, by simp, by rw [Nat.sub_self]; exact Own.nil _ _, fun i hi => by simp at hi, fun g hg => .inl hg, hkp.mono (fun _ _ h => h.elim)⟩
    · rw [nf_same _ _ _ _ _ (by rw [hk]; exact h0)]
      exact h.kp hkp (fun _ _ h => h)
    · rw [nf_same _ _ _ _ _ (by rw [hk]; exact h0)]; exact hfn
  by_cases h1 : seq < 1 ∨ 2147483647 ≤ seq
  · have hc : cd f n size seq = 5 := by unfold cd; rw [if_pos h1]
    refine (rtake_range seq a l.length cap h1).mono ?_
    rintro e w' ⟨rfl, rfl⟩
    exact bad w 5 hc (by omega) (Kp.refl _ _)
  · obtain ⟨q, rfl⟩ := Int.eq_ofNat_of_zero_le (show 0 ≤ seq by omega)
    have hq : hasI f q = (f q).isSome := by simp [hasI]
    by_cases h2 : (f q).isSome = true
    · have hc : cd f n size q = 7 := by unfold cd; rw [if_neg h1, hq, if_pos h2]
      refine (rtake_there h q a l.length cap (by omega) (by omega) (by rw [hq]; exact h2)).mono ?_
      rintro e w' ⟨rfl, rfl⟩
      exact bad w 7 hc (by omega) (Kp.refl _ _)
    · by_cases h3 : n + size ≤ q
      · have hc : cd f n size q = 8 := by unfold cd; rw [if_neg h1, hq, if_neg h2, if_pos (by omega)]
        refine (rtake_full h q a l.length cap (by omega) (by omega) (by rw [hq]; simpa using h2) (by omega)).mono ?_
        rintro e w' ⟨rfl, hk⟩
        exact bad w' 8 hc (by omega) hk
      · have hc : cd f n size q = 0 := by unfold cd; rw [if_neg h1, hq, if_neg h2, if_neg (by omega)]
        have hfq : f q = none := by simpa using h2
        have hnq : n ≤ q := by
          rcases Nat.lt_or_ge q n with hlt | hge
          · exact absurd hfq (h.low q (by omega) hlt)
          · exact hge
        refine (rtake_ok h q a cap l hr hlen hnq (by omega) (by omega) hfq).mono ?_
        rintro e w' ⟨n', vo, rfl, ⟨v', L', G', vs, k1, k2, k3, k4, k5, k6, k7, k8, k9⟩, k10⟩
        rw [nf_put _ _ _ _ _ hc, hc]
        exact ⟨n', v', L', G', vo, vs, rfl, k3, k10, k1, k2, k4, k5, fun i hi => by obtain ⟨y, e1, e2, _⟩ := k6 i hi; exact ⟨y, e1, e2⟩, k8, k9⟩
/-- What is told, as lists. -/
def tld (f : Bodies) (n m : Nat) : List (List Int) := (List.range m).map fun i => (f (n + i)).getD []
theorem tld_len (f : Bodies) (n m : Nat) : (tld f n m).length = m := by simp [tld]
theorem rdl_vals {w : World} {a : Option Addr} {n m c : Nat} {vs : List Value} {f : Bodies} (ho : Own w (.slice a m c) m 1 vs) (h : ∀ i, i < vs.length → ∃ y, f (n + i) = some y ∧ OwnB w (vs.getD i undef) y) : RdL w a (tld f n m) := fun i hi => by
  rw [tld_len] at hi
  have hvl : vs.length = m := by have := ho.1; omega
  obtain ⟨y, e1, e2⟩ := h i (by omega)
  obtain ⟨ai, ci, e3, hr, hle⟩ := e2.form
  obtain ⟨g, off, ha, hc⟩ := ho.rd i (by omega)
  have e4 : (tld f n m).getD i [] = y := by
    simp [tld, List.getD_eq_getElem?_getD, hi, e1]
  rw [e4]
  exact ⟨g, off, ai, ci, ha, by rw [hc, e3], hr, hle⟩
/-- A body of the call's own is written over. -/
theorem over_own {w : World} {v : Value} {l : List Int} (h : OwnB w v l) :
    Calls Try.prog 21 #[v] w fun e w' => e = .returned (.tuple #[]) ∧ Kp (fun k => v.ownBlock = some k) w w' := by
  rcases h.own.2 with ⟨rfl, h0⟩ | ⟨g, cap, sp, rfl, hat, hsp, hle, hcm⟩
  · refine (over_nil 0 0 w rfl rfl).mono ?_
    rintro e w' ⟨rfl, rfl⟩
    exact ⟨rfl, Kp.refl _ _⟩
  · obtain ⟨cs, hcs, hp⟩ := h.blk g rfl
    have e := hat.inj hcs
    subst e
    refine (over_at g 0 l.length cap _ w hat hp (by simp [hsp]; omega) hle (by simpa [maxLen] using hcm)).mono ?_
    rintro e w' ⟨rfl, _, hk⟩
    exact ⟨rfl, hk.mono (fun i _ e => by rw [e]; rfl)⟩
/-- Behind so many things: the inbox, and the document's. -/
structure TakesS (w wr : World) (b r s : Nat) (f : Bodies) (n hd : Nat) (F : Nat → Prop) (v : Value) (L : List (Nat × Value)) (G : Nat → Prop) : Prop where
  inb : InbAt wr b s f n hd F
  ref : RefC wr r v s n L f G
  kp : Kp (fun _ => False) w wr
  fF : ∀ g, F g → w.heap.size ≤ g
  fG : ∀ g, G g → w.heap.size ≤ g
  dj : ∀ g, F g → ¬ G g
theorem TakesS.drew {w wr : World} {b r s : Nat} {f : Bodies} {n hd : Nat} {F : Nat → Prop} {v : Value} {L : List (Nat × Value)} {G : Nat → Prop} (h : TakesS w wr b r s f n hd F v L G) {w' : World} (hk : Kp (fun _ => False) wr w') : TakesS w w' b r s f n hd F v L G :=
  ⟨h.inb.kp hk (fun _ _ h => h), h.ref.kp hk (fun _ _ h => h), h.kp.trans hk, h.fF, h.fG, h.dj⟩
theorem isB_slice {a : Option Addr} {n c : Nat} (h : isB (.slice a n c)) : False := by
  obtain ⟨_, e, _⟩ := h; cases e
theorem takes_round {w w3 w4 w5 : World} {b r s : Nat} {f f' : Bodies} {n n' n2 hd hd' : Nat} {F F' : Nat → Prop} {v v' va : Value} {L L' : List (Nat × Value)} {G G' : Nat → Prop} {vs : List Value} (S3 : TakesS w w3 b r s f n hd F v L G)
    (t2 : InbAt w4 b s f' n' hd' F') (t5 : vs.length = n' - n) (t6 : Own w4 va (n' - n) 1 vs) (t7 : Told w4 f' n vs (fun g => (F g ∧ g ≠ b) ∨ w3.heap.size ≤ g) F') (t8 : ∀ g, va.ownBlock = some g → w3.heap.size ≤ g ∧ ¬ F' g) (t9 : ∀ g, F' g → F g ∨ w3.heap.size ≤ g) (t10 : Kp (· = b) w3 w4)
    (u2 : RefC w5 r v' s n2 L' f' G') (u3 : f' n2 = none) (u9 : ∀ g, G' g → G g ∨ w4.heap.size ≤ g) (u10 : Kp G w4 w5) :
    n2 = n' ∧ hd' = L'.length ∧ TakesS w w5 b r s f' n' hd' F' v' L' G' ∧ Own w5 va (n' - n) 1 vs ∧ Told w5 f' n vs (fun g => w.heap.size ≤ g ∧ ¬ G' g ∧ va.ownBlock ≠ some g) F' ∧ (∀ g, va.ownBlock = some g → w.heap.size ≤ g ∧ ¬ F' g ∧ ¬ G' g) := by
  have hw3 := S3.kp.size
  have h34 := t10.size
  have h45 := u10.size
  have hbF : F b := by obtain ⟨⟨c, hc⟩, _⟩ := S3.inb; exact hc.base
  have hn : n2 = n' := by
    obtain ⟨⟨c, hc⟩, hn'⟩ := t2
    rcases Nat.lt_trichotomy n2 n' with h | h | h
    · exact absurd u3 (hc.low n2 u2.n_bd.1 h)
    · exact h
    · exact absurd hn' (u2.low n' hc.n_bd.1 h)
  subst hn
  have hF3 : ∀ g, F g → g < w3.heap.size := fun g hg => by obtain ⟨⟨c, hc⟩, _⟩ := S3.inb; exact hc.lt g hg
  have hG3 : ∀ g, G g → g < w3.heap.size := fun g hg => S3.ref.lt g hg
  have hF4 : ∀ g, F' g → g < w4.heap.size := fun g hg => by obtain ⟨⟨c, hc⟩, _⟩ := t2; exact hc.lt g hg
  have hFG : ∀ g, F' g → ¬ G g := fun g h1 h2 => by
    rcases t9 g h1 with e | e
    · exact S3.dj g e h2
    · have := hG3 g h2; omega
  have hTG : ∀ g, ((F g ∧ g ≠ b) ∨ w3.heap.size ≤ g) → ¬ G g := fun g h1 h2 => by
    rcases h1 with e | e
    · exact S3.dj g e.1 h2
    · have := hG3 g h2; omega
  have hva : ∀ g, va.ownBlock = some g → ¬ G g := fun g h1 h2 => by have := (t8 g h1).1; have := hG3 g h2; omega
  have hK : Kp (fun _ => False) w w5 := (S3.kp.then t10 (fun i hi e => by have := S3.fF b hbF; omega)).then u10 (fun i hi e => by have := S3.fG i e; omega)
  have hva4 := t6.lt
  refine ⟨rfl, by rw [t2.cnt, u2.cnt], ⟨t2.kp u10 (fun g hg => hFG g hg), u2, hK, fun g hg => ?_, fun g hg => ?_, fun g h1 h2 => ?_⟩, t6.kp u10 hva, ⟨fun i hi => ?_, fun i g hi hg => ?_, t7.dist⟩, fun g hg => ⟨by have := (t8 g hg).1; omega, (t8 g hg).2, fun e => ?_⟩⟩
  · rcases t9 g hg with e | e
    · exact S3.fF g e
    · omega
  · rcases u9 g hg with e | e
    · exact S3.fG g e
    · omega
  · rcases u9 g h2 with e | e
    · exact hFG g h1 e
    · have := hF4 g h1; omega
  · obtain ⟨y, e1, e2⟩ := t7.own i hi
    exact ⟨y, e1, e2.kp u10 (fun g hg => hTG g (t7.blk i g hi hg).1)⟩
  · obtain ⟨e1, e2⟩ := t7.blk i g hi hg
    obtain ⟨y, _, hob⟩ := t7.own i hi
    have hlt := hob.lt g hg
    refine ⟨⟨?_, fun e => ?_, fun e => ?_⟩, e2⟩
    · rcases e1 with e | e
      · exact S3.fF g e.1
      · omega
    · rcases u9 g e with e3 | e3
      · exact hTG g e1 e3
      · omega
    · obtain ⟨cs, hcs, hp⟩ := hob.blk g hg
      rcases t6.2 with ⟨e3, _⟩ | ⟨g', cap, sp, rfl, hat, _⟩
      · rw [e3] at e; simp [Value.ownBlock] at e
      · simp only [Value.ownBlock, Option.some.injEq] at e
        subst e
        have e4 := hat.inj hcs
        have hm : vs.getD i undef ∈ cs := by
          rw [← e4, List.getD_eq_getElem?_getD, List.getElem?_eq_getElem hi]
          exact List.mem_append.2 (.inl (List.getElem_mem hi))
        obtain ⟨a, c, e5, _⟩ := hob.form
        have := hp _ hm
        rw [e5] at this
        exact isB_slice this
  · rcases u9 g e with e3 | e3
    · exact hva g hg e3
    · have := hva4 g hg; omega
end Go.Proofs.Ytnigdgopmmccgaa
