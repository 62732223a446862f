/- NetKeeps' state: a net of its own, and what was sent. (Written by wip/netkeeps.py.) -/
import Derived.Test.YtgcgcdgjooaipaaAmong
import Derived.Test.YtgcgcdgjooaipaaFgl
namespace Go.Proofs.Ytgcgcdgjooaipaa
open Go.RowKit
set_option linter.unusedVariables false
structure Kn (w wr : World) (nb mb : Nat) (v : Value) (es nds : List Nd) (lost : Int) (N : Nat) (f : Value → Bool) (b : Bool) : Prop where
  st : St w wr nb mb nds lost N f
  fg : FgL w wr v es
  ap : ∀ g, v.ownBlock = some g → ¬ (Mine nb nds g ∨ g = mb)
  ge : ∀ g, v.ownBlock = some g → w.heap.size ≤ g
  inv : ∀ j, j < nds.length → ∃ p, p < es.length ∧ amongS es b (nd nds j).fr (nd nds j).to (nd nds j).l p
section
variable {w wr w' : World} {nb mb N : Nat} {v : Value} {es nds nds' : List Nd} {lost lost' : Int} {f f' : Value → Bool} {b : Bool}
theorem Kn.kp0 (h : Kn w wr nb mb v es nds lost N f b) (k : Kp (fun _ => False) wr w') : Kn w w' nb mb v es nds lost N f b := ⟨h.st.kp0 k, h.fg.kp k (fun _ _ h => h), h.ap, h.ge, h.inv⟩
theorem Kn.step (h : Kn w wr nb mb v es nds lost N f b) {N' : Nat} {b' : Bool} (hs : Stp nb mb nds wr nds' w') (hn : NetW w' nb mb nds' lost' N' f') (hi : ∀ j, j < nds'.length → ∃ p, p < es.length ∧ amongS es b' (nd nds' j).fr (nd nds' j).to (nd nds' j).l p) : Kn w w' nb mb v es nds' lost' N' f' b' :=
  ⟨h.st.step hs hn, h.fg.kp hs.1 h.ap, fun g hg hm => by
    have hlt := h.fg.own.lt g hg
    rcases hm with hm | hm
    · rcases hs.2 g hm with hm | hm
      · exact h.ap g hg (.inl hm)
      · omega
    · exact h.ap g hg (.inr hm), h.ge, hi⟩
theorem Kn.erase (h : Kn w wr nb mb v es nds lost N f b) {k : Nat} (hk : k < nds.length) : ∀ j, j < (nds.eraseIdx k).length → ∃ p, p < es.length ∧ amongS es b (nd (nds.eraseIdx k) j).fr (nd (nds.eraseIdx k) j).to (nd (nds.eraseIdx k) j).l p := fun j hj => by
  rw [List.length_eraseIdx_of_lt hk] at hj
  rw [nd_erase hk j]
  split
  · exact h.inv j (by omega)
  · exact h.inv (j + 1) (by omega)
theorem kn_take (h : Kn w wr nb mb v es nds lost N f b) (i : Int) :
    Calls Try.prog 24 #[.pointer (some ⟨nb, 0, none⟩), .int .i64 i] wr fun e w' => ∃ (fr tt : Int) (a : Option Addr) (n c : Nat) (r : Int) (nds' : List Nd), e = .returned (.tuple #[.agg #[.int .i64 fr, .int .i64 tt, .slice a n c], .int .i64 r]) ∧ Kn w w' nb mb v es nds' lost N f b ∧
      ((r == 0) = false ∧ nds'.length = nds.length ∨ (r == 0) = true ∧ nds.length = nds'.length + 1 ∧ ∃ l, RdB w' a l ∧ n = l.length ∧ n ≤ 1500 ∧ ∃ p, p < es.length ∧ amongS es b fr tt l p) := by
  refine (take_w h.st.n i).mono ?_
  rintro e w' ⟨nds', hn, hs, (⟨_, rfl, rfl, _⟩ | ⟨k, _, hk, rfl, rfl, ho, _⟩)⟩
  · exact ⟨_, _, _, _, _, _, _, rfl, h.step hs hn h.inv, .inl ⟨rfl, rfl⟩⟩
  · obtain ⟨a, c, e, hr, _⟩ := ho.form
    rw [e]
    exact ⟨_, _, _, _, _, _, _, rfl, h.step hs hn (h.erase hk), .inr ⟨rfl, by rw [List.length_eraseIdx_of_lt hk]; omega, _, hr, rfl, h.st.n.lens k hk, h.inv k hk⟩⟩
theorem kn_drop (h : Kn w wr nb mb v es nds lost N f b) (hlo : 0 ≤ lost ∧ lost ≤ 10000) (i : Int) :
    Calls Try.prog 23 #[.pointer (some ⟨nb, 0, none⟩), .int .i64 i] wr fun e w' => ∃ (r : Int) (nds' : List Nd) (lost' : Int), e = .returned (.int .i64 r) ∧ Kn w w' nb mb v es nds' lost' N f b ∧ lost' + nds'.length = lost + nds.length ∧ lost ≤ lost' := by
  refine (drop_w h.st.n hlo i).mono ?_
  rintro e w' ⟨nds', lost', hn, hs, (⟨_, rfl, rfl, rfl⟩ | ⟨k, _, hk, rfl, rfl, rfl⟩)⟩
  · exact ⟨_, _, _, rfl, h.step hs hn h.inv, rfl, Int.le_refl _⟩
  · exact ⟨_, _, _, rfl, h.step hs hn (h.erase hk), by rw [List.length_eraseIdx_of_lt hk]; omega, by omega⟩
theorem kn_copy (h : Kn w wr nb mb v es nds lost N f b) (i : Int) :
    Calls Try.prog 29 #[.pointer (some ⟨nb, 0, none⟩), .int .i64 i] wr fun e w' => ∃ (r : Int) (nds' : List Nd), e = .returned (.int .i64 r) ∧ Kn w w' nb mb v es nds' lost N f b ∧ ((r == 0) = false ∧ nds'.length = nds.length ∨ (r == 0) = true ∧ nds'.length = nds.length + 1) := by
  refine (copy_w h.st.n i).mono ?_
  rintro e w' ⟨nds', hn, hs, (⟨_, rfl, rfl⟩ | ⟨k, _, _, _, rfl, rfl⟩ | ⟨k, d, _, hk, _, rfl, hd, rfl⟩)⟩
  · exact ⟨_, _, rfl, h.step hs hn h.inv, .inl ⟨rfl, rfl⟩⟩
  · exact ⟨_, _, rfl, h.step hs hn h.inv, .inl ⟨rfl, rfl⟩⟩
  · refine ⟨_, _, rfl, h.step hs hn (fun j hj => ?_), .inr ⟨rfl, by simp⟩⟩
    rw [List.length_append, List.length_singleton] at hj
    by_cases h1 : j < nds.length
    · rw [nd_app_lt h1]; exact h.inv j h1
    · obtain rfl : j = nds.length := by omega
      rw [nd_app_at]
      simp only [dkey, Prod.mk.injEq] at hd
      rw [hd.1, hd.2.1, hd.2.2]; exact h.inv k hk
theorem nd_put {nds : List Nd} {k : Nat} {d : Nd} (hk : k < nds.length) (j : Nat) : nd (nds.set k d) j = if k = j then d else nd nds j := by
  unfold nd
  rw [List.getD_eq_getElem?_getD, List.getElem?_set]
  by_cases e : k = j
  · subst e; rw [if_pos rfl, if_pos rfl, if_pos hk]; rfl
  · rw [if_neg e, if_neg e, List.getD_eq_getElem?_getD]
theorem amongS.up {es : List Nd} {b : Bool} {fr tt : Int} {l : List Int} {k : Nat} (h : amongS es b fr tt l k) : amongS es true fr tt l k := ⟨h.1, h.2.1, by
  rcases h.2.2 with h | h
  · exact .inl h
  · exact .inr ⟨rfl, h.2⟩⟩
theorem amongS.len {es : List Nd} {b : Bool} {fr tt : Int} {l : List Int} {k : Nat} (h : amongS es b fr tt l k) : (nd es k).l.length = l.length := by
  rcases h.2.2 with h | h
  · rw [h]
  · exact h.2
theorem kn_turn (h : Kn w wr nb mb v es nds lost N f b) (i bit : Int) (hw : i64in bit) :
    Calls Try.prog 17 #[.pointer (some ⟨nb, 0, none⟩), .int .i64 i, .int .i64 bit] wr fun e w' => ∃ (r : Int) (nds' : List Nd), e = .returned (.int .i64 r) ∧ nds'.length = nds.length ∧ ((r == 0) = false ∧ Kn w w' nb mb v es nds' lost N f b ∨ (r == 0) = true ∧ Kn w w' nb mb v es nds' lost N f true) := by
  refine (turn_w h.st.n i bit hw).mono ?_
  rintro e w' ⟨nds', hn, hs, (⟨_, rfl, rfl⟩ | ⟨k, _, _, _, rfl, rfl⟩ | ⟨k, q, _, _, hk, _, rfl, rfl⟩)⟩
  · exact ⟨_, _, rfl, rfl, .inl ⟨rfl, h.step hs hn h.inv⟩⟩
  · exact ⟨_, _, rfl, rfl, .inl ⟨rfl, h.step hs hn h.inv⟩⟩
  · refine ⟨_, _, rfl, by simp, .inr ⟨rfl, h.step hs hn (fun j hj => ?_)⟩⟩
    rw [List.length_set] at hj
    obtain ⟨p, h1, h2⟩ := h.inv j hj
    refine ⟨p, h1, ?_⟩
    rw [nd_put hk]
    by_cases e : k = j
    · subst e
      rw [if_pos rfl]
      exact ⟨h2.1, h2.2.1, .inr ⟨rfl, by rw [h2.len]; simp [turnB]⟩⟩
    · rw [if_neg e]; exact h2.up
theorem kn_swap (h : Kn w wr nb mb v es nds lost N f b) (i k : Int) :
    Calls Try.prog 16 #[.pointer (some ⟨nb, 0, none⟩), .int .i64 i, .int .i64 k] wr fun e w' => ∃ (r : Int) (nds' : List Nd), e = .returned (.int .i64 r) ∧ Kn w w' nb mb v es nds' lost N f b ∧ nds'.length = nds.length := by
  refine (swap_w h.st.n i k).mono ?_
  rintro e w' ⟨nds', hn, hs, (⟨_, rfl, rfl⟩ | ⟨p, q, _, _, hp, hq, rfl, rfl⟩)⟩
  · exact ⟨_, _, rfl, h.step hs hn h.inv, rfl⟩
  · refine ⟨_, _, rfl, h.step hs hn (fun j hj => ?_), swp_len _ _ _⟩
    rw [swp_len] at hj
    rw [nd_swp hp hq]
    exact h.inv _ (sg_lt hp hq hj)
theorem kn_cut (h : Kn w wr nb mb v es nds lost N f b) (hN : N ≤ 10000) (i k : Int) (is : Bool) :
    Calls Try.prog 18 #[.pointer (some ⟨nb, 0, none⟩), .int .i64 i, .int .i64 k, .bool is] wr fun e w' => ∃ (r : Int) (f' : Value → Bool), e = .returned (.int .i64 r) ∧ Kn w w' nb mb v es nds lost (N + 1) f' b := by
  refine (cut_w h.st.n hN i k is).mono ?_
  rintro e w' ⟨f', hn, hs, (⟨_, _, rfl⟩ | ⟨_, _, _, rfl⟩)⟩
  · exact ⟨_, _, rfl, h.step hs hn h.inv⟩
  · exact ⟨_, _, rfl, h.step hs hn h.inv⟩
theorem amongS.app {es : List Nd} {d : Nd} {b : Bool} {fr tt : Int} {l : List Int} {k : Nat} (h : amongS es b fr tt l k) (hk : k < es.length) : amongS (es ++ [d]) b fr tt l k := by
  unfold amongS
  rw [nd_app_lt hk]; exact h
/-- What is known of keys is known of what has them. -/
theorem inv_keys {es nds nds' : List Nd} {b : Bool} (hk : nds'.map dkey = nds.map dkey) (h : ∀ j, j < nds.length → ∃ p, p < es.length ∧ amongS es b (nd nds j).fr (nd nds j).to (nd nds j).l p) : ∀ j, j < nds'.length → ∃ p, p < es.length ∧ amongS es b (nd nds' j).fr (nd nds' j).to (nd nds' j).l p := fun j hj => by
  obtain ⟨h1, h2⟩ := key_at hk.symm
  obtain ⟨e1, e2, e3⟩ := h2 j
  rw [e1, e2, e3]
  exact h j (by omega)
theorem app_gen (h_st : St w wr nb mb nds lost N f) (h_fg : FgL w wr v es) (h_ap : ∀ g, v.ownBlock = some g → ¬ (Mine nb nds g ∨ g = mb)) (h_ge : ∀ g, v.ownBlock = some g → w.heap.size ≤ g) (hes : es.length ≤ 1000) (fr tt : Int) (a : Option Addr) (n c : Nat) (l : List Int) (hln : n = l.length) (hb : RdB w a l) (hc : n ≤ c) :
    ∃ va vn vc w', (Builtin.append_ #[22, 22] 22 #[v, .slice (some ⟨wr.heap.size, 0, none⟩) 1 1]).run Try.prog (wr.alloc (.cells #[.int .i64 fr, .int .i64 tt, .slice a n c] 28)) = .ok (.slice va vn vc) w' ∧
      St w w' nb mb nds lost N f ∧ FgL w w' (.slice va vn vc) (es ++ [⟨0, fr, tt, .slice a n c, l⟩]) ∧ (∀ g, (Value.slice va vn vc).ownBlock = some g → ¬ (Mine nb nds g ∨ g = mb)) ∧ (∀ g, (Value.slice va vn vc).ownBlock = some g → w.heap.size ≤ g) := by
  subst hln
  have ka := (Kp.refl (fun _ => False) wr).alloc (.cells #[.int .i64 fr, .int .i64 tt, .slice a l.length c] 28)
  have h1st := h_st.kp0 ka
  have h1fg := h_fg.kp ka (fun _ _ h => h)
  obtain ⟨v', w', hr, hf, k, hb2⟩ := h1fg.app (P := Try.prog) (t := 22) (tx := 22) (ty := 22) Try.underlying22 elem_dg Try.underlying22 (by omega) ⟨0, fr, tt, .slice a l.length c, l⟩ ⟨a, c, rfl, hb, hc⟩ (by omega) (At.new wr (dgC fr tt (.slice a l.length c)) _)
  have hkw := h1st.k
  have hsw := hkw.size
  have hst : St w w' nb mb nds lost N f := ⟨h1st.n.kp k (fun b hb e => h_ap b e hb), h1st.ge, h1st.k.then k (fun i hi e => by have := h_ge i e; omega)⟩
  obtain ⟨va, vc, rfl, _, _⟩ := hf.rdd hst.k
  refine ⟨va, _, vc, w', hr, hst, hf, fun b hb3 hm => ?_, fun b hb3 => ?_⟩
  · rcases hb2 with e | e
    · exact h_ap b (e ▸ hb3) hm
    · rw [e] at hb3
      simp only [Option.some.injEq] at hb3
      subst hb3
      rcases hm with hm | hm
      · exact Nat.lt_irrefl _ (h1st.n.c.lt hm)
      · have := h1st.n.s.lt; omega
  · rcases hb2 with e | e
    · exact h_ge b (e ▸ hb3)
    · rw [e] at hb3
      simp only [Option.some.injEq] at hb3
      omega
theorem kn_send (h : Kn w wr nb mb v es nds lost N f b) (hlo : 0 ≤ lost ∧ lost ≤ 10000) (hes : es.length ≤ 1000) (fr tt : Int) (a : Option Addr) (n c : Nat) (l : List Int) (hln : n = l.length) (hb : RdB w a l) (hc : n ≤ c) :
    Calls Try.prog 11 #[.pointer (some ⟨nb, 0, none⟩), .agg #[.int .i64 fr, .int .i64 tt, .slice a n c]] wr fun e w' => ∃ (r : Int) (nds' : List Nd) (lost' : Int), e = .returned (.int .i64 r) ∧ lost ≤ lost' ∧ Kp (fun j => Mine nb nds j ∨ j = mb) wr w' ∧
      ((r == 0) = false ∧ lost' + nds'.length = lost + nds.length ∧ Kn w w' nb mb v es nds' lost' N f b ∨
       (r == 0) = true ∧ lost' + nds'.length = lost + nds.length + 1 ∧ ∃ va vn vc w'', (Builtin.append_ #[22, 22] 22 #[v, .slice (some ⟨w'.heap.size, 0, none⟩) 1 1]).run Try.prog (w'.alloc (.cells #[.int .i64 fr, .int .i64 tt, .slice a n c] 28)) = .ok (.slice va vn vc) w'' ∧
         Kn w w'' nb mb (.slice va vn vc) (es ++ [⟨0, fr, tt, .slice a n c, l⟩]) nds' lost' N f b) := by
  subst hln
  refine (send_w h.st.n hlo fr tt a c l (hb.kp0 h.st.k (fun _ _ h => h))).mono ?_
  rintro e w' ⟨nds', lost', r, rfl, hn, hs, he⟩
  have up : ∀ p fr' tt' l', p < es.length → amongS es b fr' tt' l' p → ∃ q, q < (es ++ [(⟨0, fr, tt, .slice a l.length c, l⟩ : Nd)]).length ∧ amongS (es ++ [⟨0, fr, tt, .slice a l.length c, l⟩]) b fr' tt' l' q := fun p _ _ _ hp hm => ⟨p, by simp; omega, hm.app hp⟩
  have good : ∀ (hi : ∀ j, j < nds'.length → ∃ p, p < (es ++ [(⟨0, fr, tt, .slice a l.length c, l⟩ : Nd)]).length ∧ amongS (es ++ [⟨0, fr, tt, .slice a l.length c, l⟩]) b (nd nds' j).fr (nd nds' j).to (nd nds' j).l p), ∃ va vn vc w'', (Builtin.append_ #[22, 22] 22 #[v, .slice (some ⟨w'.heap.size, 0, none⟩) 1 1]).run Try.prog (w'.alloc (.cells #[.int .i64 fr, .int .i64 tt, .slice a l.length c] 28)) = .ok (.slice va vn vc) w'' ∧
         Kn w w'' nb mb (.slice va vn vc) (es ++ [⟨0, fr, tt, .slice a l.length c, l⟩]) nds' lost' N f b := fun hi => by
    have hst := h.st.step hs hn
    have hap : ∀ g, v.ownBlock = some g → ¬ (Mine nb nds' g ∨ g = mb) := fun g hg hm => by
      have hlt := h.fg.own.lt g hg
      rcases hm with hm | hm
      · rcases hs.2 g hm with hm | hm
        · exact h.ap g hg (.inl hm)
        · omega
      · exact h.ap g hg (.inr hm)
    obtain ⟨va, vn, vc, w'', hrun, g1, g2, g3, g4⟩ := app_gen hst (h.fg.kp hs.1 h.ap) hap h.ge hes fr tt a l.length c l rfl hb hc
    exact ⟨va, vn, vc, w'', hrun, g1, g2, g3, g4, hi⟩
  unfold sendS at he
  by_cases h1 : (isEnd fr && isEnd tt) = true
  · rw [if_pos h1] at he
    by_cases h2 : 1500 < l.length
    · rw [if_pos h2] at he
      simp only [Prod.mk.injEq] at he
      obtain ⟨rfl, e2, rfl⟩ := he
      exact ⟨_, _, _, rfl, Int.le_refl _, hs.1, .inl ⟨rfl, by have := (key_at e2).1; omega, h.step hs hn (inv_keys e2 h.inv)⟩⟩
    · rw [if_neg h2] at he
      by_cases h3 : f (pairV fr tt) = true
      · rw [if_pos h3] at he
        simp only [Prod.mk.injEq] at he
        obtain ⟨rfl, e2, rfl⟩ := he
        exact ⟨_, _, _, rfl, by omega, hs.1, .inr ⟨rfl, by have := (key_at e2).1; omega, good (inv_keys e2 (fun j hj => by
          obtain ⟨p, hp, hm⟩ := h.inv j hj
          exact up p _ _ _ hp hm))⟩⟩
      · rw [if_neg h3] at he
        by_cases h4 : 2000 ≤ (nds.map dkey).length
        · rw [if_pos h4] at he
          simp only [Prod.mk.injEq] at he
          obtain ⟨rfl, e2, rfl⟩ := he
          exact ⟨_, _, _, rfl, Int.le_refl _, hs.1, .inl ⟨rfl, by have := (key_at e2).1; omega, h.step hs hn (inv_keys e2 h.inv)⟩⟩
        · rw [if_neg h4] at he
          simp only [Prod.mk.injEq] at he
          obtain ⟨rfl, e2, rfl⟩ := he
          have e3 : nds'.map dkey = (nds ++ [(⟨0, fr, tt, .slice a l.length c, l⟩ : Nd)]).map dkey := by rw [e2, List.map_append]; rfl
          refine ⟨_, _, _, rfl, Int.le_refl _, hs.1, .inr ⟨rfl, by have := (key_at e3).1; simp at this; omega, good (inv_keys e3 (fun j hj => ?_))⟩⟩
          rw [List.length_append, List.length_singleton] at hj
          by_cases h5 : j < nds.length
          · rw [nd_app_lt h5]
            obtain ⟨p, hp, hm⟩ := h.inv j h5
            exact up p _ _ _ hp hm
          · obtain rfl : j = nds.length := by omega
            rw [nd_app_at]
            refine ⟨es.length, by simp, ?_⟩
            unfold amongS
            rw [nd_app_at]
            exact ⟨rfl, rfl, .inl rfl⟩
  · rw [if_neg h1] at he
    simp only [Prod.mk.injEq] at he
    obtain ⟨rfl, e2, rfl⟩ := he
    exact ⟨_, _, _, rfl, Int.le_refl _, hs.1, .inl ⟨rfl, by have := (key_at e2).1; omega, h.step hs hn (inv_keys e2 h.inv)⟩⟩
theorem kn_new (h : St w wr nb mb [] 0 0 (fun _ => false)) : Kn w wr nb mb (.slice none 0 0) [] [] 0 0 (fun _ => false) false := ⟨h, FgL.nil _ _, fun b hb => by simp [Value.ownBlock] at hb, fun b hb => by simp [Value.ownBlock] at hb, fun j hj => by simp at hj⟩
end
end Go.Proofs.Ytgcgcdgjooaipaa
