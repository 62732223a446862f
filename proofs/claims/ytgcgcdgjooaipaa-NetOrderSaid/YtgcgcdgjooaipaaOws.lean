/- NetOrder's state: a net of its own, and the datagrams that it took. (Written by wip/netorder.py.) -/
import Derived.Test.YtgcgcdgjooaipaaFgl
import Derived.Test.YtgcgcdgjooaipaaSdg
namespace Go.Proofs.Ytgcgcdgjooaipaa
open Go.RowKit
set_option linter.unusedVariables false
structure Ow (w wr : World) (nb mb : Nat) (v : Value) (ds nds : List Nd) : Prop where
  st : St w wr nb mb nds 0 0 (fun _ => false)
  fg : FgL w wr v ds
  ap : ∀ b, v.ownBlock = some b → ¬ (Mine nb nds b ∨ b = mb)
  ge : ∀ b, v.ownBlock = some b → w.heap.size ≤ b
section
variable {w wr w' : World} {nb mb : Nat} {v : Value} {ds nds nds' : List Nd} {p q : Nat}
theorem Ow.kp0 (h : Ow w wr nb mb v ds nds) (k : Kp (fun _ => False) wr w') : Ow w w' nb mb v ds nds := ⟨h.st.kp0 k, h.fg.kp k (fun _ _ h => h), h.ap, h.ge⟩
theorem Ow.step (h : Ow w wr nb mb v ds nds) (hs : Stp nb mb nds wr nds' w') (st' : St w w' nb mb nds' 0 0 (fun _ => false)) : Ow w w' nb mb v ds nds' :=
  ⟨st', h.fg.kp hs.1 h.ap, fun b hb hm => by
    have hlt := h.fg.own.lt b hb
    rcases hm with hm | hm
    · rcases hs.2 b hm with hm | hm
      · exact h.ap b hb (.inl hm)
      · omega
    · exact h.ap b hb (.inr hm), h.ge⟩
theorem ow_send (h : Ow w wr nb mb v ds nds) (fr to : Int) (a : Option Addr) (n cap : Nat) (l : List Int) (hln : l.length = n) (hb : RdB wr a l) (hk : nds.length < 2000) :
    Calls Try.prog 11 #[.pointer (some ⟨nb, 0, none⟩), .agg #[.int .i64 fr, .int .i64 to, .slice a n cap]] wr fun e w' => ∃ r nds', e = .returned (.int .i64 r) ∧ Ow w w' nb mb v ds nds' ∧
      ((r == 0) = true ∧ nds'.map dkey = nds.map dkey ++ [(fr, to, l)] ∨ (r == 0) = false ∧ nds'.map dkey = nds.map dkey) := by
  refine (st_send_gen h.st fr to a n cap l hln hb hk).mono ?_
  rintro e w' ⟨r, nds', rfl, hS, hs, hd⟩
  exact ⟨r, nds', rfl, h.step hs hS, hd⟩
theorem ow_waiting (h : Ow w wr nb mb v ds nds) (hk : nds.map dkey = ds.map dkey) (n : Nat) (hn : n = ds.length) :
    Calls Try.prog 13 #[.pointer (some ⟨nb, 0, none⟩)] wr fun e w' => ∃ A C es, e = .returned (.slice A n C) ∧ RdD w' A es ∧ es.map dkey = ds.map dkey ∧ Kp (fun _ => False) wr w' := by
  refine (st_waiting h.st).mono ?_
  rintro e w' ⟨A, C, es, rfl, _, hr, hk', _, k⟩
  have hl : nds.length = n := by have := congrArg List.length hk; simp only [List.length_map] at this; omega
  rw [hl]
  exact ⟨A, C, es, rfl, hr, hk'.trans hk, k⟩
theorem ow_same (h : Ow w wr nb mb v ds nds) {a A : Option Addr} {n c C : Nat} {es : List Nd} (hv : v = .slice a n c) (hr : RdD wr A es) (hk : es.map dkey = ds.map dkey) (hn : n = ds.length) (hb : ds.length ≤ 100000) :
    Calls Try.prog 12 #[.slice A n C, .slice a n c] wr fun e w' => e = .returned (.bool true) ∧ Kp (fun _ => False) wr w' := by
  obtain ⟨a', c', e2, _, hrd⟩ := h.fg.rdd h.st.k
  rw [hv] at e2
  cases e2
  have hl : es.length = ds.length := by simpa using congrArg List.length hk
  exact samedg_n A a _ _ C c es ds wr hr hrd hk (by omega) hl rfl
theorem ow_swap (h : Ow w wr nb mb v ds nds) (p q : Nat) (hp : p < nds.length) (hq : q < nds.length) :
    Calls Try.prog 16 #[.pointer (some ⟨nb, 0, none⟩), .int .i64 p, .int .i64 q] wr fun e w' => e = .returned (.int .i64 0) ∧ Ow w w' nb mb v ds (swp nds p q) := by
  refine (st_swap h.st p q hp hq).mono ?_
  rintro e w' ⟨rfl, hS, hs⟩
  exact ⟨rfl, h.step hs hS⟩
def trn (nds : List Nd) (p q : Nat) : List Nd := nds.set p ⟨(nd nds p).g, (nd nds p).fr, (nd nds p).to, (nd nds p).B, turnB (nd nds p).l q⟩
theorem trn_len (nds : List Nd) (p q : Nat) : (trn nds p q).length = nds.length := by simp [trn]
theorem nd_trn {nds : List Nd} {p q : Nat} (hp : p < nds.length) (j : Nat) : nd (trn nds p q) j = if p = j then ⟨(nd nds p).g, (nd nds p).fr, (nd nds p).to, (nd nds p).B, turnB (nd nds p).l q⟩ else nd nds j := by
  unfold trn
  show (List.set _ _ _).getD j default = _
  rw [List.getD_eq_getElem?_getD, List.getElem?_set]
  by_cases e : p = j
  · subst e; rw [if_pos rfl, if_pos rfl, if_pos hp]; rfl
  · rw [if_neg e, if_neg e]; rfl
theorem ow_turn (h : Ow w wr nb mb v ds nds) (p q : Nat) (hp : p < nds.length) (hq : q < 8 * (nd nds p).l.length) :
    Calls Try.prog 17 #[.pointer (some ⟨nb, 0, none⟩), .int .i64 p, .int .i64 q] wr fun e w' => e = .returned (.int .i64 0) ∧ Ow w w' nb mb v ds (trn nds p q) := by
  refine (st_turn h.st p q hp hq).mono ?_
  rintro e w' ⟨rfl, nds', hS, hs, rfl⟩
  exact ⟨rfl, h.step hs hS⟩
theorem turnB_len (l : List Int) (q : Nat) : (turnB l q).length = l.length := by simp [turnB]
theorem trn_twice {nds : List Nd} {p q : Nat} (hp : p < nds.length) (hq : q < 8 * (nd nds p).l.length) (hb : Byt (nd nds p).l) : (trn (trn nds p q) p q).map dkey = nds.map dkey := by
  refine keys_ext (by rw [trn_len, trn_len]) (fun j hj => ?_)
  rw [nd_trn (by rw [trn_len]; exact hp)]
  by_cases e : p = j
  · subst e
    rw [if_pos rfl, nd_trn hp, if_pos rfl]
    simp only [dkey, turn_twice hb hq]
  · rw [if_neg e, nd_trn hp, if_neg e]
theorem ow_first (h : Ow w wr nb mb v ds nds) (hk : nds.map dkey = ds.map dkey) (z : Nat) (t : Int) (hz : firstK (ds.map dkey) t 0 = (z : Nat)) :
    Calls Try.prog 14 #[.pointer (some ⟨nb, 0, none⟩), .int .i64 t] wr fun e w' => e = .returned (.int .i64 z) ∧ Ow w w' nb mb v ds nds := by
  refine (st_first h.st _).mono ?_
  rintro e w' ⟨rfl, k⟩
  rw [hk, hz]
  exact ⟨rfl, h.kp0 k⟩
theorem ow_first0 (h : Ow w wr nb mb v ds nds) (hk : nds.map dkey = ds.map dkey) (hz : ds.length = 0) :
    Calls Try.prog 14 #[.pointer (some ⟨nb, 0, none⟩), .int .i64 0] wr fun e w' => e = .returned (.int .i64 (-1)) ∧ Ow w w' nb mb v ds nds := by
  refine (st_first h.st _).mono ?_
  rintro e w' ⟨rfl, k⟩
  have e0 := List.eq_nil_of_length_eq_zero hz
  subst e0
  rw [hk]
  exact ⟨rfl, h.kp0 k⟩
theorem ow_swap_back (h : Ow w wr nb mb v ds (swp nds p q)) (hp : p < nds.length) (hq : q < nds.length) :
    Calls Try.prog 16 #[.pointer (some ⟨nb, 0, none⟩), .int .i64 q, .int .i64 p] wr fun e w' => e = .returned (.int .i64 0) ∧ ∃ nds', Ow w w' nb mb v ds nds' ∧ nds'.map dkey = nds.map dkey := by
  refine (ow_swap h q p (by rw [swp_len]; exact hq) (by rw [swp_len]; exact hp)).mono ?_
  rintro e w' ⟨rfl, hO⟩
  exact ⟨rfl, _, hO, swp_twice hp hq⟩
theorem ow_turn_back (h : Ow w wr nb mb v ds (trn nds p q)) (hp : p < nds.length) (hq : q < 8 * (nd nds p).l.length) (hb : Byt (nd nds p).l) :
    Calls Try.prog 17 #[.pointer (some ⟨nb, 0, none⟩), .int .i64 p, .int .i64 q] wr fun e w' => e = .returned (.int .i64 0) ∧ ∃ nds', Ow w w' nb mb v ds nds' ∧ nds'.map dkey = nds.map dkey := by
  refine (ow_turn h p q (by rw [trn_len]; exact hp) (by rw [nd_trn hp, if_pos rfl]; show _ < 8 * (turnB _ _).length; rw [turnB_len]; exact hq)).mono ?_
  rintro e w' ⟨rfl, hO⟩
  exact ⟨rfl, _, hO, trn_twice hp hq hb⟩
theorem Ow.cells {b o n c : Nat} (h : Ow w wr nb mb (.slice (some ⟨b, o, none⟩) n c) ds nds) (i : Nat) (hi : i < ds.length) : ∃ A C, wr.cell? ⟨b, o + i * 3, none⟩ = some (.int .i64 (nd ds i).fr) ∧ wr.cell? ⟨b, o + i * 3 + 1, none⟩ = some (.int .i64 (nd ds i).to) ∧ wr.cell? ⟨b, o + i * 3 + 2, none⟩ = some (.slice A (nd ds i).l.length C) := by
  obtain ⟨a', c', e2, _, hrd⟩ := h.fg.rdd h.st.k
  cases e2
  obtain ⟨b', o', A, C, e, h0, h1, h2, _⟩ := hrd i hi
  cases e
  exact ⟨A, C, h0, h1, h2⟩
theorem Ow.addr {a : Option Addr} {n c : Nat} (h : Ow w wr nb mb (.slice a n c) ds nds) (hp : 0 < ds.length) : ∃ b o, a = some ⟨b, o, none⟩ := by
  obtain ⟨a', c', e2, _, hrd⟩ := h.fg.rdd h.st.k
  cases e2
  obtain ⟨b', o', A, C, e, _⟩ := hrd 0 hp
  exact ⟨b', o', e⟩
theorem ow_app (h : Ow w wr nb mb v ds nds) (fr to : Int) (a : Option Addr) (n c : Nat) (l : List Int) (hln : l.length = n) (hb : RdB w a l) (hc : n ≤ c) (hn : ds.length ≤ 100000) :
    ∃ v' w', (Builtin.append_ #[22, 22] 22 #[v, .slice (some ⟨wr.heap.size, 0, none⟩) 1 1]).run Try.prog (wr.alloc (.cells #[.int .i64 fr, .int .i64 to, .slice a n c] 28)) = .ok v' w' ∧
      Ow w w' nb mb v' (ds ++ [⟨0, fr, to, .slice a n c, l⟩]) nds := by
  subst hln
  have ka := (Kp.refl (fun _ => False) wr).alloc (.cells #[.int .i64 fr, .int .i64 to, .slice a l.length c] 28)
  have h1 := h.kp0 ka
  obtain ⟨v', w', hr, hf, k, hb2⟩ := h1.fg.app (P := Try.prog) (t := 22) (tx := 22) (ty := 22) Try.underlying22 elem_dg Try.underlying22 (by omega) ⟨0, fr, to, .slice a l.length c, l⟩ ⟨a, c, rfl, hb, hc⟩ hn (At.new wr (dgC fr to (.slice a l.length c)) _)
  have hkw := h1.st.k
  have hsw := hkw.size
  refine ⟨v', w', hr, ⟨⟨h1.st.n.kp k (fun b hb e => h1.ap b e hb), h1.st.ge, h1.st.k.then k (fun i hi e => by have := h1.ge i e; omega)⟩, hf, fun b hb3 hm => ?_, fun b hb3 => ?_⟩⟩
  · rcases hb2 with e | e
    · exact h1.ap b (e ▸ hb3) hm
    · rw [e] at hb3
      cases hb3
      rcases hm with hm | hm
      · exact Nat.lt_irrefl _ (h1.st.n.c.lt hm)
      · have := h1.st.n.s.lt; omega
  · rcases hb2 with e | e
    · exact h1.ge b (e ▸ hb3)
    · rw [e] at hb3
      cases hb3
      omega
theorem ow_new (h : St w wr nb mb [] 0 0 (fun _ => false)) : Ow w wr nb mb (.slice none 0 0) [] [] := ⟨h, FgL.nil _ _, fun b hb => by simp [Value.ownBlock] at hb, fun b hb => by simp [Value.ownBlock] at hb⟩
end
end Go.Proofs.Ytgcgcdgjooaipaa
