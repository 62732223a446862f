/- A list of one's own of datagrams that came in; and what the first one to an end, a doubled exchange and a doubled turn come to. -/
import Derived.Test.YtgcgcdgjooaipaaNetO
import Derived.Test.YtgcgcdgjooaipaaPick
namespace Go.Proofs.Ytgcgcdgjooaipaa
open Go.RowKit
set_option linter.unusedVariables false
structure FgL (w0 w : World) (v : Value) (ds : List Nd) : Prop where
  own : Own w v ds.length 3 (dgsC ds)
  each : ∀ i, i < ds.length → ∃ a c, (nd ds i).B = .slice a (nd ds i).l.length c ∧ RdB w0 a (nd ds i).l ∧ (nd ds i).l.length ≤ c
theorem FgL.nil (w0 w : World) : FgL w0 w (.slice none 0 0) [] := ⟨Own.nil w 3, fun i h => absurd h (Nat.not_lt_zero _)⟩
theorem FgL.kp {S : Nat → Prop} {w0 w w' : World} {v : Value} {ds : List Nd} (h : FgL w0 w v ds) (k : Kp S w w') (hs : ∀ b, v.ownBlock = some b → ¬ S b) : FgL w0 w' v ds := ⟨h.own.kp k hs, h.each⟩
theorem FgL.rdd {w0 w : World} {v : Value} {ds : List Nd} (h : FgL w0 w v ds) (k : Kp (fun _ => False) w0 w) : ∃ a c, v = .slice a ds.length c ∧ ds.length ≤ c ∧ RdD w a ds := by
  obtain ⟨a, c, rfl, hc, _⟩ := h.own.form
  refine ⟨a, c, rfl, hc, fun i hi => ?_⟩
  have hl := dgsC_len ds
  have hr := h.own.rd
  obtain ⟨ai, ci, e, hrb, hci⟩ := h.each i hi
  have hg := fun j hj => dgsC_get ds i j hi hj
  have get : ∀ j u, (dgC (nd ds i).fr (nd ds i).to (nd ds i).B)[j]? = some u → j < 3 → ∃ b off, a = some ⟨b, off, none⟩ ∧ w.cell? ⟨b, off + (i * 3 + j), none⟩ = some u := fun j u hu hj => by
    obtain ⟨b, off, ha, hc⟩ := hr (i * 3 + j) (by omega)
    refine ⟨b, off, ha, ?_⟩
    rw [hc, List.getD_eq_getElem?_getD, hg j hj, hu]; rfl
  obtain ⟨b, off, ha, h0⟩ := get 0 _ rfl (by omega)
  obtain ⟨b1, o1, ha1, h1⟩ := get 1 _ rfl (by omega)
  obtain ⟨b2, o2, ha2, h2⟩ := get 2 _ rfl (by omega)
  rw [ha] at ha1 ha2
  cases ha1; cases ha2
  exact ⟨b, off, ai, ci, ha, h0, h1, by rw [e] at h2; exact h2, hrb.kp0 k (fun _ _ h => h), hci⟩
theorem FgL.app {P : Program} {w0 w : World} {v : Value} {ds : List Nd} (h : FgL w0 w v ds) {t tx ty e e' : TypeId} (ht : P.underlying t = some (.slice e)) {bytes : Nat} (he : Elem P e (.agg #[.int .i64 0, .int .i64 0, .slice none 0 0]) 3 bytes) (hk : P.underlying tx = some (.slice e')) (hbts : bytes ≤ 100)
    (d : Nd) (hd : ∃ a c, d.B = .slice a d.l.length c ∧ RdB w0 a d.l ∧ d.l.length ≤ c) (hn : ds.length ≤ 100000) {bx : Nat} (hat : At w bx (dgC d.fr d.to d.B)) :
    ∃ v' w', (Builtin.append_ #[t, tx] ty #[v, .slice (some ⟨bx, 0, none⟩) 1 1]).run P w = .ok v' w' ∧ FgL w0 w' v' (ds ++ [d]) ∧ Kp (fun k => v.ownBlock = some k) w w' ∧ (v'.ownBlock = v.ownBlock ∨ v'.ownBlock = some w.heap.size) := by
  obtain ⟨a', c', e2, hrd, hcc⟩ := hd
  obtain ⟨v', w', hr, ho, k, hb, _⟩ := run_append_at (P := P) (ty := ty) w ht he hk h.own (a := some ⟨bx, 0, none⟩) (m := 1) (c := 1) (news := dgC d.fr d.to d.B) (by simp [dgC])
    (fun i hi => ⟨bx, 0, rfl, by rw [hat.cell, Nat.zero_add, List.getD_eq_getElem?_getD, List.getElem?_eq_getElem hi]; rfl⟩)
    (fun u hu => by
      have := dgsC_one [d] (fun i hi => by obtain rfl : i = 0 := by simpa using hi
                                           exact ⟨_, _, _, e2⟩) u (by simpa [dgsC] using hu)
      exact this) (by unfold maxLen; omega) (by
        have : (ds.length + 1) * bytes ≤ 100001 * 100 := Nat.mul_le_mul (by omega) hbts
        omega)
  have hlen : (ds ++ [d]).length = ds.length + 1 := by simp
  refine ⟨v', w', hr, ⟨?_, fun i hi => ?_⟩, k, hb⟩
  · rw [hlen, dgsC_app]; simpa [dgsC] using ho
  · rw [hlen] at hi
    rcases Nat.lt_or_ge i ds.length with h1 | h1
    · rw [nd_app_lt h1]; exact h.each i h1
    · obtain rfl : i = ds.length := by omega
      rw [nd_app_at]; exact ⟨a', c', e2, hrd, hcc⟩
/-- How many bytes the first datagrams have. -/
def tot (ds : List Nd) : Nat → Nat
  | 0 => 0
  | i + 1 => tot ds i + (nd ds i).l.length
theorem tot_le (ds : List Nd) (M : Nat) (h : ∀ i, (nd ds i).l.length ≤ M) : ∀ i, tot ds i ≤ i * M
  | 0 => by simp [tot]
  | i + 1 => by have := tot_le ds M h i; have := h i; simp only [tot]; rw [Nat.add_mul]; omega
theorem tot_each (ds : List Nd) : ∀ (n i : Nat), i < n → (nd ds i).l.length ≤ tot ds n
  | 0, i, h => absurd h (Nat.not_lt_zero _)
  | n + 1, i, h => by
    simp only [tot]
    rcases Nat.lt_or_ge i n with h1 | h1
    · have := tot_each ds n i h1; omega
    · obtain rfl : i = n := by omega
      omega
/-- The first one. -/
theorem first_is (ds : List Nd) (i : Nat) (hi : i < ds.length) : ∃ p, p ≤ i ∧ firstK (ds.map dkey) (nd ds i).to 0 = (p : Nat) ∧ (nd ds p).to = (nd ds i).to ∧ ∀ j, j < p → (nd ds j).to ≠ (nd ds i).to := by
  have least : ∀ n, (nd ds n).to = (nd ds i).to → ∃ p, p ≤ n ∧ (nd ds p).to = (nd ds i).to ∧ ∀ j, j < p → (nd ds j).to ≠ (nd ds i).to := fun n => by
    induction n using Nat.strongRecOn with
    | _ n ih =>
      intro hn
      by_cases hk : ∃ k, k < n ∧ (nd ds k).to = (nd ds i).to
      · obtain ⟨k, hk1, hk2⟩ := hk
        obtain ⟨p, h1, h2⟩ := ih k hk1 hk2
        exact ⟨p, by omega, h2⟩
      · exact ⟨n, Nat.le_refl _, hn, fun j hj e => hk ⟨j, hj, e⟩⟩
  obtain ⟨p, h1, h2, h3⟩ := least i rfl
  refine ⟨p, h1, ?_, h2, h3⟩
  rw [← firstOf_key, firstOf_at ds _ 0 p (by omega) h3 h2]; simp
theorem sg_comm (i k j : Nat) : sg k i j = sg i k j := by
  unfold sg
  by_cases h1 : j = i <;> by_cases h2 : j = k
  · rw [if_pos h1, if_pos h2]; omega
  · rw [if_pos h1, if_neg h2, if_pos h1]
  · rw [if_neg h1, if_pos h2, if_pos h2]
  · rw [if_neg h1, if_neg h2, if_neg h2, if_neg h1]
theorem keys_ext {ds es : List Nd} (hl : ds.length = es.length) (h : ∀ i, i < ds.length → dkey (nd ds i) = dkey (nd es i)) : ds.map dkey = es.map dkey := by
  apply List.ext_getElem?
  intro i
  rw [List.getElem?_map, List.getElem?_map]
  by_cases hi : i < ds.length
  · have := h i hi
    unfold nd at this
    rw [List.getD_eq_getElem?_getD, List.getD_eq_getElem?_getD, List.getElem?_eq_getElem hi, List.getElem?_eq_getElem (show i < es.length by omega)] at this
    rw [List.getElem?_eq_getElem hi, List.getElem?_eq_getElem (show i < es.length by omega)]
    simp only [Option.map_some]
    exact congrArg some this
  · rw [List.getElem?_eq_none (by omega), List.getElem?_eq_none (by omega)]
theorem swp_twice {nds : List Nd} {i k : Nat} (hi : i < nds.length) (hk : k < nds.length) : (swp (swp nds i k) k i).map dkey = nds.map dkey := by
  have hl := swp_len nds i k
  refine keys_ext (by rw [swp_len, swp_len]) (fun j hj => ?_)
  rw [nd_swp (by omega) (by omega), nd_swp hi hk, nd_swp hi hk, sg_comm i k j, sg_inv]; rfl
theorem turn_twice {l : List Int} {q : Nat} (hb : Byt l) (hq : q < 8 * l.length) : turnB (turnB l q) q = l := by
  have hbd := hb.getD (q / 8)
  have hfl := flip_bd (k := q % 8) hbd (by omega)
  have hq8 : q / 8 < l.length := by omega
  unfold turnB
  have e1 : (l.set (q / 8) (flipB (l.getD (q / 8) 0) (q % 8))).getD (q / 8) 0 = flipB (l.getD (q / 8) 0) (q % 8) := by
    rw [List.getD_eq_getElem?_getD, List.getElem?_set_self (by omega)]; rfl
  rw [e1, hfl.2.2, List.set_set]
  apply List.ext_getElem?
  intro j
  rw [List.getElem?_set]
  by_cases hj : q / 8 = j
  · subst hj
    rw [if_pos rfl, if_pos hq8, List.getD_eq_getElem?_getD, List.getElem?_eq_getElem hq8]; rfl
  · rw [if_neg hj]
/-- Swap, of two that there are. -/
theorem st_swap {w0 w : World} {nb mb N : Nat} {nds : List Nd} {lost : Int} {f : Value → Bool} (h : St w0 w nb mb nds lost N f) (p q : Nat) (hp : p < nds.length) (hq : q < nds.length) :
    Calls Try.prog 16 #[.pointer (some ⟨nb, 0, none⟩), .int .i64 p, .int .i64 q] w fun e w' => e = .returned (.int .i64 0) ∧ St w0 w' nb mb (swp nds p q) lost N f ∧ Stp nb mb nds w (swp nds p q) w' := by
  refine (swap_w h.n p q).mono ?_
  rintro e w' ⟨nds', hn, hs, (⟨ht, _⟩ | ⟨p', q', e1, e2, _, _, rfl, rfl⟩)⟩
  · simp only [Bool.and_eq_false_iff] at ht
    rcases ht with ht | ht <;> have := there_no ht <;> omega
  · obtain rfl : p' = p := by omega
    obtain rfl : q' = q := by omega
    exact ⟨rfl, h.step hs hn, hs⟩
theorem st_turn {w0 w : World} {nb mb N : Nat} {nds : List Nd} {lost : Int} {f : Value → Bool} (h : St w0 w nb mb nds lost N f) (p q : Nat) (hp : p < nds.length) (hq : q < 8 * (nd nds p).l.length) :
    Calls Try.prog 17 #[.pointer (some ⟨nb, 0, none⟩), .int .i64 p, .int .i64 q] w fun e w' => e = .returned (.int .i64 0) ∧ ∃ nds', St w0 w' nb mb nds' lost N f ∧ Stp nb mb nds w nds' w' ∧ nds' = nds.set p ⟨(nd nds p).g, (nd nds p).fr, (nd nds p).to, (nd nds p).B, turnB (nd nds p).l q⟩ := by
  have hl := h.n.lens p hp
  refine (turn_w h.n p q (by omega)).mono ?_
  rintro e w' ⟨nds', hn, hs, (⟨ht, _⟩ | ⟨k, hk, hk2, ht, _⟩ | ⟨k, q', hk, hq', hk2, _, rfl, rfl⟩)⟩
  · have := there_no ht; omega
  · obtain rfl : k = p := by omega
    omega
  · obtain rfl : k = p := by omega
    obtain rfl : q' = q := by omega
    exact ⟨rfl, _, h.step hs hn, hs, rfl⟩
/-- Send, of whatever comes: it goes on its way, or is refused. -/
theorem st_send_gen {w0 w : World} {nb mb : Nat} {nds : List Nd} (h : St w0 w nb mb nds 0 0 (fun _ => false)) (fr to : Int) (a : Option Addr) (n cap : Nat) (l : List Int) (hln : l.length = n) (hb : RdB w a l) (hk : nds.length < 2000) :
    Calls Try.prog 11 #[.pointer (some ⟨nb, 0, none⟩), .agg #[.int .i64 fr, .int .i64 to, .slice a n cap]] w fun e w' => ∃ r nds', e = .returned (.int .i64 r) ∧ St w0 w' nb mb nds' 0 0 (fun _ => false) ∧ Stp nb mb nds w nds' w' ∧
      ((r == 0) = true ∧ nds'.map dkey = nds.map dkey ++ [(fr, to, l)] ∨ (r == 0) = false ∧ nds'.map dkey = nds.map dkey) := by
  subst hln
  refine (send_w h.n (by omega) fr to a cap l hb).mono ?_
  rintro e w' ⟨nds', lost', r, rfl, hn, hs, he⟩
  have hkl : (nds.map dkey).length < 2000 := by rw [List.length_map]; exact hk
  unfold sendS at he
  by_cases h1 : (isEnd fr && isEnd to) = true
  · rw [if_pos h1] at he
    by_cases h2 : 1500 < l.length
    · rw [if_pos h2] at he
      simp only [Prod.mk.injEq] at he
      obtain ⟨rfl, e2, rfl⟩ := he
      exact ⟨_, _, rfl, h.step hs hn, hs, .inr ⟨rfl, e2⟩⟩
    · rw [if_neg h2, if_neg (by simp), if_neg (by omega)] at he
      simp only [Prod.mk.injEq] at he
      obtain ⟨rfl, e2, rfl⟩ := he
      exact ⟨_, _, rfl, h.step hs hn, hs, .inl ⟨rfl, e2⟩⟩
  · rw [if_neg h1] at he
    simp only [Prod.mk.injEq] at he
    obtain ⟨rfl, e2, rfl⟩ := he
    exact ⟨_, _, rfl, h.step hs hn, hs, .inr ⟨rfl, e2⟩⟩
end Go.Proofs.Ytgcgcdgjooaipaa
