/- The document's inbox (satchelref14): its object and what it means. No program in sight. -/
import Derived.Test.YtnigdgopmmccgaaInbM
namespace Go.Proofs.Ytnigdgopmmccgaa
open Go.RowKit
set_option linter.unusedVariables false
/-- The cells of what is held. -/
def hc : List (Nat × Value) → List Value
  | [] => []
  | p :: L => .int .i64 (p.1 : Int) :: p.2 :: hc L
theorem hc_len : ∀ L : List (Nat × Value), (hc L).length = L.length * 2
  | [] => rfl
  | p :: L => by rw [hc, List.length_cons, List.length_cons, hc_len L, List.length_cons]; omega
theorem hc_app : ∀ L M : List (Nat × Value), hc (L ++ M) = hc L ++ hc M
  | [], M => rfl
  | p :: L, M => by rw [List.cons_append, hc, hc_app L M]; rfl
theorem hc_take : ∀ (L : List (Nat × Value)) (i : Nat), hc (L.take i) = (hc L).take (i * 2)
  | [], i => by simp [hc]
  | p :: L, 0 => by simp [hc]
  | p :: L, i + 1 => by
    rw [List.take_succ_cons, hc, hc_take L i, hc, show (i + 1) * 2 = i * 2 + 1 + 1 by omega, List.take_succ_cons, List.take_succ_cons]
theorem hc_drop : ∀ (L : List (Nat × Value)) (i : Nat), hc (L.drop i) = (hc L).drop (i * 2)
  | [], i => by simp [hc]
  | p :: L, 0 => by simp
  | p :: L, i + 1 => by
    rw [List.drop_succ_cons, hc_drop L i, hc, show (i + 1) * 2 = i * 2 + 1 + 1 by omega, List.drop_succ_cons, List.drop_succ_cons]
theorem hc_get : ∀ (L : List (Nat × Value)) (i : Nat), i < L.length → (hc L).getD (i * 2) undef = .int .i64 ((L.getD i (0, undef)).1 : Int) ∧ (hc L).getD (i * 2 + 1) undef = (L.getD i (0, undef)).2
  | [], i, h => by simp at h
  | p :: L, 0, h => by simp [hc]
  | p :: L, i + 1, h => by
    have := hc_get L i (by simpa using h)
    rw [show (i + 1) * 2 = i * 2 + 1 + 1 by omega, hc]
    simpa using this

structure RefC (w : World) (r : Nat) (v : Value) (size n : Nat) (L : List (Nat × Value)) (f : Bodies) (G : Nat → Prop) : Prop where
  at_ : At w r [.int .i64 (size : Int), .int .i64 (n : Int), v]
  own : Own w v L.length 2 (hc L)
  vb : ∀ g, v.ownBlock = some g → G g ∧ g ≠ r
  body : ∀ p ∈ L, ∃ l, f p.1 = some l ∧ OwnB w p.2 l ∧ ∀ g, p.2.ownBlock = some g → G g ∧ g ≠ r ∧ v.ownBlock ≠ some g
  keys : ∀ p ∈ L, n ≤ p.1 ∧ p.1 < n + size
  mem : ∀ k, n ≤ k → f k ≠ none → ∃ p ∈ L, p.1 = k
  nd : (L.map (·.1)).Nodup
  cnt : L.length = cn f n size
  size_bd : 1 ≤ size ∧ size ≤ 64
  n_bd : 1 ≤ n ∧ n ≤ 2147483647
  low : ∀ k, 1 ≤ k → k < n → f k ≠ none
  zero : f 0 = none
  high : ∀ k, n + size ≤ k → f k = none
  top : ∀ k, 2147483647 ≤ k → f k = none
  base : G r
  lt : ∀ k, G k → k < w.heap.size
theorem RefC.kp {S : Nat → Prop} {w w' : World} {r : Nat} {v : Value} {size n : Nat} {L : List (Nat × Value)} {f : Bodies} {G : Nat → Prop} (h : RefC w r v size n L f G) (hk : Kp S w w') (hS : ∀ k, G k → ¬ S k) : RefC w' r v size n L f G :=
  { h with
    at_ := hk.at h.at_ (hS r h.base)
    own := h.own.kp hk (fun g hg => hS g (h.vb g hg).1)
    body := fun p hp => by
      obtain ⟨l, h1, h2, h3⟩ := h.body p hp
      exact ⟨l, h1, h2.kp hk (fun g hg => hS g (h3 g hg).1), h3⟩
    lt := fun k hk' => Nat.lt_of_lt_of_le (h.lt k hk') hk.size }
theorem RefC.len {w : World} {r : Nat} {v : Value} {size n : Nat} {L : List (Nat × Value)} {f : Bodies} {G : Nat → Prop} (h : RefC w r v size n L f G) : L.length ≤ 64 := by
  rw [h.cnt]; exact Nat.le_trans (cn_le f n size) h.size_bd.2
/-- Where a number's body is held. -/
theorem RefC.find {w : World} {r : Nat} {v : Value} {size n : Nat} {L : List (Nat × Value)} {f : Bodies} {G : Nat → Prop} (h : RefC w r v size n L f G) {k : Nat} (hn : n ≤ k) (hf : f k ≠ none) :
    ∃ i, i < L.length ∧ (L.getD i (0, undef)).1 = k ∧ ∀ j, j < L.length → (L.getD j (0, undef)).1 = k → j = i := by
  obtain ⟨p, hp, rfl⟩ := h.mem k hn hf
  obtain ⟨i, hi, rfl⟩ := List.getElem_of_mem hp
  refine ⟨i, hi, by rw [List.getD_eq_getElem?_getD, List.getElem?_eq_getElem hi]; rfl, fun j hj e => ?_⟩
  rw [List.getD_eq_getElem?_getD, List.getElem?_eq_getElem hj] at e
  have hnd := h.nd
  rw [List.nodup_iff_pairwise_ne, List.pairwise_iff_getElem] at hnd
  rcases Nat.lt_trichotomy i j with hlt | heq | hgt
  · exact absurd (by rw [List.getElem_map, List.getElem_map]; exact e.symm) (hnd i j (by simpa using hi) (by simpa using hj) hlt)
  · exact heq.symm
  · exact absurd (by rw [List.getElem_map, List.getElem_map]; exact e) (hnd j i (by simpa using hj) (by simpa using hi) hgt)
theorem RefC.not {w : World} {r : Nat} {v : Value} {size n : Nat} {L : List (Nat × Value)} {f : Bodies} {G : Nat → Prop} (h : RefC w r v size n L f G) {q : Int} (hq : ∀ k : Nat, q = k → n ≤ k → f k = none) :
    ∀ j, j < L.length → ((L.getD j (0, undef)).1 : Int) ≠ q := fun j hj e => by
  have hm : L[j] ∈ L := List.getElem_mem hj
  rw [List.getD_eq_getElem?_getD, List.getElem?_eq_getElem hj] at e
  obtain ⟨l, h1, _⟩ := h.body _ hm
  have := hq _ e.symm (h.keys _ hm).1
  simp at this
  rw [h1] at this; cases this
/-- A body more. -/
theorem RefC.more {w w' : World} {r : Nat} {v v' bv : Value} {size n : Nat} {L : List (Nat × Value)} {f : Bodies} {G : Nat → Prop} (h : RefC w r v size n L f G) {q : Nat} {l : List Int}
    (hq : n ≤ q) (hq2 : q < n + size) (hq3 : q < 2147483647) (hf : f q = none) (hk : Kp (fun k => v.ownBlock = some k) w w')
    (ho : OwnB w' bv l) (hbv : ∀ g, bv.ownBlock = some g → w.heap.size ≤ g ∧ v'.ownBlock ≠ some g) (hv : Own w' v' (L.length + 1) 2 (hc L ++ [.int .i64 (q : Int), bv])) (hvb : ∀ g, v'.ownBlock = some g → v.ownBlock = some g ∨ w.heap.size ≤ g) :
    RefC (w'.setCell ⟨r, 2, none⟩ v') r v' size n (L ++ [(q, bv)]) (put f q l) (fun k => G k ∨ (w.heap.size ≤ k ∧ k < w'.heap.size)) := by
  have hrG := h.lt r h.base
  have hvr : ∀ g, v'.ownBlock = some g → g ≠ r := fun g hg e => by
    rcases hvb g hg with e2 | e2
    · exact (h.vb g e2).2 e
    · omega
  have hK : Kp (· = r) w' (w'.setCell ⟨r, 2, none⟩ v') := (Kp.refl (· = r) w').setCell (p := ⟨r, 2, none⟩) (fun _ => rfl) _
  have hnr : v.ownBlock ≠ some r := fun e => (h.vb r e).2 rfl
  refine ⟨?_, ?_, ?_, ?_, ?_, ?_, ?_, ?_, h.size_bd, h.n_bd, ?_, ?_, ?_, ?_, .inl h.base, ?_⟩
  · exact (hk.at h.at_ hnr).set 2 v'
  · rw [hc_app, List.length_append]
    exact hv.kp hK (fun g hg e => hvr g hg e)
  · intro g hg
    refine ⟨?_, hvr g hg⟩
    rcases hvb g hg with e | e
    · exact .inl (h.vb g e).1
    · exact .inr ⟨e, hv.lt g hg⟩
  · intro p hp
    rcases List.mem_append.1 hp with hp | hp
    · obtain ⟨l', h1, h2, h3⟩ := h.body p hp
      have hlt := h2.lt
      refine ⟨l', ?_, (h2.kp hk (fun g hg => (h3 g hg).2.2)).kp hK (fun g hg => (h3 g hg).2.1), fun g hg => ⟨.inl (h3 g hg).1, (h3 g hg).2.1, fun e => ?_⟩⟩
      · rw [put_ne]
        · exact h1
        · intro e; rw [e, hf] at h1; cases h1
      · rcases hvb g e with e2 | e2
        · exact (h3 g hg).2.2 e2
        · have := hlt g hg; omega
    · obtain rfl := List.mem_singleton.1 hp
      exact ⟨l, put_same f q l, ho.kp hK (fun g hg e => by have := (hbv g hg).1; omega), fun g hg => ⟨.inr ⟨(hbv g hg).1, ho.lt g hg⟩, by have := (hbv g hg).1; omega, (hbv g hg).2⟩⟩
  · intro p hp
    rcases List.mem_append.1 hp with hp | hp
    · exact h.keys p hp
    · obtain rfl := List.mem_singleton.1 hp
      exact ⟨hq, hq2⟩
  · intro k h1 h2
    by_cases hkq : k = q
    · exact ⟨(q, bv), by simp, hkq.symm⟩
    · rw [put_ne _ _ hkq] at h2
      obtain ⟨p, hp, e⟩ := h.mem k h1 h2
      exact ⟨p, by simp [hp], e⟩
  · rw [List.map_append]
    rw [List.nodup_append]
    refine ⟨h.nd, by simp, fun a ha b hb => ?_⟩
    simp at hb
    subst hb
    rintro rfl
    obtain ⟨p, hp, e⟩ := List.mem_map.1 ha
    obtain ⟨l', h1, _⟩ := h.body p hp
    have e' : p.1 = a := e
    rw [e', hf] at h1; cases h1
  · rw [cn_put f q l n hf size hq hq2, ← h.cnt]; simp
  · intro k h1 h2; rw [put_ne _ _ (by omega)]; exact h.low k h1 h2
  · have := h.n_bd; rw [put_ne _ _ (by omega)]; exact h.zero
  · intro k hk'; rw [put_ne _ _ (by omega)]; exact h.high k hk'
  · intro k hk'; rw [put_ne _ _ (by omega)]; exact h.top k hk'
  · intro k hk'
    have e : (w'.setCell ⟨r, 2, none⟩ v').heap.size = w'.heap.size := by simp [World.setCell]
    rw [e]
    rcases hk' with hk' | hk'
    · exact Nat.lt_of_lt_of_le (h.lt k hk') hk.size
    · exact hk'.2
/-- The awaited body is told, and goes. -/
theorem RefC.step {w w' : World} {r : Nat} {v v' : Value} {size n : Nat} {L : List (Nat × Value)} {f : Bodies} {G : Nat → Prop} (h : RefC w r v size n L f G) {i : Nat} (hi : i < L.length) (hn : (L.getD i (0, undef)).1 = n)
    (hk : Kp (fun _ => False) w w') (hv : Own w' v' (i + (L.length - (i + 1))) 2 ((hc L).take (i * 2) ++ (hc L).drop ((i + 1) * 2))) (hvb : ∀ g, v'.ownBlock = some g → w.heap.size ≤ g) :
    RefC ((w'.setCell ⟨r, 2, none⟩ v').setCell ⟨r, 1, none⟩ (.int .i64 ((n + 1 : Nat) : Int))) r v' size (n + 1) (L.take i ++ L.drop (i + 1)) f (fun k => G k ∨ (w.heap.size ≤ k ∧ k < w'.heap.size)) := by
  have hrG := h.lt r h.base
  have hvr : ∀ g, v'.ownBlock = some g → g ≠ r := fun g hg e => by have := hvb g hg; omega
  have hK : Kp (· = r) w' ((w'.setCell ⟨r, 2, none⟩ v').setCell ⟨r, 1, none⟩ (.int .i64 ((n + 1 : Nat) : Int))) := ((Kp.refl (· = r) w').setCell (p := ⟨r, 2, none⟩) (fun _ => rfl) _).setCell (p := ⟨r, 1, none⟩) (fun _ => rfl) _
  have hgi : L[i].1 = n := by rw [List.getD_eq_getElem?_getD, List.getElem?_eq_getElem hi] at hn; exact hn
  have eL : L = L.take i ++ L[i] :: L.drop (i + 1) := by rw [← List.drop_eq_getElem_cons hi, List.take_append_drop]
  have hlen : (L.take i ++ L.drop (i + 1)).length = i + (L.length - (i + 1)) := by simp; omega
  obtain ⟨l0, hf0, _⟩ := h.body _ (List.getElem_mem hi)
  rw [hgi] at hf0
  have hlt : n < 2147483647 := by
    rcases Nat.lt_or_ge n 2147483647 with h' | h'
    · exact h'
    · rw [h.top n h'] at hf0; cases hf0
  have hnd : ((L.take i ++ L.drop (i + 1)).map (·.1)).Nodup ∧ ∀ p ∈ L.take i ++ L.drop (i + 1), p.1 ≠ n := by
    have hnd := h.nd
    rw [eL, List.map_append, List.map_cons, (List.perm_middle).nodup_iff, List.nodup_cons, hgi] at hnd
    rw [List.map_append]
    refine ⟨hnd.2, fun p hp e => hnd.1 ?_⟩
    rw [← List.map_append, ← e]
    exact List.mem_map_of_mem hp
  have hin : ∀ p ∈ L.take i ++ L.drop (i + 1), p ∈ L := fun p hp => by
    rcases List.mem_append.1 hp with hp | hp
    · exact List.mem_of_mem_take hp
    · exact List.mem_of_mem_drop hp
  refine ⟨?_, ?_, ?_, ?_, ?_, ?_, hnd.1, ?_, h.size_bd, ⟨by omega, by omega⟩, ?_, h.zero, ?_, h.top, .inl h.base, ?_⟩
  · exact ((hk.at h.at_ (fun h => h)).set 2 v').set 1 _
  · rw [hlen, hc_app, hc_take, hc_drop]
    exact hv.kp hK (fun g hg e => hvr g hg e)
  · intro g hg
    exact ⟨.inr ⟨hvb g hg, hv.lt g hg⟩, hvr g hg⟩
  · intro p hp
    obtain ⟨l', h1, h2, h3⟩ := h.body p (hin p hp)
    exact ⟨l', h1, (h2.kp hk (fun _ _ h => h)).kp hK (fun g hg => (h3 g hg).2.1), fun g hg => ⟨.inl (h3 g hg).1, (h3 g hg).2.1, fun e => by have := hvb g e; have := h2.lt g hg; omega⟩⟩
  · intro p hp
    have := h.keys p (hin p hp)
    have := hnd.2 p hp
    omega
  · intro k h1 h2
    obtain ⟨p, hp, e⟩ := h.mem k (by omega) h2
    refine ⟨p, ?_, e⟩
    rw [eL] at hp
    rcases List.mem_append.1 hp with hp | hp
    · exact List.mem_append.2 (.inl hp)
    · rcases List.mem_cons.1 hp with hp | hp
      · rw [hp, hgi] at e; omega
      · exact List.mem_append.2 (.inr hp)
  · have hc1 := cn_front f n size
    rw [cn, h.high (n + size) (Nat.le_refl _), hf0] at hc1
    simp at hc1
    rw [hlen]
    have := h.cnt
    omega
  · intro k h1 h2
    by_cases hkn : k = n
    · subst hkn; rw [hf0]; simp
    · exact h.low k h1 (by omega)
  · intro k hk'; exact h.high k (by omega)
  · intro k hk'
    have e : ((w'.setCell ⟨r, 2, none⟩ v').setCell ⟨r, 1, none⟩ (.int .i64 ((n + 1 : Nat) : Int))).heap.size = w'.heap.size := by simp [World.setCell]
    rw [e]
    rcases hk' with hk' | hk'
    · exact Nat.lt_of_lt_of_le (h.lt k hk') hk.size
    · exact hk'.2
theorem RefC.fresh {w : World} {r : Nat} (s : Nat) (h : 1 ≤ s ∧ s ≤ 64) (hat : At w r [.int .i64 (s : Int), .int .i64 1, .slice none 0 0]) : RefC w r (.slice none 0 0) s 1 [] (fun _ => none) (· = r) := by
  have hc0 : ∀ m, cn (fun _ => none) 1 m = 0 := by
    intro m
    induction m with
    | zero => rfl
    | succ m ih => rw [cn, ih]; rfl
  exact ⟨hat, Own.nil _ _, fun g hg => by simp [Value.ownBlock] at hg, fun p hp => by simp at hp, fun p hp => by simp at hp, fun k _ hk => absurd rfl hk, by simp, by rw [hc0]; rfl, h, by omega, fun k h1 h2 => by omega, rfl, fun _ _ => rfl, fun _ _ => rfl, rfl, fun k e => by rw [e]; exact hat.lt⟩
end Go.Proofs.Ytnigdgopmmccgaa
