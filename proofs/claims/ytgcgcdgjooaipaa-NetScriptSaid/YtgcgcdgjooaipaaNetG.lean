/- A net and what its calls make of it, told by what its datagrams say. -/
import Derived.Test.YtgcgcdgjooaipaaSdg
namespace Go.Proofs.Ytgcgcdgjooaipaa
open Go.RowKit Go.Maps
set_option linter.unusedVariables false
structure NetW (w : World) (nb mb : Nat) (nds : List Nd) (lost : Int) (N : Nat) (f : Value → Bool) : Prop where
  c : NetC w nb nds nds.length mb lost
  s : SetV Try.prog 74 w mb N f
  len : nds.length ≤ 2000
  lens : ∀ i, i < nds.length → (nd nds i).l.length ≤ 1500
/-- A call's step: it writes the net's own blocks alone, and takes no others than new ones. -/
def Stp (nb mb : Nat) (nds : List Nd) (w : World) (nds' : List Nd) (w' : World) : Prop :=
  Kp (fun j => Mine nb nds j ∨ j = mb) w w' ∧ ∀ b, Mine nb nds' b → Mine nb nds b ∨ w.heap.size ≤ b
theorem Stp.refl (nb mb : Nat) (nds : List Nd) (w : World) : Stp nb mb nds w nds w := ⟨Kp.refl _ _, fun b h => .inl h⟩
theorem Stp.kp0 {nb mb : Nat} {nds : List Nd} {w w' : World} (k : Kp (fun _ => False) w w') : Stp nb mb nds w nds w' := ⟨k.mono (fun _ _ h => h.elim), fun b h => .inl h⟩
theorem Stp.trans {nb mb : Nat} {nds nds' nds'' : List Nd} {w w' w'' : World} (h : Stp nb mb nds w nds' w') (k : Stp nb mb nds' w' nds'' w'') : Stp nb mb nds w nds'' w'' := by
  refine ⟨h.1.then k.1 (fun i hi hm => ?_), fun b hb => ?_⟩
  · rcases hm with hm | hm
    · rcases h.2 i hm with h' | h'
      · exact .inl h'
      · omega
    · exact .inr hm
  · rcases k.2 b hb with h' | h'
    · exact h.2 b h'
    · exact .inr (Nat.le_trans h.1.size h')
section
variable {w w' : World} {nb mb N : Nat} {nds : List Nd} {lost : Int} {f : Value → Bool}
theorem NetW.kp {S : Nat → Prop} (h : NetW w nb mb nds lost N f) (k : Kp S w w') (hs : ∀ b, (Mine nb nds b ∨ b = mb) → ¬ S b) : NetW w' nb mb nds lost N f :=
  ⟨h.c.kp k (fun b hb => hs b (.inl hb)), h.s.kp k (hs mb (.inr rfl)), h.len, h.lens⟩
theorem NetW.kp0 (h : NetW w nb mb nds lost N f) (k : Kp (fun _ => False) w w') : NetW w' nb mb nds lost N f := h.kp k (fun _ _ h => h)
theorem NetW.c0 (h : NetW w nb mb nds lost N f) : w.cell? ⟨nb, 0, none⟩ = some (.bool true) := (h.c.hat.cell 0).trans rfl
theorem NetW.c7 (h : NetW w nb mb nds lost N f) : w.cell? ⟨nb, 7, none⟩ = some (.int .i64 lost) := (h.c.hat.cell 7).trans rfl
theorem NetW.ne (h : NetW w nb mb nds lost N f) : ∀ b, Mine nb nds b → b ≠ mb := mine_set h.c h.s
theorem NetW.lt (h : NetW w nb mb nds lost N f) {b : Nat} (hb : Mine nb nds b ∨ b = mb) : b < w.heap.size := by
  rcases hb with hb | rfl
  · exact h.c.lt hb
  · exact h.s.lt
/-- What Send answers, and what it makes of a net. -/
def sendS (f : Value → Bool) (K : List (Int × Int × List Int)) (lost fr to : Int) (l : List Int) : Int × List (Int × Int × List Int) × Int :=
  if isEnd fr && isEnd to then (if 1500 < l.length then (3, K, lost) else if f (pairV fr to) then (0, K, lost + 1) else if 2000 ≤ K.length then (8, K, lost) else (0, K ++ [(fr, to, l)], lost)) else (2, K, lost)
theorem app_mine {d : Nd} {b : Nat} (h : Mine nb (nds ++ [d]) b) : Mine nb nds b ∨ b = d.g ∨ d.B.ownBlock = some b := by
  rcases h with rfl | ⟨i, hi, h⟩
  · exact .inl (Mine.hd _ _)
  · rw [List.length_append, List.length_singleton] at hi
    rcases Nat.lt_or_ge i nds.length with h1 | h1
    · rw [nd_app_lt h1] at h; exact .inl (.inr ⟨i, h1, h⟩)
    · obtain rfl : i = nds.length := by omega
      rw [nd_app_at] at h
      rcases h with h | h
      · exact .inr (.inl h.symm)
      · exact .inr (.inr h)
theorem NetW.app {d : Nd} (h : NetW w nb mb nds lost N f) (hN : NetC w' nb (nds ++ [d]) ((nds.length : Int) + 1) mb lost) (hS : SetV Try.prog 74 w' mb N f) (hl : d.l.length ≤ 1500) (hf : nds.length < 2000) : NetW w' nb mb (nds ++ [d]) lost N f :=
  ⟨by rw [List.length_append, List.length_singleton]; exact hN, hS, by simp; omega, fun i hi => by
    rw [List.length_append, List.length_singleton] at hi
    rcases Nat.lt_or_ge i nds.length with h1 | h1
    · rw [nd_app_lt h1]; exact h.lens i h1
    · obtain rfl : i = nds.length := by omega
      rw [nd_app_at]; exact hl⟩
theorem send_w (h : NetW w nb mb nds lost N f) (hlo : 0 ≤ lost ∧ lost ≤ 10000) (fr to : Int) (a : Option Addr) (cap : Nat) (l : List Int) (hb : RdB w a l) :
    Calls Try.prog 11 #[.pointer (some ⟨nb, 0, none⟩), .agg #[.int .i64 fr, .int .i64 to, .slice a l.length cap]] w fun e w' => ∃ nds' lost' r, e = .returned (.int .i64 r) ∧ NetW w' nb mb nds' lost' N f ∧
      Stp nb mb nds w nds' w' ∧ (r, nds'.map dkey, lost') = sendS f (nds.map dkey) lost fr to l := by
  have hlen := h.len
  unfold sendS
  by_cases he : (isEnd fr && isEnd to) = true
  · rw [if_pos he]
    simp only [Bool.and_eq_true] at he
    by_cases hl : 1500 < l.length
    · rw [if_pos hl]
      refine (send_long nb fr to a l.length cap w h.c0 he.1 he.2 hl).mono ?_
      rintro e w' ⟨rfl, k⟩
      exact ⟨_, _, _, rfl, h.kp0 k, Stp.kp0 k, rfl⟩
    · rw [if_neg hl]
      cases hf : f (pairV fr to)
      · rw [if_neg (by simp)]
        by_cases hr : 2000 ≤ nds.length
        · rw [if_pos (by simpa using hr)]
          refine (send_full nb mb N f nds lost fr to a cap l w h.c h.s hb (by omega) (by omega) he.1 he.2 hf hr).mono ?_
          rintro e w' ⟨rfl, k⟩
          exact ⟨_, _, _, rfl, h.kp0 k, Stp.kp0 k, rfl⟩
        · rw [if_neg (by simpa using hr)]
          refine (send_ok nb mb N f nds lost fr to a cap l w h.c h.s hb (by omega) (by omega) he.1 he.2 hf (by omega)).mono ?_
          rintro e w' ⟨d, rfl, hN, hS, e1, e2, e3, g1, g2, k⟩
          refine ⟨_, _, _, rfl, h.app hN hS (by rw [e3]; omega) (by omega), ⟨k.mono (fun _ _ h => .inl h), fun b hb => ?_⟩, ?_⟩
          · rcases app_mine hb with hb | hb | hb
            · exact .inl hb
            · rw [hb]; exact .inr g1
            · exact .inr (g2 b hb)
          · rw [List.map_append, List.map_singleton]; unfold dkey; rw [e1, e2, e3]
      · rw [if_pos rfl]
        refine (send_cut nb mb N f nds lost fr to a cap l w h.c h.s hb (by omega) (by omega) he.1 he.2 hf hlo).mono ?_
        rintro e w' ⟨rfl, hN, hS, k⟩
        exact ⟨_, _, _, rfl, ⟨hN, hS, h.len, h.lens⟩, ⟨k.mono (fun _ _ e => .inl (.inl e)), fun b hb => .inl hb⟩, rfl⟩
  · rw [if_neg he]
    refine (send_arg nb fr to (.slice a l.length cap) w h.c0 (by
      simp only [Bool.and_eq_true, not_and] at he
      cases h1 : isEnd fr
      · exact .inl rfl
      · exact .inr (by have := he h1; simpa using this)) ⟨_, _, _, rfl⟩).mono ?_
    rintro e w' ⟨rfl, k⟩
    exact ⟨_, _, _, rfl, h.kp0 k, Stp.kp0 k, rfl⟩
/-- Is there a link at a place? -/
def there (K : List (Int × Int × List Int)) (i : Int) : Bool := decide (0 ≤ i ∧ i < K.length)
theorem there_yes {i : Int} (h : there (nds.map dkey) i = true) : ∃ k : Nat, i = k ∧ k < nds.length := by
  simp [there] at h; exact ⟨i.toNat, by omega, by omega⟩
theorem there_no {i : Int} (h : there (nds.map dkey) i = false) : i < 0 ∨ (nds.length : Int) ≤ i := by
  simp [there] at h; omega
theorem erase_mine {i b : Nat} (hi : i < nds.length) (h : Mine nb (nds.eraseIdx i) b) : Mine nb nds b := by
  rcases h with rfl | ⟨j, hj, h⟩
  · exact Mine.hd _ _
  · have hl := len_erase hi
    rw [nd_erase hi] at h
    split at h
    · exact .inr ⟨j, by omega, h⟩
    · exact .inr ⟨j + 1, by omega, h⟩
theorem NetW.erase (h : NetW w nb mb nds lost N f) {i : Nat} (hi : i < nds.length) {lost' : Int} (hN : NetC w' nb (nds.eraseIdx i) ((nds.length : Int) - 1) mb lost') (hS : SetV Try.prog 74 w' mb N f) : NetW w' nb mb (nds.eraseIdx i) lost' N f := by
  have hl := len_erase hi
  have hlen := h.len
  have e : ((nds.length : Int) - 1) = ((nds.eraseIdx i).length : Nat) := by omega
  rw [e] at hN
  refine ⟨hN, hS, by omega, fun j hj => ?_⟩
  rw [nd_erase hi]
  split
  · exact h.lens j (by omega)
  · exact h.lens (j + 1) (by omega)
theorem take_w (h : NetW w nb mb nds lost N f) (i : Int) :
    Calls Try.prog 24 #[.pointer (some ⟨nb, 0, none⟩), .int .i64 i] w fun e w' => ∃ nds', NetW w' nb mb nds' lost N f ∧ Stp nb mb nds w nds' w' ∧
      ((there (nds.map dkey) i = false ∧ nds' = nds ∧ e = .returned (.tuple #[.agg #[.int .i64 0, .int .i64 0, .slice none 0 0], .int .i64 6]) ∧ Kp (fun _ => False) w w') ∨
       (∃ k, i = (k : Nat) ∧ k < nds.length ∧ nds' = nds.eraseIdx k ∧ e = .returned (.tuple #[.agg #[.int .i64 (nd nds k).fr, .int .i64 (nd nds k).to, (nd nds k).B], .int .i64 0]) ∧ OwnB w' (nd nds k).B (nd nds k).l ∧ ∀ b, (nd nds k).B.ownBlock = some b → ¬ Mine nb nds' b)) := by
  have hlen := h.len
  cases ht : there (nds.map dkey) i
  · refine (take_no nb mb nds lost i w h.c (by omega) (there_no ht)).mono ?_
    rintro e w' ⟨rfl, k⟩
    exact ⟨_, h.kp0 k, Stp.kp0 k, .inl ⟨rfl, rfl, rfl, k⟩⟩
  · obtain ⟨k, rfl, hk⟩ := there_yes ht
    refine (take_yes nb mb nds lost k w h.c (by omega) hk).mono ?_
    rintro e w' ⟨rfl, hN, kp⟩
    have hE : ∀ j, (j = nb ∨ ∃ q, q < nds.length ∧ q + 1 = k ∧ j = (nd nds q).g) → Mine nb nds j := fun j hj => Erased (Nat.le_of_lt hk) hj
    have hl := len_erase hk
    refine ⟨_, h.erase hk hN (h.s.kp kp (fun hm => h.ne mb (hE mb hm) rfl)), ⟨kp.mono (fun j _ hj => .inl (hE j hj)), fun b hb => .inl (erase_mine hk hb)⟩, .inr ⟨k, rfl, hk, rfl, rfl, (h.c.own k hk).kp kp (fun g hg hm => ?_), fun b hb hm => ?_⟩⟩
    · rcases hm with rfl | ⟨q, hq, _, rfl⟩
      · exact (h.c.apart hk hg).1 rfl
      · exact (h.c.apart hk hg).2 q hq rfl
    · rcases hm with rfl | ⟨j, hj, hm⟩
      · exact (h.c.apart hk hb).1 rfl
      · rw [nd_erase hk] at hm
        split at hm
        · rcases hm with hm | hm
          · exact (h.c.apart hk hb).2 j (by omega) hm.symm
          · have := h.c.binj j k b (by omega) hk hm hb; omega
        · rcases hm with hm | hm
          · exact (h.c.apart hk hb).2 (j + 1) (by omega) hm.symm
          · have := h.c.binj (j + 1) k b (by omega) hk hm hb; omega
theorem drop_w (h : NetW w nb mb nds lost N f) (hlo : 0 ≤ lost ∧ lost ≤ 10000) (i : Int) :
    Calls Try.prog 23 #[.pointer (some ⟨nb, 0, none⟩), .int .i64 i] w fun e w' => ∃ nds' lost', NetW w' nb mb nds' lost' N f ∧ Stp nb mb nds w nds' w' ∧
      ((there (nds.map dkey) i = false ∧ nds' = nds ∧ lost' = lost ∧ e = .returned (.int .i64 6)) ∨ (∃ k, i = (k : Nat) ∧ k < nds.length ∧ nds' = nds.eraseIdx k ∧ lost' = lost + 1 ∧ e = .returned (.int .i64 0))) := by
  have hlen := h.len
  cases ht : there (nds.map dkey) i
  · refine (drop_no nb mb nds lost i w h.c (by omega) (there_no ht)).mono ?_
    rintro e w' ⟨rfl, k⟩
    exact ⟨_, _, h.kp0 k, Stp.kp0 k, .inl ⟨rfl, rfl, rfl, rfl⟩⟩
  · obtain ⟨k, rfl, hk⟩ := there_yes ht
    refine (drop_yes nb mb nds lost k w h.c (by omega) hk hlo).mono ?_
    rintro e w' ⟨rfl, hN, kp⟩
    have hE : ∀ j, (j = nb ∨ ∃ q, q < nds.length ∧ q + 1 = k ∧ j = (nd nds q).g) → Mine nb nds j := fun j hj => Erased (Nat.le_of_lt hk) hj
    exact ⟨_, _, h.erase hk hN (h.s.kp kp (fun hm => h.ne mb (hE mb hm) rfl)), ⟨kp.mono (fun j _ hj => .inl (hE j hj)), fun b hb => .inl (erase_mine hk hb)⟩, .inr ⟨k, rfl, hk, rfl, rfl, rfl⟩⟩
theorem copy_w (h : NetW w nb mb nds lost N f) (i : Int) :
    Calls Try.prog 29 #[.pointer (some ⟨nb, 0, none⟩), .int .i64 i] w fun e w' => ∃ nds', NetW w' nb mb nds' lost N f ∧ Stp nb mb nds w nds' w' ∧
      ((there (nds.map dkey) i = false ∧ nds' = nds ∧ e = .returned (.int .i64 6)) ∨ (∃ k, i = (k : Nat) ∧ k < nds.length ∧ nds.length = 2000 ∧ nds' = nds ∧ e = .returned (.int .i64 8)) ∨
       (∃ k d, i = (k : Nat) ∧ k < nds.length ∧ nds.length < 2000 ∧ nds' = nds ++ [d] ∧ dkey d = dkey (nd nds k) ∧ e = .returned (.int .i64 0))) := by
  have hlen := h.len
  cases ht : there (nds.map dkey) i
  · refine (copy_no nb mb nds lost i w h.c (by omega) (there_no ht)).mono ?_
    rintro e w' ⟨rfl, k⟩
    exact ⟨_, h.kp0 k, Stp.kp0 k, .inl ⟨rfl, rfl, rfl⟩⟩
  · obtain ⟨k, rfl, hk⟩ := there_yes ht
    by_cases hr : 2000 ≤ nds.length
    · refine (copy_full nb mb nds lost k w h.c (by omega) hk hr).mono ?_
      rintro e w' ⟨rfl, kp⟩
      exact ⟨_, h.kp0 kp, Stp.kp0 kp, .inr (.inl ⟨k, rfl, hk, by omega, rfl, rfl⟩)⟩
    · have hl := h.lens k hk
      refine (copy_yes nb mb nds lost k w h.c hk (by omega) (by omega)).mono ?_
      rintro e w' ⟨d, rfl, hN, e1, e2, e3, g1, g2, kp⟩
      refine ⟨_, h.app hN (h.s.kp kp (fun hm => h.ne mb hm rfl)) (by rw [e3]; exact hl) (by omega), ⟨kp.mono (fun _ _ h => .inl h), fun b hb => ?_⟩, .inr (.inr ⟨k, d, rfl, hk, by omega, rfl, by unfold dkey; rw [e1, e2, e3], rfl⟩)⟩
      rcases app_mine hb with hb | hb | hb
      · exact .inl hb
      · rw [hb]; exact .inr g1
      · exact .inr (g2 b hb)
theorem set_mine {i b : Nat} {d : Nd} (hi : i < nds.length) (hg : d.g = (nd nds i).g) (hB : d.B = (nd nds i).B) (h : Mine nb (nds.set i d) b) : Mine nb nds b := by
  rcases h with rfl | ⟨j, hj, h⟩
  · exact Mine.hd _ _
  · rw [List.length_set] at hj
    rw [nd_set hi] at h
    split at h
    · rename_i e; subst e; rw [hg, hB] at h; exact .inr ⟨j, hj, h⟩
    · exact .inr ⟨j, hj, h⟩
/-- Turned bytes. -/
def turnB (l : List Int) (bit : Nat) : List Int := l.set (bit / 8) (flipB (l.getD (bit / 8) 0) (bit % 8))
theorem turn_w (h : NetW w nb mb nds lost N f) (i bit : Int) (hw : -9223372036854775808 ≤ bit ∧ bit ≤ 9223372036854775807) :
    Calls Try.prog 17 #[.pointer (some ⟨nb, 0, none⟩), .int .i64 i, .int .i64 bit] w fun e w' => ∃ nds', NetW w' nb mb nds' lost N f ∧ Stp nb mb nds w nds' w' ∧
      ((there (nds.map dkey) i = false ∧ nds' = nds ∧ e = .returned (.int .i64 6)) ∨ (∃ k, i = (k : Nat) ∧ k < nds.length ∧ (bit < 0 ∨ 8 * ((nd nds k).l.length : Int) ≤ bit) ∧ nds' = nds ∧ e = .returned (.int .i64 5)) ∨
       (∃ k q, i = (k : Nat) ∧ bit = (q : Nat) ∧ k < nds.length ∧ q < 8 * (nd nds k).l.length ∧ nds' = nds.set k ⟨(nd nds k).g, (nd nds k).fr, (nd nds k).to, (nd nds k).B, turnB (nd nds k).l q⟩ ∧ e = .returned (.int .i64 0))) := by
  have hlen := h.len
  cases ht : there (nds.map dkey) i
  · refine (turn_no nb mb nds lost i bit w h.c (by omega) (there_no ht)).mono ?_
    rintro e w' ⟨rfl, k⟩
    exact ⟨_, h.kp0 k, Stp.kp0 k, .inl ⟨rfl, rfl, rfl⟩⟩
  · obtain ⟨k, rfl, hk⟩ := there_yes ht
    have hl := h.lens k hk
    by_cases hr : bit < 0 ∨ 8 * ((nd nds k).l.length : Int) ≤ bit
    · refine (turn_range nb mb nds lost k bit w h.c (by omega) hk hw hr).mono ?_
      rintro e w' ⟨rfl, kp⟩
      exact ⟨_, h.kp0 kp, Stp.kp0 kp, .inr (.inl ⟨k, rfl, hk, hr, rfl, rfl⟩)⟩
    · obtain ⟨q, rfl⟩ : ∃ q : Nat, bit = (q : Nat) := ⟨bit.toNat, by omega⟩
      refine (turn_yes nb mb nds lost k q w h.c (by omega) hk (by omega) (by omega)).mono ?_
      rintro e w' ⟨rfl, hN, kp⟩
      have hm : ∀ j, (nd nds k).B.ownBlock = some j → Mine nb nds j := fun j hj => Mine.B hk hj
      refine ⟨_, ⟨by rw [List.length_set]; exact hN, h.s.kp kp (fun e => h.ne mb (hm mb e) rfl), by simpa using h.len, fun j hj => ?_⟩, ⟨kp.mono (fun j _ hj => .inl (hm j hj)), fun b hb => .inl (set_mine hk (by rfl) (by rfl) hb)⟩, .inr (.inr ⟨k, q, rfl, rfl, hk, by omega, rfl, rfl⟩)⟩
      rw [List.length_set] at hj
      rw [nd_set hk]
      split
      · unfold turnB; simpa using hl
      · exact h.lens j hj
theorem swp_mine {i k b : Nat} (hi : i < nds.length) (hk : k < nds.length) (h : Mine nb (swp nds i k) b) : Mine nb nds b := by
  rcases h with rfl | ⟨j, hj, h⟩
  · exact Mine.hd _ _
  · rw [swp_len] at hj
    rw [nd_swp hi hk] at h
    rcases h with h | h
    · exact .inr ⟨j, hj, .inl h⟩
    · exact .inr ⟨_, sg_lt hi hk hj, .inr h⟩
theorem swap_w (h : NetW w nb mb nds lost N f) (i k : Int) :
    Calls Try.prog 16 #[.pointer (some ⟨nb, 0, none⟩), .int .i64 i, .int .i64 k] w fun e w' => ∃ nds', NetW w' nb mb nds' lost N f ∧ Stp nb mb nds w nds' w' ∧
      (((there (nds.map dkey) i && there (nds.map dkey) k) = false ∧ nds' = nds ∧ e = .returned (.int .i64 6)) ∨ (∃ p q, i = (p : Nat) ∧ k = (q : Nat) ∧ p < nds.length ∧ q < nds.length ∧ nds' = swp nds p q ∧ e = .returned (.int .i64 0))) := by
  have hlen := h.len
  cases ht : (there (nds.map dkey) i && there (nds.map dkey) k)
  · refine (swap_no nb mb nds lost i k w h.c (by omega) (by
      cases h1 : there (nds.map dkey) i
      · exact .inl (there_no h1)
      · exact .inr (there_no (by rw [h1] at ht; simpa using ht)))).mono ?_
    rintro e w' ⟨rfl, k⟩
    exact ⟨_, h.kp0 k, Stp.kp0 k, .inl ⟨rfl, rfl, rfl⟩⟩
  · simp only [Bool.and_eq_true] at ht
    obtain ⟨p, rfl, hp⟩ := there_yes ht.1
    obtain ⟨q, rfl, hq⟩ := there_yes ht.2
    refine (swap_yes nb mb nds lost p q w h.c (by omega) hp hq).mono ?_
    rintro e w' ⟨rfl, hN, kp⟩
    have hm : ∀ j, (j = (nd nds p).g ∨ j = (nd nds q).g) → Mine nb nds j := fun j hj => by
      rcases hj with rfl | rfl
      · exact Mine.g hp
      · exact Mine.g hq
    refine ⟨_, ⟨by rw [swp_len]; exact hN, h.s.kp kp (fun e => h.ne mb (hm mb e) rfl), by rw [swp_len]; exact h.len, fun j hj => ?_⟩, ⟨kp.mono (fun j _ hj => .inl (hm j hj)), fun b hb => .inl (swp_mine hp hq hb)⟩, .inr ⟨p, q, rfl, rfl, hp, hq, rfl, rfl⟩⟩
    rw [swp_len] at hj
    rw [nd_swp hp hq]
    exact h.lens _ (sg_lt hp hq hj)
theorem cut_w (h : NetW w nb mb nds lost N f) (hN : N ≤ 10000) (a b : Int) (is : Bool) :
    Calls Try.prog 18 #[.pointer (some ⟨nb, 0, none⟩), .int .i64 a, .int .i64 b, .bool is] w fun e w' => ∃ f', NetW w' nb mb nds lost (N + 1) f' ∧ Stp nb mb nds w nds w' ∧
      (((isEnd a && isEnd b) = false ∧ f' = f ∧ e = .returned (.int .i64 2)) ∨ ((isEnd a && isEnd b) = true ∧ f' (pairV a b) = is ∧ (∀ u, u ≠ pairV a b → f' u = f u) ∧ e = .returned (.int .i64 0))) := by
  have hlen := h.len
  cases ht : (isEnd a && isEnd b)
  · refine (cut_arg nb a b is w h.c0 (by
      cases h1 : isEnd a
      · exact .inl rfl
      · exact .inr (by rw [h1] at ht; simpa using ht))).mono ?_
    rintro e w' ⟨rfl, rfl⟩
    exact ⟨f, ⟨h.c, h.s.mono (by omega), h.len, h.lens⟩, Stp.refl _ _ _ _, .inl ⟨rfl, rfl, rfl⟩⟩
  · simp only [Bool.and_eq_true] at ht
    refine (cut_yes nb mb N f a b is w h.c0 ((h.c.hat.cell 6).trans rfl) h.s (by omega) (h.ne nb (Mine.hd _ _)) ht.1 ht.2).mono ?_
    rintro e w' ⟨rfl, f', hS, e1, e2, kp⟩
    exact ⟨f', ⟨h.c.kp kp (fun b hb e => h.ne b hb e), hS, h.len, h.lens⟩, ⟨kp.mono (fun _ _ e => .inr e), fun b hb => .inl hb⟩, .inr ⟨rfl, e1, e2, rfl⟩⟩
end
end Go.Proofs.Ytgcgcdgjooaipaa
