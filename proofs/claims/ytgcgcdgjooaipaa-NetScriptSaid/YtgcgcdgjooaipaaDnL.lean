/- Lists of datagrams of one's own: one element laid anew, two that change places, one taken out. (Written by wip/refnet2.py.) -/
import Derived.Test.YtgcgcdgjooaipaaDnA
namespace Go.Proofs.Ytgcgcdgjooaipaa
open Go.RowKit Go.Maps
set_option linter.unusedVariables false
set_option linter.unusedSimpArgs false
theorem dgsC_set : ∀ (ds : List Nd) (i : Nat) (d : Nd), i < ds.length → dgsC (ds.set i d) = (((dgsC ds).set (i * 3) (.int .i64 d.fr)).set (i * 3 + 1) (.int .i64 d.to)).set (i * 3 + 2) d.B
  | [], i, d, h => absurd h (Nat.not_lt_zero _)
  | e :: r, 0, d, _ => rfl
  | e :: r, i + 1, d, h => by
    have := dgsC_set r i d (by simpa using h)
    rw [List.set_cons_succ, dgsC, this, dgsC, show (i + 1) * 3 = i * 3 + 1 + 1 + 1 by omega]
    rfl
theorem dgsC_take : ∀ (ds : List Nd) (i : Nat), dgsC (ds.take i) = (dgsC ds).take (i * 3)
  | [], i => by simp [dgsC]
  | d :: r, 0 => by simp [dgsC]
  | d :: r, i + 1 => by
    rw [List.take_succ_cons, dgsC, dgsC_take r i, dgsC, show (i + 1) * 3 = i * 3 + 1 + 1 + 1 by omega]
    rfl
theorem dgsC_drop : ∀ (ds : List Nd) (i : Nat), dgsC (ds.drop i) = (dgsC ds).drop (i * 3)
  | [], i => by simp [dgsC]
  | d :: r, 0 => by simp [dgsC]
  | d :: r, i + 1 => by
    rw [List.drop_succ_cons, dgsC_drop r i, dgsC, show (i + 1) * 3 = i * 3 + 1 + 1 + 1 by omega]
    rfl
theorem dgsC_erase (ds : List Nd) (i : Nat) : dgsC (ds.eraseIdx i) = (dgsC ds).take (i * 3) ++ (dgsC ds).drop ((i + 1) * 3) := by
  rw [List.eraseIdx_eq_take_drop_succ, dgsC_app, dgsC_take, dgsC_drop]
theorem set3_own {w : World} {v : Value} {ds : List Nd} (h : Own w v ds.length 3 (dgsC ds)) {i : Nat} (hi : i < ds.length) (d : Nd) : ∃ g c, v = .slice (some ⟨g, 0, none⟩) ds.length c ∧
    (∀ j, w.frozen? ⟨g, j, none⟩ = false) ∧ (∀ j, j < ds.length * 3 → ∃ u, w.cell? ⟨g, j, none⟩ = some u) ∧ Own (((w.setCell ⟨g, i * 3, none⟩ (.int .i64 d.fr)).setCell ⟨g, i * 3 + 1, none⟩ (.int .i64 d.to)).setCell ⟨g, i * 3 + 2, none⟩ d.B) v (ds.set i d).length 3 (dgsC (ds.set i d)) ∧
    Kp (· = g) w (((w.setCell ⟨g, i * 3, none⟩ (.int .i64 d.fr)).setCell ⟨g, i * 3 + 1, none⟩ (.int .i64 d.to)).setCell ⟨g, i * 3 + 2, none⟩ d.B) := by
  have hl := dgsC_len ds
  rcases h.2 with ⟨rfl, h0⟩ | ⟨g, c, sp, rfl, hat, hsp, hc⟩
  · omega
  · refine ⟨g, c, rfl, fun j => hat.frozen j, fun j hj => ⟨_, by rw [hat.cell, List.getElem?_append_left (by omega), List.getElem?_eq_getElem (by omega)]⟩, ⟨by rw [dgsC_len], .inr ⟨g, c, sp, by rw [List.length_set], ?_, by rw [List.length_set]; exact hsp, by rw [List.length_set]; exact hc⟩⟩, ?_⟩
    · have := ((hat.set (i * 3) (.int .i64 d.fr)).set (i * 3 + 1) (.int .i64 d.to)).set (i * 3 + 2) d.B
      rw [dgsC_set ds i d hi, ← List.set_append_left _ _ (by simp; omega), ← List.set_append_left _ _ (by simp; omega), ← List.set_append_left _ _ (by omega)]
      exact this
    · exact (((Kp.refl (· = g) w).setCell (p := ⟨g, i * 3, none⟩) (fun _ => rfl) _).setCell (p := ⟨g, i * 3 + 1, none⟩) (fun _ => rfl) _).setCell (p := ⟨g, i * 3 + 2, none⟩) (fun _ => rfl) _
section
variable {w w' : World} {db : Nat} {L O : Value} {ds : List Nd} {os : List (Int × Int)} {lost : Int}
/-- One datagram laid anew: its bytes lie elsewhere, in a block that is not the net's. -/
theorem DgL.put {v : Value} (h : DgL 0 w v ds) {i : Nat} (hi : i < ds.length) (d : Nd) (hd : OwnB w d.B d.l) (hne : ∀ b, d.B.ownBlock = some b → ¬ DgL.Of v ds b) : ∃ g c, v = .slice (some ⟨g, 0, none⟩) ds.length c ∧ (∀ j, w.frozen? ⟨g, j, none⟩ = false) ∧
    DgL 0 (((w.setCell ⟨g, i * 3, none⟩ (.int .i64 d.fr)).setCell ⟨g, i * 3 + 1, none⟩ (.int .i64 d.to)).setCell ⟨g, i * 3 + 2, none⟩ d.B) v (ds.set i d) ∧
    Kp (· = g) w (((w.setCell ⟨g, i * 3, none⟩ (.int .i64 d.fr)).setCell ⟨g, i * 3 + 1, none⟩ (.int .i64 d.to)).setCell ⟨g, i * 3 + 2, none⟩ d.B) := by
  obtain ⟨g, c, e, hf, _, ho, k⟩ := set3_own h.own hi d
  have hv : v.ownBlock = some g := by rw [e]; rfl
  have hs := nd_set hi d
  refine ⟨g, c, e, hf, ⟨ho, fun j hj => ?_, fun p q b hp hq e1 e2 => ?_, fun j b hj e1 e2 => ?_, fun _ _ => Nat.zero_le _, fun _ _ _ _ => Nat.zero_le _⟩, k⟩
  · rw [List.length_set] at hj
    rw [hs]
    split
    · exact hd.kp k (fun b hb e => hne b hb (.inl (by rw [hv, e])))
    · exact (h.each j hj).kp k (fun b hb e => h.apart j b hj hb (by rw [hv, e]))
  · rw [List.length_set] at hp hq
    rw [hs] at e1 e2
    split at e1 <;> split at e2
    · omega
    · exact absurd (.inr ⟨q, hq, e2⟩) (hne b e1)
    · exact absurd (.inr ⟨p, hp, e1⟩) (hne b e2)
    · exact h.dis p q b hp hq e1 e2
  · rw [List.length_set] at hj
    rw [hs] at e1
    split at e1
    · exact hne b e1 (.inl e2)
    · exact h.apart j b hj e1 e2
theorem of_set {v : Value} {i : Nat} (hi : i < ds.length) {d : Nd} {b : Nat} (h : DgL.Of v (ds.set i d) b) : DgL.Of v ds b ∨ d.B.ownBlock = some b := by
  rcases h with h | ⟨j, hj, h⟩
  · exact .inl (.inl h)
  · rw [List.length_set] at hj
    rw [nd_set hi] at h
    split at h
    · exact .inr h
    · exact .inl (.inr ⟨j, hj, h⟩)
/-- Two that change places. -/
theorem DgL.swap {v : Value} (h : DgL 0 w v ds) {i k : Nat} (hi : i < ds.length) (hk : k < ds.length) : ∃ g c w1, v = .slice (some ⟨g, 0, none⟩) ds.length c ∧ (∀ j, w.frozen? ⟨g, j, none⟩ = false) ∧
    w1 = (((w.setCell ⟨g, i * 3, none⟩ (.int .i64 (nd ds k).fr)).setCell ⟨g, i * 3 + 1, none⟩ (.int .i64 (nd ds k).to)).setCell ⟨g, i * 3 + 2, none⟩ (nd ds k).B) ∧ (∀ j, w1.frozen? ⟨g, j, none⟩ = false) ∧ (∀ j, j < ds.length * 3 → ∃ u, w1.cell? ⟨g, j, none⟩ = some u) ∧
    DgL 0 (((w1.setCell ⟨g, k * 3, none⟩ (.int .i64 (nd ds i).fr)).setCell ⟨g, k * 3 + 1, none⟩ (.int .i64 (nd ds i).to)).setCell ⟨g, k * 3 + 2, none⟩ (nd ds i).B) v (swp ds i k) ∧ Kp (· = g) w w1 ∧
    Kp (· = g) w1 (((w1.setCell ⟨g, k * 3, none⟩ (.int .i64 (nd ds i).fr)).setCell ⟨g, k * 3 + 1, none⟩ (.int .i64 (nd ds i).to)).setCell ⟨g, k * 3 + 2, none⟩ (nd ds i).B) := by
  obtain ⟨g, c, e, hf, _, ho, k1⟩ := set3_own h.own hi (wd (nd ds i) (nd ds k))
  have e3 : (ds.set i (wd (nd ds i) (nd ds k))).length = ds.length := List.length_set
  obtain ⟨g', c', e', hf', hcs, ho', k2⟩ := set3_own ho (by rw [e3]; exact hk) (wd (nd ds k) (nd ds i))
  rw [e] at e'
  simp only [Value.slice.injEq, Option.some.injEq, Addr.mk.injEq, and_true] at e'
  obtain ⟨rfl, _, _⟩ := e'
  have hv : v.ownBlock = some g := by rw [e]; rfl
  refine ⟨g, c, _, e, hf, rfl, hf', fun j hj => hcs j (by rw [e3]; exact hj), ⟨ho', fun j hj => ?_, fun p q b hp hq e1 e2 => ?_, fun j b hj e1 e2 => ?_, fun _ _ => Nat.zero_le _, fun _ _ _ _ => Nat.zero_le _⟩, k1, k2⟩
  · have hj : j < ds.length := by rw [swp_len] at hj; exact hj
    rw [nd_swp hi hk]
    have hsl := sg_lt hi hk hj
    exact (h.each _ hsl).kp (k1.trans k2) (fun b hb e => h.apart _ b hsl hb (by rw [hv, e]))
  · have hp : p < ds.length := by rw [swp_len] at hp; exact hp
    have hq : q < ds.length := by rw [swp_len] at hq; exact hq
    rw [nd_swp hi hk] at e1 e2
    exact sg_inj (h.dis _ _ b (sg_lt hi hk hp) (sg_lt hi hk hq) e1 e2)
  · have hj : j < ds.length := by rw [swp_len] at hj; exact hj
    rw [nd_swp hi hk] at e1
    exact h.apart _ b (sg_lt hi hk hj) e1 e2
theorem of_swap {v : Value} {i k : Nat} (hi : i < ds.length) (hk : k < ds.length) {b : Nat} (h : DgL.Of v (swp ds i k) b) : DgL.Of v ds b := by
  rcases h with h | ⟨j, hj, h⟩
  · exact .inl h
  · rw [swp_len] at hj
    rw [nd_swp hi hk] at h
    exact .inr ⟨_, sg_lt hi hk hj, h⟩
/-- One taken out: a new list. -/
theorem DgL.cut {v v' : Value} (h : DgL 0 w v ds) {i : Nat} (hi : i < ds.length) (k : Kp (fun _ => False) w w') (ho : Own w' v' (ds.eraseIdx i).length 3 (dgsC (ds.eraseIdx i))) (hn : ∀ b, v'.ownBlock = some b → w.heap.size ≤ b) : DgL 0 w' v' (ds.eraseIdx i) := by
  have hl := len_erase hi
  refine ⟨ho, fun j hj => ?_, fun p q b hp hq e1 e2 => ?_, fun j b hj e1 e2 => ?_, fun _ _ => Nat.zero_le _, fun _ _ _ _ => Nat.zero_le _⟩
  · rw [nd_erase hi]
    split
    · exact (h.each j (by omega)).kp k (fun _ _ h => h)
    · exact (h.each (j + 1) (by omega)).kp k (fun _ _ h => h)
  · rw [nd_erase hi] at e1 e2
    split at e1 <;> split at e2
    · exact h.dis p q b (by omega) (by omega) e1 e2
    · have := h.dis p (q + 1) b (by omega) (by omega) e1 e2; omega
    · have := h.dis (p + 1) q b (by omega) (by omega) e1 e2; omega
    · have := h.dis (p + 1) (q + 1) b (by omega) (by omega) e1 e2; omega
  · have hb := hn b e2
    rw [nd_erase hi] at e1
    split at e1
    · have := (h.each j (by omega)).lt b e1; omega
    · have := (h.each (j + 1) (by omega)).lt b e1; omega
theorem of_erase {v v' : Value} {i : Nat} (hi : i < ds.length) {b : Nat} (h : DgL.Of v' (ds.eraseIdx i) b) : v'.ownBlock = some b ∨ DgL.Of v ds b := by
  have hl := len_erase hi
  rcases h with h | ⟨j, hj, h⟩
  · exact .inl h
  · rw [nd_erase hi] at h
    split at h
    · exact .inr (.inr ⟨j, by omega, h⟩)
    · exact .inr (.inr ⟨j + 1, by omega, h⟩)
theorem of_app {v v' : Value} {d : Nd} {b : Nat} (h : DgL.Of v' (ds ++ [d]) b) : v'.ownBlock = some b ∨ DgL.Of v ds b ∨ d.B.ownBlock = some b := by
  rcases h with h | ⟨j, hj, h⟩
  · exact .inl h
  · rw [List.length_append, List.length_singleton] at hj
    rcases Nat.lt_or_ge j ds.length with h1 | h1
    · rw [nd_app_lt h1] at h; exact .inr (.inl (.inr ⟨j, h1, h⟩))
    · obtain rfl : j = ds.length := by omega
      rw [nd_app_at] at h; exact .inr (.inr h)
/-- A call's step of the document's net. -/
def DStp (db : Nat) (L O : Value) (ds : List Nd) (w : World) (L' O' : Value) (ds' : List Nd) (w' : World) : Prop :=
  Kp (DMine db L O ds) w w' ∧ ∀ b, DMine db L' O' ds' b → DMine db L O ds b ∨ w.heap.size ≤ b
theorem DStp.kp0 (k : Kp (fun _ => False) w w') : DStp db L O ds w L O ds w' := ⟨k.mono (fun _ _ h => h.elim), fun b h => .inl h⟩
end
end Go.Proofs.Ytgcgcdgjooaipaa
