/- Lists of datagrams: as they read, and of the call's own. No program in sight. -/
import Derived.Test.YtgcgcdgjooaipaaNetL
namespace Go.Proofs.Ytgcgcdgjooaipaa
open Go.RowKit
set_option linter.unusedVariables false
/-- What a datagram says. -/
def dkey (d : Nd) : Int × Int × List Int := (d.fr, d.to, d.l)
/-- The slice reads as these datagrams. -/
def RdD (w : World) (a : Option Addr) (ds : List Nd) : Prop :=
  ∀ i, i < ds.length → ∃ b off ai ci, a = some ⟨b, off, none⟩ ∧ w.cell? ⟨b, off + i * 3, none⟩ = some (.int .i64 (nd ds i).fr) ∧ w.cell? ⟨b, off + i * 3 + 1, none⟩ = some (.int .i64 (nd ds i).to) ∧
    w.cell? ⟨b, off + i * 3 + 2, none⟩ = some (.slice ai (nd ds i).l.length ci) ∧ RdB w ai (nd ds i).l ∧ (nd ds i).l.length ≤ ci
theorem RdD.kp0 {S : Nat → Prop} {w w' : World} {a : Option Addr} {ds : List Nd} (h : RdD w a ds) (hk : Kp S w w') (hs : ∀ i, i < w.heap.size → ¬ S i) : RdD w' a ds := fun i hi => by
  obtain ⟨b, off, ai, ci, ha, h0, h1, h2, hr, hl⟩ := h i hi
  have hb := World.block_lt_of_cell? w _ h0
  exact ⟨b, off, ai, ci, ha, hk.cell (p := ⟨b, off + i * 3, none⟩) h0 (hs b hb), hk.cell (p := ⟨b, off + i * 3 + 1, none⟩) h1 (hs b hb), hk.cell (p := ⟨b, off + i * 3 + 2, none⟩) h2 (hs b hb), hr.kp0 hk hs, hl⟩
theorem RdD.nil (w : World) (a : Option Addr) : RdD w a [] := fun i hi => absurd hi (Nat.not_lt_zero _)
def dgsC : List Nd → List Value
  | [] => []
  | d :: r => dgC d.fr d.to d.B ++ dgsC r
theorem dgsC_len : ∀ ds : List Nd, (dgsC ds).length = ds.length * 3
  | [] => rfl
  | d :: r => by rw [dgsC, List.length_append, dgsC_len r]; simp [dgC]; omega
theorem dgsC_app : ∀ a b : List Nd, dgsC (a ++ b) = dgsC a ++ dgsC b
  | [], b => rfl
  | d :: a, b => by rw [List.cons_append, dgsC, dgsC, dgsC_app a b, List.append_assoc]
theorem dgsC_get : ∀ (ds : List Nd) (i j : Nat), i < ds.length → j < 3 → (dgsC ds)[i * 3 + j]? = (dgC (nd ds i).fr (nd ds i).to (nd ds i).B)[j]?
  | [], i, j, h, _ => absurd h (Nat.not_lt_zero _)
  | d :: r, 0, j, _, hj => by
    rw [dgsC, List.getElem?_append_left (by simp [dgC]; omega), Nat.zero_mul, Nat.zero_add]; rfl
  | d :: r, i + 1, j, h, hj => by
    rw [dgsC, List.getElem?_append_right (by simp [dgC]; omega), show (i + 1) * 3 + j - (dgC d.fr d.to d.B).length = i * 3 + j by simp [dgC]; omega]
    exact dgsC_get r i j (by simpa using h) hj
theorem dgsC_one : ∀ (ds : List Nd), (∀ i, i < ds.length → ∃ a n c, (nd ds i).B = .slice a n c) → ∀ u ∈ dgsC ds, u.oneCell' = true
  | [], _, u, hu => by cases hu
  | d :: r, h, u, hu => by
    rw [dgsC] at hu
    rcases List.mem_append.1 hu with hu | hu
    · obtain ⟨a, n, c, e⟩ := h 0 (by simp)
      simp only [dgC, List.mem_cons, List.not_mem_nil, or_false] at hu
      rcases hu with rfl | rfl | rfl
      · rfl
      · rfl
      · have e' : d.B = .slice a n c := e
        rw [e']; rfl
    · exact dgsC_one r (fun i hi => h (i + 1) (by simpa using hi)) u hu
/-- Datagrams of the call's own. -/
structure DgL (B0 : Nat) (w : World) (v : Value) (ds : List Nd) : Prop where
  own : Own w v ds.length 3 (dgsC ds)
  each : ∀ i, i < ds.length → OwnB w (nd ds i).B (nd ds i).l
  dis : ∀ i j b, i < ds.length → j < ds.length → (nd ds i).B.ownBlock = some b → (nd ds j).B.ownBlock = some b → i = j
  apart : ∀ i b, i < ds.length → (nd ds i).B.ownBlock = some b → v.ownBlock ≠ some b
  ge : ∀ b, v.ownBlock = some b → B0 ≤ b
  geE : ∀ i b, i < ds.length → (nd ds i).B.ownBlock = some b → B0 ≤ b
theorem DgL.nil (B0 : Nat) (w : World) : DgL B0 w (.slice none 0 0) [] :=
  ⟨Own.nil w 3, fun i h => absurd h (Nat.not_lt_zero _), fun i j b h => absurd h (Nat.not_lt_zero _), fun i b h => absurd h (Nat.not_lt_zero _), fun b h => by simp [Value.ownBlock] at h, fun i b h => absurd h (Nat.not_lt_zero _)⟩
variable {B0 : Nat} {w w' : World} {v : Value} {ds : List Nd}
/-- The blocks of such a list. -/
def DgL.Of (v : Value) (ds : List Nd) (b : Nat) : Prop := v.ownBlock = some b ∨ ∃ i, i < ds.length ∧ (nd ds i).B.ownBlock = some b
theorem DgL.kp {S : Nat → Prop} (h : DgL B0 w v ds) (k : Kp S w w') (hs : ∀ b, DgL.Of v ds b → ¬ S b) : DgL B0 w' v ds :=
  ⟨h.own.kp k (fun g hg => hs _ (.inl hg)), fun i hi => (h.each i hi).kp k (fun g hg => hs _ (.inr ⟨i, hi, hg⟩)), h.dis, h.apart, h.ge, h.geE⟩
theorem DgL.kp0 (h : DgL B0 w v ds) (k : Kp (fun _ => False) w w') : DgL B0 w' v ds := h.kp k (fun _ _ h => h)
theorem DgL.lt (h : DgL B0 w v ds) {b : Nat} (hb : DgL.Of v ds b) : b < w.heap.size := by
  rcases hb with hb | ⟨i, hi, hb⟩
  · exact h.own.lt b hb
  · exact (h.each i hi).lt b hb
theorem DgL.ofGe (h : DgL B0 w v ds) {b : Nat} (hb : DgL.Of v ds b) : B0 ≤ b := by
  rcases hb with hb | ⟨i, hi, hb⟩
  · exact h.ge b hb
  · exact h.geE i b hi hb
theorem DgL.rdd (h : DgL B0 w v ds) : ∃ a c, v = .slice a ds.length c ∧ ds.length ≤ c ∧ RdD w a ds := by
  obtain ⟨a, c, rfl, hc, _⟩ := h.own.form
  refine ⟨a, c, rfl, hc, fun i hi => ?_⟩
  have hl := dgsC_len ds
  have hr := h.own.rd
  obtain ⟨ai, ci, e, hrb, hci⟩ := (h.each i hi).form
  have hg := fun j hj => dgsC_get ds i j hi hj
  have get : ∀ j u, (dgC (nd ds i).fr (nd ds i).to (nd ds i).B)[j]? = some u → j < 3 → ∃ b off, a = some ⟨b, off, none⟩ ∧ w.cell? ⟨b, off + (i * 3 + j), none⟩ = some u := fun j u hu hj => by
    obtain ⟨b, off, ha, hc⟩ := hr (i * 3 + j) (by omega)
    refine ⟨b, off, ha, ?_⟩
    rw [hc, List.getD_eq_getElem?_getD, hg j hj, hu]; rfl
  obtain ⟨b, off, ha, h0⟩ := get 0 _ rfl (by omega)
  obtain ⟨b1, o1, ha1, h1⟩ := get 1 _ rfl (by omega)
  obtain ⟨b2, o2, ha2, h2⟩ := get 2 _ rfl (by omega)
  rw [ha] at ha1 ha2
  cases ha1; cases ha2
  exact ⟨b, off, ai, ci, ha, h0, h1, by rw [e] at h2; exact h2, hrb, hci⟩
/-- One more datagram. -/
theorem DgL.app {P : Program} (h : DgL B0 w v ds) {t tx ty e e' : TypeId} (ht : P.underlying t = some (.slice e)) {bytes : Nat} (he : Elem P e (.agg #[.int .i64 0, .int .i64 0, .slice none 0 0]) 3 bytes) (hk : P.underlying tx = some (.slice e')) (hbts : bytes ≤ 100)
    (d : Nd) (hd : OwnB w d.B d.l) (hne : ∀ b, d.B.ownBlock = some b → B0 ≤ b ∧ ¬ DgL.Of v ds b) (hn : ds.length ≤ 100000) (hB : B0 ≤ w.heap.size) {bx : Nat} (hat : At w bx (dgC d.fr d.to d.B)) :
    ∃ v' w', (Builtin.append_ #[t, tx] ty #[v, .slice (some ⟨bx, 0, none⟩) 1 1]).run P w = .ok v' w' ∧ DgL B0 w' v' (ds ++ [d]) ∧ Kp (fun k => v.ownBlock = some k) w w' ∧ (v'.ownBlock = v.ownBlock ∨ v'.ownBlock = some w.heap.size) := by
  obtain ⟨a', c', e2, _, _⟩ := hd.form
  obtain ⟨v', w', hr, ho, k, hb, _⟩ := run_append_at (P := P) (ty := ty) w ht he hk h.own (a := some ⟨bx, 0, none⟩) (m := 1) (c := 1) (news := dgC d.fr d.to d.B) (by simp [dgC])
    (fun i hi => ⟨bx, 0, rfl, by rw [hat.cell, Nat.zero_add, List.getD_eq_getElem?_getD, List.getElem?_eq_getElem hi]; rfl⟩)
    (fun u hu => by
      have := dgsC_one [d] (fun i hi => by obtain rfl : i = 0 := by simpa using hi
                                           exact ⟨_, _, _, e2⟩) u (by simpa [dgsC] using hu)
      exact this) (by unfold maxLen; omega) (by
        have : (ds.length + 1) * bytes ≤ 100001 * 100 := Nat.mul_le_mul (by omega) hbts
        omega)
  have hlen : (ds ++ [d]).length = ds.length + 1 := by simp
  have hlast := nd_app_at ds d
  have hin : ∀ i, i < ds.length + 1 → (i < ds.length ∧ nd (ds ++ [d]) i = nd ds i) ∨ (i = ds.length ∧ nd (ds ++ [d]) i = d) := fun i hi => by
    rcases Nat.lt_or_ge i ds.length with h1 | h1
    · exact .inl ⟨h1, nd_app_lt h1⟩
    · obtain rfl : i = ds.length := by omega
      exact .inr ⟨rfl, hlast⟩
  refine ⟨v', w', hr, ⟨?_, fun i hi => ?_, fun i j b hi hj e1 e2 => ?_, fun i b hi e1 => ?_, fun b hb' => ?_, fun i b hi e1 => ?_⟩, k, hb⟩
  · rw [hlen, dgsC_app]; simpa [dgsC] using ho
  · rcases hin i (by omega) with ⟨h1, e⟩ | ⟨_, e⟩ <;> rw [e]
    · exact (h.each i h1).kp k (fun g hg e => h.apart i g h1 hg e)
    · exact hd.kp k (fun g hg e => (hne g hg).2 (.inl e))
  · rcases hin i (by omega) with ⟨h1, e⟩ | ⟨hi1, e⟩ <;> rcases hin j (by omega) with ⟨h2, e'⟩ | ⟨hj1, e'⟩ <;> rw [e] at e1 <;> rw [e'] at e2
    · exact h.dis i j b h1 h2 e1 e2
    · exact absurd (.inr ⟨i, h1, e1⟩) (hne b e2).2
    · exact absurd (.inr ⟨j, h2, e2⟩) (hne b e1).2
    · omega
  · have hlt : b < w.heap.size ∧ v.ownBlock ≠ some b := by
      rcases hin i (by omega) with ⟨h1, e⟩ | ⟨_, e⟩ <;> rw [e] at e1
      · exact ⟨(h.each i h1).lt b e1, h.apart i b h1 e1⟩
      · exact ⟨hd.lt b e1, fun e => (hne b e1).2 (.inl e)⟩
    rcases hb with hb | hb <;> rw [hb]
    · exact hlt.2
    · intro e; simp at e; omega
  · rcases hb with hb | hb <;> rw [hb] at hb'
    · exact h.ge b hb'
    · simp at hb'; omega
  · rcases hin i (by omega) with ⟨h1, e⟩ | ⟨_, e⟩ <;> rw [e] at e1
    · exact h.geE i b h1 e1
    · exact (hne b e1).1
end Go.Proofs.Ytgcgcdgjooaipaa
