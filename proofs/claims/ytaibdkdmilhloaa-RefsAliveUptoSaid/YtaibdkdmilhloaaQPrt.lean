/- Packs in memory; which part of one is dead. -/
import Derived.Test.YtaibdkdmilhloaaQRaM
import Derived.Test.YtaibdkdmilhloaaQRunL
import Derived.Test.YtaibdkdmilhloaaQSrtE
namespace Go.Proofs.Ytaibdkdmilhloaa
open Go.RowKit Flt
set_option linter.unusedVariables false
set_option linter.unusedSimpArgs false
/-- A pack: its number, how many bytes it has, how many of them are dead. -/
structure Pk where
  num : Int
  bytes : Int
  dead : Int
def pkW (p : Pk) : List Value := [.int .i64 p.num, .int .i64 p.bytes, .int .i64 p.dead]
def pkn (l : List Pk) (i : Nat) : Pk := l.getD i ⟨0, 0, 0⟩
/-- The part that is dead: any NaN stands for one. -/
def canP (p : Pk) : Nat := (partF p.dead p.bytes).getD 9221120237041090561
/-- Two floats that are the same, or both NaN. -/
def Like (a b : Nat) : Prop := a = b ∨ (nanb a = true ∧ nanb b = true)
theorem Like.symm {a b : Nat} (h : Like a b) : Like b a := h.elim (fun e => .inl e.symm) (fun e => .inr ⟨e.2, e.1⟩)
theorem Like.bef {a a' b b' : Nat} (h : Like a a') (k : Like b b') : bef a b = bef a' b' := by
  rcases h with rfl | ⟨h1, h2⟩
  · rcases k with rfl | ⟨k1, k2⟩
    · rfl
    · unfold Proofs.Ytaibdkdmilhloaa.bef; rw [k1, k2]; rfl
  · unfold Proofs.Ytaibdkdmilhloaa.bef; rw [h1, h2]; rfl
theorem like_canP {p : Pk} {r : Nat} (h1 : ∀ q, partF p.dead p.bytes = some q → r = q) (h2 : partF p.dead p.bytes = none → nanb r = true) : Like r (canP p) := by
  unfold canP
  cases h : partF p.dead p.bytes with
  | some q => exact .inl (h1 q h)
  | none => exact .inr ⟨h2 h, by decide⟩
/-- Floats that are the packs' parts. -/
def Prts (P : List Nat) (l : List Pk) : Prop := P.length = l.length ∧ ∀ i, i < l.length → Like (P.getD i 0) (canP (pkn l i))
theorem Prts.lt_eq {P Q : List Nat} {l : List Pk} (h : Prts P l) (k : Prts Q l) {x y : Nat} (hx : x < l.length) (hy : y < l.length) : Proofs.Ytaibdkdmilhloaa.ltF P x y = Proofs.Ytaibdkdmilhloaa.ltF Q x y := by
  unfold Proofs.Ytaibdkdmilhloaa.ltF
  rw [(h.2 x hx).bef (h.2 y hy), (k.2 x hx).bef (k.2 y hy)]
theorem Prts.order {P Q : List Nat} {l : List Pk} (h : Prts P l) (k : Prts Q l) {W : List Nat} (hW : W.Pairwise (Rr (ltF P))) (hp : W.Perm (List.range l.length)) : W.Pairwise (Rr (ltF Q)) :=
  hW.imp_of_mem fun hx hy hr => by
    have hx := List.mem_range.1 (hp.mem_iff.1 hx)
    have hy := List.mem_range.1 (hp.mem_iff.1 hy)
    unfold Rr at *
    rw [← h.lt_eq k hx hy, ← h.lt_eq k hy hx]
    exact hr
/-- What is chosen, in order. -/
def chosenL (l : List Pk) (least : Nat) (most : Int) (W : List Nat) : List Int := ((W.filter (fun i => !bef least (canP (pkn l i)))).take most.toNat).map (fun i => (pkn l i).num)
/-- The slice reads as packs. -/
def RdP (w : World) (a : Option Addr) (l : List Pk) : Prop := ∀ i, i < l.length → ∃ b off, a = some ⟨b, off, none⟩ ∧ w.cell? ⟨b, off + i * 3, none⟩ = some (.int .i64 (pkn l i).num) ∧ w.cell? ⟨b, off + i * 3 + 1, none⟩ = some (.int .i64 (pkn l i).bytes) ∧ w.cell? ⟨b, off + i * 3 + 2, none⟩ = some (.int .i64 (pkn l i).dead)
theorem RdP.kp {S : Nat → Prop} {w w' : World} {a : Option Addr} {l : List Pk} (h : RdP w a l) (k : Kp S w w') (ho : Off S a) : RdP w' a l := fun i hi => by
  obtain ⟨b, off, e, h0, h1, h2⟩ := h i hi
  have hb := ho _ e
  exact ⟨b, off, e, k.cell h0 hb, k.cell h1 hb, k.cell h2 hb⟩
theorem RdP.kp0 {w w' : World} {a : Option Addr} {l : List Pk} (h : RdP w a l) (k : Kp (fun _ => False) w w') : RdP w' a l := h.kp k (fun _ _ h => h)
theorem upart_any (p : Pk) (w : World) : Calls Try.prog 11 #[.agg #[.int .i64 p.num, .int .i64 p.bytes, .int .i64 p.dead]] w fun e w' => ∃ r, e = .returned (.float .f64 r) ∧ Like r (canP p) ∧ Kp (fun _ => False) w w' := by
  go_enter Try.func11, Try.ntmps11
  go_wp2_with (go_at_call 37; refine (part_any p.dead p.bytes _).mono ?_; rintro e w' ⟨r, k, rfl, rfl, h1, h2⟩)
  go_ret
  exact ⟨r, rfl, like_canP (fun q hq => (h1 q hq).1) h2, ((Kp.refl (fun _ => False) w).alloc _).drewN k⟩
end Go.Proofs.Ytaibdkdmilhloaa
