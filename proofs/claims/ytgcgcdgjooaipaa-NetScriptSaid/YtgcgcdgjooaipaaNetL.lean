/- Package net: last. -/
import Derived.Test.YtgcgcdgjooaipaaNetS
import Derived.Test.YtgcgcdgjooaipaaClone
import Derived.Deep.LoopGhost
import Derived.Deep.Cut
import Derived.Laws.Rows
namespace Go.Proofs.Ytgcgcdgjooaipaa
open Go.RowKit
set_option linter.unusedVariables false
set_option linter.unusedSimpArgs false
def dgC (fr to : Int) (B : Value) : List Value := [.int .i64 fr, .int .i64 to, B]
theorem link_build (fr to : Int) (B : Value) (w : World) : (Instr.build 58 #[(0, .agg #[.int .i64 fr, .int .i64 to, B])]).run Try.prog w = .ok (.agg #[.int .i64 fr, .int .i64 to, B, .pointer none]) w := by kernel_rfl
set_option maxHeartbeats 1000000 in
theorem last_any (nb mb : Nat) (nds : List Nd) (lost fr to : Int) (a : Option Addr) (cap : Nat) (l : List Int) (w : World) (h : NetC w nb nds nds.length mb lost) (hb : RdB w a l) (hl : l.length ≤ 1000000) (hn : nds.length ≤ 10000) :
    Calls Try.prog 34 #[.pointer (some ⟨nb, 0, none⟩), .agg #[.int .i64 fr, .int .i64 to, .slice a l.length cap]] w fun e w' => ∃ d, e = .returned (.tuple #[]) ∧
      NetC w' nb (nds ++ [d]) ((nds.length : Int) + 1) mb lost ∧ d.fr = fr ∧ d.to = to ∧ d.l = l ∧ w.heap.size ≤ d.g ∧ (∀ b, d.B.ownBlock = some b → w.heap.size ≤ b) ∧ Kp (Mine nb nds) w w' := by
  have HC := Lib.hid (fun w' (k : Kp (fun _ => False) w w') => clone_any a cap l w' (hb.kp0 k (fun _ _ h => h)) hl)
  obtain ⟨m, hm⟩ : ∃ m, m = l.length := ⟨_, rfl⟩
  rw [← hm] at HC ⊢
  obtain ⟨len, hlen⟩ : ∃ len, len = nds.length := ⟨_, rfl⟩
  have HL := Lib.hid hlen
  have H := Lib.hid h
  rw [← hlen] at hn ⊢
  clear hm hlen h hb hl
  go_enter Try.func34, Try.ntmps34
  go_wp2
  refine wp_world (fun wx => At wx w.heap.size (dgC fr to (.slice a m cap)) ∧ Kp (fun _ => False) w wx ∧ wx.heap.size = w.heap.size + 1) ⟨At.new w (dgC fr to (.slice a m cap)) 28, (Kp.refl _ w).alloc _, by simp⟩ ?_
  rintro w1 ⟨hx, k1, s1⟩
  have hN1 := Lib.hid (H.out.kp k1 (fun _ _ h => h))
  have H1 := Lib.hid (And.intro hx (And.intro k1 s1))
  clear hx k1 s1
  go_loopg [4] len (fun k p wr => ∃ i, i + k = len ∧ p = .pointer (some ⟨pB nb nds i, pO i, none⟩) ∧ w1 = wr)
  case atStart => exact ⟨0, by omega, rfl, rfl⟩
  case round =>
    obtain ⟨i, hi, rfl, rfl⟩ := hrel
    have hc := (hN1.out.nextCell (i := i) (by rw [← HL.out]; omega)).1
    by_cases hlt : i < len
    · rw [nx_at (by rw [← HL.out]; exact hlt)] at hc
      have HI := Lib.hid hi
      clear hi
      go_wp2
      go_roundg (gk - 1)
      case measure => have := HI.out; omega
      case rel => exact ⟨i + 1, by have := HI.out; omega, rfl, rfl⟩
    · obtain rfl : i = len := by omega
      rw [nx_end (by rw [← HL.out]; exact Nat.le_refl _)] at hc
      have HI := Lib.hid hi
      clear hi
      have x2 : w1.cell? ⟨w.heap.size, 2, none⟩ = some (.slice a m cap) := (H1.out.1.cell 2).trans rfl
      go_upto_region 5 with ((go_at_call 37; (with_reducible refine (HC.out _ H1.out.2.1).mono ?_); rintro e w2 ⟨v, rfl, hov, hgv, k2⟩; obtain ⟨A2, c2, rfl, _, _⟩ := hov.form; have x22 := k2.cell x2 (fun h => h); have f22 := (k2.at H1.out.1 (fun h => h)).frozen 2; have H2 := Lib.hid (And.intro hov (And.intro hgv k2)); clear hov hgv k2))
      generalize l.length = m2 at *
      refine wp_world (fun wx => At wx w.heap.size (dgC fr to (.slice A2 m2 c2)) ∧ OwnB wx (.slice A2 m2 c2) l ∧ Kp (fun _ => False) w wx ∧ NetC wx nb nds nds.length mb lost) ?_ ?_
      · have ks := (Kp.refl (· = w.heap.size) w2).setCell (p := ⟨w.heap.size, 2, none⟩) (fun _ => rfl) (.slice A2 m2 c2)
        have hx2 := H2.out.2.2.at H1.out.1 (fun h => h)
        have hN2 := hN1.out.kp H2.out.2.2 (fun _ _ h => h)
        refine ⟨hx2.set 2 _, H2.out.1.kp ks (fun g hg e => ?_), (H1.out.2.1.trans H2.out.2.2).then ks (fun i hi e => by omega), hN2.kp ks (fun b hb e => ?_)⟩
        · exact H2.out.1.notC hx2 (u := .int .i64 fr) (by simp [dgC]) (not_isB_i64 _) (by rw [hg, e])
        · have := H.out.lt hb; omega
      rintro w3 ⟨hx3, hov3, k3, hN3⟩
      clear x22 f22 hc x2
      have y0 : w3.cell? ⟨w.heap.size, 0, none⟩ = some (.int .i64 fr) := (hx3.cell 0).trans rfl
      have y1 : w3.cell? ⟨w.heap.size, 1, none⟩ = some (.int .i64 to) := (hx3.cell 1).trans rfl
      have y2 : w3.cell? ⟨w.heap.size, 2, none⟩ = some (.slice A2 m2 c2) := (hx3.cell 2).trans rfl
      have hy := hN3.nextCell (i := i) (by rw [← HL.out]; exact Nat.le_refl _)
      have hc := hy.1
      have hf := hy.2
      have hlt3 : pB nb nds i < w3.heap.size := hN3.lt (pB_lt hN3 (by rw [← HL.out]; exact Nat.le_refl _))
      have HB := Lib.hid (link_build fr to (.slice A2 m2 c2))
      have H3 := Lib.hid (And.intro hx3 (And.intro hov3 (And.intro k3 hN3)))
      clear hx3 hov3 k3 hN3 hy
      go_upto_region 6 with fail
      refine wp_world (fun wx => ∃ d, NetC wx nb (nds ++ [d]) (i : Nat) mb lost ∧ d.fr = fr ∧ d.to = to ∧ d.l = l ∧ w.heap.size ≤ d.g ∧ (∀ b, d.B.ownBlock = some b → w.heap.size ≤ b) ∧ Kp (Mine nb nds) w wx) ?_ ?_
      · have hat := At.new w3 (ndC ⟨w3.heap.size, fr, to, .slice A2 m2 c2, l⟩ none) 58
        have ka := (Kp.refl (fun _ => False) w3).alloc (.cells (ndC ⟨w3.heap.size, fr, to, .slice A2 m2 c2, l⟩ none).toArray 58)
        have hg : ∀ b, (Value.slice A2 m2 c2).ownBlock = some b → w.heap.size ≤ b := fun b hb => by have := H2.out.2.1 b hb; have := H1.out.2.1.size; omega
        have hN4 := H3.out.2.2.2.kp ka (fun _ _ h => h)
        obtain ⟨hN5, k5⟩ := hN4.app ⟨w3.heap.size, fr, to, .slice A2 m2 c2, l⟩ hat (H3.out.2.1.kp ka (fun _ _ h => h)) (fun hm => Nat.lt_irrefl _ (H3.out.2.2.2.lt hm))
          (fun b hb hm => by have := hg b hb; have := H.out.lt hm; omega)
        rw [← HL.out, World.setCell_alloc_past _ _ _ _ hlt3] at hN5 k5
        exact ⟨_, hN5, rfl, rfl, rfl, H3.out.2.2.1.size, hg, ((H3.out.2.2.1.trans ka).mono (fun _ _ h => h.elim)).then k5 (fun j hj e => by rw [e]; exact pB_lt H.out (by rw [← HL.out]; exact Nat.le_refl _))⟩
      rintro w4 ⟨d, hN4, e1, e2, e3, hg1, hg2, k4⟩
      clear hc hf hlt3 y0 y1 y2
      have c5 : w4.cell? ⟨nb, 5, none⟩ = some (.int .i64 (i : Nat)) := (hN4.hat.cell 5).trans rfl
      have f5 := hN4.hat.frozen 5
      have H4 := Lib.hid (And.intro hN4 (And.intro e1 (And.intro e2 (And.intro e3 (And.intro hg1 (And.intro hg2 k4))))))
      clear hN4 e1 e2 e3 hg1 hg2 k4
      go_wp2
      go_end0
      obtain ⟨hN5, k5⟩ := H4.out.1.setN ((i : Int) + 1)
      exact ⟨d, rfl, hN5, H4.out.2.1, H4.out.2.2.1, H4.out.2.2.2.1, H4.out.2.2.2.2.1, H4.out.2.2.2.2.2.1, H4.out.2.2.2.2.2.2.then k5 (fun j hj e => .inl e)⟩
end Go.Proofs.Ytgcgcdgjooaipaa
