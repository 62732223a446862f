/- The document's inbox (satchelref14): Take. -/
import Derived.Test.YtokembhfebnjpaaGreatQKt0M
import Derived.Test.YtokembhfebnjpaaGreatQInbTM
import Derived.Test.YtokembhfebnjpaaGreatQInbOM
import Derived.Deep.LoopGhost
import Derived.Deep.RegionLaw
import Derived.BigRegion
import Derived.Deep.DeepCutAuto
import Derived.Outline
namespace Go.Proofs.YtokembhfebnjpaaGreat
set_option maxRecDepth 20000
open Go.RowKit
set_option linter.unusedVariables false
theorem elem_held : Elem Tryz.prog 136 (.agg #[.int .i64 0, .slice none 0 0]) 2 32 := Elem.mk' (by kernel_rfl) rfl (by omega) (by intro u hu; simp [Value.cells] at hu; rcases hu with rfl | rfl <;> rfl)
section
variable {w : World} {r : Nat} {v : Value} {size n : Nat} {L : List (Nat × Value)} {f : Bodies} {G : Nat → Prop}
theorem rtake_range (seq : Int) (a : Option Addr) (len cap : Nat) (hs : seq < 1 ∨ 2147483647 ≤ seq) :
 Calls Tryz.prog 79 #[.pointer (some ⟨r, 0, none⟩), .int .i64 seq, .slice a len cap] w fun e w' => e = .returned (.tuple #[.slice none 0 0, .int .i64 5]) ∧ w = w' := by
 by_cases h1 : seq < 1
 · clear hs
   go_enter Tryz.func79, Tryz.ntmps79
   go_wp2
   go_ret2
   exact ⟨rfl, rfl⟩
 · have h2 : 2147483646 < seq := by omega
   clear hs
   go_enter Tryz.func79, Tryz.ntmps79
   go_wp2
   go_ret2
   exact ⟨rfl, rfl⟩
theorem rtake_there (h : RefC w r v size n L f G) (seq : Int) (a : Option Addr) (len cap : Nat) (h1 : 1 ≤ seq) (h2 : seq < 2147483647) (hf : hasI f seq = true) :
 Calls Tryz.prog 79 #[.pointer (some ⟨r, 0, none⟩), .int .i64 seq, .slice a len cap] w fun e w' => e = .returned (.tuple #[.slice none 0 0, .int .i64 7]) ∧ w = w' := by
 have C := h.has seq (by omega)
 rw [hf] at C
 have C' := Lib.hid C
 have h3 : ¬ seq < 1 := by omega
 have h4 : ¬ 2147483646 < seq := by omega
 clear h C hf
 go_enter Tryz.func79, Tryz.ntmps79
 go_wp2_with (go_at_call 84; refine C'.out.mono ?_; rintro e w' ⟨rfl, rfl⟩)
 go_ret2
 exact ⟨rfl, rfl⟩
theorem rtake_full (h : RefC w r v size n L f G) (seq : Int) (a : Option Addr) (len cap : Nat) (h1 : 1 ≤ seq) (h2 : seq < 2147483647) (hf : hasI f seq = false) (hq : n + size ≤ seq) :
 Calls Tryz.prog 79 #[.pointer (some ⟨r, 0, none⟩), .int .i64 seq, .slice a len cap] w fun e w' => e = .returned (.tuple #[.slice none 0 0, .int .i64 8]) ∧ Kp (fun _ => False) w w' := by
 have C := h.has seq (by omega)
 rw [hf] at C
 have C' := Lib.hid C
 obtain ⟨_, _, _, _, _, _, c0, c1, _, _⟩ := h.form
 have hn := h.n_bd
 have hs := h.size_bd
 have ew : IntKind.i64.wrap ((n : Int) + size) = (n : Int) + size := IntWalk.i64_in _ (by omega)
 have h3 : ¬ seq < 1 := by omega
 have h4 : ¬ 2147483646 < seq := by omega
 clear h C hf
 go_enter Tryz.func79, Tryz.ntmps79
 go_wp2_with (go_at_call 84; refine C'.out.mono ?_; rintro e w' ⟨rfl, rfl⟩)
 go_quiet (fail)
 go_wp2
 go_ret2
 exact ⟨rfl, (Kp.refl _ w).drewN _⟩
def RDr (w0 : World) (G0 : Nat → Prop) (r size n : Nat) (f : Bodies) (m : Nat) (vo : Value) (wr : World) : Prop :=
 ∃ v L G vs, n ≤ m ∧ m ≤ n + size ∧ RefC wr r v size m L f G ∧ vs.length = m - n ∧ Own wr vo (m - n) 1 vs ∧ (∀ i, i < vs.length → ∃ y, f (n + i) = some y ∧ OwnB wr (vs.getD i undef) y ∧ ∀ g, (vs.getD i undef).ownBlock = some g → vo.ownBlock ≠ some g ∧ g ≠ r) ∧
  (∀ g, vo.ownBlock = some g → w0.heap.size ≤ g ∧ ¬ G g) ∧ (∀ g, G g → G0 g ∨ w0.heap.size ≤ g) ∧ Kp G0 w0 wr
end
theorem rd_pre' {w : World} {a : Option Addr} {vs : List Value} (h : Rd w a vs) (k : Nat) : Rd w a (vs.take k) := fun i hi => by
 have hi' : i < k ∧ i < vs.length := by simp at hi; omega
 obtain ⟨b, off, ha, hc⟩ := h i hi'.2
 exact ⟨b, off, ha, by rw [hc]; simp [List.getD_eq_getElem?_getD, hi'.1]⟩
theorem rd_post' {w : World} {b off : Nat} {vs : List Value} (h : Rd w (some ⟨b, off, none⟩) vs) (k : Nat) : Rd w (some ⟨b, off + k, none⟩) (vs.drop k) := fun i hi => by
 have hi' : k + i < vs.length := by simp at hi; omega
 obtain ⟨b', off', e, hc⟩ := h (k + i) hi'
 cases e
 exact ⟨b, off + k, rfl, by rw [Nat.add_assoc, hc]; simp [List.getD_eq_getElem?_getD]⟩
theorem RefC.one {w : World} {r : Nat} {v : Value} {size n : Nat} {L : List (Nat × Value)} {f : Bodies} {G : Nat → Prop} (h : RefC w r v size n L f G) : ∀ u ∈ hc L, u.oneCell' = true := by
 have key : ∀ M : List (Nat × Value), (∀ p ∈ M, p.2.oneCell' = true) → ∀ u ∈ hc M, u.oneCell' = true := by
  intro M
  induction M with
  | nil => intro _ u hu; simp [hc] at hu
  | cons p M ih =>
   intro hp u hu
   rw [hc] at hu
   rcases List.mem_cons.1 hu with rfl | hu
   · rfl
   · rcases List.mem_cons.1 hu with rfl | hu
     · exact hp p (by simp)
     · exact ih (fun p hp' => hp p (by simp [hp'])) u hu
 refine key L (fun p hp => ?_)
 obtain ⟨l, _, h2, _⟩ := h.body p hp
 obtain ⟨a, c, e, _⟩ := h2.form
 rw [e]; rfl
theorem RDr.next {w0 wr w1 w3 : World} {G0 : Nat → Prop} {r size n m i : Nat} {f : Bodies} {vo vo' v v3 : Value} {L : List (Nat × Value)} {G : Nat → Prop} {vs : List Value} {y : List Int} {bv : Value} {o : Obj}
 (k1 : n ≤ m) (k2 : m < n + size) (k3 : RefC wr r v size m L f G) (k4 : vs.length = m - n) (k6 : ∀ i, i < vs.length → ∃ y, f (n + i) = some y ∧ OwnB wr (vs.getD i undef) y ∧ ∀ g, (vs.getD i undef).ownBlock = some g → vo.ownBlock ≠ some g ∧ g ≠ r)
 (k7 : ∀ g, vo.ownBlock = some g → w0.heap.size ≤ g ∧ ¬ G g) (k8 : ∀ g, G g → G0 g ∨ w0.heap.size ≤ g) (k9 : Kp G0 w0 wr) (hG0 : G0 r) (hr0 : r < w0.heap.size) (hvo : ∀ g, vo.ownBlock = some g → g < wr.heap.size)
 (hfm : f m = some y) (hb : OwnB wr bv y) (hbg : ∀ g, bv.ownBlock = some g → G g ∧ g ≠ r)
 (ho1 : Own w1 vo' (m - n + 1) 1 (vs ++ [bv])) (hk1 : Kp (fun k => vo.ownBlock = some k) (wr.alloc o) w1) (hat1 : vo'.ownBlock = vo.ownBlock ∨ vo'.ownBlock = some (wr.alloc o).heap.size)
 (hi : i < L.length) (he : (L.getD i (0, undef)).1 = m) (hk13 : Kp (fun _ => False) w1 w3) (hv3 : Own w3 v3 (i + (L.length - (i + 1))) 2 ((hc L).take (i * 2) ++ (hc L).drop ((i + 1) * 2))) (hv3n : ∀ g, v3.ownBlock = some g → w1.heap.size ≤ g) :
 RDr w0 G0 r size n f (m + 1) vo' ((w3.setCell ⟨r, 2, none⟩ v3).setCell ⟨r, 1, none⟩ (.int .i64 ((m : Int) + 1))) := by
 have hka := ((Kp.refl (fun _ => False) wr).alloc o)
 have hkr1 : Kp (fun k => vo.ownBlock = some k) wr w1 := (hka.mono (S' := fun k => vo.ownBlock = some k) (fun _ _ h => h.elim)).then hk1 (fun _ _ e => e)
 have hs1 := hkr1.size
 have hsa := hka.size
 have hs3 := hk13.size
 have h1 := k3.kp hkr1 (fun g hg e => (k7 g e).2 hg)
 have hst := h1.step hi he hk13 hv3 hv3n
 have hw0 := k9.size
 have hvr : ∀ g, vo'.ownBlock = some g → w0.heap.size ≤ g ∧ g ≠ r ∧ ¬ G g := fun g hg => by
  rcases hat1 with e | e
  · rw [e] at hg; exact ⟨(k7 g hg).1, by have := (k7 g hg).1; omega, (k7 g hg).2⟩
  · rw [e] at hg; obtain rfl := Option.some.inj hg; exact ⟨by omega, by omega, fun hG => by have := k3.lt _ hG; omega⟩
 have hK : Kp (· = r) w3 ((w3.setCell ⟨r, 2, none⟩ v3).setCell ⟨r, 1, none⟩ (.int .i64 ((m : Int) + 1))) := ((Kp.refl (· = r) w3).setCell (p := ⟨r, 2, none⟩) (fun _ => rfl) _).setCell (p := ⟨r, 1, none⟩) (fun _ => rfl) _
 have hK1 : Kp (· = r) w1 _ := (hk13.mono (S' := (· = r)) (fun _ _ h => h.elim)).then hK (fun _ _ e => e)
 have hKr : Kp (fun k => vo.ownBlock = some k ∨ k = r) wr _ := (hkr1.mono (S' := fun k => vo.ownBlock = some k ∨ k = r) (fun _ _ e => .inl e)).then hK1 (fun _ _ e => .inr e)
 have hlt1 := ho1.lt
 refine ⟨v3, _, _, vs ++ [bv], by omega, by omega, hst, by simp; omega, ?_, ?_, ?_, ?_, ?_⟩
 · rw [show m + 1 - n = m - n + 1 by omega]
   exact ho1.kp hK1 (fun g hg e => (hvr g hg).2.1 e)
 · intro j hj
   have hj' : j < vs.length ∨ j = vs.length := by simp at hj; omega
   rcases hj' with hj' | rfl
   · have e : (vs ++ [bv]).getD j undef = vs.getD j undef := by rw [List.getD_eq_getElem?_getD, List.getElem?_append_left hj', List.getD_eq_getElem?_getD]
     rw [e]
     obtain ⟨y', e1, e2, e3⟩ := k6 j hj'
     have hl2 := e2.lt
     refine ⟨y', e1, e2.kp hKr (fun g hg e => e.elim (e3 g hg).1 (e3 g hg).2), fun g hg => ⟨fun e => ?_, (e3 g hg).2⟩⟩
     rcases hat1 with e4 | e4
     · rw [e4] at e; exact (e3 g hg).1 e
     · rw [e4] at e; obtain rfl := Option.some.inj e; have := hl2 _ hg; omega
   · have e : (vs ++ [bv]).getD vs.length undef = bv := by rw [List.getD_eq_getElem?_getD, List.getElem?_append_right (by omega), Nat.sub_self]; rfl
     rw [e]
     refine ⟨y, by rw [k4, show n + (m - n) = m by omega]; exact hfm, hb.kp hKr (fun g hg e => e.elim (fun e => (k7 g e).2 (hbg g hg).1) (hbg g hg).2), fun g hg => ⟨fun e => (hvr g e).2.2 (hbg g hg).1, (hbg g hg).2⟩⟩
 · intro g hg
   refine ⟨(hvr g hg).1, fun e => ?_⟩
   rcases e with e | e
   · exact (hvr g hg).2.2 e
   · have := hlt1 g hg; omega
 · intro g hg
   rcases hg with hg | hg
   · exact k8 g hg
   · right; omega
 · exact k9.then hKr (fun k hk e => by
    rcases e with e | e
    · have := (k7 k e).1; omega
    · rw [e]; exact hG0)
set_option maxHeartbeats 4000000 in
set_option maxRecDepth 20000 in
theorem rtake_ok' {w : World} {r : Nat} {v : Value} {size n : Nat} {L : List (Nat × Value)} {f : Bodies} {G : Nat → Prop} (h : RefC w r v size n L f G) (q : Nat) (a : Option Addr) (cap : Nat) (l : List Int) (hr : RdB w a l) (hlen : l.length ≤ 1000000000)
 (h1 : n ≤ q) (h2 : q < n + size) (h3 : q < 2147483647) (hf : f q = none) (f' : Bodies) (hf' : Hid (f' = put f q l)) :
 Calls Tryz.prog 79 #[.pointer (some ⟨r, 0, none⟩), .int .i64 q, .slice a l.length cap] w fun e w' =>
  ∃ n' vo, e = .returned (.tuple #[vo, .int .i64 0]) ∧ RDr w G r size n f' n' vo w' ∧ f' n' = none := by
 have hC := h.has q (by omega)
 have e : hasI f q = false := by simp [hasI, hf]
 rw [e] at hC
 have C' := Lib.hid hC
 have hn := h.n_bd
 have hs := h.size_bd
 obtain ⟨va, vc, rfl, hvc1, hvc2, hrd, c0, c1, c2, hfz⟩ := h.form
 have hlL := h.len
 obtain ⟨seq, hseq⟩ : ∃ seq : Int, seq = q := ⟨_, rfl⟩
 rw [← hseq] at C' ⊢
 have Hseq := Lib.hid hseq
 have h4 : ¬ seq < 1 := by omega
 have h5 : ¬ 2147483646 < seq := by omega
 have h6 : ¬ (n : Int) + size ≤ seq := by omega
 have ew : IntKind.i64.wrap ((n : Int) + size) = (n : Int) + size := IntWalk.i64_in _ (by omega)
 have hh := Lib.hid h
 have Hf := Lib.hid hf
 clear h hC e hseq hf hrd hfz
 go_enter Tryz.func79, Tryz.ntmps79
 go_wp2_with (go_at_call 84; refine C'.out.mono ?_; rintro e w' ⟨rfl, rfl⟩)
 go_quiet (fail)
 go_wp2_with fail
 clear c0 c1 c2
 refine wp_world (fun w2 => Kp (fun _ => False) w w2) ((Kp.refl _ w).drewN _) ?_
 intro w2 hk2
 have h := hh.out.kp hk2 (fun _ _ h => h)
 have hr2 := hr.kp hk2 (fun _ _ h => h)
 have hk2a := ((Kp.refl (fun _ => False) w2).drew.alloc (.cells #[] 5))
 have hown0 : Own (w2.drew.alloc (.cells #[] 5)) (.slice (some ⟨w2.heap.size, 0, none⟩) 0 0) 0 1 [] := ⟨by simp, .inr ⟨w2.heap.size, 0, [], rfl, At.new w2.drew [] 5, by simp, by simp, by simp⟩⟩
 obtain ⟨bv, w3, hr1, hv3, hk3, hat3, hbp⟩ := run_append_at (P := Tryz.prog) (t := 32) (tx := 32) (ty := 32) (w2.drew.alloc (.cells #[] 5)) Tryz.underlying32 elem_u8 Tryz.underlying32 hown0 (a := a) (m := l.length) (c := cap) (news := l.map (Value.int .u8)) (by simp) (hr2.kp hk2a (fun _ _ h => h)).rd (oneCell_u8 l) (by unfold maxLen; omega) (by omega)
 have hblk := hbp isB isB_zero (by rw [List.nil_append]; exact isB_map hr.bd) (fun g hg => ⟨[], by simp [Value.ownBlock] at hg; subst hg; exact At.new w2.drew [] 5, by simp⟩)
 rw [Nat.zero_add, List.nil_append] at hv3
 have hk23 : Kp (fun _ => False) w2 w3 := hk2a.then hk3 (fun i hi e => by simp [Value.ownBlock] at e; omega)
 have hbvn : ∀ g, bv.ownBlock = some g → w2.heap.size ≤ g := fun g hg => by
  rcases hat3 with e | e
  · rw [e] at hg; simp [Value.ownBlock] at hg; omega
  · rw [e] at hg; simp at hg; omega
 obtain ⟨ba, bc, rfl, _, _⟩ := hv3.form
 have hOB : OwnB w3 (.slice ba l.length bc) l := ⟨hv3, hblk, hr.bd, hlen⟩
 have hk3a := (Kp.refl (fun _ => False) w3).alloc (.cells #[.int .i64 seq, .slice ba l.length bc] 136)
 obtain ⟨v2, w4, hr4, hv4, hk4, hat4, _⟩ := run_append_at (P := Tryz.prog) (t := 84) (tx := 84) (ty := 84) (w3.alloc (.cells #[.int .i64 seq, .slice ba l.length bc] 136)) Tryz.underlying84 elem_held Tryz.underlying84
  (((h.own.kp hk23 (fun _ _ h => h))).kp hk3a (fun _ _ h => h)) (a := some ⟨w3.heap.size, 0, none⟩) (m := 1) (c := 1) (news := [.int .i64 seq, .slice ba l.length bc]) (by simp) (Rd.new w3 [.int .i64 seq, .slice ba l.length bc] 136) (fun u hu => by simp at hu; rcases hu with rfl | rfl <;> rfl) (by have := hlL; unfold maxLen; omega) (by have := hlL; omega)
 have hvG : ∀ g, (Value.slice va L.length vc).ownBlock = some g → G g ∧ g ≠ r := h.vb
 have hk34 : Kp (fun k => (Value.slice va L.length vc).ownBlock = some k) w2 w4 := ((hk23.trans hk3a).mono (S' := fun k => (Value.slice va L.length vc).ownBlock = some k) (fun _ _ h => h.elim)).then hk4 (fun _ _ e => e)
 have hrs := h.lt r h.base
 have hv2n : ∀ g, v2.ownBlock = some g → (Value.slice va L.length vc).ownBlock = some g ∨ w2.heap.size ≤ g := fun g hg => by
  rcases hat4 with e | e
  · exact .inl (e ▸ hg)
  · right; rw [e] at hg; have := hk23.size; simp at hg; omega
 have hkb : ∀ g, (Value.slice ba l.length bc).ownBlock = some g → w2.heap.size ≤ g ∧ v2.ownBlock ≠ some g := fun g hg => ⟨hbvn g hg, fun e => by
  have hlt := hv3.lt g hg
  rcases hat4 with e2 | e2
  · rw [e2] at e
    have := h.own.lt g e
    have := hbvn g hg
    omega
  · rw [e2] at e; simp at e; omega⟩
 have hsq : seq = (q : Int) := Hseq.out
 have hk34' : Kp (fun k => (Value.slice va L.length vc).ownBlock = some k) w3 w4 := (hk3a.mono (S' := fun k => (Value.slice va L.length vc).ownBlock = some k) (fun _ _ h => h.elim)).then hk4 (fun _ _ e => e)
 have hmore := h.more (w' := w4) (v' := v2) (bv := .slice ba l.length bc) (q := q) (l := l) h1 h2 h3 Hf.out hk34 (hOB.kp hk34' (fun g hg e => by have := h.own.lt g e; have := hbvn g hg; omega)) hkb (by rw [← hsq]; exact hv4) hv2n
 obtain ⟨v2a, v2c, rfl, _, _⟩ := hv4.form
 have hL1 : (L ++ [(q, Value.slice ba l.length bc)]).length = L.length + 1 := by simp
 have e0 : (w2.drew).cell? ⟨r, 2, none⟩ = some (.slice va L.length vc) := by rw [World.cell?_drew, h.at_.cell]; rfl
 have e1 : (w2.drew.alloc (.cells #[] 5)).cell? ⟨r, 2, none⟩ = some (.slice va L.length vc) := by rw [(hk2a.at h.at_ (fun h => h)).cell]; rfl
 have e0' : w2.cell? ⟨r, 2, none⟩ = some (.slice va L.length vc) := e0
 have e1' : (w2.alloc (.cells #[] 5)).cell? ⟨r, 2, none⟩ = some (.slice va L.length vc) := e1
 have e3 : w3.cell? ⟨r, 2, none⟩ = some (.slice va L.length vc) := by rw [(hk23.at h.at_ (fun h => h)).cell]; rfl
 have e3a : (w3.alloc (.cells #[.int .i64 seq, .slice ba l.length bc] 136)).cell? ⟨r, 2, none⟩ = some (.slice va L.length vc) := by rw [((hk23.trans hk3a).at h.at_ (fun h => h)).cell]; rfl
 have e4 : w4.cell? ⟨r, 2, none⟩ = some (.slice va L.length vc) := by rw [(hk34.at h.at_ (fun e => (hvG _ e).2 rfl)).cell]; rfl
 have f4 : w4.frozen? ⟨r, 2, none⟩ = false := (hk34.at h.at_ (fun e => (hvG _ e).2 rfl)).frozen 2
 have h7 := h.n_bd
 have hd0 : RDr w G r size n f' n (.slice none 0 0) (w4.setCell ⟨r, 2, none⟩ (.slice v2a (L.length + 1) v2c)) := by
  rw [hf'.out]
  have hs2 := hk2.size
  refine ⟨_, _, _, [], Nat.le_refl _, by omega, hmore, by simp, by rw [Nat.sub_self]; exact Own.nil _ _, fun i hi => by simp at hi, fun g hg => by simp [Value.ownBlock] at hg, fun g hg => ?_, ?_⟩
  · rcases hg with hg | hg
    · exact .inl hg
    · right; omega
  · refine ((hk2.mono (S' := G) (fun _ _ h => h.elim)).then hk34 (fun i hi e => (hvG i e).1)).setCell (p := ⟨r, 2, none⟩) (fun _ => h.base) _
 have hhigh : ∀ k, n + size ≤ k → f' k = none := fun k hk => by rw [hf'.out, put_ne _ _ (by omega)]; exact h.high k hk
 have Hr1 := Lib.hid hr1
 have Hr4 := Lib.hid hr4
 have Hd0 := Lib.hid hd0
 have Hhigh := Lib.hid hhigh
 have HG := Lib.hid (And.intro (h.base) hrs)
 clear h hr2 hk2a hown0 hr1 hv3 hk3 hat3 hbp hblk hk23 hbvn hOB hk3a hr4 hv4 hk4 hat4 hvG hk34 hrs hv2n hkb hsq hmore hL1 hk34' hd0 hhigh
 have hrw : r < w.heap.size := hh.out.lt r hh.out.base
 have hG := hh.out.base
 go_upto_region 7 with fail
 go_cut [] (fun wx => RDr w G r size n f' n (.slice none 0 0) wx)
 case first =>
  have tok1 : True := trivial
  go_region_law ((first | (have _t := tok1; refine step_append_run _ Hr1.out (by rfl) (by rfl) (by rfl) (by rfl) ?_; clear tok1) | (refine step_append_run _ Hr4.out (by rfl) (by rfl) (by rfl) (by rfl) ?_)))
  all_goals (go_wp2_with fail; go_meet; exact Hd0.out)
 case rest =>
  clear e0 e1 e0' e1' e3 e3a e4 f4 Hr1 Hr4 h2 h3 h4 h5 h6 C' Hseq ew hh Hf Hd0 hk2 h7 hr
  have HD := Lib.hid hcut
  clear hcut
  go_wp2_with fail
  go_loopg [8] size (fun k vo wr => ∃ m, k + m = n + size ∧ RDr w G r size n f' m vo wr)
  case atStart => exact ⟨n, by omega, HD.out⟩
  case round =>
   clear HD
   obtain ⟨m, hkm, v, L, G', vs, k1, k2, k3, k4, k5, k6, k7, k8, k9⟩ := hrel
   obtain ⟨oa, oc, rfl, ho1, ho2⟩ := k5.form
   obtain ⟨va, vc, rfl, hvc1, hvc2, hrd, c0, c1, c2, hfz⟩ := k3.form
   have hlL := k3.len
   have hmb := k3.n_bd
   cases hfm : f' m with
   | none =>
    obtain ⟨x, C, x0, x1, hx⟩ := k3.at_ok m
    have hx' : ¬ 0 ≤ x := by
     have : decide (0 ≤ x) = false := by rw [hx]; simp [hfm]
     simpa using this
    have C' := Lib.hid C
    have HF : Hid (∃ n' vo, Ending.returned (.tuple #[.slice oa (m - n) oc, .int .i64 0]) = .returned (.tuple #[vo, .int .i64 0]) ∧ RDr w G r size n f' n' vo wr ∧ f' n' = none) :=
     ⟨m, _, rfl, ⟨_, L, G', vs, k1, k2, k3, k4, k5, k6, k7, k8, k9⟩, hfm⟩
    clear C hx k1 k2 k3 k4 k5 k6 k7 k8 k9 hrd hfm hfz
    go_wp2_with (go_at_call 85; refine C'.out.mono ?_; rintro e w' ⟨rfl, rfl⟩)
    go_ret2
    exact HF.out
   | some y =>
    obtain ⟨i, hi, he, hu⟩ := k3.find (k := m) (Nat.le_refl _) (by rw [hfm]; simp)
    have CY := at_yes r va vc L wr c2 hrd m i hi (by rw [he]) (fun j hj e => hu j hj (by omega)) (by omega)
    have hmn : m < n + size := by
     rcases Nat.lt_or_ge m (n + size) with h | h
     · exact h
     · rw [Hhigh.out m h] at hfm; cases hfm
    obtain ⟨b, off, rfl, hcell⟩ := hrd (i * 2 + 1) (by rw [hc_len]; omega)
    rw [(hc_get L i hi).2, ← Nat.add_assoc] at hcell
    have hmem : L.getD i (0, undef) ∈ L := by rw [List.getD_eq_getElem?_getD, List.getElem?_eq_getElem hi]; exact List.getElem_mem hi
    obtain ⟨y', hy', hOB, hbg⟩ := k3.body _ hmem
    rw [he, hfm] at hy'
    obtain rfl := Option.some.inj hy'
    have hone := k3.one
    obtain ⟨ba, bc, hbv, _, _⟩ := hOB.form
    rw [hbv] at hcell hOB hbg
    have hka := (Kp.refl (fun _ => False) wr).alloc (.cells #[.slice ba y.length bc] 32)
    obtain ⟨vo', w1, hr1, ho', hk1, hat1, _⟩ := run_append_at (P := Tryz.prog) (t := 67) (tx := 67) (ty := 67) (wr.alloc (.cells #[.slice ba y.length bc] 32)) Tryz.underlying67 elem_bytes Tryz.underlying67
     (k5.kp hka (fun _ _ h => h)) (a := some ⟨wr.heap.size, 0, none⟩) (m := 1) (c := 1) (news := [.slice ba y.length bc]) (by simp) (Rd.new wr [.slice ba y.length bc] 32) (fun u hu => by simp at hu; subst hu; rfl) (by have := k3.size_bd; unfold maxLen; omega) (by have := k3.size_bd; omega)
    obtain ⟨oa', oc', rfl, _, _⟩ := ho'.form
    have hkr1 : Kp (fun k => (Value.slice oa (m - n) oc).ownBlock = some k) wr w1 := (hka.mono (S' := fun k => (Value.slice oa (m - n) oc).ownBlock = some k) (fun _ _ h => h.elim)).then hk1 (fun _ _ e => e)
    have h1 := k3.kp hkr1 (fun g hg e => (k7 g e).2 hg)
    have hk1a := ((Kp.refl (fun _ => False) w1).drew.alloc (.cells #[] 136))
    have hown0 : Own (w1.drew.alloc (.cells #[] 136)) (.slice (some ⟨w1.heap.size, 0, none⟩) 0 0) 0 2 [] := ⟨by simp, .inr ⟨w1.heap.size, 0, [], rfl, At.new w1.drew [] 136, by simp, by simp, by simp⟩⟩
    obtain ⟨v2, w2, hr2, hv2, hk2, hat2, _⟩ := run_append_at (P := Tryz.prog) (t := 84) (tx := 84) (ty := 84) (w1.drew.alloc (.cells #[] 136)) Tryz.underlying84 elem_held Tryz.underlying84
     hown0 (a := some ⟨b, off, none⟩) (m := i) (c := vc) (news := (hc L).take (i * 2)) (by simp [hc_len]; omega) (rd_pre' ((h1.kp hk1a (fun _ _ h => h)).form.elim fun a h => h.elim fun c h => by obtain ⟨e, _, _, h3, _⟩ := h; cases e; exact h3) (i * 2)) (fun u hu => hone u (List.mem_of_mem_take hu)) (by unfold maxLen; omega) (by omega)
    rw [Nat.zero_add, List.nil_append] at hv2
    obtain ⟨v2a, v2c, rfl, _, _⟩ := hv2.form
    have hv2n : ∀ g, (Value.slice v2a i v2c).ownBlock = some g → w1.heap.size ≤ g := fun g hg => by
     rcases hat2 with e | e
     · rw [e] at hg; simp [Value.ownBlock] at hg; omega
     · rw [e] at hg; simp at hg; omega
    have hk12 : Kp (fun _ => False) w1 w2 := hk1a.then hk2 (fun i hi e => by simp [Value.ownBlock] at e; omega)
    have hrdw2 : Rd w2 (some ⟨b, off, none⟩) (hc L) := (h1.kp hk12 (fun _ _ h => h)).form.elim fun a h => h.elim fun c h => by obtain ⟨e, _, _, h3, _⟩ := h; cases e; exact h3
    have hrd2 : Rd w2 (if vc = i + 1 then some ⟨b, off, none⟩ else some ⟨b, off + (i + 1) * 2, none⟩) ((hc L).drop ((i + 1) * 2)) := by
     by_cases hcl : vc = i + 1
     · rw [if_pos hcl, List.drop_of_length_le (by rw [hc_len]; omega)]
       exact fun i hi => by simp at hi
     · rw [if_neg hcl]; exact rd_post' hrdw2 ((i + 1) * 2)
    obtain ⟨v3, w3, hr3, hv3, hk3, hat3, _⟩ := run_append_at (P := Tryz.prog) (t := 84) (tx := 84) (ty := 84) w2 Tryz.underlying84 elem_held Tryz.underlying84
     hv2 (a := if vc = i + 1 then some ⟨b, off, none⟩ else some ⟨b, off + (i + 1) * 2, none⟩) (m := L.length - (i + 1)) (c := vc - (i + 1)) (news := (hc L).drop ((i + 1) * 2)) (by simp [hc_len]; omega) hrd2 (fun u hu => hone u (List.mem_of_mem_drop hu)) (by unfold maxLen; omega) (by omega)
    obtain ⟨v3a, v3c, rfl, _, _⟩ := hv3.form
    have hk13 : Kp (fun _ => False) w1 w3 := hk12.then hk3 (fun j hj e => by have := hv2n j e; omega)
    have hv3n : ∀ g, (Value.slice v3a (i + (L.length - (i + 1))) v3c).ownBlock = some g → w1.heap.size ≤ g := fun g hg => by
     rcases hat3 with e | e
     · rw [e] at hg; exact hv2n g hg
     · rw [e] at hg; obtain rfl := Option.some.inj hg; exact hk12.size
    have hnext := RDr.next k1 hmn k3 k4 k6 k7 k8 k9 hG hrw k5.lt hfm hOB (fun g hg => ⟨(hbg g hg).1, (hbg g hg).2.1⟩) ho' hk1 hat1 hi he hk13 hv3 hv3n
    have d0 : w1.cell? ⟨r, 2, none⟩ = some (.slice (some ⟨b, off, none⟩) L.length vc) := by rw [h1.at_.cell]; rfl
    have d1 : (w1.alloc (.cells #[] 136)).cell? ⟨r, 2, none⟩ = some (.slice (some ⟨b, off, none⟩) L.length vc) := by rw [(((Kp.refl (fun _ => False) w1).alloc (.cells #[] 136)).at h1.at_ (fun h => h)).cell]; rfl
    have d2 : w2.cell? ⟨r, 2, none⟩ = some (.slice (some ⟨b, off, none⟩) L.length vc) := by rw [(hk12.at h1.at_ (fun h => h)).cell]; rfl
    have d3 : w3.cell? ⟨r, 2, none⟩ = some (.slice (some ⟨b, off, none⟩) L.length vc) := by rw [(hk13.at h1.at_ (fun h => h)).cell]; rfl
    have d4 : w3.frozen? ⟨r, 2, none⟩ = false := (hk13.at h1.at_ (fun h => h)).frozen 2
    have d5 : w3.frozen? ⟨r, 1, none⟩ = false := (hk13.at h1.at_ (fun h => h)).frozen 1
    have d6 : w3.cell? ⟨r, 1, none⟩ = some (.int .i64 (m : Int)) := by rw [(hk13.at h1.at_ (fun h => h)).cell]; rfl
    have CY' := Lib.hid CY
    have Hr1 := Lib.hid hr1
    have Hr2 := Lib.hid hr2
    have Hr3 := Lib.hid hr3
    have HN := Lib.hid hnext
    have HKM := Lib.hid (And.intro hkm hmn)
    have j0 : (i : Int) < L.length := by omega
    have j1 : (i : Int) ≤ vc := by omega
    have j2 : (i : Int) + 1 ≤ L.length := by omega
    have j3 : IntKind.i64.wrap ((i : Int) + 1) = (i : Int) + 1 := IntWalk.i64_in _ (by omega)
    have j4 : ((i : Int) + 1).toNat = i + 1 := by omega
    have j5 : 0 ≤ (i : Int) + 1 := by omega
    clear k1 k2 k3 k4 k5 k6 k7 k8 k9 hrd hfz he hu CY hmem hOB hbg hone hbv hka hr1 ho' hk1 hat1 hkr1 h1 hk1a hown0 hr2 hv2 hk2 hat2 hv2n hk12 hrdw2 hrd2 hr3 hv3 hk3 hat3 hk13 hv3n hnext hkm hmn hfm hi hvc1 hvc2
    go_wp2_with (first | (go_at_call 85; refine CY'.out.mono ?_; rintro e w' ⟨rfl, rfl⟩) | (at_builtin; refine wpList_append_run _ Hr1.out rfl rfl rfl rfl ?_))
    have tok1 : True := trivial
    go_region_law ((first | (have _t := tok1; refine step_append_run _ Hr2.out (by rfl) (by rfl) (by rfl) (by rfl) ?_; clear tok1) | (refine step_append_run _ Hr3.out (by rfl) (by rfl) (by rfl) (by rfl) ?_)))
    all_goals go_wp2_with fail
    all_goals
     go_roundg (gk - 1)
     case rel => exact ⟨m + 1, by have := HKM.out; omega, HN.out⟩
     case measure => have := HKM.out; omega
theorem rtake_ok {w : World} {r : Nat} {v : Value} {size n : Nat} {L : List (Nat × Value)} {f : Bodies} {G : Nat → Prop} (h : RefC w r v size n L f G) (q : Nat) (a : Option Addr) (cap : Nat) (l : List Int) (hr : RdB w a l) (hlen : l.length ≤ 1000000000)
 (h1 : n ≤ q) (h2 : q < n + size) (h3 : q < 2147483647) (hf : f q = none) :
 Calls Tryz.prog 79 #[.pointer (some ⟨r, 0, none⟩), .int .i64 q, .slice a l.length cap] w fun e w' =>
  ∃ n' vo, e = .returned (.tuple #[vo, .int .i64 0]) ∧ RDr w G r size n (put f q l) n' vo w' ∧ put f q l n' = none :=
 rtake_ok' h q a cap l hr hlen h1 h2 h3 hf _ (Lib.hid rfl)
theorem rtake_any {w : World} {r : Nat} {v : Value} {size n : Nat} {L : List (Nat × Value)} {f : Bodies} {G : Nat → Prop} (h : RefC w r v size n L f G) (hfn : f n = none) (seq : Int) (hs : -9223372036854775808 ≤ seq ∧ seq ≤ 9223372036854775807) (a : Option Addr) (len cap : Nat) (l : List Int) (hr : RdB w a l) (hll : l.length = len) (hlen : len ≤ 1000000000) :
 Calls Tryz.prog 79 #[.pointer (some ⟨r, 0, none⟩), .int .i64 seq, .slice a len cap] w fun e w' =>
  ∃ n' v' L' G' vo vs, e = .returned (.tuple #[vo, .int .i64 (cd f n size seq)]) ∧ RefC w' r v' size n' L' (nf f n size seq l) G' ∧ nf f n size seq l n' = none ∧ n ≤ n' ∧ n' ≤ n + size ∧ vs.length = n' - n ∧ Own w' vo (n' - n) 1 vs ∧
   (∀ i, i < vs.length → ∃ y, nf f n size seq l (n + i) = some y ∧ OwnB w' (vs.getD i undef) y) ∧ (∀ g, G' g → G g ∨ w.heap.size ≤ g) ∧ Kp G w w' ∧ (∀ g, vo.ownBlock = some g → w.heap.size ≤ g) := by
 subst hll
 have bad : ∀ w' (k : Int), cd f n size seq = k → k ≠ 0 → Kp (fun _ => False) w w' → (∃ n' v' L' G' vo vs, Ending.returned (.tuple #[.slice none 0 0, .int .i64 k]) = .returned (.tuple #[vo, .int .i64 (cd f n size seq)]) ∧ RefC w' r v' size n' L' (nf f n size seq l) G' ∧ nf f n size seq l n' = none ∧ n ≤ n' ∧ n' ≤ n + size ∧ vs.length = n' - n ∧ Own w' vo (n' - n) 1 vs ∧
  (∀ i, i < vs.length → ∃ y, nf f n size seq l (n + i) = some y ∧ OwnB w' (vs.getD i undef) y) ∧ (∀ g, G' g → G g ∨ w.heap.size ≤ g) ∧ Kp G w w' ∧ (∀ g, vo.ownBlock = some g → w.heap.size ≤ g)) := fun w' k hk h0 hkp => by
  refine ⟨n, v, L, G, .slice none 0 0, [], by rw [hk], ?_, ?_, Nat.le_refl _, by omega, by simp, by rw [Nat.sub_self]; exact Own.nil _ _, fun i hi => by simp at hi, fun g hg => .inl hg, hkp.mono (fun _ _ h => h.elim), fun g hg => by cases hg⟩
  · rw [nf_same _ _ _ _ _ (by rw [hk]; exact h0)]
    exact h.kp hkp (fun _ _ h => h)
  · rw [nf_same _ _ _ _ _ (by rw [hk]; exact h0)]; exact hfn
 by_cases h1 : seq < 1 ∨ 2147483647 ≤ seq
 · have hc : cd f n size seq = 5 := by unfold cd; rw [if_pos h1]
   refine (rtake_range seq a l.length cap h1).mono ?_
   rintro e w' ⟨rfl, rfl⟩
   exact bad w 5 hc (by omega) (Kp.refl _ _)
 · obtain ⟨q, rfl⟩ := Int.eq_ofNat_of_zero_le (show 0 ≤ seq by omega)
   have hq : hasI f q = (f q).isSome := by simp [hasI]
   by_cases h2 : (f q).isSome = true
   · have hc : cd f n size q = 7 := by unfold cd; rw [if_neg h1, hq, if_pos h2]
     refine (rtake_there h q a l.length cap (by omega) (by omega) (by rw [hq]; exact h2)).mono ?_
     rintro e w' ⟨rfl, rfl⟩
     exact bad w 7 hc (by omega) (Kp.refl _ _)
   · by_cases h3 : n + size ≤ q
     · have hc : cd f n size q = 8 := by unfold cd; rw [if_neg h1, hq, if_neg h2, if_pos (by omega)]
       refine (rtake_full h q a l.length cap (by omega) (by omega) (by rw [hq]; simpa using h2) (by omega)).mono ?_
       rintro e w' ⟨rfl, hk⟩
       exact bad w' 8 hc (by omega) hk
     · have hc : cd f n size q = 0 := by unfold cd; rw [if_neg h1, hq, if_neg h2, if_neg (by omega)]
       have hfq : f q = none := by simpa using h2
       have hnq : n ≤ q := by
        rcases Nat.lt_or_ge q n with hlt | hge
        · exact absurd hfq (h.low q (by omega) hlt)
        · exact hge
       refine (rtake_ok h q a cap l hr hlen hnq (by omega) (by omega) hfq).mono ?_
       rintro e w' ⟨n', vo, rfl, ⟨v', L', G', vs, k1, k2, k3, k4, k5, k6, k7, k8, k9⟩, k10⟩
       rw [nf_put _ _ _ _ _ hc, hc]
       exact ⟨n', v', L', G', vo, vs, rfl, k3, k10, k1, k2, k4, k5, fun i hi => by obtain ⟨y, e1, e2, _⟩ := k6 i hi; exact ⟨y, e1, e2⟩, k8, k9, fun g hg => (k7 g hg).1⟩
def tld (f : Bodies) (n m : Nat) : List (List Int) := (List.range m).map fun i => (f (n + i)).getD []
theorem tld_len (f : Bodies) (n m : Nat) : (tld f n m).length = m := by simp [tld]
theorem rdl_vals {w : World} {a : Option Addr} {n m c : Nat} {vs : List Value} {f : Bodies} (ho : Own w (.slice a m c) m 1 vs) (h : ∀ i, i < vs.length → ∃ y, f (n + i) = some y ∧ OwnB w (vs.getD i undef) y) : RdL w a (tld f n m) := fun i hi => by
 rw [tld_len] at hi
 have hvl : vs.length = m := by have := ho.1; omega
 obtain ⟨y, e1, e2⟩ := h i (by omega)
 obtain ⟨ai, ci, e3, hr, hle⟩ := e2.form
 obtain ⟨g, off, ha, hc⟩ := ho.rd i (by omega)
 have e4 : (tld f n m).getD i [] = y := by
  simp [tld, List.getD_eq_getElem?_getD, hi, e1]
 rw [e4]
 exact ⟨g, off, ai, ci, ha, by rw [hc, e3], hr, hle⟩
end Go.Proofs.YtokembhfebnjpaaGreat
