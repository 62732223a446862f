/- Package inbox: Take, where a body is taken. -/
import Derived.Test.YtokembhfebnjpaaGreatQMemM
import Derived.Test.YtokembhfebnjpaaGreatQKt0M
import Derived.Test.YtokembhfebnjpaaGreatQInbTM
import Derived.Deep.LoopGhost
namespace Go.Proofs.YtokembhfebnjpaaGreat
set_option maxRecDepth 20000
open Go.RowKit
set_option linter.unusedVariables false
structure Told (w : World) (f : Bodies) (n : Nat) (vs : List Value) (G F : Nat → Prop) : Prop where
 own : ∀ i, i < vs.length → ∃ l, f (n + i) = some l ∧ OwnB w (vs.getD i undef) l
 blk : ∀ i g, i < vs.length → (vs.getD i undef).ownBlock = some g → G g ∧ ¬ F g
 dist : ∀ i j g, i < vs.length → j < vs.length → (vs.getD i undef).ownBlock = some g → (vs.getD j undef).ownBlock = some g → i = j
theorem Told.nil (w : World) (f : Bodies) (n : Nat) (G F : Nat → Prop) : Told w f n [] G F := ⟨fun i h => by simp at h, fun i g h => by simp at h, fun i j g h => by simp at h⟩
theorem Told.kp {S : Nat → Prop} {w w' : World} {f : Bodies} {n : Nat} {vs : List Value} {G F : Nat → Prop} (h : Told w f n vs G F) (hk : Kp S w w') (hS : ∀ i g, i < vs.length → (vs.getD i undef).ownBlock = some g → ¬ S g) : Told w' f n vs G F :=
 ⟨fun i hi => by obtain ⟨l, h1, h2⟩ := h.own i hi; exact ⟨l, h1, h2.kp hk (fun g hg => hS i g hi hg)⟩, h.blk, h.dist⟩
theorem getD_snoc_lt {α : Type} (l : List α) (x d : α) {i : Nat} (h : i < l.length) : (l ++ [x]).getD i d = l.getD i d := by
 rw [List.getD_eq_getElem?_getD, List.getElem?_append_left h, List.getD_eq_getElem?_getD]
theorem getD_snoc_at {α : Type} (l : List α) (x d : α) : (l ++ [x]).getD l.length d = x := by
 rw [List.getD_eq_getElem?_getD, List.getElem?_append_right (by omega), Nat.sub_self]; rfl
theorem Told.snoc {w : World} {f : Bodies} {n : Nat} {vs : List Value} {G F F' : Nat → Prop} (h : Told w f n vs G F) {x : Value} {l : List Int} (hl : f (n + vs.length) = some l) (ho : OwnB w x l)
 (hF : ∀ g, F' g → F g ∧ x.ownBlock ≠ some g) (hx : ∀ g, x.ownBlock = some g → G g ∧ F g) : Told w f n (vs ++ [x]) G F' := by
 have cases' : ∀ i, i < (vs ++ [x]).length → i < vs.length ∨ i = vs.length := fun i hi => by simp at hi; omega
 refine ⟨fun i hi => ?_, fun i g hi hg => ?_, fun i j g hi hj hgi hgj => ?_⟩
 · rcases cases' i hi with h' | rfl
   · rw [getD_snoc_lt _ _ _ h']; exact h.own i h'
   · rw [getD_snoc_at]; exact ⟨l, hl, ho⟩
 · rcases cases' i hi with h' | rfl
   · rw [getD_snoc_lt _ _ _ h'] at hg
     exact ⟨(h.blk i g h' hg).1, fun hF' => (h.blk i g h' hg).2 (hF g hF').1⟩
   · rw [getD_snoc_at] at hg
     exact ⟨(hx g hg).1, fun hF' => (hF g hF').2 hg⟩
 · rcases cases' i hi with h' | rfl
   · rw [getD_snoc_lt _ _ _ h'] at hgi
     rcases cases' j hj with h'' | rfl
     · rw [getD_snoc_lt _ _ _ h''] at hgj
       exact h.dist i j g h' h'' hgi hgj
     · rw [getD_snoc_at] at hgj
       exact absurd (hx g hgj).2 (h.blk i g h' hgi).2
   · rw [getD_snoc_at] at hgi
     rcases cases' j hj with h'' | rfl
     · rw [getD_snoc_lt _ _ _ h''] at hgj
       exact absurd (hx g hgi).2 (h.blk j g h'' hgj).2
     · rfl
def Drain (w0 : World) (b bx bo size : Nat) (f : Bodies) (n : Nat) (G : Nat → Prop) (m : Nat) (wr : World) : Prop :=
 ∃ c hd F v vs, n ≤ m ∧ m ≤ n + size ∧ vs.length = m - n ∧ InbC wr b c size f m hd F ∧ At wr bo [v] ∧ Own wr v (m - n) 1 vs ∧ Told wr f n vs G F ∧
  (∀ g, v.ownBlock = some g → bo < g) ∧ (∀ g, F g → g < bo ∧ g ≠ bx ∧ (g = b ∨ G g)) ∧ wr.cell? ⟨bx, 0, none⟩ = some (.pointer (some ⟨b, 0, none⟩)) ∧ Kp (· = b) w0 wr
theorem drain_no {w0 wr : World} {b bx bo size : Nat} {f : Bodies} {n m : Nat} {G : Nat → Prop} (h : Drain w0 b bx bo size f n G m wr) (hf : f m = none) :
 Calls Tryz.prog 128 #[.pointer (some ⟨bx, 0, none⟩), .pointer (some ⟨bo, 0, none⟩)] wr fun e w' => e = .returned (.bool false) ∧ Drain w0 b bx bo size f n G m w' := by
 obtain ⟨c, hd, F, v, vs, h1, h2, h3, h4, h5, h6, h7, h8, h9, h10, h11⟩ := h
 refine (tell_no b bx bo c size f m hd F wr h4 hf h10).mono ?_
 rintro e w' ⟨rfl, k, rfl⟩
 have hk : Kp (fun _ => False) wr (wr.drewN k) := (Kp.refl _ _).drewN k
 exact ⟨rfl, c, hd, F, v, vs, h1, h2, h3, h4.kp hk (fun _ _ h => h), hk.at h5 (fun h => h), h6.kp hk (fun _ _ h => h), h7.kp hk (fun _ _ _ _ h => h), h8, h9, hk.cell h10 (fun h => h), h11.drewN k⟩
theorem drain_yes {w0 wr : World} {b bx bo size : Nat} {f : Bodies} {n m : Nat} {G : Nat → Prop} (h : Drain w0 b bx bo size f n G m wr) {l : List Int} (hf : f m = some l) (hhigh : ∀ k, n + size ≤ k → f k = none) (hsz : size ≤ 64)
 (hbx : bx ≠ b) (hxo : bx < bo) (hob : b < bo) (hw0 : w0.heap.size ≤ bo) (hG : ∀ g, G g → g < bo ∧ g ≠ b) :
 Calls Tryz.prog 128 #[.pointer (some ⟨bx, 0, none⟩), .pointer (some ⟨bo, 0, none⟩)] wr fun e w' => e = .returned (.bool true) ∧ m < n + size ∧ Drain w0 b bx bo size f n G (m + 1) w' := by
 obtain ⟨c, hd, F, v, vs, h1, h2, h3, h4, h5, h6, h7, h8, h9, h10, h11⟩ := h
 have hlt : m < n + size := by
  rcases Nat.lt_or_ge m (n + size) with h | h
  · exact h
  · rw [hhigh m h] at hf; cases hf
 have hbo := h5.lt
 have hv1 : ∀ g, v.ownBlock = some g → g ≠ b ∧ g ≠ bo ∧ g ≠ bx ∧ ¬ F g := fun g hg => by
  have := h8 g hg
  exact ⟨by omega, by omega, by omega, fun hF => by have := (h9 g hF).1; omega⟩
 obtain ⟨hbody, hblk⟩ := h4.body m l (Nat.le_refl _) (by omega) hf
 refine (tell_yes b bx bo c size f m hd F l v (m - n) vs wr h4 hf h10 hbx (by omega) (fun e => (hv1 bx e).2.2.1 rfl) h5 h6 (by omega) (by omega) (fun e => by have := (h9 bo e).1; omega) (fun e => (hv1 bo e).2.1 rfl) (fun g hg => (hv1 g hg).2.2.2)).mono ?_
 rintro e w' ⟨rfl, c', v', k1, k2, k3, k4, k5⟩
 have hsv : ∀ g, (c (sl m)).ownBlock = some g → ¬ (g = b ∨ g = bo ∨ v.ownBlock = some g) := fun g hg e => by
  have hF := (hblk g hg).1
  have := (h9 g hF).1
  rcases e with rfl | rfl | e
  · exact (hblk _ hg).2 rfl
  · omega
  · exact (hv1 g e).2.2.2 hF
 refine ⟨rfl, hlt, c', hd - 1, _, v', vs ++ [c (sl m)], by omega, by omega, by simp; omega, k1, k2, by rw [show m + 1 - n = m - n + 1 by omega]; exact k3, ?_, ?_, ?_, ?_, ?_⟩
 · have h7' := h7.kp k5 (fun i g hi hg e => by
    obtain ⟨hgG, hgF⟩ := h7.blk i g hi hg
    have := hG g hgG
    rcases e with rfl | rfl | e
    · exact this.2 rfl
    · omega
    · have := h8 g e; omega)
   refine h7'.snoc (F' := fun k => F k ∧ (c (sl m)).ownBlock ≠ some k) (l := l) (by rw [h3, show n + (m - n) = m by omega]; exact hf) (hbody.kp k5 hsv) (fun g hg => hg) (fun g hg => ⟨?_, (hblk g hg).1⟩)
   rcases (h9 g (hblk g hg).1).2.2 with e | e
   · exact absurd e (hblk g hg).2
   · exact e
 · intro g hg
   rcases k4 with e | ⟨g', e, hle⟩
   · exact h8 g (by rw [← e]; exact hg)
   · rw [e] at hg; obtain rfl := Option.some.inj hg; omega
 · intro g hg; exact h9 g hg.1
 · refine k5.cell h10 (fun e => ?_)
   rcases e with e | e | e
   · exact hbx e
   · simp at e; omega
   · exact (hv1 bx e).2.2.1 rfl
 · refine h11.then k5 (fun i hi e => ?_)
   rcases e with e | e | e
   · exact e
   · omega
   · have := h8 i e; omega

theorem take_ok {b size : Nat} {f : Bodies} {n hd : Nat} {F : Nat → Prop} {w : World} (h : InbAt w b size f n hd F) (q : Nat) (a : Option Addr) (cap : Nat) (l : List Int) (hr : RdB w a l) (hlen : l.length ≤ 1000000000)
 (h1 : n ≤ q) (h2 : q < n + size) (h3 : q < 2147483647) (hf : f q = none) :
 Calls Tryz.prog 119 #[.pointer (some ⟨b, 0, none⟩), .int .i64 q, .slice a l.length cap] w fun e w' =>
  ∃ n' hd' F' v vs, e = .returned (.tuple #[v, .int .i64 0]) ∧ n ≤ n' ∧ n' ≤ n + size ∧ vs.length = n' - n ∧ InbAt w' b size (put f q l) n' hd' F' ∧ Own w' v (n' - n) 1 vs ∧ Told w' (put f q l) n vs (fun g => (F g ∧ g ≠ b) ∨ w.heap.size ≤ g) F' ∧
   (∀ g, v.ownBlock = some g → w.heap.size ≤ g ∧ ¬ F' g) ∧ (∀ g, F' g → F g ∨ w.heap.size ≤ g) ∧ Kp (· = b) w w' := by
 obtain ⟨⟨c, h⟩, hn⟩ := h
 have hA := fun o => h.kp ((Kp.refl (fun _ => False) w).alloc o) (fun _ _ h => h)
 have h0 := fun o => (hA o).at_.is (i := 0) (by omega) h.sz
 have hne : ((size : Int) == 0) = false := by have := h.size_bd; simp; omega
 have hH := fun o => (hA o).hasSpec hn q (by omega)
 have e : hasI f q = false := by simp [hasI, hf]
 rw [e] at hH
 have hB := fun o m => (hA o).kp ((Kp.refl (fun _ => False) (w.alloc o)).drewN m) (fun _ _ h => h)
 have hG := fun o m => ahead_ge b size n q ((w.alloc o).drewN m) ((hB o m).at_.is (i := 0) (by omega) h.sz) ((hB o m).at_.is (i := 1) (by omega) h.nx) (by omega) (by omega) (by omega)
 have e2 : decide ((q : Int) - n < size) = true := by simp; omega
 rw [e2] at hG
 have HH := Lib.hid hH
 have HG := Lib.hid hG
 have g1 : (1 : Int) ≤ q := by have := h.n_bd; omega
 have g2 : (q : Int) < 2147483647 := by omega
 have m0 : 0 ≤ (q : Int) % 64 := by omega
 have m1 : (q : Int) % 64 < 64 := by omega
 have m2 : ((q : Int) % 64).toNat = q % 64 := by omega
 have m3 : (q : Int).tmod 64 = (q : Int) % 64 := Int.tmod_eq_emod_of_nonneg (by omega)
 have h3' := Lib.hid h3
 have Hh := Lib.hid h
 clear hA hH e hB hG e2 h3
 obtain ⟨seq, hseq⟩ : ∃ seq : Int, seq = q := ⟨_, rfl⟩
 rw [← hseq] at HH HG g1 g2 m0 m1 m2 m3 ⊢
 clear hseq h
 go_enter Tryz.func119, Tryz.ntmps119
 go_wp2_with (first | (go_at_call 57; refine (inone_at b _ _ (h0 _)).mono ?_; rintro e w' ⟨rfl, rfl⟩) | (go_at_call 126; refine (HH.out _).mono ?_; rintro e w' ⟨rfl, m, rfl⟩))
 refine (HG.out _ _).mono ?_
 rintro e w2 ⟨rfl, hm⟩
 have hk2 : Kp (fun _ => False) w w2 := by obtain ⟨m', rfl⟩ := hm; exact (((Kp.refl _ w).alloc _).drewN _).drewN _
 have hxb : At w2 w.heap.size [.pointer (some ⟨b, 0, none⟩)] := by obtain ⟨m', rfl⟩ := hm; exact ((At.new w [.pointer (some ⟨b, 0, none⟩)] _).drewN _).drewN _
 clear hm h0
 have h := Hh.out.kp hk2 (fun _ _ h => h)
 have hbw := Hh.out.at_.lt
 have hr2 := hr.kp hk2 (fun _ _ h => h)
 obtain ⟨v', w3, hrun, hv3, hk3, hat3, hbp⟩ := run_append_at (P := Tryz.prog) (t := 32) (tx := 32) (ty := 32) w2 Tryz.underlying32 elem_u8 Tryz.underlying32 (Own.nil w2 1) (a := a) (m := l.length) (c := cap) (news := l.map (Value.int .u8)) (by simp) hr2.rd (oneCell_u8 l) (by unfold maxLen; omega) (by omega)
 have hblk := hbp isB isB_zero (by rw [List.nil_append]; exact isB_map hr.bd) (BlkP.nil _ _ _ _)
 rw [Nat.zero_add, List.nil_append] at hv3
 obtain ⟨va, vc, rfl, hvc1, hvc2⟩ := hv3.form
 have hk3' : Kp (fun _ => False) w2 w3 := hk3.mono (fun i _ e => by simp [Value.ownBlock] at e)
 have h3 := h.kp hk3' (fun _ _ h => h)
 have hx3 := hk3'.at hxb (fun h => h)
 have xlt := hxb.lt
 have x2 : w2.cell? ⟨w.heap.size, 0, none⟩ = some (.pointer (some ⟨b, 0, none⟩)) := by rw [hxb.cell]; rfl
 have x3 : w3.cell? ⟨w.heap.size, 0, none⟩ = some (.pointer (some ⟨b, 0, none⟩)) := by rw [hx3.cell]; rfl
 have c2 := h3.at_.is (i := 2) (by omega) h3.hl
 have c3 := h3.at_.cell (i := sl q) (sl_lt q).1
 have c4 := h3.at_.cell (i := fl q) (sl_lt q).2
 have es : sl q = 3 + q % 64 * 2 := by unfold sl; omega
 have ef : fl q = 3 + q % 64 * 2 + 1 := by unfold fl; omega
 rw [es] at c3
 rw [ef] at c4
 have f1 := fun i => h3.at_.frozen i
 have n1 : ¬ b = w.heap.size := by omega
 have n2 : ¬ w.heap.size = b := by omega
 have hhd : hd ≤ 64 := by rw [h.cnt]; exact Nat.le_trans (cn_le f n size) h.size_bd.2
 have hvn : ∀ g, (Value.slice va l.length vc).ownBlock = some g → w2.heap.size ≤ g := fun g hg => by
  rcases hat3 with e | e
  · rw [e] at hg; simp [Value.ownBlock] at hg
  · rw [e] at hg; simp at hg; omega
 have hput := h.put h1 h2 h3'.out hf hk3' (fun _ _ h => h) ⟨hv3, hblk, hr.bd, hlen⟩ hvn
 have hmf : ∀ (fn : Fn) (first cap : Array Value) (w : World), (Instr.makeFunc fn first cap).run Tryz.prog w = .ok (.func fn first cap) w := fun _ _ _ _ => rfl
 have Hrun := Lib.hid hrun
 have Hput := Lib.hid hput
 have Hes := Lib.hid es
 have Hef := Lib.hid ef
 have Hk := Lib.hid (And.intro hk2 (And.intro hk3' hx3))
 have Hv := Lib.hid (And.intro hv3 hvn)
 have Hhn := Lib.hid (And.intro hn hf)
 clear hrun hput es ef h h3 hk2 hk3 hk3' hx3 hat3 hv3 hr2 hvn hxb HH HG hn hf
 go_wp2_with (first | (at_builtin; refine wpList_append_run _ Hrun.out rfl rfl rfl rfl ?_))
 refine wp_world (fun w4 => Drain w b w.heap.size w3.heap.size size (put f q l) n (fun g => ((F g ∧ g ≠ b) ∨ w.heap.size ≤ g) ∧ g < w3.heap.size ∧ g ≠ b) n w4) ?_ ?_
 · obtain ⟨hk2, hk3, hx3⟩ := Hk.out
   obtain ⟨hv3, hvn⟩ := Hv.out
   have hput := Hput.out
   rw [Hef.out, Hes.out, show ((hd + 1 : Nat) : Int) = (hd : Int) + 1 by omega] at hput
   have hs1 := hk2.size
   have hs2 := hk3.size
   have hKb : Kp (· = b) w3 (((w3.setCell ⟨b, 3 + q % 64 * 2, none⟩ (.slice va l.length vc)).setCell ⟨b, 3 + q % 64 * 2 + 1, none⟩ (.bool true)).setCell ⟨b, 2, none⟩ (.int .i64 ((hd : Int) + 1))) :=
    (((Kp.refl (· = b) _).setCell (p := ⟨b, 3 + q % 64 * 2, none⟩) (fun _ => rfl) _).setCell (p := ⟨b, 3 + q % 64 * 2 + 1, none⟩) (fun _ => rfl) _).setCell (p := ⟨b, 2, none⟩) (fun _ => rfl) _
   have hKa : Kp (· = b) w3 _ := hKb.alloc (.cells #[.slice none 0 0] 67)
   refine ⟨_, hd + 1, _, .slice none 0 0, [], Nat.le_refl _, by omega, by simp, hput.kp ((Kp.refl (fun _ => False) _).alloc _) (fun _ _ h => h), ?_, ?_, Told.nil _ _ _ _ _, ?_, ?_, ?_, ?_⟩
   · have := At.new (((w3.setCell ⟨b, 3 + q % 64 * 2, none⟩ (.slice va l.length vc)).setCell ⟨b, 3 + q % 64 * 2 + 1, none⟩ (.bool true)).setCell ⟨b, 2, none⟩ (.int .i64 ((hd : Int) + 1))) [.slice none 0 0] 67
     simpa using this
   · rw [Nat.sub_self]; exact Own.nil _ _
   · intro g hg; simp [Value.ownBlock] at hg
   · intro g hg
     rcases hg with hg | hg
     · have := Hh.out.lt g hg
       exact ⟨by omega, by omega, by
        by_cases e : g = b
        · exact .inl e
        · exact .inr ⟨.inl ⟨hg, e⟩, by omega, e⟩⟩
     · have h5 := hv3.lt g hg
       have h6 := hvn g hg
       exact ⟨by omega, by omega, .inr ⟨.inr (by omega), by omega, by omega⟩⟩
   · refine hKa.cell ?_ (fun e => n2 e)
     rw [hx3.cell]; rfl
   · exact ((hk2.trans hk3).mono (S' := (· = b)) (fun _ _ h => h.elim)).then hKa (fun _ _ e => e)
 intro w4 hdr
 have hs1 := Hk.out.1.size
 have hs2 := Hk.out.2.1.size
 have hhigh : ∀ k, n + size ≤ k → put f q l k = none := fun k hk => by rw [put_ne _ _ (by omega)]; exact Hh.out.high k hk
 have hsz := Hh.out.size_bd.2
 have Hhigh := Lib.hid hhigh
 clear hhigh x2 x3 c2 c3 c4 f1 Hput Hrun m0 m1 m2 m3 g1 g2
 go_loopg [] size (fun k wr => ∃ m, k + m = n + size ∧ Drain w b w.heap.size w3.heap.size size (put f q l) n (fun g => ((F g ∧ g ≠ b) ∨ w.heap.size ≤ g) ∧ g < w3.heap.size ∧ g ≠ b) m wr)
 case atStart => exact ⟨n, by omega, hdr⟩
 case round =>
  obtain ⟨m, hkm, hdr⟩ := hrel
  cases hfm : put f q l m with
  | some l' =>
   have D := drain_yes hdr hfm Hhigh.out hsz n2 (by omega) (by omega) (by omega) (fun g hg => hg.2)
   have D' := Lib.hid D
   have Hfm := Lib.hid hfm
   clear D hdr hfm
   go_wp2_with (go_at_call 128; refine D'.out.mono ?_; rintro e w5 ⟨rfl, hlt, hdr'⟩)
   go_roundg (gk - 1)
   case rel => exact ⟨m + 1, by omega, hdr'⟩
   case measure => omega
  | none =>
   have D := drain_no hdr hfm
   have D' := Lib.hid D
   have Hfm := Lib.hid hfm
   clear D hdr hfm
   go_wp2_with fail
   refine D'.out.mono ?_
   rintro e w5 ⟨rfl, c5, hd5, F5, v5, vs5, k1, k2, k3, k4, k5, k6, k7, k8, k9, k10, k11⟩
   have hc5 : w5.cell? ⟨w3.heap.size, 0, none⟩ = some v5 := by rw [k5.cell]; rfl
   obtain ⟨va5, vc5, rfl, _, _⟩ := k6.form
   have HK := Lib.hid (And.intro k1 (And.intro k2 (And.intro k3 (And.intro k4 (And.intro k6 (And.intro k7 (And.intro k8 (And.intro k9 k11))))))))
   clear k1 k2 k3 k4 k5 k6 k7 k8 k9 k10 k11
   go_wp2
   go_ret2
   obtain ⟨k1, k2, k3, k4, k6, k7, k8, k9, k11⟩ := HK.out
   refine ⟨m, hd5, F5, _, vs5, rfl, k1, k2, k3, ⟨⟨c5, k4⟩, Hfm.out⟩, k6, ⟨k7.own, fun i g hi hg => ⟨((k7.blk i g hi hg).1).1, (k7.blk i g hi hg).2⟩, k7.dist⟩, fun g hg => ⟨by have := k8 g hg; omega, fun hF => by have := k8 g hg; have := (k9 g hF).1; omega⟩, fun g hg => ?_, k11⟩
   rcases (k9 g hg).2.2 with e | e
   · rw [e]; exact .inl Hh.out.base
   · rcases e.1 with e | e
     · exact .inl e.1
     · exact .inr e
theorem InbAt.next_le {w : World} {b size : Nat} {f : Bodies} {n hd : Nat} {F : Nat → Prop} (h : InbAt w b size f n hd F) {k : Nat} (hk : 1 ≤ k) (hf : f k = none) : n ≤ k := by
 obtain ⟨⟨c, h⟩, _⟩ := h
 rcases Nat.lt_or_ge k n with h' | h'
 · exact absurd hf (h.low k hk h')
 · exact h'
def cd (f : Bodies) (n size : Nat) (seq : Int) : Int :=
 if seq < 1 ∨ 2147483647 ≤ seq then 5 else if hasI f seq then 7 else if (n + size : Int) ≤ seq then 8 else 0
def nf (f : Bodies) (n size : Nat) (seq : Int) (l : List Int) : Bodies := if cd f n size seq = 0 then put f seq.toNat l else f
theorem nf_same (f : Bodies) (n size : Nat) (seq : Int) (l : List Int) (h : cd f n size seq ≠ 0) : nf f n size seq l = f := by unfold nf; rw [if_neg h]
theorem nf_put (f : Bodies) (n size : Nat) (seq : Int) (l : List Int) (h : cd f n size seq = 0) : nf f n size seq l = put f seq.toNat l := by unfold nf; rw [if_pos h]
theorem take_any {b size : Nat} {f : Bodies} {n hd : Nat} {F : Nat → Prop} {w : World} (h : InbAt w b size f n hd F) (seq : Int) (hs : -9223372036854775808 ≤ seq ∧ seq ≤ 9223372036854775807) (a : Option Addr) (len cap : Nat) (l : List Int) (hr : RdB w a l) (hll : l.length = len) (hlen : len ≤ 1000000000) :
 Calls Tryz.prog 119 #[.pointer (some ⟨b, 0, none⟩), .int .i64 seq, .slice a len cap] w fun e w' =>
  ∃ n' hd' F' v vs, e = .returned (.tuple #[v, .int .i64 (cd f n size seq)]) ∧ InbAt w' b size (nf f n size seq l) n' hd' F' ∧ n ≤ n' ∧ n' ≤ n + size ∧ vs.length = n' - n ∧ Own w' v (n' - n) 1 vs ∧
   Told w' (nf f n size seq l) n vs (fun g => (F g ∧ g ≠ b) ∨ w.heap.size ≤ g) F' ∧ (∀ g, v.ownBlock = some g → w.heap.size ≤ g ∧ ¬ F' g) ∧ (∀ g, F' g → F g ∨ w.heap.size ≤ g) ∧ Kp (· = b) w w' ∧ (cd f n size seq ≠ 0 → n' = n ∧ hd' = hd) := by
 subst hll
 have bad : ∀ w' (k : Int), cd f n size seq = k → k ≠ 0 → Kp (fun _ => False) w w' → (∃ n' hd' F' v vs, Ending.returned (.tuple #[.slice none 0 0, .int .i64 k]) = .returned (.tuple #[v, .int .i64 (cd f n size seq)]) ∧ InbAt w' b size (nf f n size seq l) n' hd' F' ∧ n ≤ n' ∧ n' ≤ n + size ∧ vs.length = n' - n ∧ Own w' v (n' - n) 1 vs ∧
  Told w' (nf f n size seq l) n vs (fun g => (F g ∧ g ≠ b) ∨ w.heap.size ≤ g) F' ∧ (∀ g, v.ownBlock = some g → w.heap.size ≤ g ∧ ¬ F' g) ∧ (∀ g, F' g → F g ∨ w.heap.size ≤ g) ∧ Kp (· = b) w w' ∧ (cd f n size seq ≠ 0 → n' = n ∧ hd' = hd)) := fun w' k hk h0 hkp => by
  refine ⟨n, hd, F, .slice none 0 0, [], by rw [hk], ?_, Nat.le_refl _, by omega, by simp, ?_, Told.nil _ _ _ _ _, fun g hg => by simp [Value.ownBlock] at hg, fun g hg => .inl hg, hkp.mono (fun _ _ h => h.elim), fun _ => ⟨rfl, rfl⟩⟩
  · rw [nf_same _ _ _ _ _ (by rw [hk]; exact h0)]
    exact h.kp hkp (fun _ _ h => h)
  · rw [Nat.sub_self]; exact Own.nil _ _
 by_cases h1 : seq < 1 ∨ 2147483647 ≤ seq
 · have hc : cd f n size seq = 5 := by unfold cd; rw [if_pos h1]
   refine (take_range h seq a l.length cap h1).mono ?_
   rintro e w' ⟨rfl, hk⟩
   exact bad w' 5 hc (by omega) hk
 · obtain ⟨q, rfl⟩ := Int.eq_ofNat_of_zero_le (show 0 ≤ seq by omega)
   have hq : hasI f q = (f q).isSome := by simp [hasI]
   by_cases h2 : (f q).isSome = true
   · have hc : cd f n size q = 7 := by unfold cd; rw [if_neg h1, hq, if_pos h2]
     refine (take_there h q a l.length cap (by omega) (by omega) h2).mono ?_
     rintro e w' ⟨rfl, hk⟩
     exact bad w' 7 hc (by omega) hk
   · by_cases h3 : n + size ≤ q
     · have hc : cd f n size q = 8 := by unfold cd; rw [if_neg h1, hq, if_neg h2, if_pos (by omega)]
       refine (take_full h q a l.length cap (by omega) (by omega) h3).mono ?_
       rintro e w' ⟨rfl, hk⟩
       exact bad w' 8 hc (by omega) hk
     · have hc : cd f n size q = 0 := by unfold cd; rw [if_neg h1, hq, if_neg h2, if_neg (by omega)]
       have hfq : f q = none := by simpa using h2
       have hnq : n ≤ q := h.next_le (by omega) hfq
       refine (take_ok h q a cap l hr hlen hnq (by omega) (by omega) hfq).mono ?_
       rintro e w' ⟨n', hd', F', v, vs, rfl, k1, k2, k3, k4, k5, k6, k7, k8, k9⟩
       rw [nf_put _ _ _ _ _ hc, hc]
       exact ⟨n', hd', F', v, vs, rfl, k4, k1, k2, k3, k5, k6, k7, k8, k9, fun h => absurd rfl h⟩

end Go.Proofs.YtokembhfebnjpaaGreat
