/- Chapter 15: an end and the document's, side by side. -/
import Derived.Test.YtokembhfebnjpaaGreatQLnOM
import Derived.Test.YtokembhfebnjpaaGreatQLnXM
import Derived.Test.YtokembhfebnjpaaGreatQRlNM
namespace Go.Proofs.YtokembhfebnjpaaGreat
set_option maxRecDepth 20000
open Go.RowKit Flt
set_option linter.unusedVariables false
structure ScA (x : Ae) (e : Dl) : Prop where
 ag : e.ag = true
 hello : e.hello = false
 rs : e.rs = []
 asked : e.asked = x.sent
 at_ : x.sent = true → e.at_ = x.at_
 ea : e.at_ ≤ 2147483647
 iv : Iv x.t x.I
 se : 1 ≤ x.t.se
 bo0 : x.t.st = 1 → x.t.bo = 0
structure ScD (y : De) (e : Dl) : Prop where
 ag : e.ag = false
 hello : e.hello = y.wel
 rs : e.rs = y.rs
 ea : e.at_ ≤ 2147483647
 iv : Iv y.t y.I
 bo : 1 ≤ y.t.bo
 st : ¬ y.t.st = 1
 rb : ∀ s ∈ y.rs, 1 ≤ s ∧ s ≤ 2147483647
 wl : y.wel = true → 1 ≤ y.t.se
structure JA (w W : World) (x : Ae) (r : Nat) (e : Dl) : Prop where
 a : AgS W w.heap.size x
 c : RlC W r x.t e
 dj : ∀ k, x.F k → ¬ RlF r x.t e k
 ge : ∀ k, RlF r x.t e k → w.heap.size ≤ k
 kp : Kp (fun _ => False) w W
 sc : ScA x e
structure JD (w W : World) (y : De) (r : Nat) (e : Dl) : Prop where
 d : DmS W w.heap.size y
 c : RlC W r y.t e
 dj : ∀ k, y.F k → ¬ RlF r y.t e k
 ge : ∀ k, RlF r y.t e k → w.heap.size ≤ k
 kp : Kp (fun _ => False) w W
 sc : ScD y e
def FA (x : Ae) (r : Nat) (e : Dl) (k : Nat) : Prop := x.F k ∨ RlF r x.t e k
def FD (y : De) (r : Nat) (e : Dl) (k : Nat) : Prop := y.F k ∨ RlF r y.t e k
def J (w W : World) (ag : Bool) (p r I : Nat) (F : Nat → Prop) : Prop :=
 (ag = true ∧ ∃ x e, x.lb = p ∧ x.I = I ∧ JA w W x r e ∧ F = FA x r e) ∨ (ag = false ∧ ∃ y e, y.lb = p ∧ y.I = I ∧ JD w W y r e ∧ F = FD y r e)
theorem AgS.mono {W : World} {B : Nat} {x : Ae} (h : AgS W B x) {I' : Nat} (hI : x.I ≤ I') : AgS W B { x with I := I' } := ⟨h.lk, h.tk.mono hI, h.ne, h.ge⟩
theorem DmS.mono {W : World} {B : Nat} {y : De} (h : DmS W B y) {I' : Nat} (hI : y.I ≤ I') : DmS W B { y with I := I' } := ⟨h.lk, ⟨h.dm.tk.mono hI, h.dm.own, h.dm.ap, h.dm.len⟩, h.ne, h.ge⟩
theorem JA.lt {w W : World} {x : Ae} {r : Nat} {e : Dl} (h : JA w W x r e) (k : Nat) (hk : FA x r e k) : k < W.heap.size := hk.elim (h.a.lt k) (fun hk => h.c.lt hk)
theorem JD.lt {w W : World} {x : De} {r : Nat} {e : Dl} (h : JD w W x r e) (k : Nat) (hk : FD x r e k) : k < W.heap.size := hk.elim (h.d.lt k) (fun hk => h.c.lt hk)
theorem J.lt {w W : World} {ag : Bool} {p r I : Nat} {F : Nat → Prop} (h : J w W ag p r I F) (k : Nat) (hk : F k) : k < W.heap.size := by
 rcases h with ⟨_, x, e, _, _, h, rfl⟩ | ⟨_, x, e, _, _, h, rfl⟩ <;> exact h.lt k hk
theorem J.ge {w W : World} {ag : Bool} {p r I : Nat} {F : Nat → Prop} (h : J w W ag p r I F) (k : Nat) (hk : F k) : w.heap.size ≤ k := by
 rcases h with ⟨_, x, e, _, _, h, rfl⟩ | ⟨_, x, e, _, _, h, rfl⟩
 · exact hk.elim (h.a.ge k) (h.ge k)
 · exact hk.elim (h.d.ge k) (h.ge k)
theorem J.kpw {w W : World} {ag : Bool} {p r I : Nat} {F : Nat → Prop} (h : J w W ag p r I F) : Kp (fun _ => False) w W := by
 rcases h with ⟨_, x, e, _, _, h, rfl⟩ | ⟨_, x, e, _, _, h, rfl⟩ <;> exact h.kp
theorem J.kp {S : Nat → Prop} {w W W' : World} {ag : Bool} {p r I : Nat} {F : Nat → Prop} (h : J w W ag p r I F) (k : Kp S W W') (hs : ∀ j, F j → ¬ S j) (hw : ∀ j, S j → w.heap.size ≤ j) : J w W' ag p r I F := by
 rcases h with ⟨ea, x, e, e1, e2, h, rfl⟩ | ⟨ea, x, e, e1, e2, h, rfl⟩
 · exact .inl ⟨ea, x, e, e1, e2, ⟨h.a.kp k (fun j hj => hs j (.inl hj)), h.c.kp k (fun j hj => hs j (.inr hj)), h.dj, h.ge, h.kp.then k (fun i hi e => by have := hw i e; omega), h.sc⟩, rfl⟩
 · exact .inr ⟨ea, x, e, e1, e2, ⟨h.d.kp k (fun j hj => hs j (.inl hj)), h.c.kp k (fun j hj => hs j (.inr hj)), h.dj, h.ge, h.kp.then k (fun i hi e => by have := hw i e; omega), h.sc⟩, rfl⟩
theorem J.kp0 {w W W' : World} {ag : Bool} {p r I : Nat} {F : Nat → Prop} (h : J w W ag p r I F) (k : Kp (fun _ => False) W W') : J w W' ag p r I F := h.kp k (fun _ _ h => h) (fun _ h => h.elim)
theorem JA.mid {w W W1 : World} {x x' : Ae} {r : Nat} {e : Dl} (h : JA w W x r e) (m : Mv x.F x'.F W W1) : RlC W1 r x.t e ∧ ∀ k, x'.F k → ¬ RlF r x.t e k :=
 ⟨h.c.kp m.kp (fun j hj e => h.dj j e hj), fun k hk hr => (m.nw k hk).elim (fun e => h.dj k e hr) (fun e => by have := h.c.lt hr; omega)⟩
theorem JD.mid {w W W1 : World} {x x' : De} {r : Nat} {e : Dl} (h : JD w W x r e) (m : Mv x.F x'.F W W1) : RlC W1 r x.t e ∧ ∀ k, x'.F k → ¬ RlF r x.t e k :=
 ⟨h.c.kp m.kp (fun j hj e => h.dj j e hj), fun k hk hr => (m.nw k hk).elim (fun e => h.dj k e hr) (fun e => by have := h.c.lt hr; omega)⟩
theorem JA.fin {w W W1 W2 W3 : World} {x x' : Ae} {r : Nat} {e e' : Dl} (h : JA w W x r e) (a' : AgS W1 w.heap.size x') (m : Mv x.F x'.F W W1) (k2 : Kp (fun _ => False) W1 W2) (c' : RlC W3 r x'.t e') (n3 : ∀ k, RlF r x'.t e' k → RlF r x.t e k ∨ W2.heap.size ≤ k) (k3 : Kp (RlF r x.t e) W2 W3) (sc : ScA x' e') :
 JA w W3 x' r e' ∧ Mv (FA x r e) (FA x' r e') W W3 := by
 have hm := (h.mid m).2
 have hw := h.kp.size
 have h1 := m.kp.size
 have h2 := k2.size
 refine ⟨⟨(a'.kp0 k2).kp k3 hm, c', fun k hk hr => (n3 k hr).elim (hm k hk) (fun e => by have := a'.lt k hk; omega), fun k hr => (n3 k hr).elim (h.ge k) (fun e => by omega), ((h.kp.then m.kp (fun i hi e => by have := h.a.ge i e; omega)).trans k2).then k3 (fun i hi e => by have := h.ge i e; omega), sc⟩, ⟨fun k hk => ?_, ?_⟩⟩
 · rcases hk with hk | hk
   · exact (m.nw k hk).imp_left .inl
   · exact (n3 k hk).elim (fun e => .inl (.inr e)) (fun e => .inr (by omega))
 · exact ((m.kp.mono (fun _ _ e => .inl e)).trans (k2.mono (fun _ _ e => e.elim))).trans (k3.mono (fun _ _ e => .inr e))
theorem JD.fin {w W W1 W2 W3 : World} {x x' : De} {r : Nat} {e e' : Dl} (h : JD w W x r e) (a' : DmS W1 w.heap.size x') (m : Mv x.F x'.F W W1) (k2 : Kp (fun _ => False) W1 W2) (c' : RlC W3 r x'.t e') (n3 : ∀ k, RlF r x'.t e' k → RlF r x.t e k ∨ W2.heap.size ≤ k) (k3 : Kp (RlF r x.t e) W2 W3) (sc : ScD x' e') :
 JD w W3 x' r e' ∧ Mv (FD x r e) (FD x' r e') W W3 := by
 have hm := (h.mid m).2
 have hw := h.kp.size
 have h1 := m.kp.size
 have h2 := k2.size
 refine ⟨⟨(a'.kp0 k2).kp k3 hm, c', fun k hk hr => (n3 k hr).elim (hm k hk) (fun e => by have := a'.lt k hk; omega), fun k hr => (n3 k hr).elim (h.ge k) (fun e => by omega), ((h.kp.then m.kp (fun i hi e => by have := h.d.ge i e; omega)).trans k2).then k3 (fun i hi e => by have := h.ge i e; omega), sc⟩, ⟨fun k hk => ?_, ?_⟩⟩
 · rcases hk with hk | hk
   · exact (m.nw k hk).imp_left .inl
   · exact (n3 k hk).elim (fun e => .inl (.inr e)) (fun e => .inr (by omega))
 · exact ((m.kp.mono (fun _ _ e => .inl e)).trans (k2.mono (fun _ _ e => e.elim))).trans (k3.mono (fun _ _ e => .inr e))
def Tg (v : Value) (vs : List Value) (n g : Nat) : Prop := v.ownBlock = some g ∨ ∃ i, i < n ∧ (vs.getD i undef).ownBlock = some g
theorem Tg.nil {vs : List Value} {g : Nat} (h : Tg (.slice none 0 0) vs 0 g) : False := by
 rcases h with h | ⟨i, hi, _⟩
 · cases h
 · omega
structure Tl (W3 : World) (v : Value) (ls : List (List Int)) (vs : List Value) (F' : Nat → Prop) : Prop where
 lu : LLu W3 v ls vs
 ap : ∀ g, Tg v vs ls.length g → ¬ F' g
def RDoc (w W : World) (ag : Bool) (p r I : Nat) (F : Nat → Prop) (v : Value) (k : Int) (ls : List (List Int)) (vs : List Value) (v2 : Value) (k2 : Int) (W3 : World) : Prop :=
 k2 = k ∧ ∃ a c, v2 = .slice a ls.length c ∧ RdL W3 a ls ∧ ∃ F', J w W3 ag p r (I + 1) F' ∧ Mv F F' W W3 ∧ Tl W3 v ls vs F'
def RPost (w W : World) (ag : Bool) (p r I : Nat) (F : Nat → Prop) (A : Option Addr) (l : List Int) (c : Nat) (now : Int) (v : Value) (k : Int) (W1 : World) : Prop :=
 Kp F W W1 ∧ ∃ ls vs, LLu W1 v ls vs ∧ ls.length ≤ 64 ∧ (∀ g, Tg v vs ls.length g → F g ∨ W.heap.size ≤ g) ∧
  ∀ W2, Kp (fun _ => False) W1 W2 → Tells Tryz.prog 39 #[.pointer (some ⟨r, 0, none⟩), .slice A l.length c, .int .i64 now] W2 (RDoc w W ag p r I F v k ls vs)
theorem Tells.mono {P : Program} {f : FuncId} {args : Array Value} {W : World} {Q Q' : Value → Int → World → Prop} (h : Tells P f args W Q) (hq : ∀ v k w, Q v k w → Q' v k w) : Tells P f args W Q' :=
 Calls.mono h (fun e w' ⟨v, k, e1, e2⟩ => ⟨v, k, e1, hq v k w' e2⟩)
theorem ScA.same {x : Ae} {e : Dl} (h : ScA x e) {I' : Nat} (hI : x.I ≤ I') {e' : Dl} (k : Ke e e') : ScA { x with I := I' } e' :=
 ⟨k.ag.trans h.ag, k.hello.trans h.hello, k.rs.trans h.rs, k.asked.trans h.asked, fun s => k.at_.trans (h.at_ s), by rw [k.at_]; exact h.ea, h.iv.mono hI, h.se, h.bo0⟩
theorem Ke.refl (e : Dl) : Ke e e := ⟨rfl, rfl, rfl, rfl, rfl, rfl⟩
theorem JA.rnil {w W W1 : World} {x : Ae} {r : Nat} {e : Dl} (h : JA w W x r e) (x' : Ae) (a' : AgS W1 w.heap.size x') (m : Mv x.F x'.F W W1) (hlb : x'.lb = x.lb) (hI : x'.I = x.I + 1) {A : Option Addr} {l : List Int} {c : Nat} {now k : Int} (hr : RdB W A l) (off : l ≠ [] → ∀ y, A = some y → ¬ FA x r e y.block)
 (C : ∀ W2, RlC W2 r x.t e → RdB W2 A l → Tells Tryz.prog 39 #[.pointer (some ⟨r, 0, none⟩), .slice A l.length c, .int .i64 now] W2 fun v2 k2 W3 => v2 = .slice none 0 0 ∧ k2 = k ∧ ∃ e', RlC W3 r x'.t e' ∧ (∀ j, RlF r x'.t e' j → RlF r x.t e j ∨ W2.heap.size ≤ j) ∧ Kp (RlF r x.t e) W2 W3 ∧ ScA x' e') :
 RPost w W true x.lb r x.I (FA x r e) A l c now (.slice none 0 0) k W1 := by
 refine ⟨m.kp.mono (fun _ _ e => .inl e), [], [], LLu.nil _, by simp, fun g hg => (Tg.nil hg).elim, fun W2 k2 => ?_⟩
 refine (C W2 ((h.mid m).1.kp0 k2) ((hr.kpn m.kp (fun q y hy e => off q y hy (.inl e))).kp k2 (fun _ _ h => h))).mono ?_
 rintro v2 kk W3 ⟨rfl, rfl, e', c', n3, k3, sc⟩
 obtain ⟨hj, hm⟩ := h.fin a' m k2 c' n3 k3 sc
 exact ⟨rfl, none, 0, rfl, RdL.nil _ _, FA x' r e', .inl ⟨rfl, x', e', hlb, hI, hj, rfl⟩, hm, LLu.nil _, fun g hg => (Tg.nil hg).elim⟩
theorem JD.rnil {w W W1 : World} {x : De} {r : Nat} {e : Dl} (h : JD w W x r e) (x' : De) (a' : DmS W1 w.heap.size x') (m : Mv x.F x'.F W W1) (hlb : x'.lb = x.lb) (hI : x'.I = x.I + 1) {A : Option Addr} {l : List Int} {c : Nat} {now k : Int} (hr : RdB W A l) (off : l ≠ [] → ∀ y, A = some y → ¬ FD x r e y.block)
 (C : ∀ W2, RlC W2 r x.t e → RdB W2 A l → Tells Tryz.prog 39 #[.pointer (some ⟨r, 0, none⟩), .slice A l.length c, .int .i64 now] W2 fun v2 k2 W3 => v2 = .slice none 0 0 ∧ k2 = k ∧ ∃ e', RlC W3 r x'.t e' ∧ (∀ j, RlF r x'.t e' j → RlF r x.t e j ∨ W2.heap.size ≤ j) ∧ Kp (RlF r x.t e) W2 W3 ∧ ScD x' e') :
 RPost w W false x.lb r x.I (FD x r e) A l c now (.slice none 0 0) k W1 := by
 refine ⟨m.kp.mono (fun _ _ e => .inl e), [], [], LLu.nil _, by simp, fun g hg => (Tg.nil hg).elim, fun W2 k2 => ?_⟩
 refine (C W2 ((h.mid m).1.kp0 k2) ((hr.kpn m.kp (fun q y hy e => off q y hy (.inl e))).kp k2 (fun _ _ h => h))).mono ?_
 rintro v2 kk W3 ⟨rfl, rfl, e', c', n3, k3, sc⟩
 obtain ⟨hj, hm⟩ := h.fin a' m k2 c' n3 k3 sc
 exact ⟨rfl, none, 0, rfl, RdL.nil _ _, FD x' r e', .inr ⟨rfl, x', e', hlb, hI, hj, rfl⟩, hm, LLu.nil _, fun g hg => (Tg.nil hg).elim⟩
theorem ScD.same {x : De} {e : Dl} (h : ScD x e) {I' : Nat} (hI : x.I ≤ I') {e' : Dl} (k : Ke e e') : ScD { x with I := I' } e' :=
 ⟨k.ag.trans h.ag, k.hello.trans h.hello, k.rs.trans h.rs, by rw [k.at_]; exact h.ea, h.iv.mono hI, h.bo, h.st, h.rb, h.wl⟩
theorem RPost.stays {w W : World} {ag : Bool} {p r I : Nat} {F : Nat → Prop} {A : Option Addr} {l : List Int} {c : Nat} {now : Int} : Stays (RPost w W ag p r I F A l c now) := by
 rintro v k W1 n ⟨h1, ls, vs, h2, h3, h4, h5⟩
 exact ⟨h1.drewN n, ls, vs, h2.kp0 ((Kp.refl _ W1).drewN n), h3, h4, fun W2 k => h5 W2 (((Kp.refl _ W1).drewN n).trans k)⟩
theorem told_lu {w : World} {v : Value} {f : Bodies} {n n' : Nat} {vs : List Value} {G F' : Nat → Prop} (ho : Own w v (n' - n) 1 vs) (hl : vs.length = n' - n) (ht : Told w f n vs G F') : LLu w v (tld f n (n' - n)) vs := by
 have hlen := tld_len f n (n' - n)
 refine ⟨by rw [hlen]; exact ho, fun i hi => ?_, fun i j k hij hj h1 h2 => ?_⟩
 · rw [hlen] at hi
   obtain ⟨y, e1, e2⟩ := ht.own i (by omega)
   have e3 : (tld f n (n' - n)).getD i [] = y := by
    unfold tld
    rw [List.getD_eq_getElem?_getD, List.getElem?_map, List.getElem?_range hi]
    show (f (n + i)).getD [] = y
    rw [e1]; rfl
   rw [e3]; exact e2
 · rw [hlen] at hj
   have := ht.dist i j k (by omega) (by omega) h1 h2
   omega
theorem told_tg {w W : World} {v : Value} {f : Bodies} {n n' g : Nat} {vs : List Value} {P F' : Nat → Prop} (hl : vs.length = n' - n) (ht : Told w f n vs (fun k => P k ∨ W.heap.size ≤ k) F') (hv : ∀ k, v.ownBlock = some k → W.heap.size ≤ k ∧ ¬ F' k) (hg : Tg v vs (tld f n (n' - n)).length g) : (P g ∨ W.heap.size ≤ g) ∧ ¬ F' g := by
 rcases hg with hg | ⟨i, hi, hg⟩
 · exact ⟨.inr (hv g hg).1, (hv g hg).2⟩
 · rw [tld_len] at hi
   exact ht.blk i g (by omega) hg
theorem next_same {W W' : World} {b size n n' hd r : Nat} {f : Bodies} {F G : Nat → Prop} {v : Value} {L : List (Nat × Value)} (h : InbAt W b size f n hd F) (h' : RefC W' r v size n' L f G) (hf : f n' = none) : n = n' := by
 have h1 := h.next_le h'.n_bd.1 hf
 have h2 := h.2
 obtain ⟨⟨c, hc⟩, _⟩ := h
 rcases Nat.lt_or_ge n n' with h3 | h3
 · exact absurd h2 (h'.low n hc.n_bd.1 h3)
 · omega
theorem ScA.of {x : Ae} {e : Dl} (h : ScA x e) (x' : Ae) {e' : Dl} (k : Ke e e') (h1 : x'.sent = x.sent) (h2 : x'.at_ = x.at_) (iv : Iv x'.t x'.I) (se : x'.t.se = x.t.se) (bo0 : x'.t.st = 1 → x'.t.bo = 0) : ScA x' e' :=
 ⟨k.ag.trans h.ag, k.hello.trans h.hello, k.rs.trans h.rs, k.asked.trans (h.asked.trans h1.symm), fun s => (k.at_.trans (h.at_ (h1 ▸ s))).trans h2.symm, by rw [k.at_]; exact h.ea, iv, by rw [se]; exact h.se, bo0⟩
theorem ScD.of {x : De} {e : Dl} (h : ScD x e) (x' : De) {e' : Dl} (k1 : e'.ag = e.ag) (k2 : e'.at_ = e.at_) (h1 : e'.hello = x'.wel) (h2 : e'.rs = x'.rs) (iv : Iv x'.t x'.I) (bo : x'.t.bo = x.t.bo) (st : ¬ x'.t.st = 1) (rb : ∀ s ∈ x'.rs, 1 ≤ s ∧ s ≤ 2147483647) (wl : x'.wel = true → 1 ≤ x'.t.se) : ScD x' e' :=
 ⟨k1.trans h.ag, h1, h2, by rw [k2]; exact h.ea, iv, by rw [bo]; exact h.bo, st, rb, wl⟩
theorem JA.rsame {w W W1 : World} {x : Ae} {r : Nat} {e : Dl} (h : JA w W x r e) (k1 : Kp (fun _ => False) W W1) {A : Option Addr} {l : List Int} {c : Nat} {now k : Int} (hr : RdB W A l) (off : l ≠ [] → ∀ y, A = some y → ¬ FA x r e y.block)
 (C : ∀ W2, RlC W2 r x.t e → RdB W2 A l → Tells Tryz.prog 39 #[.pointer (some ⟨r, 0, none⟩), .slice A l.length c, .int .i64 now] W2 fun v2 k2 W3 => v2 = .slice none 0 0 ∧ k2 = k ∧ RlC W3 r x.t e ∧ Kp (RlF r x.t e) W2 W3) :
 RPost w W true x.lb r x.I (FA x r e) A l c now (.slice none 0 0) k W1 :=
 h.rnil { x with I := x.I + 1 } ((h.a.kp0 k1).mono (Nat.le_succ _)) (Mv.refl _ k1) rfl rfl hr off fun W2 c2 hr2 => (C W2 c2 hr2).mono fun v2 kk W3 ⟨e1, e2, c3, k3⟩ => ⟨e1, e2, e, c3, fun j hj => .inl hj, k3, h.sc.same (Nat.le_succ _) (Ke.refl e)⟩
theorem JD.rsame {w W W1 : World} {x : De} {r : Nat} {e : Dl} (h : JD w W x r e) (k1 : Kp (fun _ => False) W W1) {A : Option Addr} {l : List Int} {c : Nat} {now k : Int} (hr : RdB W A l) (off : l ≠ [] → ∀ y, A = some y → ¬ FD x r e y.block)
 (C : ∀ W2, RlC W2 r x.t e → RdB W2 A l → Tells Tryz.prog 39 #[.pointer (some ⟨r, 0, none⟩), .slice A l.length c, .int .i64 now] W2 fun v2 k2 W3 => v2 = .slice none 0 0 ∧ k2 = k ∧ RlC W3 r x.t e ∧ Kp (RlF r x.t e) W2 W3) :
 RPost w W false x.lb r x.I (FD x r e) A l c now (.slice none 0 0) k W1 :=
 h.rnil { x with I := x.I + 1 } ((h.d.kp0 k1).mono (Nat.le_succ _)) (Mv.refl _ k1) rfl rfl hr off fun W2 c2 hr2 => (C W2 c2 hr2).mono fun v2 kk W3 ⟨e1, e2, c3, k3⟩ => ⟨e1, e2, e, c3, fun j hj => .inl hj, k3, h.sc.same (Nat.le_succ _) (Ke.refl e)⟩
theorem tells_same {P : Program} {f : FuncId} {args : Array Value} {W W0 : World} {k : Int} {r : Nat} {t : Tk} {e : Dl} (hc : RlC W0 r t e) (k0 : Kp (fun _ => False) W0 W) (h : Calls P f args W fun e1 w' => e1 = .returned (.tuple #[.slice none 0 0, .int .i64 k]) ∧ Kp (fun _ => False) W w') :
 Tells P f args W fun v2 k2 W3 => v2 = .slice none 0 0 ∧ k2 = k ∧ RlC W3 r t e ∧ Kp (RlF r t e) W0 W3 :=
 Calls.mono h fun e1 w' ⟨h1, k1⟩ => ⟨_, _, h1, rfl, rfl, (hc.kp0 k0).kp0 k1, (k0.trans k1).mono (fun _ _ h => h.elim)⟩
theorem tells_samew {P : Program} {f : FuncId} {args : Array Value} {W : World} {k : Int} {r : Nat} {t : Tk} {e : Dl} (hc : RlC W r t e) (h : Calls P f args W fun e1 w' => e1 = .returned (.tuple #[.slice none 0 0, .int .i64 k]) ∧ W = w') :
 Tells P f args W fun v2 k2 W3 => v2 = .slice none 0 0 ∧ k2 = k ∧ RlC W3 r t e ∧ Kp (RlF r t e) W W3 :=
 Calls.mono h fun e1 w' ⟨h1, h2⟩ => by subst h2; exact ⟨_, _, h1, rfl, rfl, hc, Kp.refl _ _⟩
theorem JA.rtold {w W W1 : World} {x : Ae} {r : Nat} {e : Dl} (h : JA w W x r e) (hst : x.t.st = 2) (f : Fr) (ac now : Int) (V' : Value) (n' hd' : Nat) (F' : Nat → Prop) (v : Value) (vs : List Value) (a' : AgS W1 w.heap.size { x with t := takeT x.t (ackX x.t.i.x ac now V') (nf x.t.i.f x.t.i.n x.t.sz f.sq f.bd) n' hd' F', I := x.I + 1 })
 (m : Mv x.F (Ae.F { x with t := takeT x.t (ackX x.t.i.x ac now V') (nf x.t.i.f x.t.i.n x.t.sz f.sq f.bd) n' hd' F', I := x.I + 1 }) W W1) (hV : V'.ownBlock = x.t.i.x.V.ownBlock) (h1 : x.t.i.n ≤ n') (h2 : n' ≤ x.t.i.n + x.t.sz) (h3 : vs.length = n' - x.t.i.n) (ho : Own W1 v (n' - x.t.i.n) 1 vs)
 (htd : Told W1 (nf x.t.i.f x.t.i.n x.t.sz f.sq f.bd) x.t.i.n vs (fun k => (x.t.i.F k ∧ k ≠ x.t.i.b) ∨ W.heap.size ≤ k) F') (hv : ∀ k, v.ownBlock = some k → W.heap.size ≤ k ∧ ¬ F' k) {A : Option Addr} {l : List Int} {c : Nat} (hr : RdB W A l) (off : l ≠ [] → ∀ y, A = some y → ¬ FA x r e y.block)
 (C : ∀ W2, RlC W2 r x.t e → RdB W2 A l → Tells Tryz.prog 39 #[.pointer (some ⟨r, 0, none⟩), .slice A l.length c, .int .i64 now] W2 fun vo k2 W3 => k2 = 0 ∧ ∃ n2 us e', Ke e e' ∧ (∀ V' hd' F', RlC W3 r (takeT x.t (ackX x.t.i.x ac now V') (nf x.t.i.f x.t.i.n x.t.sz f.sq f.bd) n2 hd' F') e') ∧
  nf x.t.i.f x.t.i.n x.t.sz f.sq f.bd n2 = none ∧ us.length = n2 - x.t.i.n ∧ Own W3 vo (n2 - x.t.i.n) 1 us ∧ (∀ i, i < us.length → ∃ y, nf x.t.i.f x.t.i.n x.t.sz f.sq f.bd (x.t.i.n + i) = some y ∧ OwnB W3 (us.getD i undef) y) ∧ (∀ t', t'.st = 2 → ∀ k, RlF r t' e' k → RlF r x.t e k ∨ W2.heap.size ≤ k) ∧ Kp (RlF r x.t e) W2 W3) :
 RPost w W true x.lb r x.I (FA x r e) A l c now v 0 W1 := by
 have hu := h.a.tk.up hst
 have hz := h.a.tk.sz
 have hw := h.kp.size
 have hFl : ∀ k, x.t.i.F k → x.F k := fun k hk => .inr (.inr ⟨hst, .inr hk⟩)
 have hG : ∀ g, Tg v vs (tld (nf x.t.i.f x.t.i.n x.t.sz f.sq f.bd) x.t.i.n (n' - x.t.i.n)).length g → ((x.t.i.F g ∧ g ≠ x.t.i.b) ∨ W.heap.size ≤ g) ∧ ¬ F' g := fun g hg => told_tg h3 htd hv hg
 have hlu := told_lu ho h3 htd
 refine ⟨m.kp.mono (fun _ _ e => .inl e), _, vs, hlu, by rw [tld_len]; omega, fun g hg => (hG g hg).1.elim (fun e => .inl (.inl (hFl g e.1))) .inr, fun W2 k2 => ?_⟩
 refine (C W2 ((h.mid m).1.kp0 k2) ((hr.kpn m.kp (fun q y hy e => off q y hy (.inl e))).kp k2 (fun _ _ h => h))).mono ?_
 rintro vo kk W3 ⟨rfl, n2, us, e', hke, hc, q1, q2, q3, q4, q5, q6⟩
 have hin : InbAt W1 x.t.i.b x.t.sz (nf x.t.i.f x.t.i.n x.t.sz f.sq f.bd) n' hd' F' := (a'.tk.up hst).inb
 have hrf := ((hc V' hd' F').up hst).inb
 obtain rfl : n' = n2 := next_same hin hrf q1
 obtain ⟨aa, cc, ev, _⟩ := q3.form
 subst ev
 have hk5 : ∀ k, RlF r (takeT x.t (ackX x.t.i.x ac now V') (nf x.t.i.f x.t.i.n x.t.sz f.sq f.bd) n' hd' F') e' k → RlF r x.t e k ∨ W2.heap.size ≤ k := q5 _ hst
 obtain ⟨hj, hm⟩ := h.fin a' m k2 (hc V' hd' F') hk5 q6 (h.sc.of _ hke rfl rfl (h.sc.iv.take h2 hz.2) rfl (fun e1 => absurd (hst.symm.trans e1) (by decide)))
 have hnR : ∀ g, Tg v vs (tld (nf x.t.i.f x.t.i.n x.t.sz f.sq f.bd) x.t.i.n (n' - x.t.i.n)).length g → ¬ RlF r x.t e g := fun g hg hR => (hG g hg).1.elim (fun e => h.dj g (hFl g e.1) hR) (fun e => by have := h.c.lt hR; omega)
 refine ⟨rfl, aa, cc, by rw [tld_len], rdl_vals q3 q4, FA { x with t := takeT x.t (ackX x.t.i.x ac now V') (nf x.t.i.f x.t.i.n x.t.sz f.sq f.bd) n' hd' F', I := x.I + 1 } r e', .inl ⟨rfl, { x with t := takeT x.t (ackX x.t.i.x ac now V') (nf x.t.i.f x.t.i.n x.t.sz f.sq f.bd) n' hd' F', I := x.I + 1 }, e', rfl, rfl, hj, rfl⟩, hm, (hlu.kp0 k2).kp q6 (fun g hg => hnR g (.inl hg)) (fun i g hi hg => hnR g (.inr ⟨i, hi, hg⟩)), fun g hg hF => ?_⟩
 rcases hF with hF | hF
 · rcases hF with hF | hF | ⟨_, hF | hF⟩
   · have hF : g = x.lb := hF
     rcases (hG g hg).1 with e1 | e1
     · exact h.a.ne (hF ▸ (.inr ⟨hst, .inr e1.1⟩ : Me x.o x.t g))
     · have := h.a.lt g (.inl hF); omega
   · have hF : g = x.o := hF
     rcases (hG g hg).1 with e1 | e1
     · exact hu.oX (hF ▸ e1.1)
     · have := h.a.tk.hat.lt; omega
   · have hF : Mine x.t.i.g x.t.i.x g := Mine.pop (x := x.t.i.x) hV hF
     rcases (hG g hg).1 with e1 | e1
     · exact hu.ap g hF e1.1
     · have := hu.win.lt hF; omega
   · exact (hG g hg).2 hF
 · rcases hk5 g hF with e1 | e1
   · exact hnR g hg e1
   · have := hlu.lt g hg
     have := k2.size
     omega
theorem JD.rtold {w W W1 : World} {x : De} {r : Nat} {e : Dl} (h : JD w W x r e) (hst : x.t.st = 2) (f : Fr) (ac now : Int) (V' : Value) (n' hd' : Nat) (F' : Nat → Prop) (v : Value) (vs : List Value) (a' : DmS W1 w.heap.size { x with t := takeT x.t (ackX x.t.i.x ac now V') (nf x.t.i.f x.t.i.n x.t.sz f.sq f.bd) n' hd' F', I := x.I + 1 })
 (m : Mv x.F (De.F { x with t := takeT x.t (ackX x.t.i.x ac now V') (nf x.t.i.f x.t.i.n x.t.sz f.sq f.bd) n' hd' F', I := x.I + 1 }) W W1) (hV : V'.ownBlock = x.t.i.x.V.ownBlock) (h1 : x.t.i.n ≤ n') (h2 : n' ≤ x.t.i.n + x.t.sz) (h3 : vs.length = n' - x.t.i.n) (ho : Own W1 v (n' - x.t.i.n) 1 vs)
 (htd : Told W1 (nf x.t.i.f x.t.i.n x.t.sz f.sq f.bd) x.t.i.n vs (fun k => (x.t.i.F k ∧ k ≠ x.t.i.b) ∨ W.heap.size ≤ k) F') (hv : ∀ k, v.ownBlock = some k → W.heap.size ≤ k ∧ ¬ F' k) {A : Option Addr} {l : List Int} {c : Nat} (hr : RdB W A l) (off : l ≠ [] → ∀ y, A = some y → ¬ FD x r e y.block)
 (C : ∀ W2, RlC W2 r x.t e → RdB W2 A l → Tells Tryz.prog 39 #[.pointer (some ⟨r, 0, none⟩), .slice A l.length c, .int .i64 now] W2 fun vo k2 W3 => k2 = 0 ∧ ∃ n2 us e', Ke e e' ∧ (∀ V' hd' F', RlC W3 r (takeT x.t (ackX x.t.i.x ac now V') (nf x.t.i.f x.t.i.n x.t.sz f.sq f.bd) n2 hd' F') e') ∧
  nf x.t.i.f x.t.i.n x.t.sz f.sq f.bd n2 = none ∧ us.length = n2 - x.t.i.n ∧ Own W3 vo (n2 - x.t.i.n) 1 us ∧ (∀ i, i < us.length → ∃ y, nf x.t.i.f x.t.i.n x.t.sz f.sq f.bd (x.t.i.n + i) = some y ∧ OwnB W3 (us.getD i undef) y) ∧ (∀ t', t'.st = 2 → ∀ k, RlF r t' e' k → RlF r x.t e k ∨ W2.heap.size ≤ k) ∧ Kp (RlF r x.t e) W2 W3) :
 RPost w W false x.lb r x.I (FD x r e) A l c now v 0 W1 := by
 have hu := h.d.dm.tk.up hst
 have hz := h.d.dm.tk.sz
 have hw := h.kp.size
 have hFl : ∀ k, x.t.i.F k → x.F k := fun k hk => .inr (.inl (.inr ⟨hst, .inr hk⟩))
 have hG : ∀ g, Tg v vs (tld (nf x.t.i.f x.t.i.n x.t.sz f.sq f.bd) x.t.i.n (n' - x.t.i.n)).length g → ((x.t.i.F g ∧ g ≠ x.t.i.b) ∨ W.heap.size ≤ g) ∧ ¬ F' g := fun g hg => told_tg h3 htd hv hg
 have hlu := told_lu ho h3 htd
 refine ⟨m.kp.mono (fun _ _ e => .inl e), _, vs, hlu, by rw [tld_len]; omega, fun g hg => (hG g hg).1.elim (fun e => .inl (.inl (hFl g e.1))) .inr, fun W2 k2 => ?_⟩
 refine (C W2 ((h.mid m).1.kp0 k2) ((hr.kpn m.kp (fun q y hy e => off q y hy (.inl e))).kp k2 (fun _ _ h => h))).mono ?_
 rintro vo kk W3 ⟨rfl, n2, us, e', hke, hc, q1, q2, q3, q4, q5, q6⟩
 have hin : InbAt W1 x.t.i.b x.t.sz (nf x.t.i.f x.t.i.n x.t.sz f.sq f.bd) n' hd' F' := (a'.dm.tk.up hst).inb
 have hrf := ((hc V' hd' F').up hst).inb
 obtain rfl : n' = n2 := next_same hin hrf q1
 obtain ⟨aa, cc, ev, _⟩ := q3.form
 subst ev
 have hk5 : ∀ k, RlF r (takeT x.t (ackX x.t.i.x ac now V') (nf x.t.i.f x.t.i.n x.t.sz f.sq f.bd) n' hd' F') e' k → RlF r x.t e k ∨ W2.heap.size ≤ k := q5 _ hst
 obtain ⟨hj, hm⟩ := h.fin a' m k2 (hc V' hd' F') hk5 q6 (h.sc.of _ hke.ag hke.at_ (hke.hello.trans h.sc.hello) (hke.rs.trans h.sc.rs) (h.sc.iv.take h2 hz.2) rfl h.sc.st h.sc.rb h.sc.wl)
 have hnR : ∀ g, Tg v vs (tld (nf x.t.i.f x.t.i.n x.t.sz f.sq f.bd) x.t.i.n (n' - x.t.i.n)).length g → ¬ RlF r x.t e g := fun g hg hR => (hG g hg).1.elim (fun e => h.dj g (hFl g e.1) hR) (fun e => by have := h.c.lt hR; omega)
 refine ⟨rfl, aa, cc, by rw [tld_len], rdl_vals q3 q4, FD { x with t := takeT x.t (ackX x.t.i.x ac now V') (nf x.t.i.f x.t.i.n x.t.sz f.sq f.bd) n' hd' F', I := x.I + 1 } r e', .inr ⟨rfl, { x with t := takeT x.t (ackX x.t.i.x ac now V') (nf x.t.i.f x.t.i.n x.t.sz f.sq f.bd) n' hd' F', I := x.I + 1 }, e', rfl, rfl, hj, rfl⟩, hm, (hlu.kp0 k2).kp q6 (fun g hg => hnR g (.inl hg)) (fun i g hi hg => hnR g (.inr ⟨i, hi, hg⟩)), fun g hg hF => ?_⟩
 rcases hF with hF | hF
 · rcases hF with hF | (hF | ⟨_, hF | hF⟩) | hF
   · have hF : g = x.lb := hF
     rcases (hG g hg).1 with e1 | e1
     · exact h.d.ne (hF ▸ (.inl (.inr ⟨hst, .inr e1.1⟩) : MeD x.o x.t x.rv g))
     · have := h.d.lt g (.inl hF); omega
   · have hF : g = x.o := hF
     rcases (hG g hg).1 with e1 | e1
     · exact hu.oX (hF ▸ e1.1)
     · have := h.d.dm.tk.hat.lt; omega
   · have hF : Mine x.t.i.g x.t.i.x g := Mine.pop (x := x.t.i.x) hV hF
     rcases (hG g hg).1 with e1 | e1
     · exact hu.ap g hF e1.1
     · have := hu.win.lt hF; omega
   · exact (hG g hg).2 hF
   · have hF : x.rv.ownBlock = some g := hF
     rcases (hG g hg).1 with e1 | e1
     · exact h.d.dm.ap g hF (.inr ⟨hst, .inr e1.1⟩)
     · have := h.d.dm.own.lt g hF; omega
 · rcases hk5 g hF with e1 | e1
   · exact hnR g hg e1
   · have := hlu.lt g hg
     have := k2.size
     omega
section
variable {w W : World} {x : Ae} {r : Nat} {e : Dl}
theorem rl_agent {W2 : World} {A : Option Addr} {l : List Int} {c : Nat} {now : Int} {f : Fr} {t : Tk} (c2 : RlC W2 r t e) (hag : e.ag = true) (hst : ¬ t.st = 3) (ht : timeB now = true) (hr : RdB W2 A l) (hl : l.length ≤ 100000000) (hc : l.length ≤ c) (hcm : c ≤ maxLen) (he : errR l = 0) (hf : frR l = f) {Q : Value → Int → World → Prop}
 (C : ∀ w' A' c', Kp (fun _ => False) W2 w' → RlC w' r t e → RdB w' A' f.bd → (∀ y, A' = some y → ¬ RlF r t e y.block) → Tells Tryz.prog 51 #[.pointer (some ⟨r, 0, none⟩), .agg (frA f A' c'), .int .i64 now] w' Q) :
 Tells Tryz.prog 39 #[.pointer (some ⟨r, 0, none⟩), .slice A l.length c, .int .i64 now] W2 Q :=
 rlrec_agent c2 hag hst A _ c now ht l rfl hr hl hc hcm he f hf fun w' A' c' k hrA hfA => C w' A' c' k (c2.kp0 k) hrA (fun y hy hR => by have := hfA y.block (by rw [hy]; rfl); have := c2.lt hR; omega)
theorem ra_other (h : JA w W x r e) (hI : x.I ≤ 1000) (now : Int) (ht : timeB now = true) (hst : ¬ x.t.st = 3) {a : Option Addr} {l : List Int} {c1 : Nat} (hr1 : RdB W a l) (hc1 : l.length ≤ c1) (hcm1 : c1 ≤ maxLen) {A : Option Addr} {c : Nat} (hr : RdB W A l) (hc : l.length ≤ c) (hcm : c ≤ maxLen) (off : l ≠ [] → ∀ y, A = some y → ¬ FA x r e y.block) (hl : l.length ≤ 100000000) (he : errR l = 0) (f : Fr) (hf : frR l = f) (hse : ¬ f.se = (x.t.se : Int)) : Tells Tryz.prog 38 #[apt x, .slice a l.length c1, .int .i64 now] W (RPost w W true x.lb r x.I (FA x r e) A l c now) :=
 Calls.mono (lreceive_aother h.a.lk h.a.tk hst now ht a _ c1 l rfl hr1 hl hc1 hcm1 he f hf hse) fun e1 w' ⟨h1, k1⟩ =>
  ⟨_, _, h1, h.rsame k1 hr off fun W2 c2 hr2 => rl_agent c2 h.sc.ag hst ht hr2 hl hc hcm he hf fun w' A' c' k c3 hrA hoA => (tells_same c2 k (rlag_other c3 f A' c' now hse)).mono fun v kk W3 hq => hq⟩
theorem ra_syn (h : JA w W x r e) (hI : x.I ≤ 1000) (now : Int) (ht : timeB now = true) (hst : ¬ x.t.st = 3) {a : Option Addr} {l : List Int} {c1 : Nat} (hr1 : RdB W a l) (hc1 : l.length ≤ c1) (hcm1 : c1 ≤ maxLen) {A : Option Addr} {c : Nat} (hr : RdB W A l) (hc : l.length ≤ c) (hcm : c ≤ maxLen) (off : l ≠ [] → ∀ y, A = some y → ¬ FA x r e y.block) (hl : l.length ≤ 100000000) (he : errR l = 0) (f : Fr) (hf : frR l = f) (hse : f.se = (x.t.se : Int)) (hty : f.ty = 1) : Tells Tryz.prog 38 #[apt x, .slice a l.length c1, .int .i64 now] W (RPost w W true x.lb r x.I (FA x r e) A l c now) := by
 refine lreceive_agood h.a.lk h.a.tk hst now ht a _ c1 l rfl hr1 hl hc1 hcm1 he f hf hse RPost.stays ?_
 intro w1 A1 c1' k1 hrA1 hfA1
 refine atakes_1 _ _ _ _ _ hty RPost.stays ?_
 intro w2 k2
 refine Calls.mono (asyn_any x.o w2 f A1 c1' now) ?_
 rintro e1 w' ⟨rfl, k3⟩
 refine ⟨_, _, rfl, h.rsame ((k1.trans k2).trans k3) hr off fun W2 c2 hr2 => rl_agent c2 h.sc.ag hst ht hr2 hl hc hcm he hf fun w' A' c' k c3 hrA hoA => ?_⟩
 exact tells_same c2 k (rlag_syn c3 f A' c' now hse hty)
theorem ra_wel (h : JA w W x r e) (hI : x.I ≤ 1000) (now : Int) (ht : timeB now = true) (hst : ¬ x.t.st = 3) {a : Option Addr} {l : List Int} {c1 : Nat} (hr1 : RdB W a l) (hc1 : l.length ≤ c1) (hcm1 : c1 ≤ maxLen) {A : Option Addr} {c : Nat} (hr : RdB W A l) (hc : l.length ≤ c) (hcm : c ≤ maxLen) (off : l ≠ [] → ∀ y, A = some y → ¬ FA x r e y.block) (hl : l.length ≤ 100000000) (he : errR l = 0) (f : Fr) (hf : frR l = f) (hse : f.se = (x.t.se : Int)) (hty : f.ty = 2) (hs1 : ¬ x.t.st = 1) (hbo : f.bo = (x.t.bo : Int)) : Tells Tryz.prog 38 #[apt x, .slice a l.length c1, .int .i64 now] W (RPost w W true x.lb r x.I (FA x r e) A l c now) := by
 refine lreceive_agood h.a.lk h.a.tk hst now ht a _ c1 l rfl hr1 hl hc1 hcm1 he f hf hse RPost.stays ?_
 intro w1 A1 c1' k1 hrA1 hfA1
 refine atakes_2 _ _ _ _ _ hty RPost.stays ?_
 intro w2 k2
 refine Calls.mono (by simpa only [if_pos hbo] using awelcome_up (h.a.tk.kp0 (k1.trans k2)) hs1 f A1 c1' now) ?_
 rintro e1 w' ⟨rfl, k3⟩
 refine ⟨_, _, rfl, h.rsame ((k1.trans k2).trans k3) hr off fun W2 c2 hr2 => rl_agent c2 h.sc.ag hst ht hr2 hl hc hcm he hf fun w' A' c' k c3 hrA hoA => ?_⟩
 exact tells_same c2 k (rlag_wel c3 f A' c' now hse hty hs1 hbo)
theorem ra_welno (h : JA w W x r e) (hI : x.I ≤ 1000) (now : Int) (ht : timeB now = true) (hst : ¬ x.t.st = 3) {a : Option Addr} {l : List Int} {c1 : Nat} (hr1 : RdB W a l) (hc1 : l.length ≤ c1) (hcm1 : c1 ≤ maxLen) {A : Option Addr} {c : Nat} (hr : RdB W A l) (hc : l.length ≤ c) (hcm : c ≤ maxLen) (off : l ≠ [] → ∀ y, A = some y → ¬ FA x r e y.block) (hl : l.length ≤ 100000000) (he : errR l = 0) (f : Fr) (hf : frR l = f) (hse : f.se = (x.t.se : Int)) (hty : f.ty = 2) (hs1 : ¬ x.t.st = 1) (hbo : ¬ f.bo = (x.t.bo : Int)) : Tells Tryz.prog 38 #[apt x, .slice a l.length c1, .int .i64 now] W (RPost w W true x.lb r x.I (FA x r e) A l c now) := by
 refine lreceive_agood h.a.lk h.a.tk hst now ht a _ c1 l rfl hr1 hl hc1 hcm1 he f hf hse RPost.stays ?_
 intro w1 A1 c1' k1 hrA1 hfA1
 refine atakes_2 _ _ _ _ _ hty RPost.stays ?_
 intro w2 k2
 refine Calls.mono (by simpa only [if_neg hbo] using awelcome_up (h.a.tk.kp0 (k1.trans k2)) hs1 f A1 c1' now) ?_
 rintro e1 w' ⟨rfl, k3⟩
 refine ⟨_, _, rfl, h.rsame ((k1.trans k2).trans k3) hr off fun W2 c2 hr2 => rl_agent c2 h.sc.ag hst ht hr2 hl hc hcm he hf fun w' A' c' k c3 hrA hoA => ?_⟩
 exact tells_same c2 k (rlag_welno c3 f A' c' now hse hty hs1 hbo)
theorem ra_no3 (h : JA w W x r e) (hI : x.I ≤ 1000) (now : Int) (ht : timeB now = true) (hst : ¬ x.t.st = 3) {a : Option Addr} {l : List Int} {c1 : Nat} (hr1 : RdB W a l) (hc1 : l.length ≤ c1) (hcm1 : c1 ≤ maxLen) {A : Option Addr} {c : Nat} (hr : RdB W A l) (hc : l.length ≤ c) (hcm : c ≤ maxLen) (off : l ≠ [] → ∀ y, A = some y → ¬ FA x r e y.block) (hl : l.length ≤ 100000000) (he : errR l = 0) (f : Fr) (hf : frR l = f) (hse : f.se = (x.t.se : Int)) (hty : f.ty = 3) (hno : ¬ (x.t.st = 2 ∧ f.bo = (x.t.bo : Int))) : Tells Tryz.prog 38 #[apt x, .slice a l.length c1, .int .i64 now] W (RPost w W true x.lb r x.I (FA x r e) A l c now) := by
 refine lreceive_agood h.a.lk h.a.tk hst now ht a _ c1 l rfl hr1 hl hc1 hcm1 he f hf hse RPost.stays ?_
 intro w1 A1 c1' k1 hrA1 hfA1
 refine atakes_3 _ _ _ _ _ hty RPost.stays ?_
 intro w2 k2
 refine Calls.mono (anews_no (h.a.tk.kp0 (k1.trans k2)) f A1 c1' now (by by_cases hs2 : x.t.st = 2; exact .inr (fun e => hno ⟨hs2, e⟩); exact .inl hs2)) ?_
 rintro e1 w' ⟨rfl, k3⟩
 refine ⟨_, _, rfl, h.rsame ((k1.trans k2).trans k3) hr off fun W2 c2 hr2 => rl_agent c2 h.sc.ag hst ht hr2 hl hc hcm he hf fun w' A' c' k c3 hrA hoA => ?_⟩
 exact tells_same c2 k (rlag_no3 c3 f A' c' now hse hty hno)
theorem ra_no4 (h : JA w W x r e) (hI : x.I ≤ 1000) (now : Int) (ht : timeB now = true) (hst : ¬ x.t.st = 3) {a : Option Addr} {l : List Int} {c1 : Nat} (hr1 : RdB W a l) (hc1 : l.length ≤ c1) (hcm1 : c1 ≤ maxLen) {A : Option Addr} {c : Nat} (hr : RdB W A l) (hc : l.length ≤ c) (hcm : c ≤ maxLen) (off : l ≠ [] → ∀ y, A = some y → ¬ FA x r e y.block) (hl : l.length ≤ 100000000) (he : errR l = 0) (f : Fr) (hf : frR l = f) (hse : f.se = (x.t.se : Int)) (hty : f.ty = 4) (hno : ¬ (x.t.st = 2 ∧ f.bo = (x.t.bo : Int))) : Tells Tryz.prog 38 #[apt x, .slice a l.length c1, .int .i64 now] W (RPost w W true x.lb r x.I (FA x r e) A l c now) := by
 refine lreceive_agood h.a.lk h.a.tk hst now ht a _ c1 l rfl hr1 hl hc1 hcm1 he f hf hse RPost.stays ?_
 intro w1 A1 c1' k1 hrA1 hfA1
 refine atakes_4 _ _ _ _ _ hty RPost.stays ?_
 intro w2 k2
 refine Calls.mono (anews_no (h.a.tk.kp0 (k1.trans k2)) f A1 c1' now (by by_cases hs2 : x.t.st = 2; exact .inr (fun e => hno ⟨hs2, e⟩); exact .inl hs2)) ?_
 rintro e1 w' ⟨rfl, k3⟩
 refine ⟨_, _, rfl, h.rsame ((k1.trans k2).trans k3) hr off fun W2 c2 hr2 => rl_agent c2 h.sc.ag hst ht hr2 hl hc hcm he hf fun w' A' c' k c3 hrA hoA => ?_⟩
 exact tells_same c2 k (rlag_no4 c3 f A' c' now hse hty hno)
theorem ra_open (h : JA w W x r e) (hI : x.I ≤ 1000) (now : Int) (ht : timeB now = true) (hst : ¬ x.t.st = 3) {a : Option Addr} {l : List Int} {c1 : Nat} (hr1 : RdB W a l) (hc1 : l.length ≤ c1) (hcm1 : c1 ≤ maxLen) {A : Option Addr} {c : Nat} (hr : RdB W A l) (hc : l.length ≤ c) (hcm : c ≤ maxLen) (off : l ≠ [] → ∀ y, A = some y → ¬ FA x r e y.block) (hl : l.length ≤ 100000000) (he : errR l = 0) (f : Fr) (hf : frR l = f) (hse : f.se = (x.t.se : Int)) (hty : f.ty = 2) (hs1 : x.t.st = 1) (b : Nat) (hb : f.bo = (b : Nat)) (hb1 : 1 ≤ b) (hb2 : b ≤ 2147483647) : Tells Tryz.prog 38 #[apt x, .slice a l.length c1, .int .i64 now] W (RPost w W true x.lb r x.I (FA x r e) A l c now) := by
 refine lreceive_agood h.a.lk h.a.tk hst now ht a _ c1 l rfl hr1 hl hc1 hcm1 he f hf hse RPost.stays ?_
 intro w1 A1 c1' k1 hrA1 hfA1
 refine atakes_2 _ _ _ _ _ hty RPost.stays ?_
 intro w2 k2
 have k12 := k1.trans k2
 have h2 := h.a.kp0 k12
 refine Calls.mono (awelcome_open h2.tk hs1 f b hb hb2 A1 c1' now) ?_
 rintro e1 w' ⟨rfl, g, bx, h3, hg, hbx, hm, k3⟩
 obtain ⟨h4, m⟩ := h2.step (Nat.le_trans h.kp.size k12.size) h3 (fun k hk => (hm k hk).elim (fun e => .inl (.inl e)) (fun e => .inr (by omega))) (k3.mono (fun i _ e => .inl e))
 refine ⟨_, _, rfl, h.rnil { x with t := upT { x.t with bo := b } g bx, I := x.I + 1 } (h4.mono (Nat.le_succ _)) (Mv.pre k12 m) rfl rfl hr off fun W2 c2 hr2 => rl_agent c2 h.sc.ag hst ht hr2 hl hc hcm he hf fun w' A' c' k c3 hrA hoA => ?_⟩
 refine Calls.mono (rlag_open c3 f A' c' now hse hty hs1 b hb h.a.tk.sz) ?_
 rintro e1 W3 ⟨rfl, e', hke, hc', hn, k4⟩
 exact ⟨_, _, rfl, rfl, rfl, e', hc' g bx, fun j hj => (hn _ j hj).imp_right (fun q => Nat.le_trans k.size q), (k.mono (fun _ _ h => h.elim)).trans (k4.mono (fun i _ e => .inl e)), h.sc.of _ hke rfl rfl (Iv.up h.sc.se hb1) rfl (fun e1 => absurd (show (2 : Nat) = 1 from e1) (by decide))⟩
theorem ra_reset (h : JA w W x r e) (hI : x.I ≤ 1000) (now : Int) (ht : timeB now = true) (hst : ¬ x.t.st = 3) {a : Option Addr} {l : List Int} {c1 : Nat} (hr1 : RdB W a l) (hc1 : l.length ≤ c1) (hcm1 : c1 ≤ maxLen) {A : Option Addr} {c : Nat} (hr : RdB W A l) (hc : l.length ≤ c) (hcm : c ≤ maxLen) (off : l ≠ [] → ∀ y, A = some y → ¬ FA x r e y.block) (hl : l.length ≤ 100000000) (he : errR l = 0) (f : Fr) (hf : frR l = f) (hse : f.se = (x.t.se : Int)) (hty : f.ty = 5) : Tells Tryz.prog 38 #[apt x, .slice a l.length c1, .int .i64 now] W (RPost w W true x.lb r x.I (FA x r e) A l c now) := by
 refine lreceive_agood h.a.lk h.a.tk hst now ht a _ c1 l rfl hr1 hl hc1 hcm1 he f hf hse RPost.stays ?_
 intro w1 A1 c1' k1 hrA1 hfA1
 refine atakes_5 _ _ _ _ _ hty RPost.stays ?_
 intro w2 k2
 have k12 := k1.trans k2
 have h2 := h.a.kp0 k12
 refine Calls.mono (areset_any h2.tk f A1 c1' now) ?_
 rintro e1 w' ⟨rfl, h3, k3⟩
 obtain ⟨h4, m⟩ := h2.step (Nat.le_trans h.kp.size k12.size) h3 (fun k hk => hk.elim (fun e => .inl (.inl e)) (fun e => absurd (show (3 : Nat) = 2 from e.1) (by decide))) (k3.mono (fun i _ e => .inl e))
 refine ⟨_, _, rfl, h.rnil { x with t := { x.t with st := 3 }, I := x.I + 1 } (h4.mono (Nat.le_succ _)) (Mv.pre k12 m) rfl rfl hr off fun W2 c2 hr2 => rl_agent c2 h.sc.ag hst ht hr2 hl hc hcm he hf fun w' A' c' k c3 hrA hoA => ?_⟩
 refine Calls.mono (rlag_reset c3 f A' c' now hse hty) ?_
 rintro e1 W3 ⟨rfl, hc', k4⟩
 refine ⟨_, _, rfl, rfl, rfl, e, hc', fun j hj => .inl ?_, (k.mono (fun _ _ h => h.elim)).trans (k4.mono (fun i _ e => .inl e)), h.sc.of _ (Ke.refl e) rfl rfl (Iv.not (by show ¬ (3 : Nat) = 2; decide) _) rfl (fun e1 => absurd (show (3 : Nat) = 1 from e1) (by decide))⟩
 rcases hj with hj | hj | hj
 · exact .inl hj
 · exact .inr (.inl hj)
 · exact absurd (show (3 : Nat) = 2 from hj.1) (by decide)
theorem ra_bad3 (h : JA w W x r e) (hI : x.I ≤ 1000) (now : Int) (ht : timeB now = true) (hst : ¬ x.t.st = 3) {a : Option Addr} {l : List Int} {c1 : Nat} (hr1 : RdB W a l) (hc1 : l.length ≤ c1) (hcm1 : c1 ≤ maxLen) {A : Option Addr} {c : Nat} (hr : RdB W A l) (hc : l.length ≤ c) (hcm : c ≤ maxLen) (off : l ≠ [] → ∀ y, A = some y → ¬ FA x r e y.block) (hl : l.length ≤ 100000000) (he : errR l = 0) (f : Fr) (hf : frR l = f) (hse : f.se = (x.t.se : Int)) (hty : f.ty = 3) (hs2 : x.t.st = 2) (hbo : f.bo = (x.t.bo : Int)) (hb : ackB x.t.i.x f.ac now = false) : Tells Tryz.prog 38 #[apt x, .slice a l.length c1, .int .i64 now] W (RPost w W true x.lb r x.I (FA x r e) A l c now) := by
 refine lreceive_agood h.a.lk h.a.tk hst now ht a _ c1 l rfl hr1 hl hc1 hcm1 he f hf hse RPost.stays ?_
 intro w1 A1 c1' k1 hrA1 hfA1
 refine atakes_3 _ _ _ _ _ hty RPost.stays ?_
 intro w2 k2
 have k12 := k1.trans k2
 refine anews_yes (h.a.tk.kp0 k12) hs2 f A1 c1' now hbo RPost.stays ?_
 intro w3 k3
 have k13 := k12.trans k3
 refine Calls.mono (news_bad (h.a.tk.kp0 k13) hs2 f A1 c1' now hb) ?_
 rintro e1 w' ⟨rfl, k4⟩
 refine ⟨_, _, rfl, h.rsame (k13.trans k4) hr off fun W2 c2 hr2 => rl_agent c2 h.sc.ag hst ht hr2 hl hc hcm he hf fun w' A' c' k c3 hrA hoA => ?_⟩
 refine rlag_yes3 c3 f A' c' now hse hty hs2 hbo ?_
 intro w4 k5
 refine Calls.mono (rlnews_bad (c3.kp0 k5) hs2 (h.a.tk.up hs2).win.now_bd f A' c' now hb) ?_
 rintro e1 W3 ⟨rfl, hc', k6⟩
 exact ⟨_, _, rfl, rfl, rfl, hc', ((k.trans k5).mono (fun _ _ h => h.elim)).trans k6⟩
theorem ra_bad4 (h : JA w W x r e) (hI : x.I ≤ 1000) (now : Int) (ht : timeB now = true) (hst : ¬ x.t.st = 3) {a : Option Addr} {l : List Int} {c1 : Nat} (hr1 : RdB W a l) (hc1 : l.length ≤ c1) (hcm1 : c1 ≤ maxLen) {A : Option Addr} {c : Nat} (hr : RdB W A l) (hc : l.length ≤ c) (hcm : c ≤ maxLen) (off : l ≠ [] → ∀ y, A = some y → ¬ FA x r e y.block) (hl : l.length ≤ 100000000) (he : errR l = 0) (f : Fr) (hf : frR l = f) (hse : f.se = (x.t.se : Int)) (hty : f.ty = 4) (hs2 : x.t.st = 2) (hbo : f.bo = (x.t.bo : Int)) (hb : ackB x.t.i.x f.ac now = false) : Tells Tryz.prog 38 #[apt x, .slice a l.length c1, .int .i64 now] W (RPost w W true x.lb r x.I (FA x r e) A l c now) := by
 refine lreceive_agood h.a.lk h.a.tk hst now ht a _ c1 l rfl hr1 hl hc1 hcm1 he f hf hse RPost.stays ?_
 intro w1 A1 c1' k1 hrA1 hfA1
 refine atakes_4 _ _ _ _ _ hty RPost.stays ?_
 intro w2 k2
 have k12 := k1.trans k2
 refine anews_yes (h.a.tk.kp0 k12) hs2 f A1 c1' now hbo RPost.stays ?_
 intro w3 k3
 have k13 := k12.trans k3
 refine Calls.mono (news_bad (h.a.tk.kp0 k13) hs2 f A1 c1' now hb) ?_
 rintro e1 w' ⟨rfl, k4⟩
 refine ⟨_, _, rfl, h.rsame (k13.trans k4) hr off fun W2 c2 hr2 => rl_agent c2 h.sc.ag hst ht hr2 hl hc hcm he hf fun w' A' c' k c3 hrA hoA => ?_⟩
 refine rlag_yes4 c3 f A' c' now hse hty hs2 hbo ?_
 intro w4 k5
 refine Calls.mono (rlnews_bad (c3.kp0 k5) hs2 (h.a.tk.up hs2).win.now_bd f A' c' now hb) ?_
 rintro e1 W3 ⟨rfl, hc', k6⟩
 exact ⟨_, _, rfl, rfl, rfl, hc', ((k.trans k5).mono (fun _ _ h => h.elim)).trans k6⟩
theorem ra_ack (h : JA w W x r e) (hI : x.I ≤ 1000) (now : Int) (ht : timeB now = true) (hst : ¬ x.t.st = 3) {a : Option Addr} {l : List Int} {c1 : Nat} (hr1 : RdB W a l) (hc1 : l.length ≤ c1) (hcm1 : c1 ≤ maxLen) {A : Option Addr} {c : Nat} (hr : RdB W A l) (hc : l.length ≤ c) (hcm : c ≤ maxLen) (off : l ≠ [] → ∀ y, A = some y → ¬ FA x r e y.block) (hl : l.length ≤ 100000000) (he : errR l = 0) (f : Fr) (hf : frR l = f) (hse : f.se = (x.t.se : Int)) (hty : f.ty = 4) (hs2 : x.t.st = 2) (hbo : f.bo = (x.t.bo : Int)) (hb : ackB x.t.i.x f.ac now = true) : Tells Tryz.prog 38 #[apt x, .slice a l.length c1, .int .i64 now] W (RPost w W true x.lb r x.I (FA x r e) A l c now) := by
 refine lreceive_agood h.a.lk h.a.tk hst now ht a _ c1 l rfl hr1 hl hc1 hcm1 he f hf hse RPost.stays ?_
 intro w1 A1 c1' k1 hrA1 hfA1
 refine atakes_4 _ _ _ _ _ hty RPost.stays ?_
 intro w2 k2
 have k12 := k1.trans k2
 refine anews_yes (h.a.tk.kp0 k12) hs2 f A1 c1' now hbo RPost.stays ?_
 intro w3 k3
 have k13 := k12.trans k3
 have h2 := h.a.kp0 k13
 refine Calls.mono (news_ack h2.tk hs2 (by omega) f A1 c1' now hb (by omega)) ?_
 rintro e1 w' ⟨rfl, V', h3, hV, k4⟩
 obtain ⟨h4, m⟩ := h2.step (Nat.le_trans h.kp.size k13.size) h3 (fun k hk => .inl (me_ack hV hk)) k4
 refine ⟨_, _, rfl, h.rnil { x with t := ackT x.t (ackX x.t.i.x f.ac now V'), I := x.I + 1 } (h4.mono (Nat.le_succ _)) (Mv.pre k13 m) rfl rfl hr off fun W2 c2 hr2 => rl_agent c2 h.sc.ag hst ht hr2 hl hc hcm he hf fun w' A' c' k c3 hrA hoA => ?_⟩
 refine rlag_yes4 c3 f A' c' now hse hty hs2 hbo ?_
 intro w4 k5
 have k35 := k.trans k5
 refine Calls.mono (rlnews_ack (c3.kp0 k5) hs2 (h.a.tk.wf hs2 (by omega)) f A' c' now hb hty) ?_
 rintro e1 W3 ⟨rfl, e', hke, hc', hn, k6⟩
 exact ⟨_, _, rfl, rfl, rfl, e', hc' V', fun j hj => (hn _ hs2 j hj).imp_right (fun q => Nat.le_trans k35.size q), (k35.mono (fun _ _ h => h.elim)).trans k6, h.sc.of _ hke rfl rfl (h.sc.iv.mono (Nat.le_succ _)).ack rfl (fun e1 => absurd (hs2.symm.trans e1) (by decide))⟩
theorem ra_take (h : JA w W x r e) (hI : x.I ≤ 1000) (now : Int) (ht : timeB now = true) (hst : ¬ x.t.st = 3) {a : Option Addr} {l : List Int} {c1 : Nat} (hr1 : RdB W a l) (hc1 : l.length ≤ c1) (hcm1 : c1 ≤ maxLen) {A : Option Addr} {c : Nat} (hr : RdB W A l) (hc : l.length ≤ c) (hcm : c ≤ maxLen) (off : l ≠ [] → ∀ y, A = some y → ¬ FA x r e y.block) (hl : l.length ≤ 100000000) (he : errR l = 0) (f : Fr) (hf : frR l = f) (hse : f.se = (x.t.se : Int)) (hty : f.ty = 3) (hs2 : x.t.st = 2) (hbo : f.bo = (x.t.bo : Int)) (hb : ackB x.t.i.x f.ac now = true) (hF : errF f = 0) : Tells Tryz.prog 38 #[apt x, .slice a l.length c1, .int .i64 now] W (RPost w W true x.lb r x.I (FA x r e) A l c now) := by
 obtain ⟨_, hrg, hbd, _⟩ := errF_ok hF
 have hsq := hrg.2.2.1
 refine lreceive_agood h.a.lk h.a.tk hst now ht a _ c1 l rfl hr1 hl hc1 hcm1 he f hf hse RPost.stays ?_
 intro w1 A1 c1' k1 hrA1 hfA1
 refine atakes_3 _ _ _ _ _ hty RPost.stays ?_
 intro w2 k2
 have k12 := k1.trans k2
 refine anews_yes (h.a.tk.kp0 k12) hs2 f A1 c1' now hbo RPost.stays ?_
 intro w3 k3
 have k13 := k12.trans k3
 have h2 := h.a.kp0 k13
 refine Calls.mono (news_take h2.tk hs2 (by omega) f A1 c1' now hb hty (by omega) (hrA1.kp (k2.trans k3) (fun _ _ h => h)) (by omega) (fun y ha hm => ?_)) ?_
 · have q1 := hfA1 y.block (by rw [ha]; rfl)
   have q2 := h.a.tk.lt hm
   omega
 · rintro e1 w' ⟨V', n', hd', F', v, vs, rfl, h4, hV, h5, h6, h7, h8, h9, h10, h11, k4⟩
   obtain ⟨h12, m⟩ := h2.step (Nat.le_trans h.kp.size k13.size) h4 (fun k hk => me_take hV h11 hk) k4
   have hsz := k13.size
   refine ⟨v, 0, rfl, h.rtold hs2 f f.ac now V' n' hd' F' v vs (h12.mono (Nat.le_succ _)) (Mv.pre k13 m) hV h5 h6 h7 h8 ⟨h9.own, fun i g hi hg => ⟨(h9.blk i g hi hg).1.imp_right (fun e => by omega), (h9.blk i g hi hg).2⟩, h9.dist⟩ (fun k hk => ⟨by have := (h10 k hk).1; omega, (h10 k hk).2⟩) hr off fun W2 c2 hr2 => rl_agent c2 h.sc.ag hst ht hr2 hl hc hcm he hf fun w' A' c' k c3 hrA hoA => ?_⟩
   refine rlag_yes3 c3 f A' c' now hse hty hs2 hbo ?_
   intro w4 k5
   have k35 := k.trans k5
   refine Calls.mono (rlnews_take (c3.kp0 k5) hs2 (h.a.tk.wf hs2 (by omega)) f A' c' now hb hty (by omega) (hrA.kp k5 (fun _ _ h => h)) (by omega) hoA) ?_
   rintro e1 W3 ⟨n2, vo, us, e', rfl, hke, hc', q1, q2, q3, q4, q5, q6, q7, k6⟩
   exact ⟨_, _, rfl, rfl, n2, us, e', hke, hc', q1, q4, q5, q6, fun t' ht' j hj => (q7 t' ht' j hj).imp_right (fun q => Nat.le_trans k35.size q), (k35.mono (fun _ _ h => h.elim)).trans k6⟩
theorem ra_any (h : JA w W x r e) (hI : x.I ≤ 1000) (now : Int) {a : Option Addr} {l : List Int} {c1 : Nat} (hr1 : RdB W a l) (hc1 : l.length ≤ c1) (hcm1 : c1 ≤ maxLen) {A : Option Addr} {c : Nat} (hr : RdB W A l) (hc : l.length ≤ c) (hcm : c ≤ maxLen) (off : l ≠ [] → ∀ y, A = some y → ¬ FA x r e y.block) (hl : l.length ≤ 100000000) : Tells Tryz.prog 38 #[apt x, .slice a l.length c1, .int .i64 now] W (RPost w W true x.lb r x.I (FA x r e) A l c now) := by
 by_cases ht : timeB now = true
 · by_cases hst : x.t.st = 3
   · refine Calls.mono (lreceive_ashut h.a.lk h.a.tk hst now ht a _ c1) ?_
     rintro e1 w' ⟨rfl, rfl⟩
     exact ⟨_, _, rfl, h.rsame (Kp.refl _ _) hr off fun W2 c2 hr2 => tells_samew c2 (rlrec_shut c2 h.sc.ag hst A _ c now ht)⟩
   · by_cases he : errR l = 0
     · obtain ⟨hF, _, _⟩ := lay_errR hr.bd he
       obtain ⟨f, hf⟩ : ∃ f, frR l = f := ⟨_, rfl⟩
       rw [hf] at hF
       by_cases hse : f.se = (x.t.se : Int)
       · obtain ⟨hty, hrg, _, hsay⟩ := errF_ok hF
         have hty : 1 ≤ f.ty ∧ f.ty ≤ 5 := hty
         rcases (show f.ty = 1 ∨ f.ty = 2 ∨ f.ty = 3 ∨ f.ty = 4 ∨ f.ty = 5 by omega) with t1 | t2 | t3 | t4 | t5
         · exact ra_syn h hI now ht hst hr1 hc1 hcm1 hr hc hcm off hl he f hf hse t1
         · by_cases hs1 : x.t.st = 1
           · have hp : 1 ≤ f.bo := by
              unfold says at hsay
              rw [decide_eq_true_eq] at hsay
              exact (hsay.2.2.1 t2).1
             obtain ⟨b, hb⟩ := Int.eq_ofNat_of_zero_le (show 0 ≤ f.bo by omega)
             have := hrg.2.1
             exact ra_open h hI now ht hst hr1 hc1 hcm1 hr hc hcm off hl he f hf hse t2 hs1 b hb (by omega) (by omega)
           · by_cases hbo : f.bo = (x.t.bo : Int)
             · exact ra_wel h hI now ht hst hr1 hc1 hcm1 hr hc hcm off hl he f hf hse t2 hs1 hbo
             · exact ra_welno h hI now ht hst hr1 hc1 hcm1 hr hc hcm off hl he f hf hse t2 hs1 hbo
         · by_cases hno : x.t.st = 2 ∧ f.bo = (x.t.bo : Int)
           · cases hb : ackB x.t.i.x f.ac now
             · exact ra_bad3 h hI now ht hst hr1 hc1 hcm1 hr hc hcm off hl he f hf hse t3 hno.1 hno.2 hb
             · exact ra_take h hI now ht hst hr1 hc1 hcm1 hr hc hcm off hl he f hf hse t3 hno.1 hno.2 hb hF
           · exact ra_no3 h hI now ht hst hr1 hc1 hcm1 hr hc hcm off hl he f hf hse t3 hno
         · by_cases hno : x.t.st = 2 ∧ f.bo = (x.t.bo : Int)
           · cases hb : ackB x.t.i.x f.ac now
             · exact ra_bad4 h hI now ht hst hr1 hc1 hcm1 hr hc hcm off hl he f hf hse t4 hno.1 hno.2 hb
             · exact ra_ack h hI now ht hst hr1 hc1 hcm1 hr hc hcm off hl he f hf hse t4 hno.1 hno.2 hb
           · exact ra_no4 h hI now ht hst hr1 hc1 hcm1 hr hc hcm off hl he f hf hse t4 hno
         · exact ra_reset h hI now ht hst hr1 hc1 hcm1 hr hc hcm off hl he f hf hse t5
       · exact ra_other h hI now ht hst hr1 hc1 hcm1 hr hc hcm off hl he f hf hse
     · refine Calls.mono (lreceive_abad h.a.lk h.a.tk hst now ht a _ c1 l rfl hr1 hl hc1 hcm1 he) ?_
       rintro e1 w' ⟨rfl, k1⟩
       exact ⟨_, _, rfl, h.rsame k1 hr off fun W2 c2 hr2 => tells_same c2 (Kp.refl _ _) (rlrec_bad c2 (fun _ => hst) A _ c now ht l rfl hr2 hl hc hcm he)⟩
 · have ht : timeB now = false := by simpa using ht
   refine Calls.mono (lreceive_alate h.a.lk now ht a _ c1) ?_
   rintro e1 w' ⟨rfl, rfl⟩
   exact ⟨_, _, rfl, h.rsame (Kp.refl _ _) hr off fun W2 c2 hr2 => tells_samew c2 (rlrec_late r A _ c now W2 ht)⟩
end
section
variable {w W : World} {x : De} {r : Nat} {e : Dl}
theorem rl_daemon {W2 : World} {A : Option Addr} {l : List Int} {c : Nat} {now : Int} {f : Fr} {t : Tk} (c2 : RlC W2 r t e) (hag : e.ag = false) (ht : timeB now = true) (hr : RdB W2 A l) (hl : l.length ≤ 100000000) (hc : l.length ≤ c) (hcm : c ≤ maxLen) (he : errR l = 0) (hf : frR l = f) {Q : Value → Int → World → Prop}
 (C : ∀ w' A' c', Kp (fun _ => False) W2 w' → RlC w' r t e → RdB w' A' f.bd → (∀ y, A' = some y → ¬ RlF r t e y.block) → Tells Tryz.prog 52 #[.pointer (some ⟨r, 0, none⟩), .agg (frA f A' c'), .int .i64 now] w' Q) :
 Tells Tryz.prog 39 #[.pointer (some ⟨r, 0, none⟩), .slice A l.length c, .int .i64 now] W2 Q :=
 rlrec_daemon c2 hag A _ c now ht l rfl hr hl hc hcm he f hf fun w' A' c' k hrA hfA => C w' A' c' k (c2.kp0 k) hrA (fun y hy hR => by have := hfA y.block (by rw [hy]; rfl); have := c2.lt hR; omega)
theorem rd_ref {t : Tk} {rv2 : Value} {rs2 : List Nat} {W2 : World} (hg : ∀ g, rv2.ownBlock = some g → e.rv.ownBlock = some g ∨ W2.heap.size ≤ g) (j : Nat) (hj : RlF r t { e with rv := rv2, rs := rs2 } j) : RlF r t e j ∨ W2.heap.size ≤ j := by
 rcases hj with hj | hj | hj
 · exact .inl (.inl hj)
 · exact (hg j hj).imp_left (fun q => .inr (.inl q))
 · exact .inl (.inr (.inr hj))
theorem refL_ok {rs : List Nat} {s : Nat} (h : ∀ s ∈ rs, 1 ≤ s ∧ s ≤ 2147483647) (hs : 1 ≤ s ∧ s ≤ 2147483647) : ∀ q ∈ refL rs s, 1 ≤ q ∧ q ≤ 2147483647 := fun q hq => by
 unfold refL at hq
 split at hq
 · rcases List.mem_append.1 hq with hq | hq
   · exact h q hq
   · rw [List.mem_singleton] at hq; subst hq; exact hs
 · exact h q hq
theorem rd_other2 (h : JD w W x r e) (hI : x.I ≤ 1000) (now : Int) (ht : timeB now = true) {a : Option Addr} {l : List Int} {c1 : Nat} (hr1 : RdB W a l) (hc1 : l.length ≤ c1) (hcm1 : c1 ≤ maxLen) {A : Option Addr} {c : Nat} (hr : RdB W A l) (hc : l.length ≤ c) (hcm : c ≤ maxLen) (off : l ≠ [] → ∀ y, A = some y → ¬ FD x r e y.block) (hl : l.length ≤ 100000000) (he : errR l = 0) (f : Fr) (hf : frR l = f) (hty : f.ty = 2) : Tells Tryz.prog 38 #[dpt x, .slice a l.length c1, .int .i64 now] W (RPost w W false x.lb r x.I (FD x r e) A l c now) := by
 refine lreceive_dgood h.d.lk h.d.dm.tk now ht a _ c1 l rfl hr1 hl hc1 hcm1 he f hf RPost.stays ?_
 intro w1 A1 c1' k1 hrA1 hfA1
 refine Calls.mono (dtakes_other x.o w1 f A1 c1' now (by omega) (by omega) (by omega)) ?_
 rintro e1 w' ⟨rfl, k3⟩
 refine ⟨_, _, rfl, h.rsame (k1.trans k3) hr off fun W2 c2 hr2 => rl_daemon c2 h.sc.ag ht hr2 hl hc hcm he hf fun w' A' c' k c3 hrA hoA => ?_⟩
 exact tells_same c2 k (rldm_other2 c3 f A' c' now hty)
theorem rd_other5 (h : JD w W x r e) (hI : x.I ≤ 1000) (now : Int) (ht : timeB now = true) {a : Option Addr} {l : List Int} {c1 : Nat} (hr1 : RdB W a l) (hc1 : l.length ≤ c1) (hcm1 : c1 ≤ maxLen) {A : Option Addr} {c : Nat} (hr : RdB W A l) (hc : l.length ≤ c) (hcm : c ≤ maxLen) (off : l ≠ [] → ∀ y, A = some y → ¬ FD x r e y.block) (hl : l.length ≤ 100000000) (he : errR l = 0) (f : Fr) (hf : frR l = f) (hty : f.ty = 5) : Tells Tryz.prog 38 #[dpt x, .slice a l.length c1, .int .i64 now] W (RPost w W false x.lb r x.I (FD x r e) A l c now) := by
 refine lreceive_dgood h.d.lk h.d.dm.tk now ht a _ c1 l rfl hr1 hl hc1 hcm1 he f hf RPost.stays ?_
 intro w1 A1 c1' k1 hrA1 hfA1
 refine Calls.mono (dtakes_other x.o w1 f A1 c1' now (by omega) (by omega) (by omega)) ?_
 rintro e1 w' ⟨rfl, k3⟩
 refine ⟨_, _, rfl, h.rsame (k1.trans k3) hr off fun W2 c2 hr2 => rl_daemon c2 h.sc.ag ht hr2 hl hc hcm he hf fun w' A' c' k c3 hrA hoA => ?_⟩
 exact tells_same c2 k (rldm_other5 c3 f A' c' now hty)
theorem rd_elder (h : JD w W x r e) (hI : x.I ≤ 1000) (now : Int) (ht : timeB now = true) {a : Option Addr} {l : List Int} {c1 : Nat} (hr1 : RdB W a l) (hc1 : l.length ≤ c1) (hcm1 : c1 ≤ maxLen) {A : Option Addr} {c : Nat} (hr : RdB W A l) (hc : l.length ≤ c) (hcm : c ≤ maxLen) (off : l ≠ [] → ∀ y, A = some y → ¬ FD x r e y.block) (hl : l.length ≤ 100000000) (he : errR l = 0) (f : Fr) (hf : frR l = f) (s : Nat) (hs : f.se = (s : Nat)) (hs1 : 1 ≤ s) (hsb : s ≤ 2147483647) (hty : f.ty = 1) (hlt : s < x.t.se) : Tells Tryz.prog 38 #[dpt x, .slice a l.length c1, .int .i64 now] W (RPost w W false x.lb r x.I (FD x r e) A l c now) := by
 refine lreceive_dgood h.d.lk h.d.dm.tk now ht a _ c1 l rfl hr1 hl hc1 hcm1 he f hf RPost.stays ?_
 intro w1 A1 c1' k1 hrA1 hfA1
 refine dtakes_syn _ _ _ _ _ _ hty ?_
 intro w2 k2
 have k12 := k1.trans k2
 have h2 := h.d.kp0 k12
 refine Calls.mono (dsyn_elder h2.dm f A1 c1' s hs hsb hlt) ?_
 rintro e1 w' ⟨rfl, rv', h3, hg, k3⟩
 obtain ⟨h4, m⟩ := h2.step (Nat.le_trans h.kp.size k12.size) h3 (fun k hk => medR hg hk) k3
 refine ⟨_, _, rfl, h.rnil { x with rv := rv', rs := refL x.rs s, I := x.I + 1 } (h4.mono (Nat.le_succ _)) (Mv.pre k12 m) rfl rfl hr off fun W2 c2 hr2 => rl_daemon c2 h.sc.ag ht hr2 hl hc hcm he hf fun w' A' c' k c3 hrA hoA => ?_⟩
 refine Calls.mono (rldm_elder c3 f A' c' now s hs hty hlt) ?_
 rintro e1 W3 ⟨rfl, rv2, hc', hg2, k4⟩
 exact ⟨_, _, rfl, rfl, rfl, _, hc', rd_ref (fun g hg => (hg2 g hg).imp_right (fun q => Nat.le_trans k.size q)), (k.mono (fun _ _ h => h.elim)).trans (k4.mono (fun i _ e => .inl e)), h.sc.of _ rfl rfl h.sc.hello (congrArg (fun q => refL q s) h.sc.rs) (h.sc.iv.mono (Nat.le_succ _)) rfl h.sc.st (refL_ok h.sc.rb ⟨hs1, hsb⟩) h.sc.wl⟩
theorem rd_no3 (h : JD w W x r e) (hI : x.I ≤ 1000) (now : Int) (ht : timeB now = true) {a : Option Addr} {l : List Int} {c1 : Nat} (hr1 : RdB W a l) (hc1 : l.length ≤ c1) (hcm1 : c1 ≤ maxLen) {A : Option Addr} {c : Nat} (hr : RdB W A l) (hc : l.length ≤ c) (hcm : c ≤ maxLen) (off : l ≠ [] → ∀ y, A = some y → ¬ FD x r e y.block) (hl : l.length ≤ 100000000) (he : errR l = 0) (f : Fr) (hf : frR l = f) (s : Nat) (hs : f.se = (s : Nat)) (hs1 : 1 ≤ s) (hsb : s ≤ 2147483647) (hty : f.ty = 3) (hno : ¬ (x.t.st = 2 ∧ f.se = (x.t.se : Int) ∧ f.bo = (x.t.bo : Int))) : Tells Tryz.prog 38 #[dpt x, .slice a l.length c1, .int .i64 now] W (RPost w W false x.lb r x.I (FD x r e) A l c now) := by
 refine lreceive_dgood h.d.lk h.d.dm.tk now ht a _ c1 l rfl hr1 hl hc1 hcm1 he f hf RPost.stays ?_
 intro w1 A1 c1' k1 hrA1 hfA1
 have h2 := h.d.kp0 k1
 refine Calls.mono (dtakes_no3 h2.dm f A1 c1' now s hs hty (by by_cases q1 : x.t.st = 2; by_cases q2 : s = x.t.se; exact .inr (.inr (fun q3 => hno ⟨q1, by rw [hs, q2], q3⟩)); exact .inr (.inl q2); exact .inl q1)) ?_
 rintro e1 w' ⟨rfl, rv', h3, hg, k3⟩
 obtain ⟨h4, m⟩ := h2.step (Nat.le_trans h.kp.size k1.size) h3 (fun k hk => medR hg hk) k3
 refine ⟨_, _, rfl, h.rnil { x with rv := rv', rs := refL x.rs s, I := x.I + 1 } (h4.mono (Nat.le_succ _)) (Mv.pre k1 m) rfl rfl hr off fun W2 c2 hr2 => rl_daemon c2 h.sc.ag ht hr2 hl hc hcm he hf fun w' A' c' k c3 hrA hoA => ?_⟩
 refine Calls.mono (rldm_no3 c3 f A' c' now s hs hty hno) ?_
 rintro e1 W3 ⟨rfl, rv2, hc', hg2, k4⟩
 exact ⟨_, _, rfl, rfl, rfl, _, hc', rd_ref (fun g hg => (hg2 g hg).imp_right (fun q => Nat.le_trans k.size q)), (k.mono (fun _ _ h => h.elim)).trans (k4.mono (fun i _ e => .inl e)), h.sc.of _ rfl rfl h.sc.hello (congrArg (fun q => refL q s) h.sc.rs) (h.sc.iv.mono (Nat.le_succ _)) rfl h.sc.st (refL_ok h.sc.rb ⟨hs1, hsb⟩) h.sc.wl⟩
theorem rd_no4 (h : JD w W x r e) (hI : x.I ≤ 1000) (now : Int) (ht : timeB now = true) {a : Option Addr} {l : List Int} {c1 : Nat} (hr1 : RdB W a l) (hc1 : l.length ≤ c1) (hcm1 : c1 ≤ maxLen) {A : Option Addr} {c : Nat} (hr : RdB W A l) (hc : l.length ≤ c) (hcm : c ≤ maxLen) (off : l ≠ [] → ∀ y, A = some y → ¬ FD x r e y.block) (hl : l.length ≤ 100000000) (he : errR l = 0) (f : Fr) (hf : frR l = f) (s : Nat) (hs : f.se = (s : Nat)) (hs1 : 1 ≤ s) (hsb : s ≤ 2147483647) (hty : f.ty = 4) (hno : ¬ (x.t.st = 2 ∧ f.se = (x.t.se : Int) ∧ f.bo = (x.t.bo : Int))) : Tells Tryz.prog 38 #[dpt x, .slice a l.length c1, .int .i64 now] W (RPost w W false x.lb r x.I (FD x r e) A l c now) := by
 refine lreceive_dgood h.d.lk h.d.dm.tk now ht a _ c1 l rfl hr1 hl hc1 hcm1 he f hf RPost.stays ?_
 intro w1 A1 c1' k1 hrA1 hfA1
 have h2 := h.d.kp0 k1
 refine Calls.mono (dtakes_no4 h2.dm f A1 c1' now s hs hty (by by_cases q1 : x.t.st = 2; by_cases q2 : s = x.t.se; exact .inr (.inr (fun q3 => hno ⟨q1, by rw [hs, q2], q3⟩)); exact .inr (.inl q2); exact .inl q1)) ?_
 rintro e1 w' ⟨rfl, rv', h3, hg, k3⟩
 obtain ⟨h4, m⟩ := h2.step (Nat.le_trans h.kp.size k1.size) h3 (fun k hk => medR hg hk) k3
 refine ⟨_, _, rfl, h.rnil { x with rv := rv', rs := refL x.rs s, I := x.I + 1 } (h4.mono (Nat.le_succ _)) (Mv.pre k1 m) rfl rfl hr off fun W2 c2 hr2 => rl_daemon c2 h.sc.ag ht hr2 hl hc hcm he hf fun w' A' c' k c3 hrA hoA => ?_⟩
 refine Calls.mono (rldm_no4 c3 f A' c' now s hs hty hno) ?_
 rintro e1 W3 ⟨rfl, rv2, hc', hg2, k4⟩
 exact ⟨_, _, rfl, rfl, rfl, _, hc', rd_ref (fun g hg => (hg2 g hg).imp_right (fun q => Nat.le_trans k.size q)), (k.mono (fun _ _ h => h.elim)).trans (k4.mono (fun i _ e => .inl e)), h.sc.of _ rfl rfl h.sc.hello (congrArg (fun q => refL q s) h.sc.rs) (h.sc.iv.mono (Nat.le_succ _)) rfl h.sc.st (refL_ok h.sc.rb ⟨hs1, hsb⟩) h.sc.wl⟩
theorem rd_same (h : JD w W x r e) (hI : x.I ≤ 1000) (now : Int) (ht : timeB now = true) {a : Option Addr} {l : List Int} {c1 : Nat} (hr1 : RdB W a l) (hc1 : l.length ≤ c1) (hcm1 : c1 ≤ maxLen) {A : Option Addr} {c : Nat} (hr : RdB W A l) (hc : l.length ≤ c) (hcm : c ≤ maxLen) (off : l ≠ [] → ∀ y, A = some y → ¬ FD x r e y.block) (hl : l.length ≤ 100000000) (he : errR l = 0) (f : Fr) (hf : frR l = f) (s : Nat) (hs : f.se = (s : Nat)) (hs1 : 1 ≤ s) (hsb : s ≤ 2147483647) (hty : f.ty = 1) (hlt : s = x.t.se) : Tells Tryz.prog 38 #[dpt x, .slice a l.length c1, .int .i64 now] W (RPost w W false x.lb r x.I (FD x r e) A l c now) := by
 refine lreceive_dgood h.d.lk h.d.dm.tk now ht a _ c1 l rfl hr1 hl hc1 hcm1 he f hf RPost.stays ?_
 intro w1 A1 c1' k1 hrA1 hfA1
 refine dtakes_syn _ _ _ _ _ _ hty ?_
 intro w2 k2
 have k12 := k1.trans k2
 have h2 := h.d.kp0 k12
 refine Calls.mono (dsyn_same h2.dm f A1 c1' s hs hsb hlt) ?_
 rintro e1 w' ⟨rfl, h3, k3⟩
 obtain ⟨h4, m⟩ := h2.step (Nat.le_trans h.kp.size k12.size) h3 (fun k hk => .inl hk) (k3.mono (fun i _ e => .inl (.inl e)))
 refine ⟨_, _, rfl, h.rnil { x with wel := true, I := x.I + 1 } (h4.mono (Nat.le_succ _)) (Mv.pre k12 m) rfl rfl hr off fun W2 c2 hr2 => rl_daemon c2 h.sc.ag ht hr2 hl hc hcm he hf fun w' A' c' k c3 hrA hoA => ?_⟩
 refine Calls.mono (rldm_same c3 f A' c' now (by rw [hs, hlt]) hty) ?_
 rintro e1 W3 ⟨rfl, hc', k4⟩
 exact ⟨_, _, rfl, rfl, rfl, _, hc', fun j hj => .inl hj, (k.mono (fun _ _ h => h.elim)).trans (k4.mono (fun i _ e => .inl e)), h.sc.of _ rfl rfl rfl h.sc.rs (h.sc.iv.mono (Nat.le_succ _)) rfl h.sc.st h.sc.rb (fun _ => by show 1 ≤ x.t.se; omega)⟩
theorem rd_newer (h : JD w W x r e) (hI : x.I ≤ 1000) (now : Int) (ht : timeB now = true) {a : Option Addr} {l : List Int} {c1 : Nat} (hr1 : RdB W a l) (hc1 : l.length ≤ c1) (hcm1 : c1 ≤ maxLen) {A : Option Addr} {c : Nat} (hr : RdB W A l) (hc : l.length ≤ c) (hcm : c ≤ maxLen) (off : l ≠ [] → ∀ y, A = some y → ¬ FD x r e y.block) (hl : l.length ≤ 100000000) (he : errR l = 0) (f : Fr) (hf : frR l = f) (s : Nat) (hs : f.se = (s : Nat)) (hs1 : 1 ≤ s) (hsb : s ≤ 2147483647) (hty : f.ty = 1) (hlt : x.t.se < s) : Tells Tryz.prog 38 #[dpt x, .slice a l.length c1, .int .i64 now] W (RPost w W false x.lb r x.I (FD x r e) A l c now) := by
 refine lreceive_dgood h.d.lk h.d.dm.tk now ht a _ c1 l rfl hr1 hl hc1 hcm1 he f hf RPost.stays ?_
 intro w1 A1 c1' k1 hrA1 hfA1
 refine dtakes_syn _ _ _ _ _ _ hty ?_
 intro w2 k2
 have k12 := k1.trans k2
 have h2 := h.d.kp0 k12
 refine Calls.mono (dsyn_newer h2.dm f A1 c1' s hs hsb hlt) ?_
 rintro e1 w' ⟨rfl, g, b, h3, hg, hb, k3⟩
 obtain ⟨h4, m⟩ := h2.step (Nat.le_trans h.kp.size k12.size) h3 (fun k hk => medX (o := x.o) (fun k hk => (me_up hk).elim (fun e => .inl (.inl e)) (fun e => .inr (by omega))) hk) (k3.mono (fun i _ e => .inl (.inl e)))
 refine ⟨_, _, rfl, h.rnil { x with t := upT { x.t with se := s } g b, wel := true, I := x.I + 1 } (h4.mono (Nat.le_succ _)) (Mv.pre k12 m) rfl rfl hr off fun W2 c2 hr2 => rl_daemon c2 h.sc.ag ht hr2 hl hc hcm he hf fun w' A' c' k c3 hrA hoA => ?_⟩
 refine Calls.mono (rldm_newer c3 f A' c' now s hs hty hlt h.d.dm.tk.sz) ?_
 rintro e1 W3 ⟨rfl, e', hke, hc', hn, k4⟩
 exact ⟨_, _, rfl, rfl, rfl, e', hc' g b, fun j hj => (hn _ j hj).imp_right (fun q => Nat.le_trans k.size q), (k.mono (fun _ _ h => h.elim)).trans (k4.mono (fun i _ e => .inl e)), h.sc.of _ hke.ag hke.at_ hke.hello (hke.rs.trans h.sc.rs) (Iv.up hs1 h.sc.bo) rfl (by show ¬ (2 : Nat) = 1; decide) h.sc.rb (fun _ => hs1)⟩
theorem rd_bad3 (h : JD w W x r e) (hI : x.I ≤ 1000) (now : Int) (ht : timeB now = true) {a : Option Addr} {l : List Int} {c1 : Nat} (hr1 : RdB W a l) (hc1 : l.length ≤ c1) (hcm1 : c1 ≤ maxLen) {A : Option Addr} {c : Nat} (hr : RdB W A l) (hc : l.length ≤ c) (hcm : c ≤ maxLen) (off : l ≠ [] → ∀ y, A = some y → ¬ FD x r e y.block) (hl : l.length ≤ 100000000) (he : errR l = 0) (f : Fr) (hf : frR l = f) (hty : f.ty = 3) (hs2 : x.t.st = 2) (hse : f.se = (x.t.se : Int)) (hbo : f.bo = (x.t.bo : Int)) (hb : ackB x.t.i.x f.ac now = false) : Tells Tryz.prog 38 #[dpt x, .slice a l.length c1, .int .i64 now] W (RPost w W false x.lb r x.I (FD x r e) A l c now) := by
 refine lreceive_dgood h.d.lk h.d.dm.tk now ht a _ c1 l rfl hr1 hl hc1 hcm1 he f hf RPost.stays ?_
 intro w1 A1 c1' k1 hrA1 hfA1
 refine dtakes_yes3 (h.d.kp0 k1).dm f A1 c1' now hty hs2 hse hbo RPost.stays ?_
 intro w3 k3
 have k13 := k1.trans k3
 refine Calls.mono (news_bad (h.d.dm.tk.kp0 k13) hs2 f A1 c1' now hb) ?_
 rintro e1 w' ⟨rfl, k4⟩
 refine ⟨_, _, rfl, h.rsame (k13.trans k4) hr off fun W2 c2 hr2 => rl_daemon c2 h.sc.ag ht hr2 hl hc hcm he hf fun w' A' c' k c3 hrA hoA => ?_⟩
 refine rldm_yes3 c3 f A' c' now hse hty hs2 hbo ?_
 intro w4 k5
 refine Calls.mono (rlnews_bad (c3.kp0 k5) hs2 (h.d.dm.tk.up hs2).win.now_bd f A' c' now hb) ?_
 rintro e1 W3 ⟨rfl, hc', k6⟩
 exact ⟨_, _, rfl, rfl, rfl, hc', ((k.trans k5).mono (fun _ _ h => h.elim)).trans k6⟩
theorem rd_bad4 (h : JD w W x r e) (hI : x.I ≤ 1000) (now : Int) (ht : timeB now = true) {a : Option Addr} {l : List Int} {c1 : Nat} (hr1 : RdB W a l) (hc1 : l.length ≤ c1) (hcm1 : c1 ≤ maxLen) {A : Option Addr} {c : Nat} (hr : RdB W A l) (hc : l.length ≤ c) (hcm : c ≤ maxLen) (off : l ≠ [] → ∀ y, A = some y → ¬ FD x r e y.block) (hl : l.length ≤ 100000000) (he : errR l = 0) (f : Fr) (hf : frR l = f) (hty : f.ty = 4) (hs2 : x.t.st = 2) (hse : f.se = (x.t.se : Int)) (hbo : f.bo = (x.t.bo : Int)) (hb : ackB x.t.i.x f.ac now = false) : Tells Tryz.prog 38 #[dpt x, .slice a l.length c1, .int .i64 now] W (RPost w W false x.lb r x.I (FD x r e) A l c now) := by
 refine lreceive_dgood h.d.lk h.d.dm.tk now ht a _ c1 l rfl hr1 hl hc1 hcm1 he f hf RPost.stays ?_
 intro w1 A1 c1' k1 hrA1 hfA1
 refine dtakes_yes4 (h.d.kp0 k1).dm f A1 c1' now hty hs2 hse hbo RPost.stays ?_
 intro w3 k3
 have k13 := k1.trans k3
 refine Calls.mono (news_bad (h.d.dm.tk.kp0 k13) hs2 f A1 c1' now hb) ?_
 rintro e1 w' ⟨rfl, k4⟩
 refine ⟨_, _, rfl, h.rsame (k13.trans k4) hr off fun W2 c2 hr2 => rl_daemon c2 h.sc.ag ht hr2 hl hc hcm he hf fun w' A' c' k c3 hrA hoA => ?_⟩
 refine rldm_yes4 c3 f A' c' now hse hty hs2 hbo ?_
 intro w4 k5
 refine Calls.mono (rlnews_bad (c3.kp0 k5) hs2 (h.d.dm.tk.up hs2).win.now_bd f A' c' now hb) ?_
 rintro e1 W3 ⟨rfl, hc', k6⟩
 exact ⟨_, _, rfl, rfl, rfl, hc', ((k.trans k5).mono (fun _ _ h => h.elim)).trans k6⟩
theorem rd_ack (h : JD w W x r e) (hI : x.I ≤ 1000) (now : Int) (ht : timeB now = true) {a : Option Addr} {l : List Int} {c1 : Nat} (hr1 : RdB W a l) (hc1 : l.length ≤ c1) (hcm1 : c1 ≤ maxLen) {A : Option Addr} {c : Nat} (hr : RdB W A l) (hc : l.length ≤ c) (hcm : c ≤ maxLen) (off : l ≠ [] → ∀ y, A = some y → ¬ FD x r e y.block) (hl : l.length ≤ 100000000) (he : errR l = 0) (f : Fr) (hf : frR l = f) (hty : f.ty = 4) (hs2 : x.t.st = 2) (hse : f.se = (x.t.se : Int)) (hbo : f.bo = (x.t.bo : Int)) (hb : ackB x.t.i.x f.ac now = true) : Tells Tryz.prog 38 #[dpt x, .slice a l.length c1, .int .i64 now] W (RPost w W false x.lb r x.I (FD x r e) A l c now) := by
 refine lreceive_dgood h.d.lk h.d.dm.tk now ht a _ c1 l rfl hr1 hl hc1 hcm1 he f hf RPost.stays ?_
 intro w1 A1 c1' k1 hrA1 hfA1
 refine dtakes_yes4 (h.d.kp0 k1).dm f A1 c1' now hty hs2 hse hbo RPost.stays ?_
 intro w3 k3
 have k13 := k1.trans k3
 have h2 := h.d.kp0 k13
 refine Calls.mono (news_ack h2.dm.tk hs2 (by omega) f A1 c1' now hb (by omega)) ?_
 rintro e1 w' ⟨rfl, V', h3, hV, k4⟩
 have hdm : DmC w' x.o (ackT x.t (ackX x.t.i.x f.ac now V')) x.wel x.rv x.rs x.I := ⟨h3, h2.dm.own.kp k4 (fun g hg e => h2.dm.ap g hg e), fun g hg e => h2.dm.ap g hg (me_ack hV e), h2.dm.len⟩
 obtain ⟨h4, m⟩ := h2.step (Nat.le_trans h.kp.size k13.size) hdm (fun k hk => medX (o := x.o) (fun k hk => .inl (me_ack hV hk)) hk) (k4.mono (fun i _ e => .inl e))
 refine ⟨_, _, rfl, h.rnil { x with t := ackT x.t (ackX x.t.i.x f.ac now V'), I := x.I + 1 } (h4.mono (Nat.le_succ _)) (Mv.pre k13 m) rfl rfl hr off fun W2 c2 hr2 => rl_daemon c2 h.sc.ag ht hr2 hl hc hcm he hf fun w' A' c' k c3 hrA hoA => ?_⟩
 refine rldm_yes4 c3 f A' c' now hse hty hs2 hbo ?_
 intro w4 k5
 have k35 := k.trans k5
 refine Calls.mono (rlnews_ack (c3.kp0 k5) hs2 (h.d.dm.tk.wf hs2 (by omega)) f A' c' now hb hty) ?_
 rintro e1 W3 ⟨rfl, e', hke, hc', hn, k6⟩
 exact ⟨_, _, rfl, rfl, rfl, e', hc' V', fun j hj => (hn _ hs2 j hj).imp_right (fun q => Nat.le_trans k35.size q), (k35.mono (fun _ _ h => h.elim)).trans k6, h.sc.of _ hke.ag hke.at_ (hke.hello.trans h.sc.hello) (hke.rs.trans h.sc.rs) (h.sc.iv.mono (Nat.le_succ _)).ack rfl h.sc.st h.sc.rb h.sc.wl⟩
theorem rd_take (h : JD w W x r e) (hI : x.I ≤ 1000) (now : Int) (ht : timeB now = true) {a : Option Addr} {l : List Int} {c1 : Nat} (hr1 : RdB W a l) (hc1 : l.length ≤ c1) (hcm1 : c1 ≤ maxLen) {A : Option Addr} {c : Nat} (hr : RdB W A l) (hc : l.length ≤ c) (hcm : c ≤ maxLen) (off : l ≠ [] → ∀ y, A = some y → ¬ FD x r e y.block) (hl : l.length ≤ 100000000) (he : errR l = 0) (f : Fr) (hf : frR l = f) (hty : f.ty = 3) (hs2 : x.t.st = 2) (hse : f.se = (x.t.se : Int)) (hbo : f.bo = (x.t.bo : Int)) (hb : ackB x.t.i.x f.ac now = true) (hF : errF f = 0) : Tells Tryz.prog 38 #[dpt x, .slice a l.length c1, .int .i64 now] W (RPost w W false x.lb r x.I (FD x r e) A l c now) := by
 obtain ⟨_, hrg, hbd, _⟩ := errF_ok hF
 have hsq := hrg.2.2.1
 refine lreceive_dgood h.d.lk h.d.dm.tk now ht a _ c1 l rfl hr1 hl hc1 hcm1 he f hf RPost.stays ?_
 intro w1 A1 c1' k1 hrA1 hfA1
 refine dtakes_yes3 (h.d.kp0 k1).dm f A1 c1' now hty hs2 hse hbo RPost.stays ?_
 intro w3 k3
 have k13 := k1.trans k3
 have h2 := h.d.kp0 k13
 refine Calls.mono (news_take h2.dm.tk hs2 (by omega) f A1 c1' now hb hty (by omega) (hrA1.kp k3 (fun _ _ h => h)) (by omega) (fun y ha hm => ?_)) ?_
 · have q1 := hfA1 y.block (by rw [ha]; rfl)
   have q2 := h.d.dm.tk.lt hm
   omega
 · rintro e1 w' ⟨V', n', hd', F', v, vs, rfl, h4, hV, h5, h6, h7, h8, h9, h10, h11, k4⟩
   have hdm : DmC w' x.o (takeT x.t (ackX x.t.i.x f.ac now V') (nf x.t.i.f x.t.i.n x.t.sz f.sq f.bd) n' hd' F') x.wel x.rv x.rs x.I := ⟨h4, h2.dm.own.kp k4 (fun g hg e => h2.dm.ap g hg e), fun g hg e => (me_take (W := w3) hV h11 e).elim (h2.dm.ap g hg) (fun e => by have := h2.dm.own.lt g hg; omega), h2.dm.len⟩
   obtain ⟨h12, m⟩ := h2.step (Nat.le_trans h.kp.size k13.size) hdm (fun k hk => medX (o := x.o) (fun k hk => me_take hV h11 hk) hk) (k4.mono (fun i _ e => .inl e))
   have hsz := k13.size
   refine ⟨v, 0, rfl, h.rtold hs2 f f.ac now V' n' hd' F' v vs (h12.mono (Nat.le_succ _)) (Mv.pre k13 m) hV h5 h6 h7 h8 ⟨h9.own, fun i g hi hg => ⟨(h9.blk i g hi hg).1.imp_right (fun e => by omega), (h9.blk i g hi hg).2⟩, h9.dist⟩ (fun k hk => ⟨by have := (h10 k hk).1; omega, (h10 k hk).2⟩) hr off fun W2 c2 hr2 => rl_daemon c2 h.sc.ag ht hr2 hl hc hcm he hf fun w' A' c' k c3 hrA hoA => ?_⟩
   refine rldm_yes3 c3 f A' c' now hse hty hs2 hbo ?_
   intro w4 k5
   have k35 := k.trans k5
   refine Calls.mono (rlnews_take (c3.kp0 k5) hs2 (h.d.dm.tk.wf hs2 (by omega)) f A' c' now hb hty (by omega) (hrA.kp k5 (fun _ _ h => h)) (by omega) hoA) ?_
   rintro e1 W3 ⟨n2, vo, us, e', rfl, hke, hc', q1, q2, q3, q4, q5, q6, q7, k6⟩
   exact ⟨_, _, rfl, rfl, n2, us, e', hke, hc', q1, q4, q5, q6, fun t' ht' j hj => (q7 t' ht' j hj).imp_right (fun q => Nat.le_trans k35.size q), (k35.mono (fun _ _ h => h.elim)).trans k6⟩
theorem rd_any (h : JD w W x r e) (hI : x.I ≤ 1000) (now : Int) {a : Option Addr} {l : List Int} {c1 : Nat} (hr1 : RdB W a l) (hc1 : l.length ≤ c1) (hcm1 : c1 ≤ maxLen) {A : Option Addr} {c : Nat} (hr : RdB W A l) (hc : l.length ≤ c) (hcm : c ≤ maxLen) (off : l ≠ [] → ∀ y, A = some y → ¬ FD x r e y.block) (hl : l.length ≤ 100000000) : Tells Tryz.prog 38 #[dpt x, .slice a l.length c1, .int .i64 now] W (RPost w W false x.lb r x.I (FD x r e) A l c now) := by
 by_cases ht : timeB now = true
 · by_cases he : errR l = 0
   · obtain ⟨hF, _, _⟩ := lay_errR hr.bd he
     obtain ⟨f, hf⟩ : ∃ f, frR l = f := ⟨_, rfl⟩
     rw [hf] at hF
     obtain ⟨hty, hrg, _, hsay⟩ := errF_ok hF
     have hty : 1 ≤ f.ty ∧ f.ty ≤ 5 := hty
     have hs1 : 1 ≤ f.se := by
      unfold says at hsay
      rw [decide_eq_true_eq] at hsay
      exact hsay.1
     obtain ⟨s, hs⟩ := Int.eq_ofNat_of_zero_le (show 0 ≤ f.se by omega)
     have hs1 : 1 ≤ s := by omega
     have hsb : s ≤ 2147483647 := by have := hrg.1; omega
     rcases (show f.ty = 1 ∨ f.ty = 2 ∨ f.ty = 3 ∨ f.ty = 4 ∨ f.ty = 5 by omega) with t1 | t2 | t3 | t4 | t5
     · rcases Nat.lt_trichotomy s x.t.se with q | q | q
       · exact rd_elder h hI now ht hr1 hc1 hcm1 hr hc hcm off hl he f hf s hs hs1 hsb t1 q
       · exact rd_same h hI now ht hr1 hc1 hcm1 hr hc hcm off hl he f hf s hs hs1 hsb t1 q
       · exact rd_newer h hI now ht hr1 hc1 hcm1 hr hc hcm off hl he f hf s hs hs1 hsb t1 q
     · exact rd_other2 h hI now ht hr1 hc1 hcm1 hr hc hcm off hl he f hf t2
     · by_cases hno : x.t.st = 2 ∧ f.se = (x.t.se : Int) ∧ f.bo = (x.t.bo : Int)
       · cases hb : ackB x.t.i.x f.ac now
         · exact rd_bad3 h hI now ht hr1 hc1 hcm1 hr hc hcm off hl he f hf t3 hno.1 hno.2.1 hno.2.2 hb
         · exact rd_take h hI now ht hr1 hc1 hcm1 hr hc hcm off hl he f hf t3 hno.1 hno.2.1 hno.2.2 hb hF
       · exact rd_no3 h hI now ht hr1 hc1 hcm1 hr hc hcm off hl he f hf s hs hs1 hsb t3 hno
     · by_cases hno : x.t.st = 2 ∧ f.se = (x.t.se : Int) ∧ f.bo = (x.t.bo : Int)
       · cases hb : ackB x.t.i.x f.ac now
         · exact rd_bad4 h hI now ht hr1 hc1 hcm1 hr hc hcm off hl he f hf t4 hno.1 hno.2.1 hno.2.2 hb
         · exact rd_ack h hI now ht hr1 hc1 hcm1 hr hc hcm off hl he f hf t4 hno.1 hno.2.1 hno.2.2 hb
       · exact rd_no4 h hI now ht hr1 hc1 hcm1 hr hc hcm off hl he f hf s hs hs1 hsb t4 hno
     · exact rd_other5 h hI now ht hr1 hc1 hcm1 hr hc hcm off hl he f hf t5
   · refine Calls.mono (lreceive_dbad h.d.lk h.d.dm.tk now ht a _ c1 l rfl hr1 hl hc1 hcm1 he) ?_
     rintro e1 w' ⟨rfl, k1⟩
     exact ⟨_, _, rfl, h.rsame k1 hr off fun W2 c2 hr2 => tells_same c2 (Kp.refl _ _) (rlrec_bad c2 (fun q => absurd (h.sc.ag.symm.trans q) (by decide)) A _ c now ht l rfl hr2 hl hc hcm he)⟩
 · have ht : timeB now = false := by simpa using ht
   refine Calls.mono (lreceive_dlate h.d.lk now ht a _ c1) ?_
   rintro e1 w' ⟨rfl, rfl⟩
   exact ⟨_, _, rfl, h.rsame (Kp.refl _ _) hr off fun W2 c2 hr2 => tells_samew c2 (rlrec_late r A _ c now W2 ht)⟩
end
def SPost (w W : World) (ag : Bool) (p r I : Nat) (F : Nat → Prop) (A : Option Addr) (l : List Int) (c : Nat) (k : Int) (W1 : World) : Prop :=
 Kp F W W1 ∧ ∀ W2, Kp (fun _ => False) W1 W2 → Calls Tryz.prog 16 #[.pointer (some ⟨r, 0, none⟩), .slice A l.length c] W2 fun e1 W3 => e1 = .returned (.int .i64 k) ∧ ∃ F', J w W3 ag p r (I + 1) F' ∧ Mv F F' W W3
section
variable {w W W1 : World} {r : Nat} {e : Dl}
theorem JA.sfin {x : Ae} (h : JA w W x r e) (x' : Ae) (a' : AgS W1 w.heap.size x') (m : Mv x.F x'.F W W1) (hlb : x'.lb = x.lb) (hI : x'.I = x.I + 1) {A : Option Addr} {l : List Int} {c : Nat} {k : Int} (hr : RdB W A l) (off : l ≠ [] → ∀ y, A = some y → ¬ FA x r e y.block)
 (C : ∀ W2, RlC W2 r x.t e → RdB W2 A l → Calls Tryz.prog 16 #[.pointer (some ⟨r, 0, none⟩), .slice A l.length c] W2 fun e1 W3 => e1 = .returned (.int .i64 k) ∧ ∃ e', RlC W3 r x'.t e' ∧ (∀ j, RlF r x'.t e' j → RlF r x.t e j ∨ W2.heap.size ≤ j) ∧ Kp (RlF r x.t e) W2 W3 ∧ ScA x' e') :
 SPost w W true x.lb r x.I (FA x r e) A l c k W1 := by
 refine ⟨m.kp.mono (fun _ _ e => .inl e), fun W2 k2 => ?_⟩
 refine (C W2 ((h.mid m).1.kp0 k2) ((hr.kpn m.kp (fun q y hy e => off q y hy (.inl e))).kp k2 (fun _ _ h => h))).mono ?_
 rintro e1 W3 ⟨rfl, e', c', n3, k3, sc⟩
 obtain ⟨hj, hm⟩ := h.fin a' m k2 c' n3 k3 sc
 exact ⟨rfl, FA x' r e', .inl ⟨rfl, x', e', hlb, hI, hj, rfl⟩, hm⟩
theorem JD.sfin {x : De} (h : JD w W x r e) (x' : De) (a' : DmS W1 w.heap.size x') (m : Mv x.F x'.F W W1) (hlb : x'.lb = x.lb) (hI : x'.I = x.I + 1) {A : Option Addr} {l : List Int} {c : Nat} {k : Int} (hr : RdB W A l) (off : l ≠ [] → ∀ y, A = some y → ¬ FD x r e y.block)
 (C : ∀ W2, RlC W2 r x.t e → RdB W2 A l → Calls Tryz.prog 16 #[.pointer (some ⟨r, 0, none⟩), .slice A l.length c] W2 fun e1 W3 => e1 = .returned (.int .i64 k) ∧ ∃ e', RlC W3 r x'.t e' ∧ (∀ j, RlF r x'.t e' j → RlF r x.t e j ∨ W2.heap.size ≤ j) ∧ Kp (RlF r x.t e) W2 W3 ∧ ScD x' e') :
 SPost w W false x.lb r x.I (FD x r e) A l c k W1 := by
 refine ⟨m.kp.mono (fun _ _ e => .inl e), fun W2 k2 => ?_⟩
 refine (C W2 ((h.mid m).1.kp0 k2) ((hr.kpn m.kp (fun q y hy e => off q y hy (.inl e))).kp k2 (fun _ _ h => h))).mono ?_
 rintro e1 W3 ⟨rfl, e', c', n3, k3, sc⟩
 obtain ⟨hj, hm⟩ := h.fin a' m k2 c' n3 k3 sc
 exact ⟨rfl, FD x' r e', .inr ⟨rfl, x', e', hlb, hI, hj, rfl⟩, hm⟩
theorem JA.ssame {x : Ae} (h : JA w W x r e) (k1 : Kp (fun _ => False) W W1) {A : Option Addr} {l : List Int} {c : Nat} {k : Int} (hr : RdB W A l) (off : l ≠ [] → ∀ y, A = some y → ¬ FA x r e y.block)
 (C : ∀ W2, RlC W2 r x.t e → Calls Tryz.prog 16 #[.pointer (some ⟨r, 0, none⟩), .slice A l.length c] W2 fun e1 W3 => e1 = .returned (.int .i64 k) ∧ Kp (fun _ => False) W2 W3) :
 SPost w W true x.lb r x.I (FA x r e) A l c k W1 :=
 h.sfin { x with I := x.I + 1 } ((h.a.kp0 k1).mono (Nat.le_succ _)) (Mv.refl _ k1) rfl rfl hr off fun W2 c2 _ => (C W2 c2).mono fun e1 W3 ⟨e2, k3⟩ => ⟨e2, e, c2.kp0 k3, fun j hj => .inl hj, k3.mono (fun _ _ h => h.elim), h.sc.same (Nat.le_succ _) (Ke.refl e)⟩
theorem JD.ssame {x : De} (h : JD w W x r e) (k1 : Kp (fun _ => False) W W1) {A : Option Addr} {l : List Int} {c : Nat} {k : Int} (hr : RdB W A l) (off : l ≠ [] → ∀ y, A = some y → ¬ FD x r e y.block)
 (C : ∀ W2, RlC W2 r x.t e → Calls Tryz.prog 16 #[.pointer (some ⟨r, 0, none⟩), .slice A l.length c] W2 fun e1 W3 => e1 = .returned (.int .i64 k) ∧ Kp (fun _ => False) W2 W3) :
 SPost w W false x.lb r x.I (FD x r e) A l c k W1 :=
 h.sfin { x with I := x.I + 1 } ((h.d.kp0 k1).mono (Nat.le_succ _)) (Mv.refl _ k1) rfl rfl hr off fun W2 c2 _ => (C W2 c2).mono fun e1 W3 ⟨e2, k3⟩ => ⟨e2, e, c2.kp0 k3, fun j hj => .inl hj, k3.mono (fun _ _ h => h.elim), h.sc.same (Nat.le_succ _) (Ke.refl e)⟩
theorem keepw {P : Program} {f : FuncId} {args : Array Value} {W : World} {v : Value} (h : Calls P f args W fun e w' => e = .returned v ∧ W = w') : Calls P f args W fun e w' => e = .returned v ∧ Kp (fun _ => False) W w' :=
 h.mono fun e w' ⟨h1, h2⟩ => by subst h2; exact ⟨h1, Kp.refl _ _⟩
theorem sa_any {x : Ae} (h : JA w W x r e) (hI : x.I ≤ 1000) {a : Option Addr} {l : List Int} (c1 : Nat) (hr1 : RdB W a l) {A : Option Addr} (c : Nat) (hr : RdB W A l) (off : l ≠ [] → ∀ y, A = some y → ¬ FA x r e y.block) (hl : l.length ≤ 1000000) :
 Calls Tryz.prog 15 #[apt x, .slice a l.length c1] W fun e1 W1 => ∃ k, e1 = .returned (.int .i64 k) ∧ SPost w W true x.lb r x.I (FA x r e) A l c k W1 := by
 have hB := h.kp.size
 by_cases hst : x.t.st = 2
 · have hu := h.a.tk.up hst
   have hwf := h.a.tk.wf hst (by omega)
   have hz := h.a.tk.sz
   by_cases hn : 1400 < l.length
   · refine (lsend_along h.a.lk h.a.tk hst a _ c1 hn (by omega)).mono ?_
     rintro e1 w' ⟨rfl, rfl⟩
     exact ⟨_, rfl, h.ssame (Kp.refl _ _) hr off fun W2 c2 => keepw (rlsend_long c2 hst A _ c (by omega))⟩
   · by_cases hf : x.t.i.x.l.length < x.t.i.x.size
     · refine (lsend_aok h.a.lk h.a.tk hst (by omega) a _ c1 l rfl hr1 (by omega) hf).mono ?_
       rintro e1 w' ⟨rfl, p, V', p1, p2, p3, h3, hm, k1⟩
       obtain ⟨h4, m⟩ := h.a.step hB h3 hm k1
       refine ⟨_, rfl, h.sfin { x with t := sendT x.t p V', I := x.I + 1 } h4 m rfl rfl hr off fun W2 c2 hr2 => ?_⟩
       refine (rlsend_ok c2 hst A _ c l rfl hr2 (fun q0 y hy q => off q0 y hy (.inr q)) (by omega) hf (by have := hu.wsz; omega) hwf.last).mono ?_
       rintro e1 W3 ⟨rfl, v', d, q1, q2, q3⟩
       exact ⟨rfl, _, q1 p V' p1 p2 p3, q2, q3, h.sc.of _ ⟨rfl, rfl, rfl, rfl, rfl, rfl⟩ rfl rfl ((h.sc.iv.mono (Nat.le_succ _)).sent (by rw [p2]; omega)) rfl h.sc.bo0⟩
     · refine (lsend_afull h.a.lk h.a.tk hst a _ c1 (by omega) (by omega)).mono ?_
       rintro e1 w' ⟨rfl, kk, rfl⟩
       exact ⟨_, rfl, h.ssame ((Kp.refl _ _).drewN kk) hr off fun W2 c2 => rlsend_full c2 hst A _ c (by omega) (by omega) hwf.len⟩
 · refine (lsend_ashut h.a.lk h.a.tk hst a _ c1).mono ?_
   rintro e1 w' ⟨rfl, rfl⟩
   exact ⟨_, rfl, h.ssame (Kp.refl _ _) hr off fun W2 c2 => keepw (rlsend_shut c2 hst A _ c)⟩
theorem sd_any {x : De} (h : JD w W x r e) (hI : x.I ≤ 1000) {a : Option Addr} {l : List Int} (c1 : Nat) (hr1 : RdB W a l) {A : Option Addr} (c : Nat) (hr : RdB W A l) (off : l ≠ [] → ∀ y, A = some y → ¬ FD x r e y.block) (hl : l.length ≤ 1000000) :
 Calls Tryz.prog 15 #[dpt x, .slice a l.length c1] W fun e1 W1 => ∃ k, e1 = .returned (.int .i64 k) ∧ SPost w W false x.lb r x.I (FD x r e) A l c k W1 := by
 have hB := h.kp.size
 by_cases hst : x.t.st = 2
 · have hu := h.d.dm.tk.up hst
   have hwf := h.d.dm.tk.wf hst (by omega)
   have hz := h.d.dm.tk.sz
   by_cases hn : 1400 < l.length
   · refine (lsend_dlong h.d.lk h.d.dm.tk hst a _ c1 hn (by omega)).mono ?_
     rintro e1 w' ⟨rfl, rfl⟩
     exact ⟨_, rfl, h.ssame (Kp.refl _ _) hr off fun W2 c2 => keepw (rlsend_long c2 hst A _ c (by omega))⟩
   · by_cases hf : x.t.i.x.l.length < x.t.i.x.size
     · refine (lsend_dok h.d.lk h.d.dm.tk hst (by omega) a _ c1 l rfl hr1 (by omega) hf).mono ?_
       rintro e1 w' ⟨rfl, p, V', p1, p2, p3, h3, hm, k1⟩
       have hdm : DmC w' x.o (sendT x.t p V') x.wel x.rv x.rs (x.I + 1) := ⟨h3, h.d.dm.own.kp k1 (fun g hg q => h.d.dm.ap g hg q), fun g hg q => (hm g q).elim (h.d.dm.ap g hg) (fun q => by have := h.d.dm.own.lt g hg; omega), h.d.dm.len⟩
       obtain ⟨h4, m⟩ := h.d.step hB hdm (fun k hk => medX (o := x.o) hm hk) (k1.mono (fun i _ q => .inl q))
       refine ⟨_, rfl, h.sfin { x with t := sendT x.t p V', I := x.I + 1 } h4 m rfl rfl hr off fun W2 c2 hr2 => ?_⟩
       refine (rlsend_ok c2 hst A _ c l rfl hr2 (fun q0 y hy q => off q0 y hy (.inr q)) (by omega) hf (by have := hu.wsz; omega) hwf.last).mono ?_
       rintro e1 W3 ⟨rfl, v', d, q1, q2, q3⟩
       exact ⟨rfl, _, q1 p V' p1 p2 p3, q2, q3, h.sc.of _ rfl rfl h.sc.hello h.sc.rs ((h.sc.iv.mono (Nat.le_succ _)).sent (by rw [p2]; omega)) rfl h.sc.st h.sc.rb h.sc.wl⟩
     · refine (lsend_dfull h.d.lk h.d.dm.tk hst a _ c1 (by omega) (by omega)).mono ?_
       rintro e1 w' ⟨rfl, kk, rfl⟩
       exact ⟨_, rfl, h.ssame ((Kp.refl _ _).drewN kk) hr off fun W2 c2 => rlsend_full c2 hst A _ c (by omega) (by omega) hwf.len⟩
 · refine (lsend_dshut h.d.lk h.d.dm.tk hst a _ c1).mono ?_
   rintro e1 w' ⟨rfl, rfl⟩
   exact ⟨_, rfl, h.ssame (Kp.refl _ _) hr off fun W2 c2 => keepw (rlsend_shut c2 hst A _ c)⟩
theorem J.gets {ag : Bool} {p I : Nat} {F : Nat → Prop} (h : J w W ag p r I F) (hI : I ≤ 1000) : ∃ st se bo op gt : Nat, ∀ n : Nat,
 (Calls Tryz.prog 24 #[.pointer (some ⟨p, 0, none⟩)] (W.drewN n) fun e w' => e = .returned (.int .i64 st) ∧ W.drewN n = w') ∧
 (Calls Tryz.prog 25 #[.pointer (some ⟨p, 0, none⟩)] (W.drewN n) fun e w' => e = .returned (.int .i64 se) ∧ W.drewN n = w') ∧
 (Calls Tryz.prog 26 #[.pointer (some ⟨p, 0, none⟩)] (W.drewN n) fun e w' => e = .returned (.int .i64 bo) ∧ W.drewN n = w') ∧
 (Calls Tryz.prog 27 #[.pointer (some ⟨p, 0, none⟩)] (W.drewN n) fun e w' => e = .returned (.int .i64 op) ∧ W.drewN n = w') ∧
 (Calls Tryz.prog 29 #[.pointer (some ⟨p, 0, none⟩)] (W.drewN n) fun e w' => e = .returned (.int .i64 gt) ∧ W.drewN n = w') ∧
 (W.drewN n).cell? ⟨r, 2, none⟩ = some (.int .i64 st) ∧ (W.drewN n).cell? ⟨r, 3, none⟩ = some (.int .i64 se) ∧ (W.drewN n).cell? ⟨r, 4, none⟩ = some (.int .i64 bo) ∧
 (Calls Tryz.prog 28 #[.pointer (some ⟨r, 0, none⟩)] (W.drewN n) fun e w' => e = .returned (.int .i64 op) ∧ W.drewN n = w') ∧
 (Calls Tryz.prog 30 #[.pointer (some ⟨r, 0, none⟩)] (W.drewN n) fun e w' => e = .returned (.int .i64 gt) ∧ W.drewN n = w') := by
 rcases h with ⟨_, x, e, rfl, rfl, h, _⟩ | ⟨_, x, e, rfl, rfl, h, _⟩
 · by_cases hst : x.t.st = 2
   · have hn : 1 ≤ x.t.i.n ∧ x.t.i.n ≤ 1000000000 := by have := ((h.c.up hst).inb.n_bd).1; have := h.sc.iv.n hst; omega
     exact ⟨x.t.st, x.t.se, x.t.bo, x.t.i.x.l.length, x.t.i.n - 1, fun n => by
      have a := h.a.drewN n
      have c := h.c.kp0 ((Kp.refl _ W).drewN n)
      exact ⟨lstate_a a.lk a.tk, lsession_a a.lk a.tk, lboot_a a.lk a.tk, lopen_aup a.lk a.tk hst, lgot_aup a.lk a.tk hst hn, c.hat.cell 2, c.hat.cell 3, c.hat.cell 4, rlopen_up c hst, rltold_up c hst⟩⟩
   · exact ⟨x.t.st, x.t.se, x.t.bo, 0, 0, fun n => by
      have a := h.a.drewN n
      have c := h.c.kp0 ((Kp.refl _ W).drewN n)
      exact ⟨lstate_a a.lk a.tk, lsession_a a.lk a.tk, lboot_a a.lk a.tk, lopen_ano a.lk a.tk hst, lgot_ano a.lk a.tk hst, c.hat.cell 2, c.hat.cell 3, c.hat.cell 4, rlopen_no c hst, rltold_no c hst⟩⟩
 · by_cases hst : x.t.st = 2
   · have hn : 1 ≤ x.t.i.n ∧ x.t.i.n ≤ 1000000000 := by have := ((h.c.up hst).inb.n_bd).1; have := h.sc.iv.n hst; omega
     exact ⟨x.t.st, x.t.se, x.t.bo, x.t.i.x.l.length, x.t.i.n - 1, fun n => by
      have a := h.d.drewN n
      have c := h.c.kp0 ((Kp.refl _ W).drewN n)
      exact ⟨lstate_d a.lk a.dm.tk, lsession_d a.lk a.dm.tk, lboot_d a.lk a.dm.tk, lopen_dup a.lk a.dm.tk hst, lgot_dup a.lk a.dm.tk hst hn, c.hat.cell 2, c.hat.cell 3, c.hat.cell 4, rlopen_up c hst, rltold_up c hst⟩⟩
   · exact ⟨x.t.st, x.t.se, x.t.bo, 0, 0, fun n => by
      have a := h.d.drewN n
      have c := h.c.kp0 ((Kp.refl _ W).drewN n)
      exact ⟨lstate_d a.lk a.dm.tk, lsession_d a.lk a.dm.tk, lboot_d a.lk a.dm.tk, lopen_dno a.lk a.dm.tk hst, lgot_dno a.lk a.dm.tk hst, c.hat.cell 2, c.hat.cell 3, c.hat.cell 4, rlopen_no c hst, rltold_no c hst⟩⟩
end
end Go.Proofs.YtokembhfebnjpaaGreat
