/- Chapter 15: a Tick at an end, beside the document's. -/
import Derived.Test.YtokembhfebnjpaaGreatQKt0M
import Derived.Test.YtokembhfebnjpaaGreatQLnOM
import Derived.Test.YtokembhfebnjpaaGreatQLkJM
import Derived.Test.YtokembhfebnjpaaGreatQRlT
namespace Go.Proofs.YtokembhfebnjpaaGreat
set_option maxRecDepth 20000
open Go.RowKit Flt
set_option linter.unusedVariables false
theorem ltick_late {lb o : Nat} {T : TypeId} {w : World} (h : LkC w lb T o) (now : Int) (ht : timeB now = false) :
 Calls Tryz.prog 21 #[.pointer (some ⟨lb, 0, none⟩), .int .i64 now] w fun e w' => e = .returned (.slice none 0 0) ∧ w = w' := by
 have c0 : w.cell? ⟨lb, 0, none⟩ = some (.iface T (.pointer (some ⟨o, 0, none⟩))) := h.cell 0
 have CN := Lib.hid (lnone_at lb _ o w c0)
 have CT := ltime_any now w
 rw [ht] at CT
 have CT := Lib.hid CT
 clear h ht
 go_enter Tryz.func21, Tryz.ntmps21
 go_wp2_with (first | (go_at_call 33; refine CN.out.mono ?_; rintro e w' ⟨rfl, rfl⟩) | (go_at_call 42; refine CT.out.mono ?_; rintro e w' ⟨rfl, rfl⟩))
 go_ret
 exact ⟨rfl, rfl⟩
def TPost (w W : World) (ag : Bool) (p r I : Nat) (F : Nat → Prop) (now : Int) (v : Value) (W1 : World) : Prop :=
 Kp F W W1 ∧ ∃ ls vs, LLu W1 v ls vs ∧ ls.length ≤ 1000 ∧ (∀ g, Tg v vs ls.length g → F g ∨ W.heap.size ≤ g) ∧
  ∀ W2, Kp (fun _ => False) W1 W2 → Calls Tryz.prog 23 #[.pointer (some ⟨r, 0, none⟩), .int .i64 now] W2 fun e1 W3 => ∃ a c, e1 = .returned (.slice a ls.length c) ∧ RdL W3 a ls ∧ ∃ F', J w W3 ag p r (I + 1) F' ∧ Mv F F' W W3 ∧ Tl W3 v ls vs F'
theorem lls_tg {B : Nat} {W1 : World} {v : Value} {ls : List (List Int)} {vs : List Value} (h : LLs B W1 v ls vs) {g : Nat} (hg : Tg v vs ls.length g) : B ≤ g := by
 rcases hg with hg | ⟨i, hi, hg⟩
 · exact h.ge g hg
 · exact h.geE i g hi hg
theorem JA.tfin {w W W1 : World} {x : Ae} {r : Nat} {e : Dl} (h : JA w W x r e) (x' : Ae) (a' : AgS W1 w.heap.size x') (m : Mv x.F x'.F W W1) (hx : ∀ k, x'.F k → x.F k) (hlb : x'.lb = x.lb) (hI : x'.I = x.I + 1) {now : Int} {v : Value} {ls : List (List Int)} {vs : List Value} (hl : LLs W.heap.size W1 v ls vs) (hlen : ls.length ≤ 1000)
 (C : ∀ W2, RlC W2 r x.t e → Calls Tryz.prog 23 #[.pointer (some ⟨r, 0, none⟩), .int .i64 now] W2 fun e1 W3 => ∃ v2, e1 = .returned v2 ∧ ∃ vs2 e', LLs W2.heap.size W3 v2 ls vs2 ∧ RlC W3 r x'.t e' ∧ (∀ k, RlF r x'.t e' k → RlF r x.t e k) ∧ Kp (RlF r x.t e) W2 W3 ∧ ScA x' e') :
 TPost w W true x.lb r x.I (FA x r e) now v W1 := by
 have hw := h.kp.size
 refine ⟨m.kp.mono (fun _ _ e => .inl e), ls, vs, hl.u, hlen, fun g hg => .inr (lls_tg hl hg), fun W2 k2 => ?_⟩
 refine (C W2 ((h.mid m).1.kp0 k2)).mono ?_
 rintro e1 W3 ⟨v2, rfl, vs2, e', hl2, c', n3, k3, sc⟩
 obtain ⟨hj, hm⟩ := h.fin a' m k2 c' (fun k hk => .inl (n3 k hk)) k3 sc
 obtain ⟨a, c, ev⟩ := hl2.u.form
 subst ev
 have hR : ∀ g, Tg v vs ls.length g → ¬ RlF r x.t e g := fun g hg hr => by have := lls_tg hl hg; have := h.c.lt hr; omega
 exact ⟨a, c, rfl, hl2.u.rdl, FA x' r e', .inl ⟨rfl, x', e', hlb, hI, hj, rfl⟩, hm, (hl.u.kp0 k2).kp k3 (fun g hg => hR g (.inl hg)) (fun i g hi hg => hR g (.inr ⟨i, hi, hg⟩)), fun g hg hF => hF.elim (fun q => by have := lls_tg hl hg; have := h.a.lt g (hx g q); omega) (fun q => hR g hg (n3 g q))⟩
theorem JD.tfin {w W W1 : World} {x : De} {r : Nat} {e : Dl} (h : JD w W x r e) (x' : De) (a' : DmS W1 w.heap.size x') (m : Mv x.F x'.F W W1) (hx : ∀ k, x'.F k → x.F k) (hlb : x'.lb = x.lb) (hI : x'.I = x.I + 1) {now : Int} {v : Value} {ls : List (List Int)} {vs : List Value} (hl : LLs W.heap.size W1 v ls vs) (hlen : ls.length ≤ 1000)
 (C : ∀ W2, RlC W2 r x.t e → Calls Tryz.prog 23 #[.pointer (some ⟨r, 0, none⟩), .int .i64 now] W2 fun e1 W3 => ∃ v2, e1 = .returned v2 ∧ ∃ vs2 e', LLs W2.heap.size W3 v2 ls vs2 ∧ RlC W3 r x'.t e' ∧ (∀ k, RlF r x'.t e' k → RlF r x.t e k) ∧ Kp (RlF r x.t e) W2 W3 ∧ ScD x' e') :
 TPost w W false x.lb r x.I (FD x r e) now v W1 := by
 have hw := h.kp.size
 refine ⟨m.kp.mono (fun _ _ e => .inl e), ls, vs, hl.u, hlen, fun g hg => .inr (lls_tg hl hg), fun W2 k2 => ?_⟩
 refine (C W2 ((h.mid m).1.kp0 k2)).mono ?_
 rintro e1 W3 ⟨v2, rfl, vs2, e', hl2, c', n3, k3, sc⟩
 obtain ⟨hj, hm⟩ := h.fin a' m k2 c' (fun k hk => .inl (n3 k hk)) k3 sc
 obtain ⟨a, c, ev⟩ := hl2.u.form
 subst ev
 have hR : ∀ g, Tg v vs ls.length g → ¬ RlF r x.t e g := fun g hg hr => by have := lls_tg hl hg; have := h.c.lt hr; omega
 exact ⟨a, c, rfl, hl2.u.rdl, FD x' r e', .inr ⟨rfl, x', e', hlb, hI, hj, rfl⟩, hm, (hl.u.kp0 k2).kp k3 (fun g hg => hR g (.inl hg)) (fun i g hi hg => hR g (.inr ⟨i, hi, hg⟩)), fun g hg hF => hF.elim (fun q => by have := lls_tg hl hg; have := h.d.lt g (hx g q); omega) (fun q => hR g hg (n3 g q))⟩
theorem timeB_num {now : Int} (h : timeB now = true) : ∃ n : Nat, now = (n : Int) ∧ n ≤ 2147483647 := by
 have h4 := timeB_yes h
 obtain ⟨n, rfl⟩ := Int.eq_ofNat_of_zero_le h4.1
 exact ⟨n, rfl, by omega⟩
theorem hup_of {W : World} {o I : Nat} {t : Tk} {ext : List Value} (h : TkC W o t ext I) (iv : Iv t I) (hI : I ≤ 1000) : t.st = 2 → Wf t.i.x ∧ (∀ i, i < t.i.x.l.length → (pk t.i.x.l i).times ≤ 1000000) ∧ (∀ i, i < t.i.x.l.length → (pk t.i.x.l i).body.length ≤ 1000000) := fun hst =>
 ⟨h.wf hst (by omega), fun i hi => by have := (h.up hst).times i hi; omega, fun i hi => by have := iv.bd hst i hi; omega⟩
theorem dueD_len (t : Tk) (ls : List (List Int)) (l : List Tp) : (dueD t ls l).length ≤ ls.length + l.length + 1 := by
 unfold dueD
 split
 · simp
 · rw [datD_len]; omega
theorem tel_len {x : Wn} {now : Nat} {l : List Tp} (h : TelL (atW x now) (dueI (atW x now)) l) : l.length ≤ x.l.length := by
 rw [h.1]
 unfold dueI
 exact Nat.le_trans (List.length_filter_le _ _) (by rw [List.length_range]; exact Nat.le_refl _)
section
variable {w W : World} {r : Nat} {e : Dl}
theorem ta_any {x : Ae} (h : JA w W x r e) (hI : x.I ≤ 1000) (now : Int) : Calls Tryz.prog 21 #[apt x, .int .i64 now] W fun e1 W1 => ∃ v, e1 = .returned v ∧ TPost w W true x.lb r x.I (FA x r e) now v W1 := by
 have hB := h.kp.size
 by_cases ht : timeB now = true
 · obtain ⟨n, rfl, hn⟩ := timeB_num ht
   have hup := hup_of h.a.tk h.sc.iv hI
   have htik : ∀ sy, tikD x.t e sy = synD x.t sy := fun sy => by unfold tikD rstD welD; rw [h.sc.hello, h.sc.rs]; simp
   have hke : ∀ {sy : Bool} {e' : Dl}, Ke (tikF (tikE e sy n)) e' → ∀ x' : Ae, x'.sent = (x.sent || sy) → (x'.sent = true → x'.at_ = if sy then n else x.at_) → Iv x'.t x'.I → x'.t.se = x.t.se → (x'.t.st = 1 → x'.t.bo = 0) → ScA x' e' := fun {sy} {e'} k x' h1 h2 h3 h4 h5 =>
    ⟨k.ag.trans h.sc.ag, k.hello, k.rs, k.asked.trans (by rw [h1]; show (e.asked || sy) = _; rw [h.sc.asked]), fun s => k.at_.trans (by
     rw [h2 s]
     show (if sy then n else e.at_) = _
     cases sy
     · have hs : x.sent = true := by rw [h1] at s; simpa using s
       simp [h.sc.at_ hs]
     · rfl), by rw [k.at_]; show (if sy then n else e.at_) ≤ _; have := h.sc.ea; split <;> omega, h3, by rw [h4]; exact h.sc.se, h5⟩
   by_cases hs1 : x.t.st = 1
   · have hbo := h.sc.bo0 hs1
     have hsyn : synD x.t true = layP [] (synF x.t.se) := by rw [layP_app (errF_syn h.sc.se h.a.tk.se)]; unfold synD synF; rw [hbo]; simp
     have first : ∀ (sy : Bool), sy = true → sy = decide (x.t.st = 1 ∧ (e.asked = false ∨ e.at_ + 8 ≤ n)) → ∀ W1 v vs, AgS W1 w.heap.size { x with sent := true, at_ := n } → Mv x.F (Ae.F { x with sent := true, at_ := n }) W W1 → LLs W.heap.size W1 v (layP [] (synF x.t.se)) vs → TPost w W true x.lb r x.I (FA x r e) n v W1 := fun sy hsy hd W1 v vs a' m hl => by
      refine h.tfin { x with sent := true, at_ := n, I := x.I + 1 } (a'.mono (Nat.le_succ _)) m (fun k hk => hk) rfl rfl hl (by rw [← hsyn]; have := synD_len x.t true; omega) fun W2 c2 => ?_
      refine (rltick_any c2 n hn h.sc.ea sy hd hup).mono ?_
      rintro e1 W3 ⟨v2, rfl, ls2, vs2, e', hl2, hk, hF, hkp, hc⟩
      rcases hc with ⟨_, hls, c3⟩ | ⟨q, _⟩
      · rw [htik, hsy, hsyn] at hls
        subst hls
        exact ⟨v2, rfl, vs2, e', hl2, c3, fun k hk => hF _ k hk, hkp, hke hk _ (by rw [hsy]; simp) (fun _ => by rw [hsy]; rfl) (Iv.not (by rw [show Ae.t _ = x.t from rfl, hs1]; decide) _) rfl h.sc.bo0⟩
      · rw [hs1] at q; cases q
     cases hs : x.sent
     · refine (ag_tick_first h.a hB hs1 hs n hn).mono ?_
       rintro e1 W1 ⟨v, rfl, vs, hl, a', m⟩
       exact ⟨v, rfl, first true rfl (by rw [h.sc.asked, hs]; simp [hs1]) W1 v vs a' m hl⟩
     · have hat := h.sc.at_ hs
       by_cases hw : x.at_ + 8 ≤ n
       · refine (ag_tick_again h.a hB hs1 hs n hn hw).mono ?_
         rintro e1 W1 ⟨v, rfl, vs, hl, a', m⟩
         exact ⟨v, rfl, first true rfl (by rw [h.sc.asked, hs, hat]; simp [hs1, hw]) W1 v vs a' m hl⟩
       · refine (ag_tick_wait h.a hs1 hs n hn (by omega)).mono ?_
         rintro e1 W1 ⟨v, rfl, rfl, k1⟩
         refine ⟨_, rfl, h.tfin { x with I := x.I + 1 } ((h.a.kp0 k1).mono (Nat.le_succ _)) (Mv.refl _ k1) (fun k hk => hk) rfl rfl (LLs.nil _ _) (by simp) fun W2 c2 => ?_⟩
         refine (rltick_any c2 n hn h.sc.ea false (by rw [h.sc.asked, hs, hat]; simp [hw]) hup).mono ?_
         rintro e1 W3 ⟨v2, rfl, ls2, vs2, e', hl2, hk, hF, hkp, hc⟩
         rcases hc with ⟨_, hls, c3⟩ | ⟨q, _⟩
         · rw [htik] at hls
           have hls : ls2 = [] := hls
           subst hls
           exact ⟨v2, rfl, vs2, e', hl2, c3, fun k hk => hF _ k hk, hkp, hke hk _ (by simp) (fun _ => rfl) (h.sc.iv.mono (Nat.le_succ _)) rfl h.sc.bo0⟩
         · rw [hs1] at q; cases q
   · have hsy : (false : Bool) = decide (x.t.st = 1 ∧ (e.asked = false ∨ e.at_ + 8 ≤ n)) := by simp [hs1]
     by_cases hs2 : x.t.st = 2
     · refine (ag_tick_up h.a hB hs2 (by omega) n hn).mono ?_
       rintro e1 W1 ⟨v, rfl, vs, l8, ht8, hl, a', m⟩
       rw [dueL_D h.a.tk h.sc.iv hs2 (by omega) ht8] at hl
       have hlen := tel_len ht8
       have h64 := (h.a.tk.wf hs2 (by omega)).len
       refine ⟨v, rfl, h.tfin { x with t := dueT x.t n, I := x.I + 1 } a' m (fun k hk => hk.imp_right me_due) rfl rfl hl (by have := dueD_len x.t [] l8; simp at this; omega) fun W2 c2 => ?_⟩
       refine (rltick_any c2 n hn h.sc.ea false hsy hup).mono ?_
       rintro e1 W3 ⟨v2, rfl, ls2, vs2, e', hl2, hk, hF, hkp, hc⟩
       rcases hc with ⟨q, _⟩ | ⟨_, l9, ht9, hls, c3⟩
       · exact absurd hs2 q
       · rw [htik, show synD x.t false = [] from rfl, dueD_same ht9 ht8] at hls
         subst hls
         exact ⟨v2, rfl, vs2, e', hl2, c3, fun k hk => hF _ k hk, hkp, hke hk _ (by simp) (fun _ => rfl) (h.sc.iv.mono (Nat.le_succ _)).due rfl h.sc.bo0⟩
     · refine Calls.mono (P := Tryz.prog) (ltick_a h.a.lk n ht (Q := fun v w' => v = .slice none 0 0 ∧ Kp (fun _ => False) W w') (atells_due h.a.tk hs1 n ((due_no h.a.tk hs2 n _ ⟨_, _, _, rfl⟩).mono (by rintro e1 w' ⟨rfl, rfl⟩; exact ⟨_, rfl, rfl, Kp.refl _ _⟩)))) ?_
       rintro e1 W1 ⟨v, rfl, rfl, k1⟩
       refine ⟨_, rfl, h.tfin { x with I := x.I + 1 } ((h.a.kp0 k1).mono (Nat.le_succ _)) (Mv.refl _ k1) (fun k hk => hk) rfl rfl (LLs.nil _ _) (by simp) fun W2 c2 => ?_⟩
       refine (rltick_any c2 n hn h.sc.ea false hsy hup).mono ?_
       rintro e1 W3 ⟨v2, rfl, ls2, vs2, e', hl2, hk, hF, hkp, hc⟩
       rcases hc with ⟨_, hls, c3⟩ | ⟨q, _⟩
       · rw [htik] at hls
         have hls : ls2 = [] := hls
         subst hls
         exact ⟨v2, rfl, vs2, e', hl2, c3, fun k hk => hF _ k hk, hkp, hke hk _ (by simp) (fun _ => rfl) (h.sc.iv.mono (Nat.le_succ _)) rfl h.sc.bo0⟩
       · exact absurd q hs2
 · have ht : timeB now = false := by simpa using ht
   refine (ltick_late h.a.lk now ht).mono ?_
   rintro e1 W1 ⟨rfl, rfl⟩
   refine ⟨_, rfl, h.tfin { x with I := x.I + 1 } (h.a.mono (Nat.le_succ _)) (Mv.refl _ (Kp.refl _ _)) (fun k hk => hk) rfl rfl (LLs.nil _ _) (by simp) fun W2 c2 => ?_⟩
   refine (rltick_late r now W2 ht).mono ?_
   rintro e1 W3 ⟨rfl, rfl⟩
   exact ⟨_, rfl, [], e, LLs.nil _ _, c2, fun k hk => hk, Kp.refl _ _, h.sc.same (Nat.le_succ _) (Ke.refl e)⟩
theorem td_any {x : De} (h : JD w W x r e) (hI : x.I ≤ 1000) (now : Int) : Calls Tryz.prog 21 #[dpt x, .int .i64 now] W fun e1 W1 => ∃ v, e1 = .returned v ∧ TPost w W false x.lb r x.I (FD x r e) now v W1 := by
 have hB := h.kp.size
 by_cases ht : timeB now = true
 · obtain ⟨n, rfl, hn⟩ := timeB_num ht
   have hup := hup_of h.d.dm.tk h.sc.iv hI
   have hsy : (false : Bool) = decide (x.t.st = 1 ∧ (e.asked = false ∨ e.at_ + 8 ≤ n)) := by simp [h.sc.st]
   have hrb : ∀ s ∈ x.rs, s ≤ 2147483647 := fun s hs => (h.sc.rb s hs).2
   have htik : rstL x.t.bo (welL x) x.rs = tikD x.t e false := by
    rw [rstL_D _ h.d.dm.tk.bo _ _ h.sc.rb]
    unfold tikD
    rw [h.sc.hello, h.sc.rs]
    congr 1
    unfold welL welD synD
    by_cases hw : x.wel = true
    · rw [if_pos hw, if_pos hw, layP_app (errF_wel (h.sc.wl hw) h.d.dm.tk.se h.sc.bo h.d.dm.tk.bo)]
      rfl
    · rw [if_neg hw, if_neg hw]
      rfl
   have hlen0 : (tikD x.t e false).length ≤ 9 := by
    unfold tikD
    have h1 := rstD_len x.t.bo (welD x.t e.hello (synD x.t false)) e.rs
    have h2 := welD_len x.t e.hello (synD x.t false)
    have h3 : (synD x.t false).length = 0 := rfl
    have h4 := h.c.rl
    omega
   have hke : ∀ {e' : Dl}, Ke (tikF (tikE e false n)) e' → ∀ x' : De, x'.wel = false → x'.rs = [] → Iv x'.t x'.I → x'.t.bo = x.t.bo → x'.t.st = x.t.st → ScD x' e' := fun {e'} k x' h1 h2 h3 h4 h5 =>
    ⟨k.ag.trans h.sc.ag, k.hello.trans h1.symm, k.rs.trans h2.symm, by rw [k.at_]; exact h.sc.ea, h3, by rw [h4]; exact h.sc.bo, by rw [h5]; exact h.sc.st, fun s hs => (by rw [h2] at hs; cases hs), fun q => by rw [h1] at q; cases q⟩
   by_cases hs2 : x.t.st = 2
   · refine (dm_tick h.d hB hs2 (by omega) hrb n hn).mono ?_
     rintro e1 W1 ⟨v, rfl, vs, l8, ht8, hl, a', m⟩
     rw [dueL_D h.d.dm.tk h.sc.iv hs2 (by omega) ht8, htik] at hl
     have hlen := tel_len ht8
     have h64 := (h.d.dm.tk.wf hs2 (by omega)).len
     refine ⟨v, rfl, h.tfin { x with t := dueT x.t n, wel := false, rv := .slice none 0 0, rs := [], I := x.I + 1 } a' m (fun k hk => hk.imp_right (fun q => q.elim (fun q => .inl (me_due q)) (fun q => by cases q))) rfl rfl hl (by have := dueD_len x.t (tikD x.t e false) l8; omega) fun W2 c2 => ?_⟩
     refine (rltick_any c2 n hn h.sc.ea false hsy hup).mono ?_
     rintro e1 W3 ⟨v2, rfl, ls2, vs2, e', hl2, hk, hF, hkp, hc⟩
     rcases hc with ⟨q, _⟩ | ⟨_, l9, ht9, hls, c3⟩
     · exact absurd hs2 q
     · rw [dueD_same ht9 ht8] at hls
       subst hls
       exact ⟨v2, rfl, vs2, e', hl2, c3, fun k hk => hF _ k hk, hkp, hke hk _ rfl rfl (h.sc.iv.mono (Nat.le_succ _)).due rfl rfl⟩
   · refine Calls.mono (P := Tryz.prog) (ltick_d h.d.lk n ht (Q := fun v w' => ∃ vs, LLs W.heap.size w' v (rstL x.t.bo (welL x) x.rs) vs ∧ DmC w' x.o x.t false (.slice none 0 0) [] x.I ∧ Kp (fun k => k = x.o) W w') (dtells_any x.wel h.d.dm hrb n (welL x) rfl (fun w1 v vs hl hd k1 => by
      obtain ⟨a, c, ev⟩ := hl.u.form
      refine (due_no hd.tk hs2 n v ⟨a, _, c, ev⟩).mono ?_
      rintro e1 w' ⟨rfl, rfl⟩
      exact ⟨v, rfl, vs, hl, hd, k1⟩))) ?_
     rintro e1 W1 ⟨v, rfl, vs, hl, hd, k1⟩
     rw [htik] at hl
     obtain ⟨a', m⟩ := h.d.step hB hd (fun k hk => hk.elim (fun q => .inl (.inl q)) (fun q => by cases q)) (k1.mono (fun i _ q => .inl (.inl q)))
     refine ⟨v, rfl, h.tfin { x with wel := false, rv := .slice none 0 0, rs := [], I := x.I + 1 } (a'.mono (Nat.le_succ _)) m (fun k hk => hk.imp_right (fun q => q.elim .inl (fun q => by cases q))) rfl rfl hl (by omega) fun W2 c2 => ?_⟩
     refine (rltick_any c2 n hn h.sc.ea false hsy hup).mono ?_
     rintro e1 W3 ⟨v2, rfl, ls2, vs2, e', hl2, hk, hF, hkp, hc⟩
     rcases hc with ⟨_, hls, c3⟩ | ⟨q, _⟩
     · subst hls
       exact ⟨v2, rfl, vs2, e', hl2, c3, fun k hk => hF _ k hk, hkp, hke hk _ rfl rfl (Iv.not hs2 _) rfl rfl⟩
     · exact absurd q hs2
 · have ht : timeB now = false := by simpa using ht
   refine (ltick_late h.d.lk now ht).mono ?_
   rintro e1 W1 ⟨rfl, rfl⟩
   refine ⟨_, rfl, h.tfin { x with I := x.I + 1 } (h.d.mono (Nat.le_succ _)) (Mv.refl _ (Kp.refl _ _)) (fun k hk => hk) rfl rfl (LLs.nil _ _) (by simp) fun W2 c2 => ?_⟩
   refine (rltick_late r now W2 ht).mono ?_
   rintro e1 W3 ⟨rfl, rfl⟩
   exact ⟨_, rfl, [], e, LLs.nil _ _, c2, fun k hk => hk, Kp.refl _ _, h.sc.same (Nat.le_succ _) (Ke.refl e)⟩
end
set_option linter.unusedSimpArgs false
theorem lent_m (a : Option Addr) (m cap : Nat) (l : List Int) (hm : m = l.length) (w : World) (h : RdB w a l) (hl : m ≤ 8000) :
 Calls Tryz.prog 14 #[.slice a m cap] w fun e w' => e = .returned (.slice (some ⟨w.heap.size, 0, none⟩) m (m + 3)) ∧ At w' w.heap.size ((l ++ marks m).map (Value.int .u8)) ∧ Kp (fun _ => False) w w' := by
 subst hm; exact lent_any a cap l w h (by omega)
theorem kept_m (g : Nat) (a : Option Addr) (m cap : Nat) (l : List Int) (hm : m = l.length) (w : World) (hg : At w g ((l ++ marks m).map (Value.int .u8))) (h : RdB w a l) (hl : m ≤ 8000) :
 Calls Tryz.prog 17 #[.slice (some ⟨g, 0, none⟩) m (m + 3), .slice a m cap] w fun e w' => e = .returned (.bool true) ∧ Kp (fun _ => False) w w' := by
 subst hm; exact kept_any g a cap l w hg h (by omega)
theorem over_m (g m : Nat) (l : List Int) (hm : m = l.length) (w : World) (hg : At w g ((l ++ marks m).map (Value.int .u8))) (hb : Byt l) (hl : m ≤ 8000) :
 Calls Tryz.prog 18 #[.slice (some ⟨g, 0, none⟩) m (m + 3)] w fun e w' => e = .returned (.tuple #[]) ∧ Kp (· = g) w w' := by
 subst hm
 refine (over_at g 0 l.length (l.length + 3) _ w hg (isB_map (hb.append (byt_marks _))) (by simp [marks]) (by omega) (by omega)).mono ?_
 rintro e w' ⟨h1, _, h2⟩
 exact ⟨h1, h2⟩
theorem LLu.apart {w : World} {v : Value} {ls : List (List Int)} {vs : List Value} (h : LLu w v ls vs) {g i : Nat} (hv : v.ownBlock = some g) (hi : i < ls.length) : (vs.getD i undef).ownBlock ≠ some g := fun e => by
 have hu := h.each i hi
 obtain ⟨ds, hds, hq⟩ := hu.blk g e
 rcases h.own.2 with ⟨_, h0⟩ | ⟨g', cap, sp, rfl, hat, _⟩
 · omega
 · simp only [Value.ownBlock, Option.some.injEq] at hv
   subst hv
   have e2 := hat.inj hds
   have hl := h.len
   obtain ⟨a, c, e3, _⟩ := hu.form
   have hiv : i < vs.length := by omega
   obtain ⟨n', e4, _⟩ := hq (vs[i]'hiv) (by rw [← e2]; simp)
   rw [List.getD_eq_getElem?_getD, List.getElem?_eq_getElem hiv] at e3
   have e3 : vs[i]'hiv = .slice a (ls.getD i []).length c := e3
   rw [e3] at e4; cases e4
def Ov (vs : List Value) (i k : Nat) : Prop := ∃ j, j < i ∧ (vs.getD j undef).ownBlock = some k
theorem LLu.row {w wr : World} {a : Option Addr} {n c : Nat} {ls : List (List Int)} {vs : List Value} (h : LLu w (.slice a n c) ls vs) {i : Nat} (hi : i < ls.length) (k : Kp (Ov vs i) w wr) :
 ∃ g ai ni ci, a = some ⟨g, 0, none⟩ ∧ wr.cell? ⟨g, i, none⟩ = some (.slice ai ni ci) ∧ vs.getD i undef = .slice ai ni ci ∧ OwnB wr (vs.getD i undef) (ls.getD i []) := by
 have hl := h.len
 have ho := h.each i hi
 obtain ⟨ai, ci, e3, _⟩ := ho.form
 have hb : OwnB wr (vs.getD i undef) (ls.getD i []) := ho.kp k (fun g hg ⟨j, hj, e⟩ => h.dis j i g hj hi e hg)
 rcases h.own.2 with ⟨_, h0⟩ | ⟨g, cap, sp, ev, hat, _⟩
 · omega
 · simp only [Value.slice.injEq] at ev
   obtain ⟨rfl, _, _⟩ := ev
   refine ⟨g, ai, _, ci, rfl, ?_, e3, hb⟩
   rw [← e3]
   refine k.cell (p := ⟨g, i, none⟩) ?_ (fun ⟨j, hj, e⟩ => h.apart (g := g) (i := j) rfl (by omega) e)
   rw [hat.cell, List.getElem?_append_left (by omega), List.getD_eq_getElem?_getD, List.getElem?_eq_getElem (by omega)]
   rfl
section
variable {w W : World} {ag : Bool} {p r I : Nat} {F : Nat → Prop}
theorem recv_J (h : J w W ag p r I F) (hI : I ≤ 1000) (now : Int) {a : Option Addr} {l : List Int} {c1 : Nat} (hr1 : RdB W a l) (hc1 : l.length ≤ c1) (hcm1 : c1 ≤ maxLen) {A : Option Addr} {c : Nat} (hr : RdB W A l) (hc : l.length ≤ c) (hcm : c ≤ maxLen) (off : l ≠ [] → ∀ y, A = some y → ¬ F y.block) (hl : l.length ≤ 100000000) :
 Tells Tryz.prog 38 #[.pointer (some ⟨p, 0, none⟩), .slice a l.length c1, .int .i64 now] W (RPost w W ag p r I F A l c now) := by
 rcases h with ⟨rfl, x, e, rfl, rfl, h, rfl⟩ | ⟨rfl, x, e, rfl, rfl, h, rfl⟩
 · exact ra_any h hI now hr1 hc1 hcm1 hr hc hcm off hl
 · exact rd_any h hI now hr1 hc1 hcm1 hr hc hcm off hl
theorem tick_J (h : J w W ag p r I F) (hI : I ≤ 1000) (now : Int) : Calls Tryz.prog 21 #[.pointer (some ⟨p, 0, none⟩), .int .i64 now] W fun e1 W1 => ∃ v, e1 = .returned v ∧ TPost w W ag p r I F now v W1 := by
 rcases h with ⟨rfl, x, e, rfl, rfl, h, rfl⟩ | ⟨rfl, x, e, rfl, rfl, h, rfl⟩
 · exact ta_any h hI now
 · exact td_any h hI now
theorem send_J (h : J w W ag p r I F) (hI : I ≤ 1000) {a : Option Addr} {l : List Int} (c1 : Nat) (hr1 : RdB W a l) {A : Option Addr} (c : Nat) (hr : RdB W A l) (off : l ≠ [] → ∀ y, A = some y → ¬ F y.block) (hl : l.length ≤ 1000000) :
 Calls Tryz.prog 15 #[.pointer (some ⟨p, 0, none⟩), .slice a l.length c1] W fun e1 W1 => ∃ k, e1 = .returned (.int .i64 k) ∧ SPost w W ag p r I F A l c k W1 := by
 rcases h with ⟨rfl, x, e, rfl, rfl, h, rfl⟩ | ⟨rfl, x, e, rfl, rfl, h, rfl⟩
 · exact sa_any h hI c1 hr1 c hr off hl
 · exact sd_any h hI c1 hr1 c hr off hl
theorem lksame_any (h : J w W ag p r I F) (hI : I ≤ 1000) :
 Calls Tryz.prog 10 #[.pointer (some ⟨p, 0, none⟩), .pointer (some ⟨r, 0, none⟩)] W fun e w' => e = .returned (.bool true) ∧ Kp (fun _ => False) W w' := by
 obtain ⟨st, se, bo, op, gt, G⟩ := h.gets hI
 have c2 : W.cell? ⟨r, 2, none⟩ = some (.int .i64 (st : Nat)) := (G 0).2.2.2.2.2.1
 have c3 : W.cell? ⟨r, 3, none⟩ = some (.int .i64 (se : Nat)) := (G 0).2.2.2.2.2.2.1
 have c4 : W.cell? ⟨r, 4, none⟩ = some (.int .i64 (bo : Nat)) := (G 0).2.2.2.2.2.2.2.1
 have C1 := fun n => Calls.quiet_of_same (n := n) (Calls.turn (G n).1)
 have C2 := fun n => Calls.quiet_of_same (n := n) (Calls.turn (G n).2.1)
 have C3 := fun n => Calls.quiet_of_same (n := n) (Calls.turn (G n).2.2.1)
 have C4 := fun n => Calls.quiet_of_same (n := n) (Calls.turn (G n).2.2.2.1)
 have C5 := fun n => Calls.quiet_of_same (n := n) (Calls.turn (G n).2.2.2.2.1)
 have C6 := fun n => Calls.quiet_of_same (n := n) (Calls.turn (G n).2.2.2.2.2.2.2.2.1)
 have C7 := fun n => Calls.quiet_of_same (n := n) (Calls.turn (G n).2.2.2.2.2.2.2.2.2)
 clear h G
 go_enter Tryz.func10, Tryz.ntmps10
 go_wp2_with fail
 go_quiet (first | (with_reducible exact C1 _) | (with_reducible exact C2 _) | (with_reducible exact C3 _) | (with_reducible exact C4 _) | (with_reducible exact C5 _) | (with_reducible exact C6 _) | (with_reducible exact C7 _))
 go_wp2_with fail
 go_ret
 exact ⟨rfl, (Kp.refl _ W).drewN _⟩
end
def Left (w W : World) (ag : Bool) (p r I : Nat) (F : Nat → Prop) (W' : World) : Prop := ∃ F', J w W' ag p r (I + 1) F' ∧ Mv F F' W W'
section
variable {w W : World} {ag : Bool} {p r I : Nat} {F : Nat → Prop}
theorem left_over {W0 W1 W2 W3 W4 : World} {vs : List Value} {n g1 : Nat} {F' : Nat → Prop} (h : J w W ag p r I F) (k0 : Kp (fun _ => False) W W0) (hg1 : W.heap.size ≤ g1 ∧ g1 < W0.heap.size) (hj : J w W1 ag p r (I + 1) F') (hm : Mv F F' W0 W1) (hT : ∀ k, Ov vs n k → F k ∨ W0.heap.size ≤ k) (hF : ∀ k, Ov vs n k → ¬ F' k)
 (k2 : Kp (fun _ => False) W1 W2) (k3 : Kp (fun k => k = g1) W2 W3) (k4 : Kp (Ov vs n) W3 W4) : Left w W ag p r I F W4 := by
 have s0 := k0.size
 have sw := h.kpw.size
 have hn : ∀ k, F' k → k ≠ g1 := fun k hk e => (hm.nw k hk).elim (fun q => by have := h.lt k q; omega) (fun q => by omega)
 have hw : ∀ k, Ov vs n k → w.heap.size ≤ k := fun k hk => (hT k hk).elim (fun q => h.ge k q) (fun q => by omega)
 refine ⟨F', ((hj.kp0 k2).kp k3 (fun k hk e => hn k hk e) (fun k e => by have e : k = g1 := e; omega)).kp k4 (fun k hk e => hF k e hk) hw, ⟨fun k hk => (hm.nw k hk).imp_right (fun q => by omega), ?_⟩⟩
 refine (((k0.mono (fun _ _ e => e.elim)).trans hm.kp).trans (k2.mono (fun _ _ e => e.elim))).then (k3.mono (fun _ _ e => .inl e) |>.trans (k4.mono (fun _ _ e => .inr e)) : Kp (fun k => k = g1 ∨ Ov vs n k) W2 W4) (fun k hk e => ?_)
 rcases e with e | e
 · omega
 · exact (hT k e).elim id (fun q => by omega)
theorem receive_any (h : J w W ag p r I F) (hI : I ≤ 1000) (now : Int) {A : Option Addr} {l : List Int} (m c : Nat) (hml : m = l.length) (hr : RdB W A l) (hc : m ≤ c) (hcm : c ≤ maxLen) (off : l ≠ [] → ∀ y, A = some y → ¬ F y.block) (hl : m ≤ 8000) :
 Calls Tryz.prog 19 #[.pointer (some ⟨p, 0, none⟩), .pointer (some ⟨r, 0, none⟩), .slice A m c, .int .i64 now] W fun e W' => e = .returned (.bool true) ∧ Left w W ag p r I F W' := by
 have CL := Lib.hid (lent_m A m c l hml W hr hl)
 have H := Lib.hid (And.intro h (And.intro hr (And.intro hml (And.intro off (And.intro hc hcm)))))
 clear h hr hml off
 go_enter Tryz.func19, Tryz.ntmps19
 go_wp2_with fail
 go_at_call 14
 refine CL.out.mono ?_
 rintro e1 w1 ⟨rfl, hg, k1⟩
 obtain ⟨g1, hg1⟩ : ∃ g, g = W.heap.size := ⟨_, rfl⟩
 rw [← hg1] at hg ⊢
 have hj1 := H.out.1.kp0 k1
 have hr1 : RdB w1 A l := H.out.2.1.kp k1 (fun _ _ h => h)
 have hbd := H.out.2.1.bd
 have hgl : At w1 g1 ((l ++ marks l.length).map (Value.int .u8)) := by rw [← H.out.2.2.1]; exact hg
 have CR := recv_J hj1 hI now (RdB.lent' hgl hbd (by have := H.out.2.2.1; omega)) (c1 := m + 3) (by have := H.out.2.2.1; omega) (by unfold maxLen; omega) hr1 (by have := H.out.2.2.1; have := H.out.2.2.2.2.1; omega) H.out.2.2.2.2.2 H.out.2.2.2.1 (by have := H.out.2.2.1; omega)
 rw [← H.out.2.2.1] at CR
 have CR := Lib.hid CR
 have hg1l : g1 < w1.heap.size := hg.lt
 have HG := Lib.hid hg1
 have H1 := Lib.hid (And.intro hg (And.intro k1 (And.intro hj1 hr1)))
 clear hg k1 hj1 hr1 hgl hg1
 go_wp2_with fail
 go_at_call 38
 refine Calls.mono CR.out ?_
 rintro e2 w2 ⟨v, k, rfl, kF, ls, vs, hlu, h64, hT, C2⟩
 obtain ⟨va, vc, ev⟩ := hlu.form
 subst ev
 obtain ⟨n, hn⟩ : ∃ n, n = ls.length := ⟨_, rfl⟩
 rw [← H.out.2.2.1] at C2
 have C2 := Lib.hid (C2 w2 (Kp.refl _ _))
 have H2 := Lib.hid (And.intro h64 hT)
 have hn64 : n ≤ 64 := by omega
 rw [← hn]
 have HN := Lib.hid hn
 clear kF hlu h64 hT CR hn
 go_wp2_with fail
 go_at_call 39
 refine Calls.mono C2.out ?_
 rintro e3 w3 ⟨v2, k2, rfl, rfl, a2, c2, rfl, hrd, F', hj, hm, htl⟩
 have CS := samelists_any va a2 n n vc c2 ls ls w3 htl.lu.rdl hrd HN.out.symm HN.out.symm (by omega)
 rw [decide_eq_true rfl] at CS
 have CS := Lib.hid CS
 have jk : (k2 == k2) = true := by simp
 have hg3 : At w3 g1 ((l ++ marks m).map (Value.int .u8)) := hm.kp.at H1.out.1 (fun q => by have := H.out.1.lt g1 q; have := HG.out; omega)
 have hr3 : RdB w3 A l := H1.out.2.2.2.kpn hm.kp (fun q y hy e => H.out.2.2.2.1 q y hy e)
 have H3 := Lib.hid (And.intro hj (And.intro hm (And.intro htl (And.intro hg3 hr3))))
 rw [← HN.out]
 clear hrd hj hm htl hg3 hr3 C2
 go_wp2_with fail
 go_at_call 22
 refine CS.out.mono ?_
 rintro e4 w4 ⟨rfl, k4⟩
 have CK := Lib.hid (kept_m g1 A m c l H.out.2.2.1 w4 (k4.at H3.out.2.2.2.1 (fun h => h)) (H3.out.2.2.2.2.kp k4 (fun _ _ h => h)) hl)
 have K4 := Lib.hid k4
 clear k4 CS
 go_wp2_with fail
 go_at_call 17
 refine CK.out.mono ?_
 rintro e5 w5 ⟨rfl, k5⟩
 have CO := Lib.hid (over_m g1 m l H.out.2.2.1 w5 (k5.at (K4.out.at H3.out.2.2.2.1 (fun h => h)) (fun h => h)) hbd hl)
 have K5 := Lib.hid (K4.out.trans k5)
 clear k5 CK
 go_wp2_with fail
 go_at_call 18
 refine CO.out.mono ?_
 rintro e6 w6 ⟨rfl, k6⟩
 have hT6 : ∀ k, Tg (.slice va n vc) vs ls.length k → ¬ k = g1 := fun q hq e => by
  have := HG.out
  rcases H2.out.2 q (by have h := hq; rw [HN.out] at h; exact h) with h | h
  · have := H.out.1.lt q h; omega
  · omega
 have hlu6 : LLu w6 (.slice va n vc) ls vs := by
  have h1 := H3.out.2.2.1.lu.kp0 K5.out
  rw [← HN.out] at h1
  exact h1.kp k6 (fun g hg e => hT6 g (.inl hg) e) (fun i g hi hg e => hT6 g (.inr ⟨i, hi, hg⟩) e)
 have H6 := Lib.hid (And.intro hlu6 k6)
 clear hlu6 k6 CO hT6
 go_wp2_with fail
 go_loopw [15] (fun iv wr => ∃ i : Nat, i ≤ n ∧ iv = .int .i64 i ∧ Kp (Ov vs i) w6 wr) (fun iv _ => n - (intOf iv).toNat)
 case atStart => exact ⟨0, by omega, rfl, Kp.refl _ _⟩
 case round =>
  obtain ⟨i, hi, rfl, hk⟩ := hrel
  by_cases hlt : i < n
  · have j1 : (i : Int) < n := by omega
    obtain ⟨g, ai, ni, ci, ea, d0, ev, hob⟩ := H6.out.1.row (i := i) (by have := HN.out; omega) hk
    subst ea
    rw [ev] at hob
    have CO := Lib.hid (over_own hob)
    have HI := Lib.hid (And.intro hk ev)
    have HL := Lib.hid (show i + 1 ≤ n from hlt)
    clear hk ev hob
    go_wp2_with fail
    go_at_call 18
    refine CO.out.mono ?_
    rintro e7 w7 ⟨rfl, k7⟩
    have H7 := Lib.hid (show Kp (Ov vs (i + 1)) w6 w7 from (HI.out.1.mono (fun q _ ⟨j, hj, e⟩ => ⟨j, by omega, e⟩)).trans (k7.mono (fun q _ e => ⟨i, by omega, by rw [HI.out.2]; exact e⟩)))
    clear k7 CO d0
    go_wp2_with fail
    go_roundw
    case rel => exact ⟨i + 1, HL.out, by go_num, H7.out⟩
    case measure => have := HL.out; simp [intOf]; omega
  · obtain rfl : i = n := by omega
    have HK := Lib.hid hk
    clear hk
    go_wp2_with fail
    go_ret
    refine ⟨rfl, left_over H.out.1 H1.out.2.1 ⟨by have := HG.out; omega, hg1l⟩ H3.out.1 H3.out.2.1 (fun k hk => ?_) (fun k hk => ?_) K5.out H6.out.2 HK.out⟩
    · obtain ⟨j, hj, e⟩ := hk
      exact H2.out.2 k (.inr ⟨j, by have := HN.out; omega, e⟩)
    · obtain ⟨j, hj, e⟩ := hk
      exact H3.out.2.2.1.ap k (.inr ⟨j, by have := HN.out; omega, e⟩)
end
end Go.Proofs.YtokembhfebnjpaaGreat
