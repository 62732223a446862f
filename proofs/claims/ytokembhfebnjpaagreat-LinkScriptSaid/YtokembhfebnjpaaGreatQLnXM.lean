/- Chapter 15: a body and an Ack go over; ends, joined, awake. (Written by wip/lnx.py.) -/
import Derived.Test.YtokembhfebnjpaaGreatQMrk
import Derived.Test.YtokembhfebnjpaaGreatQKt0M
import Derived.Test.YtokembhfebnjpaaGreatQRfTM
import Derived.Test.YtokembhfebnjpaaGreatQLnOM
import Derived.Test.YtokembhfebnjpaaGreatQRwAM
namespace Go.Proofs.YtokembhfebnjpaaGreat
set_option maxRecDepth 20000
open Go.RowKit Flt
set_option linter.unusedVariables false
set_option linter.unusedSimpArgs false
theorem me_due2 {o k now : Nat} {t : Tk} : Me o (dueT t now) k ↔ Me o t k := by
 refine ⟨me_due, fun h => ?_⟩
 rcases h with h | ⟨e, h | h⟩
 · exact .inl h
 · exact .inr ⟨e, .inl ((st_mine t.i.g (atW t.i.x now) (dueI (atW t.i.x now)) k).2 h)⟩
 · exact .inr ⟨e, .inr h⟩
theorem af_due {x : Ae} {now I' g : Nat} : Ae.F { x with t := dueT x.t now, I := I' } g ↔ x.F g := or_congr Iff.rfl me_due2
theorem dat_due {x : Ae} {u : Tp} {l : List Int} (h1 : u.seq = 1) (h2 : u.body = l) (hn : x.t.i.n = 1) (he : errF ⟨3, x.t.se, x.t.bo, 1, 0, l⟩ = 0) : dueL x.t [] [u] = [layF ⟨3, x.t.se, x.t.bo, 1, 0, l⟩] := by
 have e : datF x.t.se x.t.bo 0 u = ⟨3, x.t.se, x.t.bo, 1, 0, l⟩ := by unfold datF; rw [h1, h2]; rfl
 unfold dueL
 rw [hn, if_neg (by simp)]
 show layP [] (datF x.t.se x.t.bo 0 u) = _
 rw [e, layP_one he]
theorem over_dat {w W : World} {x : Ae} {y : De} (h : Two w W x y) (la ld : Nat) (hla : x.lb = la) (hld : y.lb = ld) (hxt : x.t.st = 2) (hyt : y.t.st = 2) (hse : 1 ≤ x.t.se) (hss : y.t.se = x.t.se) (hbo : 1 ≤ x.t.bo) (hbb : y.t.bo = x.t.bo) (hxI : x.I ≤ 1000000) (hyI : y.I ≤ 1000000) {l : List Int} {m : Nat} (hW : W1 x.t.i.x 1 l m) (hll : l.length ≤ 1400) (hxn : x.t.i.n = 1)
 (hf : y.t.i.f = fun _ => none) (hn : y.t.i.n = 1) (now : Nat) (q : Int) (hq : (now : Int) = q) (ht : now ≤ 2147483647) :
 Calls Tryz.prog 32 #[.pointer (some ⟨la, 0, none⟩), .pointer (some ⟨ld, 0, none⟩), .int .i64 q] W fun e w' => ∃ a c us, e = .returned (.tuple #[.slice a 1 c, .bool true]) ∧ LLu w' (.slice a 1 c) [l] us ∧ ∃ V' hd' F', Two w w' { x with t := dueT x.t now, I := x.I + 1 } { y with t := takeT y.t (ackX y.t.i.x 0 now V') (put y.t.i.f 1 l) 2 hd' F' } ∧
  (∀ g, ((Value.slice a 1 c).ownBlock = some g ∨ ∃ i, i < 1 ∧ (us.getD i undef).ownBlock = some g) → ¬ x.F g ∧ ¬ De.F { y with t := takeT y.t (ackX y.t.i.x 0 now V') (put y.t.i.f 1 l) 2 hd' F' } g) := by
 subst hla; subst hld; subst hq
 have he : errF ⟨3, x.t.se, x.t.bo, 1, 0, l⟩ = 0 := errF_dat (q := 1) (a := 0) hse h.a.tk.se hbo h.a.tk.bo (by omega) (by omega) (by omega) hll
 refine (over_one (now : Int) (layF ⟨3, x.t.se, x.t.bo, 1, 0, l⟩) [l] (by simp) (Q1 := fun w' => Two w w' { x with t := dueT x.t now, I := x.I + 1 } y) (Q2 := fun us w' => ∃ V' hd' F', Two w w' { x with t := dueT x.t now, I := x.I + 1 } { y with t := takeT y.t (ackX y.t.i.x 0 now V') (put y.t.i.f 1 l) 2 hd' F' } ∧
  (∀ g, (∃ i, i < 1 ∧ (us.getD i undef).ownBlock = some g) → ¬ x.F g ∧ ¬ De.F { y with t := takeT y.t (ackX y.t.i.x 0 now V') (put y.t.i.f 1 l) 2 hd' F' } g)) ?_ ?_).mono ?_
 · refine (ag_tick_up h.a h.sz hxt hxI now ht).mono ?_
   rintro e w' ⟨v, rfl, vs, l8, h0, h1, h2, h3⟩
   obtain ⟨u, rfl, hu1, hu2⟩ := (hW.due now).2.1 l8 h0
   rw [dat_due hu1 hu2 hxn he] at h1
   exact ⟨v, rfl, _, vs, h1, h.stepA h2 h3⟩
 · intro w1 A c h1 hr hc hcm
   refine (dm_first h1 hyt hyI ⟨3, x.t.se, x.t.bo, 1, 0, l⟩ l he rfl (by show (x.t.se : Int) = y.t.se; rw [hss]) (by show (x.t.bo : Int) = y.t.bo; rw [hbb]) rfl rfl rfl hf hn now (timeN ht) A c hr hc hcm).mono ?_
   rintro e w' ⟨v, k, rfl, rfl, us, h2, V', hd', F', h3, h4, _⟩
   refine ⟨_, _, rfl, rfl, us, h2, V', hd', F', h3, fun g hg => ?_⟩
   obtain ⟨h5, h6⟩ := h4 g (.inr hg)
   exact ⟨fun hx => h5 (af_due.2 hx), h6⟩
 · rintro e w' ⟨a, c, us, w3, rfl, h1, ⟨V', hd', F', h2, h3⟩, h4, h5⟩
   refine ⟨a, c, us, rfl, h1.u, V', hd', F', h2.kp0 h4, fun g hg => ?_⟩
   rcases hg with hg | hg
   · have := h5 g hg
     exact ⟨fun e => by have := h2.a.lt g (af_due.2 e); omega, fun e => by have := h2.d.lt g e; omega⟩
   · exact h3 g hg
theorem ack_due {y : De} {n : Nat} (hw : y.wel = false) (hr : y.rs = []) (ho : y.t.owed = true) (hn : y.t.i.n = n + 1) (he : errF ⟨4, y.t.se, y.t.bo, 0, n, []⟩ = 0) : dueL y.t (rstL y.t.bo (welL y) y.rs) [] = [layF ⟨4, y.t.se, y.t.bo, 0, n, []⟩] := by
 unfold dueL welL
 rw [hw, hr, ho, if_pos ⟨rfl, rfl⟩, hn]
 exact layP_one he
theorem over_ack {w W : World} {x : Ae} {y : De} (h : Two w W x y) (la ld : Nat) (hla : x.lb = la) (hld : y.lb = ld) (hxt : x.t.st = 2) (hyt : y.t.st = 2) (hse : 1 ≤ x.t.se) (hss : y.t.se = x.t.se) (hbo : 1 ≤ x.t.bo) (hbb : y.t.bo = x.t.bo) (hxI : x.I ≤ 1000000) (hyI : y.I ≤ 1000000) (hw : y.wel = false) (hrs : y.rs = []) (ho : y.t.owed = true) (n : Nat) (hn : y.t.i.n = n + 1) (hnb : n ≤ 2147483647) (hnl : n ≤ x.t.i.x.last) {m : Nat} (hE : WE y.t.i.x m) (now : Nat) (q : Int) (hq : (now : Int) = q) (ht : now ≤ 2147483647) :
 Calls Tryz.prog 32 #[.pointer (some ⟨ld, 0, none⟩), .pointer (some ⟨la, 0, none⟩), .int .i64 q] W fun e w' => ∃ a c, e = .returned (.tuple #[.slice a 0 c, .bool true]) ∧ Kp (fun k => x.F k ∨ y.F k) W w' ∧ ∃ V', Two w w' { x with t := ackT x.t (ackX x.t.i.x n now V') } { y with t := dueT y.t now, wel := false, rv := .slice none 0 0, rs := [], I := y.I + 1 } := by
 subst hla; subst hld; subst hq
 have he : errF ⟨4, x.t.se, x.t.bo, 0, n, []⟩ = 0 := errF_ack hse h.a.tk.se hbo h.a.tk.bo hnb
 have hb : ackB x.t.i.x n now = true := by unfold ackB; rw [timeN ht]; simp; omega
 refine (over_one (now : Int) (layF ⟨4, x.t.se, x.t.bo, 0, n, []⟩) [] (Nat.zero_le _) (Q1 := fun w' => Two w w' x { y with t := dueT y.t now, wel := false, rv := .slice none 0 0, rs := [], I := y.I + 1 } ∧ Kp (fun k => x.F k ∨ y.F k) W w') (Q2 := fun us w' => Kp (fun k => x.F k ∨ y.F k) W w' ∧ ∃ V', Two w w' { x with t := ackT x.t (ackX x.t.i.x n now V') } { y with t := dueT y.t now, wel := false, rv := .slice none 0 0, rs := [], I := y.I + 1 }) ?_ ?_).mono ?_
 · refine (dm_tick h.d h.sz hyt hyI (fun s hs => by rw [hrs] at hs; cases hs) now ht).mono ?_
   rintro e w' ⟨v, rfl, vs, l8, h0, h1, h2, h3⟩
   rw [(hE.due now).1] at h0
   rw [tel_nil h0, ack_due hw hrs ho hn (by rw [hss, hbb]; exact he), hss, hbb] at h1
   exact ⟨v, rfl, _, vs, h1, h.stepD h2 h3, h3.kp.mono (fun i _ e => .inr e)⟩
 · rintro w1 A c ⟨h1, hk⟩ hr hc hcm
   refine (ag_ack h1.a h1.sz hxt hxI n hnb hse hbo now (timeN ht) hb A c hr hc hcm).mono ?_
   rintro e w' ⟨v, k, rfl, rfl, rfl, V', h2, h3⟩
   exact ⟨_, _, rfl, rfl, [], LLu.nil w', hk.trans (h3.kp.mono (fun i _ e => .inl e)), V', h1.stepA h2 h3⟩
 · rintro e w' ⟨a, c, us, w3, rfl, h1, ⟨hk, V', h2⟩, h3, h4⟩
   exact ⟨a, c, rfl, hk.trans (h3.mono (fun _ _ h => h.elim)), V', h2.kp0 h3⟩
def ae0 (lb o s z : Nat) : Ae := ⟨lb, o, agT s z, false, 0, 0⟩
def de0 (lb o b z : Nat) : De := ⟨lb, o, dmT b z, false, .slice none 0 0, [], 0⟩
theorem ae0_F {lb o s z k : Nat} (h : (ae0 lb o s z).F k) : k = lb ∨ k = o := by
 rcases h with h | h | ⟨e, _⟩
 · exact .inl h
 · exact .inr h
 · exact absurd (show (1 : Nat) = 2 from e) (by decide)
theorem de0_F {lb o s z k : Nat} (h : (de0 lb o s z).F k) : k = lb ∨ k = o := by
 rcases h with h | (h | ⟨e, _⟩) | h
 · exact .inl h
 · exact .inr h
 · exact absurd (show (3 : Nat) = 2 from e) (by decide)
 · cases h
theorem ag_new (s z : Nat) (qs qz : Int) (hs : (s : Int) = qs) (hz : (z : Int) = qz) (w : World) (h : fitB s z = true) (B : Nat) (hB : B ≤ w.heap.size) :
 Calls Tryz.prog 7 #[.int .i64 qs, .int .i64 qz] w fun e w' => ∃ lb o, e = .returned (.tuple #[.pointer (some ⟨lb, 0, none⟩), .int .i64 0]) ∧ AgS w' B (ae0 lb o s z) ∧ (∀ k, (ae0 lb o s z).F k → w.heap.size ≤ k) ∧ Kp (fun _ => False) w w' := by
 subst hs; subst hz
 refine (agent_ok s z w h).mono ?_
 rintro e w' ⟨lb, o, rfl, h1, h2, h3, h4, h5, k⟩
 refine ⟨lb, o, rfl, ⟨h1, h2, fun e => ?_, fun k hk => ?_⟩, fun k hk => ?_, k⟩
 · rcases ae0_F (.inr e : (ae0 lb o s z).F lb) with _ | e'
   · rcases e with e | ⟨e, _⟩
     · exact h5 e
     · exact absurd (show (1 : Nat) = 2 from e) (by decide)
   · exact h5 e'
 · rcases ae0_F hk with rfl | rfl <;> omega
 · rcases ae0_F hk with rfl | rfl <;> omega
theorem dm_new (s z : Nat) (qs qz : Int) (hs : (s : Int) = qs) (hz : (z : Int) = qz) (w : World) (h : fitB s z = true) (B : Nat) (hB : B ≤ w.heap.size) :
 Calls Tryz.prog 5 #[.int .i64 qs, .int .i64 qz] w fun e w' => ∃ lb o, e = .returned (.tuple #[.pointer (some ⟨lb, 0, none⟩), .int .i64 0]) ∧ DmS w' B (de0 lb o s z) ∧ (∀ k, (de0 lb o s z).F k → w.heap.size ≤ k) ∧ Kp (fun _ => False) w w' := by
 subst hs; subst hz
 refine (daemon_ok s z w h).mono ?_
 rintro e w' ⟨lb, o, rfl, h1, h2, h3, h4, h5, k⟩
 refine ⟨lb, o, rfl, ⟨h1, h2, fun e => ?_, fun k hk => ?_⟩, fun k hk => ?_, k⟩
 · rcases e with (e | ⟨e, _⟩) | e
   · exact h5 e
   · exact absurd (show (3 : Nat) = 2 from e) (by decide)
   · cases e
 · rcases de0_F hk with rfl | rfl <;> omega
 · rcases de0_F hk with rfl | rfl <;> omega
set_option maxHeartbeats 1000000 in
theorem ends_any (z : Nat) (q : Int) (hq : (z : Int) = q) (hz : 1 ≤ z ∧ z ≤ 64) (w : World) :
 Calls Tryz.prog 47 #[.int .i64 q] w fun e w' => ∃ la oa ld od, e = .returned (.tuple #[.pointer (some ⟨la, 0, none⟩), .pointer (some ⟨ld, 0, none⟩), .bool true]) ∧ Two w w' (ae0 la oa 5 z) (de0 ld od 9 z) := by
 have hf5 : fitB (5 : Nat) z = true := by unfold fitB; simp; omega
 have hf9 : fitB (9 : Nat) z = true := by unfold fitB; simp; omega
 have CA := Lib.hid (ag_new 5 z 5 q rfl hq w hf5 w.heap.size (Nat.le_refl _))
 have CD := Lib.hid (fun (w1 : World) (k : Kp (fun _ => False) w w1) => dm_new 9 z 9 q rfl hq w1 hf9 w.heap.size k.size)
 clear hf5 hf9 hq hz
 go_enter Tryz.func47, Tryz.ntmps47
 go_wp2_with fail
 go_at_call 7
 refine CA.out.mono ?_
 rintro e w1 ⟨la, oa, rfl, h1, h2, k1⟩
 have CD1 := Lib.hid (CD.out w1 k1)
 have H1 := Lib.hid (And.intro h1 (And.intro h2 k1))
 clear h1 h2 k1 CD
 go_wp2_with fail
 go_at_call 5
 refine CD1.out.mono ?_
 rintro e w2 ⟨ld, od, rfl, h3, h4, k2⟩
 have H2 := Lib.hid (And.intro h3 (And.intro h4 k2))
 clear h3 h4 k2 CD1
 go_wp2_with fail
 go_ret3
 have hT : Two w w2 (ae0 la oa 5 z) (de0 ld od 9 z) := ⟨H1.out.1.kp0 H2.out.2.2, H2.out.1, fun k h1 h2 => by
  have := H1.out.1.lt k h1
  have := H2.out.2.1 k h2
  omega, H1.out.2.2.trans H2.out.2.2⟩
 exact ⟨la, oa, ld, od, rfl, hT⟩
structure Jn (la ld : Nat) (x : Ae) (y : De) (z b : Nat) : Prop where
 xl : x.lb = la
 yl : y.lb = ld
 xst : x.t.st = 2
 xse : x.t.se = 5
 xbo : x.t.bo = b
 xsz : x.t.sz = z
 xE : WE x.t.i.x 0
 xn : x.t.i.n = 1
 xI : x.I = 0
 yst : y.t.st = 2
 yse : y.t.se = 5
 ybo : y.t.bo = b
 ysz : y.t.sz = z
 yE : WE y.t.i.x 0
 yo : y.t.owed = false
 yf : y.t.i.f = fun _ => none
 yn : y.t.i.n = 1
 yI : y.I = 1
 yw : y.wel = false
 yr : y.rs = []
theorem jn_of (la oa ld od z b g1 b1 g2 b2 : Nat) : Jn la ld { ae0 la oa 5 z with sent := true, at_ := 0, t := upT { (ae0 la oa 5 z).t with bo := b } g2 b2 } { de0 ld od b z with t := dueT (upT { (de0 ld od b z).t with se := 5 } g1 b1) 0, wel := false, rv := .slice none 0 0, rs := [], I := 1 } z b :=
 ⟨rfl, rfl, rfl, rfl, rfl, rfl, WE.new z, rfl, rfl, rfl, rfl, rfl, rfl, ((WE.new z).due 0).2, rfl, rfl, rfl, rfl, rfl, rfl⟩
set_option maxHeartbeats 2000000 in
theorem joined_any (z : Nat) (q : Int) (hq : (z : Int) = q) (hz : 1 ≤ z ∧ z ≤ 64) (w : World) :
 Calls Tryz.prog 31 #[.int .i64 q] w fun e w' => ∃ la ld x y, e = .returned (.tuple #[.pointer (some ⟨la, 0, none⟩), .pointer (some ⟨ld, 0, none⟩), .bool true]) ∧ Jn la ld x y z 9 ∧ Two w w' x y := by
 have CE := Lib.hid (ends_any z q hq hz w)
 clear hq hz
 go_enter Tryz.func31, Tryz.ntmps31
 go_wp2_with fail
 go_at_call 47
 refine CE.out.mono ?_
 rintro e w1 ⟨la, oa, ld, od, rfl, h1⟩
 have C2 := Lib.hid (over_syn h1 la ld rfl rfl rfl rfl (by show 1 ≤ 5; omega) (by show 0 < 5; omega) 0 0 rfl (by omega))
 clear h1 CE
 go_wp2_with fail
 go_at_call 32
 refine C2.out.mono ?_
 rintro e w2 ⟨a1, c1, rfl, g1, b1, h2⟩
 have C3 := Lib.hid (over_wel h2 la ld rfl rfl rfl rfl (by show 1 ≤ 5; omega) rfl (by show 1 ≤ 9; omega) rfl rfl rfl (by show 0 ≤ _; omega) (WE.new z) 0 0 rfl (by omega))
 clear h2 C2
 go_wp2_with fail
 go_at_call 32
 refine C3.out.mono ?_
 rintro e w3 ⟨a2, c2, rfl, g2, b2, h3⟩
 have H3 := Lib.hid h3
 have CA : Calls Tryz.prog 24 #[.pointer (some ⟨la, 0, none⟩)] w3 fun e w' => e = .returned (.int .i64 2) ∧ w3 = w' := lstate_a h3.a.lk h3.a.tk
 have CD : Calls Tryz.prog 24 #[.pointer (some ⟨ld, 0, none⟩)] w3 fun e w' => e = .returned (.int .i64 2) ∧ w3 = w' := lstate_d h3.d.lk h3.d.dm.tk
 have CB : Calls Tryz.prog 26 #[.pointer (some ⟨la, 0, none⟩)] w3 fun e w' => e = .returned (.int .i64 9) ∧ w3 = w' := lboot_a h3.a.lk h3.a.tk
 have CS : Calls Tryz.prog 25 #[.pointer (some ⟨ld, 0, none⟩)] w3 fun e w' => e = .returned (.int .i64 5) ∧ w3 = w' := lsession_d h3.d.lk h3.d.dm.tk
 have CA := Lib.hid CA
 have CD := Lib.hid CD
 have CB := Lib.hid CB
 have CS := Lib.hid CS
 clear h3 C3
 go_wp2_with (first | (go_at_call 24; (with_reducible refine CA.out.mono ?_); rintro e w' ⟨rfl, rfl⟩) | (go_at_call 24; (with_reducible refine CD.out.mono ?_); rintro e w' ⟨rfl, rfl⟩) | (go_at_call 26; (with_reducible refine CB.out.mono ?_); rintro e w' ⟨rfl, rfl⟩) | (go_at_call 25; (with_reducible refine CS.out.mono ?_); rintro e w' ⟨rfl, rfl⟩))
 go_ret3
 exact ⟨la, ld, _, _, rfl, jn_of la oa ld od z 9 g1 b1 g2 b2, H3.out⟩
theorem goneN_one {x : Wn} (h : x.l.length = 1) (hl : x.last = 1) : goneN x 1 = 1 := by unfold goneN; omega
theorem lopen_zero {lb o I : Nat} {t : Tk} {ext : List Value} {w : World} (h : LkC w lb 58 o) (hk : TkC w o t ext I) (hst : t.st = 2) (hl : t.i.x.l = []) : Calls Tryz.prog 27 #[.pointer (some ⟨lb, 0, none⟩)] w fun e w' => e = .returned (.int .i64 0) ∧ w = w' := by
 have := lopen_aup h hk hst
 rw [hl] at this
 exact this
set_option maxHeartbeats 4000000 in
theorem awake_any (w : World) : Calls Tryz.prog 11 #[] w fun e w' => e = .returned (.bool true) ∧ Kp (fun _ => False) w w' := by
 have CJ := Lib.hid (joined_any 4 4 rfl (by omega) w)
 have kc := fun (w : World) (C : Array Value) (n c : Nat) => kc_any w C n c
 go_enter Tryz.func11, Tryz.ntmps11
 go_wp2_with fail
 go_at_call 31
 refine CJ.out.mono ?_
 rintro e w1 ⟨la, ld, x, y, rfl, j, h1⟩
 obtain rfl := j.xl
 obtain rfl := j.yl
 obtain ⟨m1, hm1⟩ : ∃ m, m = w1.alloc (.cells #[.int .u8 120] 5 (1, 2)) := ⟨_, rfl⟩
 have km1 : Kp (fun _ => False) w1 m1 := by rw [hm1]; exact (Kp.refl _ w1).alloc _
 have rm1 : RdB m1 (some ⟨w1.heap.size, 0, none⟩) [120] := by rw [hm1]; exact rdb_mark w1 [120] (by intro z hz; simp at hz; omega) (by simp) _ _
 have hm := h1.kp0 km1
 have CS := ag_send hm.a hm.sz j.xst (by rw [j.xI]; omega) (some ⟨w1.heap.size, 0, none⟩) 1 1 [120] rfl rm1 (by omega) (by rw [j.xE.1, j.xsz]; decide)
 rw [hm1] at CS
 have CS := Lib.hid CS
 have HJ := Lib.hid (And.intro j (h1.kp0 km1))
 have HM := Lib.hid hm1
 clear j h1 km1 rm1 hm hm1 CJ
 go_wp2_with fail
 go_at_call 15
 refine CS.out.mono ?_
 rintro e w2 ⟨rfl, p, V, h1, h2, h3, h4, h5⟩
 rw [← HM.out] at h5
 have hT := HJ.out.2.stepA h4 h5
 have j := HJ.out.1
 have hW : W1 (sendT x.t p V).i.x 1 [120] 1 := j.xE.push (q := 0) h1 h2 h3
 have C2 := Lib.hid (over_dat hT x.lb y.lb rfl rfl j.xst j.yst (by show 1 ≤ x.t.se; rw [j.xse]; omega) (by show y.t.se = x.t.se; rw [j.yse, j.xse]) (by show 1 ≤ x.t.bo; rw [j.xbo]; omega) (by show y.t.bo = x.t.bo; rw [j.ybo, j.xbo]) (by show x.I + 1 ≤ _; rw [j.xI]; omega) (by rw [j.yI]; omega) hW (by simp) j.xn j.yf j.yn 3 3 rfl (by omega))
 have HW := Lib.hid hW
 have HJ := Lib.hid j
 clear h1 h2 h3 h4 h5 hT j hW CS
 go_wp2_with fail
 go_at_call 32
 refine C2.out.mono ?_
 rintro e w3 ⟨a1, c1, us, rfl, hu, V', hd', F', h2, hb⟩
 have j := HJ.out
 have hd := (HW.out.due 3).2.2
 have C3 := over_ack h2 x.lb y.lb rfl rfl j.xst j.yst (by show 1 ≤ x.t.se; rw [j.xse]; omega) (by show y.t.se = x.t.se; rw [j.yse, j.xse]) (by show 1 ≤ x.t.bo; rw [j.xbo]; omega) (by show y.t.bo = x.t.bo; rw [j.ybo, j.xbo]) (by show x.I + 1 + 1 ≤ _; rw [j.xI]; omega) (by show y.I ≤ _; rw [j.yI]; omega) j.yw j.yr rfl 1 rfl (by omega) (by show 1 ≤ (dueW (atW (sendT x.t p V).i.x 3)).last; rw [hd.2]; omega) (m := 0) (by show WE (ackX y.t.i.x 0 3 V') 0; exact ⟨by show List.drop _ y.t.i.x.l = []; rw [j.yE.1]; simp, j.yE.2⟩) 5 5 rfl (by omega)
 have C3 := Lib.hid C3
 have HU := Lib.hid (And.intro hu hb)
 clear h2 hu hb j hd C2
 go_wp2_with fail
 go_at_call 32
 refine C3.out.mono ?_
 rintro e w4 ⟨a2, c2, rfl, hk, V2, h4⟩
 have j := HJ.out
 obtain ⟨hd1, hd2⟩ := (HW.out.due 3).2.2
 have hl1 : RdL w4 a1 [[120]] := (HU.out.1.kp hk (fun g hg e => e.elim (fun e => (HU.out.2 g (.inl hg)).1 (af_due.1 e)) (HU.out.2 g (.inl hg)).2) (fun i g hi hg e => e.elim (fun e => (HU.out.2 g (.inr ⟨i, hi, hg⟩)).1 (af_due.1 e)) (HU.out.2 g (.inr ⟨i, hi, hg⟩)).2)).rdl
 have H4 := Lib.hid (And.intro h4 hl1)
 obtain ⟨m2, hm2⟩ : ∃ m, m = w4.alloc (.cells #[.int .u8 120] 5 (1, 2)) := ⟨_, rfl⟩
 obtain ⟨m3, hm3⟩ : ∃ m, m = m2.alloc (.cells #[.slice (some ⟨w4.heap.size, 0, none⟩) 1 1] 32) := ⟨_, rfl⟩
 have km2 : Kp (fun _ => False) w4 m2 := by rw [hm2]; exact (Kp.refl _ w4).alloc _
 have km3 : Kp (fun _ => False) m2 m3 := by rw [hm3]; exact (Kp.refl _ m2).alloc _
 have rm2 : RdB m2 (some ⟨w4.heap.size, 0, none⟩) [120] := by rw [hm2]; exact rdb_mark w4 [120] (by intro z hz; simp at hz; omega) (by simp) _ _
 have rl3 : RdL m3 (some ⟨m2.heap.size, 0, none⟩) [[120]] := fun i hi => by
  obtain rfl : i = 0 := by simp at hi; omega
  exact ⟨m2.heap.size, 0, some ⟨w4.heap.size, 0, none⟩, 1, rfl, by rw [hm3]; exact (At.new m2 [.slice (some ⟨w4.heap.size, 0, none⟩) 1 1] _).cell 0, rm2.kp km3 (fun _ _ h => h), Nat.le_refl _⟩
 have CL := samelists_any a1 (some ⟨m2.heap.size, 0, none⟩) 1 1 c1 1 [[120]] [[120]] m3 (hl1.kp0 (km2.trans km3) (fun _ _ h => h)) rl3 rfl rfl (by omega)
 rw [decide_eq_true rfl] at CL
 have h44 := h4.kp0 (km2.trans km3)
 have CO : ∀ w', Kp (fun _ => False) m3 w' → Calls Tryz.prog 27 #[.pointer (some ⟨x.lb, 0, none⟩)] w' fun e w'' => e = .returned (.int .i64 0) ∧ w' = w'' := fun w' k => by
  have h := h44.kp0 k
  exact lopen_zero h.a.lk h.a.tk j.xst (by
   show List.drop (goneN (dueW (atW (sendT x.t p V).i.x 3)) 1) (dueW (atW (sendT x.t p V).i.x 3)).l = []
   rw [goneN_one hd1 hd2]
   exact List.eq_nil_of_length_eq_zero (by rw [List.length_drop, hd1]))
 have CG : ∀ w', Kp (fun _ => False) m3 w' → Calls Tryz.prog 29 #[.pointer (some ⟨y.lb, 0, none⟩)] w' fun e w'' => e = .returned (.int .i64 1) ∧ w' = w'' := fun w' k => by
  have h := h44.kp0 k
  exact j.yl ▸ (lgot_dup h.d.lk h.d.dm.tk j.yst (by show 1 ≤ 2 ∧ 2 ≤ _; omega))
 have CO := Lib.hid CO
 have CG := Lib.hid CG
 have hs2 : m2.heap.size = w4.heap.size + 1 := by rw [hm2]; simp
 rw [hs2] at CL
 rw [hm3, hm2] at CL
 have CL := Lib.hid CL
 have K4 := Lib.hid (h4.kp.trans (km2.trans km3))
 have HM := Lib.hid (And.intro hm2 hm3)
 clear hk h4 j hd1 hd2 hl1 km2 km3 rm2 rl3 h44 hs2 hm2 hm3 C3
 go_wp2_with fail
 go_at_call 22
 refine CL.out.mono ?_
 rintro e w5 ⟨rfl, k5⟩
 rw [← HM.out.1, ← HM.out.2] at k5
 have CO5 := Lib.hid (CO.out w5 k5)
 have CG5 := Lib.hid (CG.out w5 k5)
 have K5 := Lib.hid (K4.out.trans k5)
 clear k5 CO CG CL
 go_wp2_with (first | (go_at_call 27; refine CO5.out.mono ?_; rintro e w' ⟨rfl, rfl⟩) | (go_at_call 29; refine CG5.out.mono ?_; rintro e w' ⟨rfl, rfl⟩))
 go_ret
 exact ⟨rfl, K5.out⟩
def Ap (W : World) (x : Ae) (y : De) (T : Nat → Prop) : Prop := ∀ g, T g → g < W.heap.size ∧ ¬ x.F g ∧ ¬ y.F g
theorem Ap.stepD {W W' : World} {x : Ae} {y y' : De} {T : Nat → Prop} (h : Ap W x y T) (m : Mv y.F y'.F W W') : Ap W' x y' T := fun g hg => by
 obtain ⟨h1, h2, h3⟩ := h g hg
 exact ⟨Nat.lt_of_lt_of_le h1 m.kp.size, h2, fun e => (m.nw g e).elim h3 (fun e => by omega)⟩
theorem Ap.stepA {W W' : World} {x x' : Ae} {y : De} {T : Nat → Prop} (h : Ap W x y T) (m : Mv x.F x'.F W W') : Ap W' x' y T := fun g hg => by
 obtain ⟨h1, h2, h3⟩ := h g hg
 exact ⟨Nat.lt_of_lt_of_le h1 m.kp.size, fun e => (m.nw g e).elim h2 (fun e => by omega), h3⟩
theorem Ap.kp0 {W W' : World} {x : Ae} {y : De} {T : Nat → Prop} (h : Ap W x y T) (k : Kp (fun _ => False) W W') : Ap W' x y T := fun g hg => ⟨Nat.lt_of_lt_of_le (h g hg).1 k.size, (h g hg).2⟩
theorem Ap.new {w W W' : World} {x : Ae} {y : De} {T : Nat → Prop} (h : Two w W x y) (hT : ∀ g, T g → W.heap.size ≤ g ∧ g < W'.heap.size) : Ap W' x y T := fun g hg =>
 ⟨(hT g hg).2, fun e => by have := h.a.lt g e; have := (hT g hg).1; omega, fun e => by have := h.d.lt g e; have := (hT g hg).1; omega⟩
def Hb (W : World) (x : Ae) (y : De) (a : Option Addr) (l : List Int) : Prop := RdB W a l ∧ Ap W x y (fun g => ∃ z, a = some z ∧ z.block = g)
theorem Hb.stepD {W W' : World} {x : Ae} {y y' : De} {a : Option Addr} {l : List Int} (h : Hb W x y a l) (m : Mv y.F y'.F W W') : Hb W' x y' a l := ⟨h.1.kp m.kp (fun z hz e => (h.2 _ ⟨z, hz, rfl⟩).2.2 e), h.2.stepD m⟩
theorem Hb.stepA {W W' : World} {x x' : Ae} {y : De} {a : Option Addr} {l : List Int} (h : Hb W x y a l) (m : Mv x.F x'.F W W') : Hb W' x' y a l := ⟨h.1.kp m.kp (fun z hz e => (h.2 _ ⟨z, hz, rfl⟩).2.1 e), h.2.stepA m⟩
theorem Hb.kp0 {W W' : World} {x : Ae} {y : De} {a : Option Addr} {l : List Int} (h : Hb W x y a l) (k : Kp (fun _ => False) W W') : Hb W' x y a l := ⟨h.1.kp k (fun _ _ h => h), h.2.kp0 k⟩
theorem Hb.own {w W W' : World} {x : Ae} {y : De} (h : Two w W x y) {v : Value} {a : Option Addr} {c : Nat} {l : List Int} (ho : OwnB W' v l) (hv : v = .slice a l.length c) (hg : ∀ g, v.ownBlock = some g → W.heap.size ≤ g) (hr : RdB W' a l) : Hb W' x y a l := by
 refine ⟨hr, Ap.new h ?_⟩
 rintro g ⟨z, rfl, rfl⟩
 have e : v.ownBlock = some z.block := by rw [hv]; rfl
 exact ⟨hg _ e, ho.own.lt _ e⟩
def Hl (W : World) (x : Ae) (y : De) (v : Value) (ls : List (List Int)) (us : List Value) : Prop := LLu W v ls us ∧ Ap W x y (fun g => v.ownBlock = some g ∨ ∃ i, i < ls.length ∧ (us.getD i undef).ownBlock = some g)
theorem Hl.stepD {W W' : World} {x : Ae} {y y' : De} {v : Value} {ls : List (List Int)} {us : List Value} (h : Hl W x y v ls us) (m : Mv y.F y'.F W W') : Hl W' x y' v ls us := ⟨h.1.kp m.kp (fun g hg e => (h.2 _ (.inl hg)).2.2 e) (fun i g hi hg e => (h.2 _ (.inr ⟨i, hi, hg⟩)).2.2 e), h.2.stepD m⟩
theorem Hl.stepA {W W' : World} {x x' : Ae} {y : De} {v : Value} {ls : List (List Int)} {us : List Value} (h : Hl W x y v ls us) (m : Mv x.F x'.F W W') : Hl W' x' y v ls us := ⟨h.1.kp m.kp (fun g hg e => (h.2 _ (.inl hg)).2.1 e) (fun i g hi hg e => (h.2 _ (.inr ⟨i, hi, hg⟩)).2.1 e), h.2.stepA m⟩
theorem Hl.kp0 {W W' : World} {x : Ae} {y : De} {v : Value} {ls : List (List Int)} {us : List Value} (h : Hl W x y v ls us) (k : Kp (fun _ => False) W W') : Hl W' x y v ls us := ⟨h.1.kp0 k, h.2.kp0 k⟩
theorem LLu.lt {W : World} {v : Value} {ls : List (List Int)} {us : List Value} (h : LLu W v ls us) (g : Nat) (hg : v.ownBlock = some g ∨ ∃ i, i < ls.length ∧ (us.getD i undef).ownBlock = some g) : g < W.heap.size := by
 rcases hg with hg | ⟨i, hi, hg⟩
 · exact h.own.lt g hg
 · exact (h.each i hi).own.lt g hg
theorem Hl.of {W : World} {x : Ae} {y : De} {v : Value} {ls : List (List Int)} {us : List Value} (h : LLu W v ls us) (hn : ∀ g, (v.ownBlock = some g ∨ ∃ i, i < ls.length ∧ (us.getD i undef).ownBlock = some g) → ¬ x.F g ∧ ¬ y.F g) : Hl W x y v ls us := ⟨h, fun g hg => ⟨h.lt g hg, hn g hg⟩⟩
theorem Hl.one {W : World} {x : Ae} {y : De} {a : Option Addr} {n c : Nat} {b : List Int} {us : List Value} (h : Hl W x y (.slice a n c) [b] us) : ∃ g A cA, a = some ⟨g, 0, none⟩ ∧ W.cell? ⟨g, 0, none⟩ = some (.slice A b.length cA) ∧ RdB W A b ∧ b.length ≤ cA ∧ cA ≤ maxLen := by
 obtain ⟨A, cA, e, h1, h2, h3⟩ := (h.1.each 0 (by simp)).form3
 have e1 : us.getD 0 undef = .slice A b.length cA := e
 rcases h.1.own.2 with ⟨_, h0⟩ | ⟨g, cap, sp, hv, hat, _⟩
 · simp at h0
 · have hl := h.1.own.1
   simp only [Value.slice.injEq] at hv
   refine ⟨g, A, cA, hv.1, ?_, h1, h2, h3⟩
   have hc := hat.cell 0
   rw [hc]
   rw [List.getD_eq_getElem?_getD] at e1
   cases us with
   | nil => simp at hl
   | cons u us => simpa using e1
structure Dl where
 ag : Bool
 hello : Bool
 rv : Value
 rs : List Nat
 asked : Bool
 at_ : Nat
 got : Nat
 wv : Value
 xv : Value
 dw : Nat
 dv : Value
 D : List Dr
 dx : Nat
 iv : Value
 L : List (Nat × Value)
 G : Nat → Prop
def rlC (t : Tk) (e : Dl) : List Value := [.bool e.ag, .int .i64 t.sz, .int .i64 t.st, .int .i64 t.se, .int .i64 t.bo, e.wv, e.xv, .bool t.owed, .bool e.hello, e.rv, .bool e.asked, .int .i64 e.at_, .int .i64 e.got]
structure RlU (W : World) (r : Nat) (t : Tk) (e : Dl) : Prop where
 wv : e.wv = .pointer (some ⟨e.dw, 0, none⟩)
 xv : e.xv = .pointer (some ⟨e.dx, 0, none⟩)
 win : RwC W e.dw t.i.x e.dv e.D
 wt : ∀ i, i < e.D.length → (dr e.D i).att ≤ 2147483647 ∧ (dr e.D i).wt ≤ 60
 inb : RefC W e.dx e.iv t.sz t.i.n e.L t.i.f e.G
 fn : t.i.f t.i.n = none
 got : e.got + 1 = t.i.n
 oW : ¬ RwF e.dw e.dv e.D r
 oX : ¬ e.G r
 ap : ∀ k, RwF e.dw e.dv e.D k → ¬ e.G k
 rW : ∀ g, e.rv.ownBlock = some g → ¬ RwF e.dw e.dv e.D g ∧ ¬ e.G g
structure RlC (W : World) (r : Nat) (t : Tk) (e : Dl) : Prop where
 hat : At W r (rlC t e)
 up : t.st = 2 → RlU W r t e
 res : Own W e.rv e.rs.length 1 (intsV e.rs)
 rr : e.rv.ownBlock ≠ some r
 rl : e.rs.length ≤ 8
def RlF (r : Nat) (t : Tk) (e : Dl) (k : Nat) : Prop := k = r ∨ e.rv.ownBlock = some k ∨ (t.st = 2 ∧ (RwF e.dw e.dv e.D k ∨ e.G k))
theorem RlU.kp {S : Nat → Prop} {W W' : World} {r : Nat} {t : Tk} {e : Dl} (h : RlU W r t e) (k : Kp S W W') (h1 : ∀ j, RwF e.dw e.dv e.D j → ¬ S j) (h2 : ∀ j, e.G j → ¬ S j) : RlU W' r t e := { h with win := h.win.kp k h1, inb := h.inb.kp k h2 }
theorem RlC.kp {S : Nat → Prop} {W W' : World} {r : Nat} {t : Tk} {e : Dl} (h : RlC W r t e) (k : Kp S W W') (hs : ∀ j, RlF r t e j → ¬ S j) : RlC W' r t e :=
 { h with hat := k.at h.hat (hs r (.inl rfl)), up := fun u => (h.up u).kp k (fun j hj => hs j (.inr (.inr ⟨u, .inl hj⟩))) (fun j hj => hs j (.inr (.inr ⟨u, .inr hj⟩))), res := h.res.kp k (fun g hg => hs g (.inr (.inl hg))) }
theorem RlC.kp0 {W W' : World} {r : Nat} {t : Tk} {e : Dl} (h : RlC W r t e) (k : Kp (fun _ => False) W W') : RlC W' r t e := h.kp k (fun _ _ h => h)
theorem RlC.same {W : World} {r : Nat} {t t' : Tk} {e : Dl} (h : RlC W r t e) (e1 : t'.st = t.st) (e2 : t'.se = t.se) (e3 : t'.bo = t.bo) (e4 : t'.sz = t.sz) (e5 : t'.owed = t.owed) (e6 : t.st = 2 → t'.i.n = t.i.n ∧ t'.i.f = t.i.f ∧ t'.i.x.size = t.i.x.size ∧ t'.i.x.last = t.i.x.last ∧ t'.i.x.l = t.i.x.l ∧ t'.i.x.m = t.i.x.m ∧ t'.i.x.s = t.i.x.s ∧ t'.i.x.now = t.i.x.now) : RlC W r t' e := by
 refine { h with hat := by unfold rlC; rw [e1, e2, e3, e4, e5]; exact h.hat, up := fun u => ?_ }
 have u' : t.st = 2 := e1 ▸ u
 obtain ⟨q1, q2, q3, q4, q5, q6, q7, q8⟩ := e6 u'
 have hu := h.up u'
 exact { hu with win := hu.win.same q3 q4 q5 q6 q7 q8, inb := by rw [e4, q1, q2]; exact hu.inb, fn := by rw [q1, q2]; exact hu.fn, got := by rw [q1]; exact hu.got }
theorem rwithin_any (n : Int) (w : World) : Calls Tryz.prog 13 #[.int .i64 n] w fun e w' => e = .returned (.bool (decide (1 ≤ n ∧ n ≤ 2147483647))) ∧ w = w' := by
 by_cases h1 : 1 ≤ n <;> by_cases h2 : n ≤ 2147483647
 all_goals
  go_enter Tryz.func13, Tryz.ntmps13
  go_wp2
  go_ret
  exact ⟨by simp [h1, h2], rfl⟩
def dl0 (ag : Bool) : Dl := ⟨ag, false, .slice none 0 0, [], false, 0, 0, .pointer none, .pointer none, 0, .slice none 0 0, [], 0, .slice none 0 0, [], fun _ => False⟩
theorem rl_agent_bad (n z : Int) (w : World) (h : fitB n z = false) : Calls Tryz.prog 8 #[.int .i64 n, .int .i64 z] w fun e w' => e = .returned (.tuple #[.pointer none, .int .i64 2]) ∧ w = w' := by
 have C := rwithin_any n w
 by_cases hw : 1 ≤ n ∧ n ≤ 2147483647
 · rw [decide_eq_true hw] at C
   have C := Lib.hid C
   have hz : z < 1 ∨ 64 < z := by unfold fitB at h; simp [hw.1, hw.2] at h; omega
   by_cases h1 : z < 1
   · clear h hw hz
     go_enter Tryz.func8, Tryz.ntmps8
     go_wp2_with (go_at_call 13; refine C.out.mono ?_; rintro e w' ⟨rfl, rfl⟩)
     go_ret2
     exact ⟨rfl, rfl⟩
   · have h2 : z > 64 := by omega
     clear h hw hz
     go_enter Tryz.func8, Tryz.ntmps8
     go_wp2_with (go_at_call 13; refine C.out.mono ?_; rintro e w' ⟨rfl, rfl⟩)
     go_ret2
     exact ⟨rfl, rfl⟩
 · rw [decide_eq_false hw] at C
   have C := Lib.hid C
   clear h hw
   go_enter Tryz.func8, Tryz.ntmps8
   go_wp2_with (go_at_call 13; refine C.out.mono ?_; rintro e w' ⟨rfl, rfl⟩)
   go_ret2
   exact ⟨rfl, rfl⟩
theorem rl_agent_ok (n z : Nat) (w : World) (h : fitB n z = true) : Calls Tryz.prog 8 #[.int .i64 (n : Nat), .int .i64 (z : Nat)] w fun e w' => e = .returned (.tuple #[.pointer (some ⟨w.heap.size, 0, none⟩), .int .i64 0]) ∧ RlC w' w.heap.size (agT n z) (dl0 true) ∧ Kp (fun _ => False) w w' := by
 have C := rwithin_any n w
 have hf := fitB_yes h
 rw [decide_eq_true (show 1 ≤ (n : Int) ∧ (n : Int) ≤ 2147483647 by omega)] at C
 have C := Lib.hid C
 have h1 : ¬ (z : Int) < 1 := by omega
 have h2 : ¬ (z : Int) > 64 := by omega
 clear h hf
 go_enter Tryz.func8, Tryz.ntmps8
 go_wp2_with (go_at_call 13; refine C.out.mono ?_; rintro e w' ⟨rfl, rfl⟩)
 go_ret2
 exact ⟨rfl, ⟨At.new w (rlC (agT n z) (dl0 true)) _, fun e => absurd (show (1 : Nat) = 2 from e) (by decide), Own.nil _ 1, fun e => (by cases e), Nat.zero_le _⟩, (Kp.refl _ w).alloc _⟩
theorem rl_daemon_bad (n z : Int) (w : World) (h : fitB n z = false) : Calls Tryz.prog 6 #[.int .i64 n, .int .i64 z] w fun e w' => e = .returned (.tuple #[.pointer none, .int .i64 2]) ∧ w = w' := by
 have C := rwithin_any n w
 by_cases hw : 1 ≤ n ∧ n ≤ 2147483647
 · rw [decide_eq_true hw] at C
   have C := Lib.hid C
   have hz : z < 1 ∨ 64 < z := by unfold fitB at h; simp [hw.1, hw.2] at h; omega
   by_cases h1 : z < 1
   · clear h hw hz
     go_enter Tryz.func6, Tryz.ntmps6
     go_wp2_with (go_at_call 13; refine C.out.mono ?_; rintro e w' ⟨rfl, rfl⟩)
     go_ret2
     exact ⟨rfl, rfl⟩
   · have h2 : z > 64 := by omega
     clear h hw hz
     go_enter Tryz.func6, Tryz.ntmps6
     go_wp2_with (go_at_call 13; refine C.out.mono ?_; rintro e w' ⟨rfl, rfl⟩)
     go_ret2
     exact ⟨rfl, rfl⟩
 · rw [decide_eq_false hw] at C
   have C := Lib.hid C
   clear h hw
   go_enter Tryz.func6, Tryz.ntmps6
   go_wp2_with (go_at_call 13; refine C.out.mono ?_; rintro e w' ⟨rfl, rfl⟩)
   go_ret2
   exact ⟨rfl, rfl⟩
theorem rl_daemon_ok (n z : Nat) (w : World) (h : fitB n z = true) : Calls Tryz.prog 6 #[.int .i64 (n : Nat), .int .i64 (z : Nat)] w fun e w' => e = .returned (.tuple #[.pointer (some ⟨w.heap.size, 0, none⟩), .int .i64 0]) ∧ RlC w' w.heap.size (dmT n z) (dl0 false) ∧ Kp (fun _ => False) w w' := by
 have C := rwithin_any n w
 have hf := fitB_yes h
 rw [decide_eq_true (show 1 ≤ (n : Int) ∧ (n : Int) ≤ 2147483647 by omega)] at C
 have C := Lib.hid C
 have h1 : ¬ (z : Int) < 1 := by omega
 have h2 : ¬ (z : Int) > 64 := by omega
 clear h hf
 go_enter Tryz.func6, Tryz.ntmps6
 go_wp2_with (go_at_call 13; refine C.out.mono ?_; rintro e w' ⟨rfl, rfl⟩)
 go_ret2
 exact ⟨rfl, ⟨At.new w (rlC (dmT n z) (dl0 false)) _, fun e => absurd (show (3 : Nat) = 2 from e) (by decide), Own.nil _ 1, fun e => (by cases e), Nat.zero_le _⟩, (Kp.refl _ w).alloc _⟩
section
variable {W : World} {r : Nat} {t : Tk} {e : Dl}
theorem rlopen_no (h : RlC W r t e) (hst : ¬ t.st = 2) : Calls Tryz.prog 28 #[.pointer (some ⟨r, 0, none⟩)] W fun e w' => e = .returned (.int .i64 0) ∧ W = w' := by
 have c2 : W.cell? ⟨r, 2, none⟩ = some (.int .i64 t.st) := h.hat.cell 2
 have hn : ((t.st : Int) != 2) = true := by simp; omega
 generalize t.st = st at *
 clear h hst
 go_enter Tryz.func28, Tryz.ntmps28
 go_wp2
 go_ret
 exact ⟨rfl, rfl⟩
theorem rlopen_up (h : RlC W r t e) (hst : t.st = 2) : Calls Tryz.prog 28 #[.pointer (some ⟨r, 0, none⟩)] W fun e w' => e = .returned (.int .i64 t.i.x.l.length) ∧ W = w' := by
 have hu := h.up hst
 have c2 : W.cell? ⟨r, 2, none⟩ = some (.int .i64 t.st) := h.hat.cell 2
 have c5 : W.cell? ⟨r, 5, none⟩ = some e.wv := h.hat.cell 5
 rw [hst] at c2
 rw [hu.wv] at c5
 obtain ⟨a, c, ev⟩ := hu.win.sl.form
 rw [hu.win.len] at ev
 have d1 : W.cell? ⟨e.dw, 1, none⟩ = some e.dv := hu.win.hat.cell 1
 rw [ev] at d1
 generalize t.i.x.l.length = n at *
 generalize e.dw = dw at *
 clear h hu hst ev
 go_enter Tryz.func28, Tryz.ntmps28
 go_wp2
 go_ret
 exact ⟨rfl, rfl⟩
theorem rltold_no (h : RlC W r t e) (hst : ¬ t.st = 2) : Calls Tryz.prog 30 #[.pointer (some ⟨r, 0, none⟩)] W fun e w' => e = .returned (.int .i64 0) ∧ W = w' := by
 have c2 : W.cell? ⟨r, 2, none⟩ = some (.int .i64 t.st) := h.hat.cell 2
 have hn : ((t.st : Int) != 2) = true := by simp; omega
 generalize t.st = st at *
 clear h hst
 go_enter Tryz.func30, Tryz.ntmps30
 go_wp2
 go_ret
 exact ⟨rfl, rfl⟩
theorem rltold_up (h : RlC W r t e) (hst : t.st = 2) : Calls Tryz.prog 30 #[.pointer (some ⟨r, 0, none⟩)] W fun e w' => e = .returned (.int .i64 (t.i.n - 1 : Nat)) ∧ W = w' := by
 have hu := h.up hst
 have c2 : W.cell? ⟨r, 2, none⟩ = some (.int .i64 t.st) := h.hat.cell 2
 have c12 : W.cell? ⟨r, 12, none⟩ = some (.int .i64 e.got) := h.hat.cell 12
 rw [hst] at c2
 rw [show e.got = t.i.n - 1 by have := hu.got; omega] at c12
 generalize t.i.n - 1 = n at *
 clear h hu hst
 go_enter Tryz.func30, Tryz.ntmps30
 go_wp2
 go_ret
 exact ⟨rfl, rfl⟩
theorem rlsend_shut (h : RlC W r t e) (hst : ¬ t.st = 2) (a : Option Addr) (n c : Nat) : Calls Tryz.prog 16 #[.pointer (some ⟨r, 0, none⟩), .slice a n c] W fun e w' => e = .returned (.int .i64 9) ∧ W = w' := by
 have c2 : W.cell? ⟨r, 2, none⟩ = some (.int .i64 t.st) := h.hat.cell 2
 have hn : ((t.st : Int) != 2) = true := by simp; omega
 generalize t.st = st at *
 clear h hst
 go_enter Tryz.func16, Tryz.ntmps16
 go_wp2
 go_ret
 exact ⟨rfl, rfl⟩
theorem rlsend_long (h : RlC W r t e) (hst : t.st = 2) (a : Option Addr) (n c : Nat) (hn : (n : Int) > 1400) : Calls Tryz.prog 16 #[.pointer (some ⟨r, 0, none⟩), .slice a n c] W fun e w' => e = .returned (.int .i64 3) ∧ W = w' := by
 have c2 : W.cell? ⟨r, 2, none⟩ = some (.int .i64 t.st) := h.hat.cell 2
 rw [hst] at c2
 clear h hst
 go_enter Tryz.func16, Tryz.ntmps16
 go_wp2
 go_ret
 exact ⟨rfl, rfl⟩
theorem rlsend_full (h : RlC W r t e) (hst : t.st = 2) (a : Option Addr) (n c : Nat) (hn : ¬ (n : Int) > 1400) (hf : t.i.x.size ≤ t.i.x.l.length) (hb : t.i.x.l.length ≤ 64) : Calls Tryz.prog 16 #[.pointer (some ⟨r, 0, none⟩), .slice a n c] W fun e w' => e = .returned (.int .i64 8) ∧ Kp (fun _ => False) W w' := by
 have hu := h.up hst
 have c2 : W.cell? ⟨r, 2, none⟩ = some (.int .i64 t.st) := h.hat.cell 2
 have c5 : W.cell? ⟨r, 5, none⟩ = some e.wv := h.hat.cell 5
 rw [hst] at c2
 rw [hu.wv] at c5
 have CP := Lib.hid (rwpush_full hu.win hf hb a n c)
 generalize e.dw = dw at *
 clear h hu hst hf hb
 go_enter Tryz.func16, Tryz.ntmps16
 go_wp2_with (go_at_call 36; refine CP.out.mono ?_; rintro e w1 ⟨rfl, k1⟩; have K1 := Lib.hid k1; clear k1)
 go_ret
 exact ⟨rfl, K1.out⟩
theorem rlsend_ok (h : RlC W r t e) (hst : t.st = 2) (a : Option Addr) (n c : Nat) (l : List Int) (hn : n = l.length) (hr : RdB W a l) (hoff : l ≠ [] → ∀ y, a = some y → ¬ RlF r t e y.block) (hnb : n ≤ 1400) (hf : t.i.x.l.length < t.i.x.size) (hsz : t.i.x.size ≤ 64) (hla : t.i.x.last ≤ 1000000) :
 Calls Tryz.prog 16 #[.pointer (some ⟨r, 0, none⟩), .slice a n c] W fun e' w' => e' = .returned (.int .i64 0) ∧ ∃ v' d, (∀ p V', p.seq = t.i.x.last + 1 → p.body = l → p.times = 0 → RlC w' r (sendT t p V') { e with dv := v', D := e.D ++ [d] }) ∧
  (∀ k, RlF r t { e with dv := v', D := e.D ++ [d] } k → RlF r t e k ∨ W.heap.size ≤ k) ∧ Kp (RlF r t e) W w' := by
 have hu := h.up hst
 have c2 : W.cell? ⟨r, 2, none⟩ = some (.int .i64 t.st) := h.hat.cell 2
 have c5 : W.cell? ⟨r, 5, none⟩ = some e.wv := h.hat.cell 5
 rw [hst] at c2
 rw [hu.wv] at c5
 have CP := Lib.hid (rwpush_ok hu.win hf hsz hla a n c l hn hr (fun q y hy ey => hoff q y hy (.inr (.inr ⟨hst, .inl (.inl ey)⟩))) (by omega))
 have HH := Lib.hid (And.intro h hst)
 have j1 : ¬ (n : Int) > 1400 := by omega
 obtain ⟨dw, hdw⟩ : ∃ dw, dw = e.dw := ⟨_, rfl⟩
 rw [← hdw] at c5 CP
 have HDW := Lib.hid hdw
 clear h hu hst hf hsz hla hr hoff hn hdw
 go_enter Tryz.func16, Tryz.ntmps16
 go_wp2_with fail
 go_at_call 36
 refine CP.out.mono ?_
 rintro e' w1 ⟨rfl, v', d, q1, q2, q3, q7, q8, q4, q5, q6⟩
 have HQ := Lib.hid (And.intro q1 (And.intro q2 (And.intro q3 (And.intro q4 (And.intro q5 (And.intro q6 (And.intro q7 q8)))))))
 clear q1 q2 q3 q4 q5 q6 q7 q8
 go_wp2_with fail
 go_ret
 obtain ⟨q1, q2, q3, q4, q5, q6, q7, q8⟩ := HQ.out
 obtain ⟨h, hst⟩ := HH.out
 have hu := h.up hst
 rw [HDW.out] at q4 q5 q6
 have hd : RwF e.dw e.dv e.D e.dw := .inl rfl
 have nr : ¬ r = e.dw := fun ee => hu.oW (ee ▸ hd)
 have hnew : ∀ k, RwF e.dw v' (e.D ++ [d]) k → ∀ S : Nat → Prop, (∀ j, RwF e.dw e.dv e.D j → ¬ S j) → (∀ j, S j → j < W.heap.size) → ¬ S k := fun k hk S h1 h2 hs => (q5 k hk).elim (fun ee => h1 k ee hs) (fun ee => by have := h2 k hs; omega)
 have hGl : ∀ j, e.G j → j < W.heap.size := fun j hj => hu.inb.lt j hj
 refine ⟨rfl, v', d, fun p V' p1 p2 p3 => ?_, fun k hk => ?_, q6.mono (fun i _ ee => by have ee : i = e.dw := ee; exact .inr (.inr ⟨hst, .inl (.inl ee)⟩))⟩
 · refine ⟨q6.at h.hat nr, fun _ => ⟨hu.wv, hu.xv, q4 _ rfl rfl rfl rfl rfl ⟨p, rfl, p1, p2, p3⟩, fun i hi => ?_, hu.inb.kp q6 (fun j hj ee => hu.ap j (.inl ee) hj), hu.fn, hu.got, fun hk => hnew r hk (· = r) (fun j hj ej => hu.oW (ej ▸ hj)) (fun j ej => by have ej : j = r := ej; have := h.hat.lt; omega) rfl, hu.oX, fun k hk hG => hnew k hk e.G hu.ap hGl hG, fun g hg => ⟨fun hk => hnew g hk (fun j => e.rv.ownBlock = some j) (fun j hj ej => (hu.rW j ej).1 hj) (fun j ej => h.res.lt j ej) hg, (hu.rW g hg).2⟩⟩, h.res.kp q6 (fun g hg ee => (hu.rW g hg).1 (.inl ee)), h.rr, h.rl⟩
   rw [List.length_append, List.length_singleton] at hi
   by_cases hi' : i < e.D.length
   · have := hu.wt i hi'
     rw [show dr (e.D ++ [d]) i = dr e.D i by unfold dr; rw [List.getD_eq_getElem?_getD, List.getElem?_append_left hi', List.getD_eq_getElem?_getD]]
     exact this
   · rw [show dr (e.D ++ [d]) i = d by unfold dr; rw [List.getD_eq_getElem?_getD, List.getElem?_append_right (by omega), show i - e.D.length = 0 by omega]; rfl, q7, q8]
     omega
 · rcases hk with hk | hk | ⟨_, hk | hk⟩
   · exact .inl (.inl hk)
   · exact .inl (.inr (.inl hk))
   · exact (q5 k hk).imp_left (fun ee => .inr (.inr ⟨hst, .inl ee⟩))
   · exact .inl (.inr (.inr ⟨hst, .inr hk⟩))
end
structure Ke (e e' : Dl) : Prop where
 ag : e'.ag = e.ag
 hello : e'.hello = e.hello
 rv : e'.rv = e.rv
 rs : e'.rs = e.rs
 asked : e'.asked = e.asked
 at_ : e'.at_ = e.at_
section
variable {W : World} {r : Nat} {t : Tk} {e : Dl}
theorem RlC.put {W' : World} {t' : Tk} {e' : Dl} (h : RlC W r t e) (k : Kp (· = r) W W') (hat : At W' r (rlC t' e')) (h2 : t'.st = 2 → t.st = 2) (hi : t'.i = t.i) (hsz : t'.sz = t.sz)
 (hee : ∃ ag hello asked at_, e' = { e with ag := ag, hello := hello, asked := asked, at_ := at_ }) : RlC W' r t' e' := by
 obtain ⟨ag, hello, asked, at_, rfl⟩ := hee
 refine ⟨hat, fun u => ?_, h.res.kp k (fun g hg eg => h.rr (by have eg : g = r := eg; exact eg ▸ hg)), h.rr, h.rl⟩
 have hu := h.up (h2 u)
 refine ⟨hu.wv, hu.xv, by rw [hi]; exact hu.win.kp k (fun g hg eg => hu.oW (by have eg : g = r := eg; exact eg ▸ hg)), hu.wt, by rw [hi, hsz]; exact hu.inb.kp k (fun g hg eg => hu.oX (by have eg : g = r := eg; exact eg ▸ hg)), by rw [hi]; exact hu.fn, by rw [hi]; exact hu.got, hu.oW, hu.oX, hu.ap, hu.rW⟩
theorem RlC.lt (h : RlC W r t e) {k : Nat} (hk : RlF r t e k) : k < W.heap.size := by
 rcases hk with rfl | hk | ⟨u, hk | hk⟩
 · exact h.hat.lt
 · exact h.res.lt k hk
 · exact (h.up u).win.lt k hk
 · exact (h.up u).inb.lt k hk
set_option maxHeartbeats 1000000 in
theorem rlup_any (h : RlC W r t e) (hz : 1 ≤ t.sz ∧ t.sz ≤ 64) :
 Calls Tryz.prog 67 #[.pointer (some ⟨r, 0, none⟩)] W fun e1 w' => e1 = .returned (.tuple #[]) ∧ ∃ e', Ke e e' ∧ (∀ g b, RlC w' r (upT t g b) e') ∧ (∀ t', ∀ k, RlF r t' e' k → RlF r t e k ∨ W.heap.size ≤ k) ∧ Kp (· = r) W w' := by
 have c2 : W.cell? ⟨r, 2, none⟩ = some (.int .i64 t.st) := h.hat.cell 2
 have f2 := h.hat.frozen 2
 have H := Lib.hid h
 clear h
 go_enter Tryz.func67, Tryz.ntmps67
 go_upto_region 1 with fail
 have hat1 : At (W.setCell ⟨r, 2, none⟩ (.int .i64 2)) r ((rlC t e).set 2 (.int .i64 2)) := H.out.hat.set 2 _
 have k1 : Kp (fun k => k = r) W (W.setCell ⟨r, 2, none⟩ (.int .i64 2)) := Kp.setCell (S := fun k => k = r) (Kp.refl _ W) (p := ⟨r, 2, none⟩) (fun _ => rfl) _
 obtain ⟨w1, hw1⟩ : ∃ w1, w1 = W.setCell ⟨r, 2, none⟩ (.int .i64 2) := ⟨_, rfl⟩
 rw [← hw1] at hat1 k1 ⊢
 have hs1 : W.heap.size = w1.heap.size := by rw [hw1]; simp [World.setCell]
 clear hw1 c2 f2
 have d1 : w1.cell? ⟨r, 1, none⟩ = some (.int .i64 t.sz) := hat1.cell 1
 have CW := Lib.hid (rwnew_ok t.sz w1 hz)
 have H1 := Lib.hid (And.intro hat1 (And.intro k1 (And.intro hz hs1)))
 clear hat1 k1 hz hs1
 go_wp2_with fail
 refine CW.out.mono ?_
 rintro e1 w2 ⟨rfl, hw, k2⟩
 obtain ⟨g, hg⟩ : ∃ g, g = w1.heap.size := ⟨_, rfl⟩
 rw [← hg] at hw ⊢
 have hat2 := k2.at H1.out.1 (fun h => h)
 have f5 := hat2.frozen 5
 have d5 : w2.cell? ⟨r, 5, none⟩ = some e.wv := hat2.cell 5
 have H2 := Lib.hid (And.intro hw (And.intro k2 (And.intro hat2 hg)))
 clear hw k2 hat2 hg CW d1
 go_upto_region 2 with fail
 have hat3 : At (w2.setCell ⟨r, 5, none⟩ (.pointer (some ⟨g, 0, none⟩))) r (((rlC t e).set 2 (.int .i64 2)).set 5 (.pointer (some ⟨g, 0, none⟩))) := H2.out.2.2.1.set 5 _
 have k3 : Kp (fun k => k = r) w2 (w2.setCell ⟨r, 5, none⟩ (.pointer (some ⟨g, 0, none⟩))) := Kp.setCell (S := fun k => k = r) (Kp.refl _ w2) (p := ⟨r, 5, none⟩) (fun _ => rfl) _
 obtain ⟨w3, hw3⟩ : ∃ w3, w3 = w2.setCell ⟨r, 5, none⟩ (.pointer (some ⟨g, 0, none⟩)) := ⟨_, rfl⟩
 rw [← hw3] at hat3 k3 ⊢
 clear hw3 d5 f5
 have d1 : w3.cell? ⟨r, 1, none⟩ = some (.int .i64 t.sz) := hat3.cell 1
 have CX := Lib.hid (rnew_ok t.sz w3 H1.out.2.2.1)
 have H3 := Lib.hid (And.intro hat3 k3)
 clear hat3 k3
 go_wp2_with fail
 refine CX.out.mono ?_
 rintro e1 w4 ⟨rfl, hx, k4⟩
 obtain ⟨b, hb⟩ : ∃ b, b = w3.heap.size := ⟨_, rfl⟩
 rw [← hb] at hx ⊢
 have hat4 := k4.at H3.out.1 (fun h => h)
 have f6 := hat4.frozen 6
 have d6 : w4.cell? ⟨r, 6, none⟩ = some e.xv := hat4.cell 6
 have H4 := Lib.hid (And.intro hx (And.intro k4 (And.intro hat4 hb)))
 clear hx k4 hat4 hb CX d1
 go_upto_region 3 with fail
 have hat5 : At (w4.setCell ⟨r, 6, none⟩ (.pointer (some ⟨b, 0, none⟩))) r ((((rlC t e).set 2 (.int .i64 2)).set 5 (.pointer (some ⟨g, 0, none⟩))).set 6 (.pointer (some ⟨b, 0, none⟩))) := H4.out.2.2.1.set 6 _
 have k5 : Kp (fun k => k = r) w4 (w4.setCell ⟨r, 6, none⟩ (.pointer (some ⟨b, 0, none⟩))) := Kp.setCell (S := fun k => k = r) (Kp.refl _ w4) (p := ⟨r, 6, none⟩) (fun _ => rfl) _
 obtain ⟨w5, hw5⟩ : ∃ w5, w5 = w4.setCell ⟨r, 6, none⟩ (.pointer (some ⟨b, 0, none⟩)) := ⟨_, rfl⟩
 rw [← hw5] at hat5 k5 ⊢
 clear hw5 d6 f6
 have f7 := hat5.frozen 7
 have f12 := hat5.frozen 12
 have d7 : w5.cell? ⟨r, 7, none⟩ = some (.bool t.owed) := hat5.cell 7
 have d12 : w5.cell? ⟨r, 12, none⟩ = some (.int .i64 e.got) := hat5.cell 12
 have H5 := Lib.hid (And.intro hat5 k5)
 clear hat5 k5
 go_wp2_with fail
 go_end0
 have hat6 := (H5.out.1.set 7 (.bool false)).set 12 (.int .i64 0)
 have k6 : Kp (fun k => k = r) w5 ((w5.setCell ⟨r, 7, none⟩ (.bool false)).setCell ⟨r, 12, none⟩ (.int .i64 0)) := Kp.setCell (S := fun k => k = r) (Kp.setCell (S := fun k => k = r) (Kp.refl _ w5) (p := ⟨r, 7, none⟩) (fun _ => rfl) _) (p := ⟨r, 12, none⟩) (fun _ => rfl) _
 obtain ⟨hat1, k1, hz, hs1⟩ := H1.out
 obtain ⟨hw, k2, hat2, hg⟩ := H2.out
 obtain ⟨hat3, k3⟩ := H3.out
 obtain ⟨hx, k4, hat4, hb⟩ := H4.out
 obtain ⟨hat5, k5⟩ := H5.out
 have h := H.out
 have hr := hat1.lt
 have hg2 := hw.hat.lt
 have s3 := k3.size
 have k26 : Kp (fun k => k = r) w2 ((w5.setCell ⟨r, 7, none⟩ (.bool false)).setCell ⟨r, 12, none⟩ (.int .i64 0)) := ((k3.trans (k4.mono (fun _ _ h => h.elim))).trans k5).trans k6
 have k46 := k5.trans k6
 have k06 : Kp (fun k => k = r) W ((w5.setCell ⟨r, 7, none⟩ (.bool false)).setCell ⟨r, 12, none⟩ (.int .i64 0)) := (k1.trans (k2.mono (fun _ _ h => h.elim))).trans k26
 have hF : ∀ k, RwF g (.slice none 0 0) [] k → k = g := fun k hk => by
  rcases hk with hk | hk | ⟨i, hi, _⟩
  · exact hk
  · cases hk
  · cases hi
 have hrv : ∀ k, e.rv.ownBlock = some k → k < w1.heap.size := fun k hk => by have := h.res.lt k hk; omega
 refine ⟨rfl, ⟨e.ag, e.hello, e.rv, e.rs, e.asked, e.at_, 0, .pointer (some ⟨g, 0, none⟩), .pointer (some ⟨b, 0, none⟩), g, .slice none 0 0, [], b, .slice none 0 0, [], fun k => k = b⟩, ⟨rfl, rfl, rfl, rfl, rfl, rfl⟩, fun g' b' => ⟨hat6, fun _ => ⟨rfl, rfl, hw.kp k26 (fun k hk ek => ?_), fun i hi => absurd hi (Nat.not_lt_zero _), hx.kp k46 (fun k hk ek => ?_), rfl, rfl, fun hk => ?_, fun hk => ?_, fun k hk ek => ?_, fun k hk => ⟨fun ek => ?_, fun ek => ?_⟩⟩, h.res.kp k06 (fun k hk ek => h.rr (by have ek : k = r := ek; exact ek ▸ hk)), h.rr, h.rl⟩, fun t' k hk => ?_, k06⟩
 · have := hF k hk; have ek : k = r := ek; omega
 · have hk : k = b := hk; have ek : k = r := ek; omega
 · have := hF r hk; omega
 · have hk : r = b := hk; omega
 · have := hF k hk; have ek : k = b := ek; omega
 · have := hF k ek; have := hrv k hk; omega
 · have := hrv k hk; have ek : k = b := ek; omega
 · rcases hk with hk | hk | ⟨_, hk | hk⟩
   · exact .inl (.inl hk)
   · exact .inl (.inr (.inl hk))
   · have := hF k hk; exact .inr (by omega)
   · have hk : k = b := hk; exact .inr (by omega)
theorem rlown_any (h : RlC W r t e) (f : Fr) (a : Option Addr) (c : Nat) :
 Calls Tryz.prog 68 #[.pointer (some ⟨r, 0, none⟩), .agg (frA f a c)] W fun e1 w' => e1 = .returned (.bool (decide (t.st = 2 ∧ f.se = t.se ∧ f.bo = t.bo))) ∧ Kp (fun _ => False) W w' := by
 obtain ⟨bx, w1, hbx, hw1, k1, ab⟩ := frame_box f a c W
 have hat1 := k1.at h.hat (fun h => h)
 have c2 : w1.cell? ⟨r, 2, none⟩ = some (.int .i64 t.st) := hat1.cell 2
 have c3 : w1.cell? ⟨r, 3, none⟩ = some (.int .i64 t.se) := hat1.cell 3
 have c4 : w1.cell? ⟨r, 4, none⟩ = some (.int .i64 t.bo) := hat1.cell 4
 have b1 : w1.cell? ⟨bx, 1, none⟩ = some (.int .i64 f.se) := ab.cell 1
 have b2 : w1.cell? ⟨bx, 2, none⟩ = some (.int .i64 f.bo) := ab.cell 2
 have K1 := Lib.hid k1
 obtain ⟨ty, se, bo, sq, ac, bd⟩ := f
 dsimp only [frA] at *
 generalize bd.length = nb at *
 generalize hx2 : decide (t.st = 2 ∧ se = (t.se : Int) ∧ bo = (t.bo : Int)) = x2
 have HX := Lib.hid hx2
 generalize t.st = st at *
 generalize t.se = tse at *
 generalize t.bo = tbo at *
 clear h hat1 ab k1 hx2
 by_cases h1 : (st : Int) = 2
 · have j1 : ((st : Int) == 2) = true := by simpa using h1
   by_cases h2 : se = (tse : Int)
   · have j2 : (se == (tse : Int)) = true := by simpa using h2
     have HH := Lib.hid (And.intro h1 h2)
     by_cases h3 : bo = (tbo : Int)
     · have j3 : (bo == (tbo : Int)) = true := by simpa using h3
       have HH3 := Lib.hid h3
       clear h1 h2 h3
       go_enter Tryz.func68, Tryz.ntmps68
       go_upto_region 1 with fail
       rw [← hbx, ← hw1]
       clear hbx hw1
       go_quiet (fail)
       go_wp2_with fail
       go_ret
       exact ⟨ret_bool ((decide_eq_true ⟨by have := HH.out.1; omega, HH.out.2, HH3.out⟩).symm.trans HX.out), K1.out.drewN _⟩
     · have j3 : (bo == (tbo : Int)) = false := by simpa using h3
       have HH3 := Lib.hid h3
       clear h1 h2 h3
       go_enter Tryz.func68, Tryz.ntmps68
       go_upto_region 1 with fail
       rw [← hbx, ← hw1]
       clear hbx hw1
       go_quiet (fail)
       go_wp2_with fail
       go_ret
       exact ⟨ret_bool ((decide_eq_false (fun hh => HH3.out hh.2.2)).symm.trans HX.out), K1.out.drewN _⟩
   · have j2 : (se == (tse : Int)) = false := by simpa using h2
     have HH2 := Lib.hid h2
     clear h1 h2
     go_enter Tryz.func68, Tryz.ntmps68
     go_upto_region 1 with fail
     rw [← hbx, ← hw1]
     clear hbx hw1
     go_quiet (fail)
     go_wp2_with fail
     go_ret
     exact ⟨ret_bool ((decide_eq_false (fun hh => HH2.out hh.2.1)).symm.trans HX.out), K1.out.drewN _⟩
 · have j1 : ((st : Int) == 2) = false := by simpa using h1
   have HH1 := Lib.hid h1
   clear h1
   go_enter Tryz.func68, Tryz.ntmps68
   go_upto_region 1 with fail
   rw [← hbx, ← hw1]
   clear hbx hw1
   go_quiet (fail)
   go_wp2_with fail
   go_ret
   exact ⟨ret_bool ((decide_eq_false (fun hh => HH1.out (by have := hh.1; omega))).symm.trans HX.out), K1.out.drewN _⟩
end
end Go.Proofs.YtokembhfebnjpaaGreat
