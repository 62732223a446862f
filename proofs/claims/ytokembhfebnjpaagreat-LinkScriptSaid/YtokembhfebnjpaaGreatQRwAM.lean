/- The document's window: Ack. (Written by wip/rwack.py.) -/
import Derived.Test.YtokembhfebnjpaaGreatQRwCM
import Derived.Test.YtokembhfebnjpaaGreatQLnOM
namespace Go.Proofs.YtokembhfebnjpaaGreat
set_option maxRecDepth 20000
open Go.RowKit Flt
set_option linter.unusedVariables false
set_option linter.unusedSimpArgs false
theorem dr_drop (D : List Dr) (k i : Nat) : dr (D.drop k) i = dr D (k + i) := by
 unfold dr; rw [List.getD_eq_getElem?_getD, List.getElem?_drop, List.getD_eq_getElem?_getD]
structure Wf (x : Wn) : Prop where
 ms : Ms x.m x.s
 seqs : ∀ i, i < x.l.length → (pk x.l i).seq + x.l.length = x.last + i + 1
 att : ∀ i, i < x.l.length → (pk x.l i).att ≤ x.now
 now : x.now ≤ 2147483647
 len : x.l.length ≤ 64
 last : x.last ≤ 1000000
section
variable {w : World} {b : Nat} {x : Wn} {v : Value} {D : List Dr}
theorem rwack_bad (h : RwC w b x v D) (n now : Int) (hb : ackB x n now = false) (hnow : x.now ≤ 2147483647) :
 Calls Tryz.prog 78 #[.pointer (some ⟨b, 0, none⟩), .int .i64 n, .int .i64 now] w fun e w' => e = .returned (.tuple #[.int .i64 0, .int .i64 5]) ∧ RwC w' b x v D ∧ Kp (· = b) w w' := by
 have c2 : w.cell? ⟨b, 2, none⟩ = some (.int .i64 x.last) := h.hat.cell 2
 by_cases h1 : n < 0
 · have hd : decide (n < 0) = true := decide_eq_true h1
   have H := Lib.hid h
   clear h hb
   go_enter Tryz.func78, Tryz.ntmps78
   go_wp2_with fail
   go_ret2
   exact ⟨rfl, H.out, Kp.refl _ _⟩
 · have hd : decide (n < 0) = false := decide_eq_false h1
   obtain ⟨la, hla⟩ : ∃ la, la = x.last := ⟨_, rfl⟩
   rw [← hla] at c2
   by_cases h2 : n > (la : Int)
   · have hd2 : decide ((la : Int) < n) = true := decide_eq_true h2
     have H := Lib.hid h
     clear h hb hla
     go_enter Tryz.func78, Tryz.ntmps78
     go_wp2_with fail
     go_ret2
     exact ⟨rfl, H.out, Kp.refl _ _⟩
   · have hd2 : decide ((la : Int) < n) = false := decide_eq_false h2
     have ht : timeB now = false := by
      unfold ackB at hb
      rw [decide_eq_true (by omega), decide_eq_true (by omega)] at hb
      simpa using hb
     have CT := rwtime_any h hnow now
     rw [ht] at CT
     have CT := Lib.hid CT
     clear h hb hla ht
     go_enter Tryz.func78, Tryz.ntmps78
     go_wp2_with fail
     go_at_call 54
     refine CT.out.mono ?_
     rintro e w1 ⟨rfl, h1, k1⟩
     have H1 := Lib.hid (And.intro h1 k1)
     clear h1 k1
     go_wp2_with fail
     go_ret2
     exact ⟨rfl, H1.out.1, H1.out.2⟩
theorem RwC.pop {w' : World} {T k m' s' : Nat} (h : RwC w b (ackL x k T x.V) v (D.drop k)) (hk : k < D.length) {v' : Value} (hat : At w' b [.int .i64 x.size, v', .int .i64 x.last, .float .f64 m', .float .f64 s', .int .i64 T])
 (hm : m' = (msAck T (x.m, x.s) (x.l.take (k + 1))).1) (hs : s' = (msAck T (x.m, x.s) (x.l.take (k + 1))).2) (hsl : Sl w' v' (D.drop (k + 1))) (hv : ∀ g, SlB v' g → SlB v g) (kp : Kp (· = b) w w') : RwC w' b (ackL x (k + 1) T x.V) v' (D.drop (k + 1)) := by
 have hlen : (D.drop k).length = D.length - k := List.length_drop ..
 have hl1 : (D.drop (k + 1)).length = D.length - (k + 1) := List.length_drop ..
 have hdr : ∀ i, dr (D.drop (k + 1)) i = dr (D.drop k) (i + 1) := fun i => by rw [dr_drop, dr_drop]; congr 1; omega
 refine ⟨by rw [hm, hs] at hat; exact hat, hsl, ?_, fun i hi => ?_, fun i hi => ?_, fun e => h.vb (hv b e), fun i hi e => ?_, fun i g hi e e' => ?_⟩
 · have := h.len
   show (D.drop (k + 1)).length = (x.l.drop (k + 1)).length
   have e : (D.drop k).length = (x.l.drop k).length := this
   rw [List.length_drop, List.length_drop] at e ⊢
   omega
 · rw [hl1] at hi
   have := h.sm (i + 1) (by omega)
   rw [hdr]
   have e : pk (ackL x k T x.V).l (i + 1) = pk (ackL x (k + 1) T x.V).l i := by
    show pk (x.l.drop k) (i + 1) = pk (x.l.drop (k + 1)) i
    rw [pk_drop, pk_drop]; congr 1; omega
   rwa [e] at this
 · rw [hl1] at hi
   rw [hdr]
   exact (h.bod (i + 1) (by omega)).kp kp (fun g hg e => h.bb (i + 1) (by omega) (by have e : g = b := e; exact e ▸ hg))
 · rw [hl1] at hi; rw [hdr] at e; exact h.bb (i + 1) (by omega) e
 · rw [hl1] at hi; rw [hdr] at e; exact h.bv (i + 1) g (by omega) e (hv g e')
set_option maxHeartbeats 8000000 in
theorem rwack_ok (h : RwC w b x v D) (hx : Wf x) (n now : Nat) (hn : n ≤ x.last) (ht : now ≤ 2147483647) :
 Calls Tryz.prog 78 #[.pointer (some ⟨b, 0, none⟩), .int .i64 (n : Nat), .int .i64 (now : Nat)] w fun e w' => e = .returned (.tuple #[.int .i64 (goneN x n : Nat), .int .i64 0]) ∧ ∃ v', RwC w' b (ackL x (goneN x n) (max x.now now) x.V) v' (D.drop (goneN x n)) ∧ (∀ k, RwF b v' (D.drop (goneN x n)) k → RwF b v D k) ∧ Kp (· = b) w w' := by
 obtain ⟨G, hG⟩ : ∃ G, G = goneN x n := ⟨_, rfl⟩
 obtain ⟨T, hT⟩ : ∃ T, T = max x.now now := ⟨_, rfl⟩
 have hTb : T ≤ 2147483647 := by have := hx.now; omega
 have hlen := h.len
 have hGl : G ≤ D.length := by have := hx.seqs; unfold goneN at hG; omega
 have hDl : D.length ≤ 64 := by have := hx.len; omega
 have CT := rwtime_any h hx.now (now : Int)
 rw [timeN ht, if_pos rfl] at CT
 rw [show ((now : Int)).toNat = now from rfl, ← hT] at CT
 have CT := Lib.hid CT
 have c2 : w.cell? ⟨b, 2, none⟩ = some (.int .i64 x.last) := h.hat.cell 2
 rw [← hG, ← hT]
 have HH := Lib.hid (And.intro h (And.intro hx (And.intro hG hT)))
 obtain ⟨la, hla⟩ : ∃ la, la = x.last := ⟨_, rfl⟩
 rw [← hla] at c2
 have HLA := Lib.hid hla
 have hb1 : decide ((n : Int) < 0) = false := decide_eq_false (by omega)
 have hb2 : decide ((la : Int) < (n : Int)) = false := decide_eq_false (by omega)
 have hb3 : decide (la < n) = false := decide_eq_false (by omega)
 clear h hx hG hT hla hlen hn ht
 go_enter Tryz.func78, Tryz.ntmps78
 go_wp2_with fail
 go_at_call 54
 refine CT.out.mono ?_
 rintro e w0 ⟨rfl, h0, k0⟩
 have H0 := Lib.hid (And.intro h0 k0)
 clear h0 k0 CT c2
 go_wp2_with fail
 go_loopw [8] (fun gv wr => ∃ (k : Nat) (v' : Value), k ≤ G ∧ gv = .int .i64 k ∧ RwC wr b (ackL x k T x.V) v' (D.drop k) ∧ (∀ g, SlB v' g → SlB v g) ∧ Kp (· = b) w wr) (fun gv _ => G - (intOf gv).toNat)
 case atStart => exact ⟨0, v, by omega, rfl, H0.out.1.same rfl rfl rfl rfl rfl rfl, fun _ h => h, H0.out.2⟩
 case round =>
  obtain ⟨k, vk, hk, rfl, hw, hv, hkp⟩ := hrel
  by_cases hlt : k < G
  · have hkl : k < D.length := by omega
    have hsl := hw.sl
    rcases hsl with ⟨e0, _⟩ | ⟨g, pre, post, c, rfl, hat, hc1, hc2⟩
    · exfalso
      have := congrArg List.length e0
      rw [List.length_drop] at this
      simp at this
      omega
    obtain ⟨off, hoff⟩ : ∃ off, off = pre.length := ⟨_, rfl⟩
    obtain ⟨m, hm⟩ : ∃ m, m = (D.drop k).length := ⟨_, rfl⟩
    have hm1 : 1 ≤ m := by rw [hm, List.length_drop]; omega
    have hm64 : m ≤ 64 := by rw [hm, List.length_drop]; omega
    obtain ⟨d, hd⟩ : ∃ d, d = dr D k := ⟨_, rfl⟩
    have hcell : ∀ j, j < 5 → wr.cell? ⟨g, off + j, none⟩ = (drC d)[j]? := fun j hj => by
     rw [hat.cell, hoff, List.append_assoc, List.getElem?_append_right (by omega), Nat.add_sub_cancel_left, List.getElem?_append_left (by rw [dsC_len, ← hm]; omega)]
     have := dsC_get (D.drop k) 0 (by omega) j hj
     rw [Nat.zero_mul, Nat.zero_add] at this
     rw [this, dr_drop, Nat.add_zero, hd]
    have q0 : wr.cell? ⟨g, off, none⟩ = some (.int .i64 d.seq) := hcell 0 (by omega)
    have q1 : wr.cell? ⟨g, off + 1, none⟩ = some d.B := hcell 1 (by omega)
    have q2 : wr.cell? ⟨g, off + 2, none⟩ = some (.int .i64 d.times) := hcell 2 (by omega)
    have q3 : wr.cell? ⟨g, off + 3, none⟩ = some (.int .i64 d.att) := hcell 3 (by omega)
    have q4 : wr.cell? ⟨g, off + 4, none⟩ = some (.int .i64 d.wt) := hcell 4 (by omega)
    rw [← hoff, ← hm] at hw hv
    have hsm := hw.sm 0 (by rw [← hm]; omega)
    rw [dr_drop, Nat.add_zero, ← hd] at hsm
    have hpk : pk (ackL x k T x.V).l 0 = pk x.l k := by show pk (x.l.drop k) 0 = _; rw [pk_drop, Nat.add_zero]
    rw [hpk] at hsm
    have hlen := HH.out.1.len
    have hsq := HH.out.2.1.seqs k (by omega)
    have i1 : (d.seq : Int) ≤ n := by
     have h1 := HH.out.2.2.1
     have h2 := hsm.seq
     have h3 := HLA.out
     unfold goneN at h1
     omega
    have c1 : wr.cell? ⟨b, 1, none⟩ = some (.slice (some ⟨g, off, none⟩) m c) := hw.hat.cell 1
    have c3 : wr.cell? ⟨b, 3, none⟩ = some (.float .f64 (msAck T (x.m, x.s) (x.l.take k)).1) := hw.hat.cell 3
    have c4 : wr.cell? ⟨b, 4, none⟩ = some (.float .f64 (msAck T (x.m, x.s) (x.l.take k)).2) := hw.hat.cell 4
    have c5 : wr.cell? ⟨b, 5, none⟩ = some (.int .i64 T) := hw.hat.cell 5
    have hmc : m ≤ c := by rw [hm]; exact hc1
    have HK := Lib.hid (And.intro hw (And.intro hv (And.intro hkp (And.intro hat (And.intro hoff (And.intro hm (And.intro hsm (And.intro hkl hc2))))))))
    have HDD := Lib.hid hd
    clear hw hv hkp hat hoff hm hsm hcell hpk hsq hd hlen hc1 hkl
    obtain ⟨sq, hsq⟩ : ∃ z, z = d.seq := ⟨_, rfl⟩
    obtain ⟨dB, hdB⟩ : ∃ z, z = d.B := ⟨_, rfl⟩
    obtain ⟨tm, htm⟩ : ∃ z, z = d.times := ⟨_, rfl⟩
    obtain ⟨at_, hat_⟩ : ∃ z, z = d.att := ⟨_, rfl⟩
    obtain ⟨wt, hwt⟩ : ∃ z, z = d.wt := ⟨_, rfl⟩
    obtain ⟨me, hme⟩ : ∃ me, me = (msAck T (x.m, x.s) (x.l.take k)).1 := ⟨_, rfl⟩
    obtain ⟨sp, hsp⟩ : ∃ sp, sp = (msAck T (x.m, x.s) (x.l.take k)).2 := ⟨_, rfl⟩
    rw [← hsq] at q0 i1
    rw [← hdB] at q1
    rw [← htm] at q2
    rw [← hat_] at q3
    rw [← hwt] at q4
    rw [← hme] at c3
    rw [← hsp] at c4
    have HD := Lib.hid (And.intro hsq (And.intro hdB (And.intro htm (And.intro hat_ (And.intro hwt (And.intro hme hsp))))))
    obtain ⟨ba, bn, bc, eB⟩ : ∃ a n c, dB = .slice a n c := by
     obtain ⟨a, c', e, _⟩ := (HK.out.1.bod 0 (by have := HK.out.2.2.2.2.2.1; omega)).form
     rw [dr_drop, Nat.add_zero, ← HDD.out, ← hdB] at e
     exact ⟨a, _, c', e⟩
    subst eB
    clear hsq hdB htm hat_ hwt hme hsp
    go_upto_region 6 with fail
    obtain ⟨pb, hpb⟩ : ∃ pb, pb = wr.heap.size := ⟨_, rfl⟩
    obtain ⟨w6, hw6⟩ : ∃ w6, w6 = wr.alloc (.cells #[.int .i64 sq, .slice ba bn bc, .int .i64 tm, .int .i64 at_, .int .i64 wt] 102) := ⟨_, rfl⟩
    have hrow : At w6 pb [.int .i64 sq, .slice ba bn bc, .int .i64 tm, .int .i64 at_, .int .i64 wt] := by rw [hw6, hpb]; exact At.new wr _ _
    have k6 : Kp (fun _ => False) wr w6 := by rw [hw6]; exact (Kp.refl _ wr).alloc _
    rw [← hw6, ← hpb]
    have p2 : w6.cell? ⟨pb, 2, none⟩ = some (.int .i64 tm) := hrow.cell 2
    have p3 : w6.cell? ⟨pb, 3, none⟩ = some (.int .i64 at_) := hrow.cell 3
    have c1 := k6.cell c1 (fun h => h)
    have c3 := k6.cell c3 (fun h => h)
    have c4 := k6.cell c4 (fun h => h)
    have c5 := k6.cell c5 (fun h => h)
    have hat6 := k6.at HK.out.1.hat (fun h => h)
    have H6 := Lib.hid (And.intro hat6 k6)
    clear hw6 hpb hrow k6 hat6 q0 q1 q2 q3 q4
    by_cases hc1 : c = 1
    · have hm1' : m = 1 := by omega
      subst hm1'
      subst hc1
      obtain ⟨VN, hVN⟩ : ∃ VN, VN = Value.slice (some ⟨g, off, none⟩) 0 0 := ⟨_, rfl⟩
      have hvo : ∀ gg, SlB VN gg → SlB v gg := fun gg hg => HK.out.2.1 gg (by rw [hVN] at hg; exact hg)
      have hdn : D.drop (k + 1) = [] := List.eq_nil_of_length_eq_zero (by have := HK.out.2.2.2.2.2.1; rw [List.length_drop] at this ⊢; omega)
      have hslN : ∀ w' : World, Kp (fun j => j = b) wr w' → Sl w' VN (D.drop (k + 1)) := fun w' j => by
       rw [hdn]
       exact .inl ⟨rfl, _, _, hVN, fun y hy => by cases hy; exact Nat.lt_of_lt_of_le HK.out.2.2.2.1.lt j.size⟩
      have HN := Lib.hid (And.intro hVN (And.intro hvo hslN))
      clear hvo hslN hVN hdn
      by_cases ht1 : tm = 1
      · subst ht1
        obtain ⟨dn, hdn⟩ : ∃ dn, dn = T - at_ := ⟨_, rfl⟩
        have hab : at_ ≤ T := by
         have q1 := HK.out.2.2.2.2.2.2.1
         have q2 := HD.out
         have q3 := HH.out.2.1.att k (by have := HH.out.1.len; have := HK.out.2.2.2.2.2.2.2.1; omega)
         have q4 := HH.out.2.2.2
         have q5 := (q1.sent (by rw [← q1.times, ← q2.2.2.1]; decide)).1
         have q6 := q2.2.2.2.1
         omega
        have hwr : IntKind.i64.wrap ((T : Int) - (at_ : Nat)) = (dn : Nat) := by rw [IntWalk.i64_in _ (by omega)]; omega
        have hMs : Ms me sp := by rw [HD.out.2.2.2.2.2.1, HD.out.2.2.2.2.2.2]; exact HH.out.2.1.ms.ack hTb _
        have CS := fun w' => rspread_ms hMs (n := dn) (by omega) w'
        have CM := fun w' => rmean_ms hMs (n := dn) (by omega) w'
        have HDN := Lib.hid hdn
        clear hdn hab hMs
        go_upto_region 7 with fail
        go_quiet (fail)
        obtain ⟨FD, hFD⟩ : ∃ FD, FD = floatOfInt .f64 ((dn : Nat) : Int) := ⟨_, rfl⟩
        rw [← hFD] at CS CM
        try rw [← hFD]
        go_upto_region 8 with fail
        obtain ⟨SP, hSP⟩ : ∃ SP, SP = spreadF sp me FD := ⟨_, rfl⟩
        rw [← hSP] at CS
        obtain ⟨MF, hMF⟩ : ∃ MF, MF = meanF me FD eighth := ⟨_, rfl⟩
        rw [← hMF] at CM
        have HSP := Lib.hid (And.intro hSP (And.intro hMF hFD))
        have CS := Lib.hid CS
        have CM := Lib.hid CM
        have H3 := Lib.hid (show (w6.drewN nq).cell? ⟨b, 3, none⟩ = some (.float .f64 me) ∧ (w6.drewN nq).cell? ⟨b, 4, none⟩ = some (.float .f64 sp) ∧ At (w6.drewN nq) b [.int .i64 x.size, .slice (some ⟨g, off, none⟩) 1 1, .int .i64 x.last, .float .f64 (msAck T (x.m, x.s) (x.l.take k)).1, .float .f64 (msAck T (x.m, x.s) (x.l.take k)).2, .int .i64 T] ∧ Kp (fun _ => False) wr (w6.drewN nq) from ⟨c3, c4, H6.out.1.drewN nq, H6.out.2.drewN nq⟩)
        clear c1 c3 c4 c5 p2 p3 hwr hSP hFD hMF
        generalize w6.drewN nq = w3 at *
        refine region_L (S := fun w' => Kp (fun _ => False) w3 w') [13] rfl ?_
        have hSd : ∀ (w' : World) (n' : Nat), Kp (fun _ => False) w3 w' → Kp (fun _ => False) w3 (w'.drewN n') := fun w' n' h => h.drewN n'
        have hS0 : Kp (fun _ => False) w3 w3.drew := (Kp.refl _ w3).drew
        refine anyL_world (fun w' => Kp (fun _ => False) w3 w') hS0 ?_
        clear hS0
        intro x0 kx0
        refine tF 0 61 (.pointer (some ⟨b, 0, none⟩)) rfl rfl hSd (fun _ => kx0) ?_
        try simp only [sC]
        refine tF 1 62 (.pointer (some ⟨b, 0, none⟩)) rfl rfl hSd (fun _ => kx0) ?_
        try simp only [sC]
        refine tF 2 63 (.pointer (some ⟨b, 0, none⟩)) rfl rfl hSd (fun _ => kx0) ?_
        try simp only [sC]
        refine tF 3 64 (.pointer (some ⟨b, 4, none⟩)) rfl rfl hSd (fun _ => kx0) ?_
        try simp only [sC]
        refine tD 4 65 (.float .f64 sp) rfl rfl hSd (.inl (.inl ⟨rfl, fun w' hS => by have h0 := hS.cell H3.out.2.1 (fun h => h); go_simp⟩)) kx0 ?_
        try simp only [sC]
        refine tF 5 66 (.pointer (some ⟨b, 0, none⟩)) rfl rfl hSd (fun _ => kx0) ?_
        try simp only [sC]
        refine tF 6 67 (.pointer (some ⟨b, 0, none⟩)) rfl rfl hSd (fun _ => kx0) ?_
        try simp only [sC]
        refine tF 7 68 (.pointer (some ⟨b, 3, none⟩)) rfl rfl hSd (fun _ => kx0) ?_
        try simp only [sC]
        refine tD 8 69 (.float .f64 me) rfl rfl hSd (.inl (.inl ⟨rfl, fun w' hS => by have h0 := hS.cell H3.out.1 (fun h => h); go_simp⟩)) kx0 ?_
        try simp only [sC]
        refine tF 9 70 (.float .f64 FD) rfl rfl hSd (fun _ => kx0) ?_
        try simp only [sC]
        refine tA 10 ?_
        intro n10
        refine wpOp_of rfl rfl ?_
        go_simp
        refine Calls.mono ((CS.out (x0.drewN n10)).mono (fun e w' h => (⟨h.1, h.2 ▸ Kp.refl (fun _ => False) _⟩ : e = .returned (.float .f64 SP) ∧ Kp (fun _ => False) (x0.drewN n10) w'))) ?_
        rintro e x1 ⟨rfl, j⟩
        try dsimp only
        have kx1 : Kp (fun _ => False) w3 x1 := (kx0.drewN n10).trans j
        refine ⟨fun _ => kx1, ?_⟩
        try simp only [sC]
        refine tF 11 72 (.pointer (some ⟨b, 0, none⟩)) rfl rfl hSd (fun _ => kx1) ?_
        try simp only [sC]
        refine tF 12 73 (.pointer (some ⟨b, 4, none⟩)) rfl rfl hSd (fun _ => kx1) ?_
        try simp only [sC]
        refine tA 13 ?_
        intro n13
        have h4 := (kx1.drewN n13).cell H3.out.2.1 (fun h => h)
        have hat5 := (kx1.drewN n13).at H3.out.2.2.1 (fun h => h)
        have hf4 := hat5.frozen 4
        have hst := store_float (P := Tryz.prog) (k := .f64) (n := SP) h4 hf4
        have hat6 := hat5.set 4 (.float .f64 SP)
        have kp6 : Kp (· = b) wr ((x1.drewN n13).setCell ⟨b, 4, none⟩ (.float .f64 SP)) := ((H3.out.2.2.2.trans (kx1.drewN n13)).mono (S' := (· = b)) (fun _ _ h => h.elim)).setCell (p := ⟨b, 4, none⟩) (fun _ => rfl) _
        refine wpOp_of rfl rfl ?_
        go_simp
        refine ⟨fun h => Bool.noConfusion (show false = true from h), anyL_done (by kernel_rfl) (fun nn => ?_) _⟩
        have hat7 := hat6.drewN nn
        have kp7 := kp6.drewN nn
        generalize (((x1.drewN n13).setCell ⟨b, 4, none⟩ (.float .f64 SP))).drewN nn = w4 at *
        simp only [List.set_cons_succ, List.set_cons_zero] at hat7
        rw [← HD.out.2.2.2.2.2.1] at hat7
        have c43 : w4.cell? ⟨b, 3, none⟩ = some (.float .f64 me) := hat7.cell 3
        have H4 := Lib.hid (And.intro hat7 kp7)
        clear hat5 hat6 hat7 kp6 kp7 h4 hf4 hst kx0 kx1 j hSd
        go_upto_region 9 with fail
        have f43 := H4.out.1.frozen 3
        have st5 := store_float (P := Tryz.prog) (k := .f64) (n := MF) c43 f43
        go_upto_region 10 with (go_at_call 83; refine (CM.out _).mono ?_; rintro e w5 ⟨rfl, rfl⟩)
        have hat9 := H4.out.1.set 3 (.float .f64 MF)
        have kp9 : Kp (· = b) wr (w4.setCell ⟨b, 3, none⟩ (.float .f64 MF)) := H4.out.2.setCell (p := ⟨b, 3, none⟩) (fun _ => rfl) _
        generalize w4.setCell ⟨b, 3, none⟩ (.float .f64 MF) = w9 at *
        simp only [List.set_cons_succ, List.set_cons_zero] at hat9
        have c1 : w9.cell? ⟨b, 1, none⟩ = some (.slice (some ⟨g, off, none⟩) 1 1) := hat9.cell 1
        have f1 := hat9.frozen 1
        have H9 := Lib.hid (And.intro hat9 kp9)
        clear hat9 kp9 st5 c43 f43
        have HVN := HN.out.1
        go_wp2_with fail
        rw [← HVN]
        clear HVN
        go_roundw
        case rel =>
         have hstep : msStep T (msAck T (x.m, x.s) (x.l.take k)) (pk x.l k) = (MF, SP) := by
          unfold msStep
          have q1 := HK.out.2.2.2.2.2.2.1
          have q5 := q1.sent (by rw [← q1.times, ← HD.out.2.2.1]; decide)
          rw [if_pos (by rw [← q1.times, ← HD.out.2.2.1]), ← HD.out.2.2.2.2.2.1, ← HD.out.2.2.2.2.2.2, HSP.out.1, HSP.out.2.1]
          unfold dF
          rw [← q5.1, ← HD.out.2.2.2.1, ← HDN.out, ← HSP.out.2.2]
         have e : msAck T (x.m, x.s) (x.l.take (k + 1)) = (MF, SP) := by rw [take_pk (by have := HH.out.1.len; have := HK.out.2.2.2.2.2.2.2.1; omega), msAck_snoc]; exact hstep
         have ks := Kp.setCell (S := (· = b)) (Kp.refl _ w9) (p := ⟨b, 1, none⟩) (fun _ => rfl) VN
         have hpop := HK.out.1.pop HK.out.2.2.2.2.2.2.2.1 (H9.out.1.set 1 VN) (by rw [e]) (by rw [e]) (HN.out.2.2 _ (H9.out.2.trans ks)) (fun gg hg => by rw [HN.out.1] at hg; exact hg) (H9.out.2.trans ks)
         exact ⟨k + 1, VN, by omega, by go_num, hpop, HN.out.2.1, HK.out.2.2.1.trans (H9.out.2.trans ks)⟩
        case measure => simp [intOf]; omega
      · have ht2 : ((tm : Int) == 1) = false := by rw [beq_eq_false_iff_ne]; omega
        have f1 := H6.out.1.frozen 1
        have HVN := HN.out.1
        clear c3 c4 c5 p3
        go_wp2_with fail
        rw [← HVN]
        clear HVN
        go_roundw
        case rel =>
         have e : msAck T (x.m, x.s) (x.l.take (k + 1)) = msAck T (x.m, x.s) (x.l.take k) := by
          rw [take_pk (by have := HH.out.1.len; have := HK.out.2.2.2.2.2.2.2.1; omega), msAck_snoc]
          unfold msStep
          rw [if_neg (by rw [← HK.out.2.2.2.2.2.2.1.times, ← HD.out.2.2.1]; exact ht1)]
         have ks := Kp.setCell (S := (· = b)) (Kp.refl _ w6) (p := ⟨b, 1, none⟩) (fun _ => rfl) VN
         have k69 : Kp (· = b) wr (w6.setCell ⟨b, 1, none⟩ VN) := (H6.out.2.mono (fun _ _ h => h.elim)).trans ks
         have hpop := HK.out.1.pop HK.out.2.2.2.2.2.2.2.1 (H6.out.1.set 1 VN) (by rw [e]; rfl) (by rw [e]; rfl) (HN.out.2.2 _ k69) (fun gg hg => by rw [HN.out.1] at hg; exact hg) k69
         exact ⟨k + 1, VN, by omega, by go_num, hpop, HN.out.2.1, HK.out.2.2.1.trans k69⟩
        case measure => simp [intOf]; omega
    · have hc2 : 2 ≤ c := by omega
      obtain ⟨VN, hVN⟩ : ∃ VN, VN = Value.slice (some ⟨g, off + 5, none⟩) (m - 1) (c - 1) := ⟨_, rfl⟩
      have hvo : ∀ gg, SlB VN gg → SlB v gg := fun gg hg => HK.out.2.1 gg (by rw [hVN] at hg; exact hg)
      have hdk : dsC (D.drop k) = drC d ++ dsC (D.drop (k + 1)) := by
       have e : D.drop k = dr D k :: D.drop (k + 1) := by
        rw [List.drop_eq_getElem_cons HK.out.2.2.2.2.2.2.2.1]
        congr 1
        unfold dr
        rw [List.getD_eq_getElem?_getD, List.getElem?_eq_getElem HK.out.2.2.2.2.2.2.2.1]
        rfl
       rw [e, HDD.out]; rfl
      have hgb : g ≠ b := fun e => HK.out.1.vb (by rw [e]; rfl)
      have hslN : ∀ w' : World, Kp (fun j => j = b) wr w' → Sl w' VN (D.drop (k + 1)) := fun w' j => by
       have hl : (D.drop (k + 1)).length = m - 1 := by have := HK.out.2.2.2.2.2.1; rw [List.length_drop] at this ⊢; omega
       refine .inr ⟨g, pre ++ drC d, post, c - 1, by rw [hVN, hl, List.length_append, ← HK.out.2.2.2.2.1]; rfl, ?_, by omega, by have := HK.out.2.2.2.2.2.2.2.2; omega⟩
       have := j.at HK.out.2.2.2.1 hgb
       rw [hdk] at this
       simpa only [List.append_assoc] using this
      have HN := Lib.hid (And.intro hVN (And.intro hvo hslN))
      clear hvo hslN hVN hdk hgb
      by_cases ht1 : tm = 1
      · subst ht1
        obtain ⟨dn, hdn⟩ : ∃ dn, dn = T - at_ := ⟨_, rfl⟩
        have hab : at_ ≤ T := by
         have q1 := HK.out.2.2.2.2.2.2.1
         have q2 := HD.out
         have q3 := HH.out.2.1.att k (by have := HH.out.1.len; have := HK.out.2.2.2.2.2.2.2.1; omega)
         have q4 := HH.out.2.2.2
         have q5 := (q1.sent (by rw [← q1.times, ← q2.2.2.1]; decide)).1
         have q6 := q2.2.2.2.1
         omega
        have hwr : IntKind.i64.wrap ((T : Int) - (at_ : Nat)) = (dn : Nat) := by rw [IntWalk.i64_in _ (by omega)]; omega
        have hMs : Ms me sp := by rw [HD.out.2.2.2.2.2.1, HD.out.2.2.2.2.2.2]; exact HH.out.2.1.ms.ack hTb _
        have CS := fun w' => rspread_ms hMs (n := dn) (by omega) w'
        have CM := fun w' => rmean_ms hMs (n := dn) (by omega) w'
        have HDN := Lib.hid hdn
        clear hdn hab hMs
        go_upto_region 7 with fail
        go_quiet (fail)
        obtain ⟨FD, hFD⟩ : ∃ FD, FD = floatOfInt .f64 ((dn : Nat) : Int) := ⟨_, rfl⟩
        rw [← hFD] at CS CM
        try rw [← hFD]
        go_upto_region 8 with fail
        obtain ⟨SP, hSP⟩ : ∃ SP, SP = spreadF sp me FD := ⟨_, rfl⟩
        rw [← hSP] at CS
        obtain ⟨MF, hMF⟩ : ∃ MF, MF = meanF me FD eighth := ⟨_, rfl⟩
        rw [← hMF] at CM
        have HSP := Lib.hid (And.intro hSP (And.intro hMF hFD))
        have CS := Lib.hid CS
        have CM := Lib.hid CM
        have H3 := Lib.hid (show (w6.drewN nq).cell? ⟨b, 3, none⟩ = some (.float .f64 me) ∧ (w6.drewN nq).cell? ⟨b, 4, none⟩ = some (.float .f64 sp) ∧ At (w6.drewN nq) b [.int .i64 x.size, .slice (some ⟨g, off, none⟩) m c, .int .i64 x.last, .float .f64 (msAck T (x.m, x.s) (x.l.take k)).1, .float .f64 (msAck T (x.m, x.s) (x.l.take k)).2, .int .i64 T] ∧ Kp (fun _ => False) wr (w6.drewN nq) from ⟨c3, c4, H6.out.1.drewN nq, H6.out.2.drewN nq⟩)
        clear c1 c3 c4 c5 p2 p3 hwr hSP hFD hMF
        generalize w6.drewN nq = w3 at *
        refine region_L (S := fun w' => Kp (fun _ => False) w3 w') [13] rfl ?_
        have hSd : ∀ (w' : World) (n' : Nat), Kp (fun _ => False) w3 w' → Kp (fun _ => False) w3 (w'.drewN n') := fun w' n' h => h.drewN n'
        have hS0 : Kp (fun _ => False) w3 w3.drew := (Kp.refl _ w3).drew
        refine anyL_world (fun w' => Kp (fun _ => False) w3 w') hS0 ?_
        clear hS0
        intro x0 kx0
        refine tF 0 61 (.pointer (some ⟨b, 0, none⟩)) rfl rfl hSd (fun _ => kx0) ?_
        try simp only [sC]
        refine tF 1 62 (.pointer (some ⟨b, 0, none⟩)) rfl rfl hSd (fun _ => kx0) ?_
        try simp only [sC]
        refine tF 2 63 (.pointer (some ⟨b, 0, none⟩)) rfl rfl hSd (fun _ => kx0) ?_
        try simp only [sC]
        refine tF 3 64 (.pointer (some ⟨b, 4, none⟩)) rfl rfl hSd (fun _ => kx0) ?_
        try simp only [sC]
        refine tD 4 65 (.float .f64 sp) rfl rfl hSd (.inl (.inl ⟨rfl, fun w' hS => by have h0 := hS.cell H3.out.2.1 (fun h => h); go_simp⟩)) kx0 ?_
        try simp only [sC]
        refine tF 5 66 (.pointer (some ⟨b, 0, none⟩)) rfl rfl hSd (fun _ => kx0) ?_
        try simp only [sC]
        refine tF 6 67 (.pointer (some ⟨b, 0, none⟩)) rfl rfl hSd (fun _ => kx0) ?_
        try simp only [sC]
        refine tF 7 68 (.pointer (some ⟨b, 3, none⟩)) rfl rfl hSd (fun _ => kx0) ?_
        try simp only [sC]
        refine tD 8 69 (.float .f64 me) rfl rfl hSd (.inl (.inl ⟨rfl, fun w' hS => by have h0 := hS.cell H3.out.1 (fun h => h); go_simp⟩)) kx0 ?_
        try simp only [sC]
        refine tF 9 70 (.float .f64 FD) rfl rfl hSd (fun _ => kx0) ?_
        try simp only [sC]
        refine tA 10 ?_
        intro n10
        refine wpOp_of rfl rfl ?_
        go_simp
        refine Calls.mono ((CS.out (x0.drewN n10)).mono (fun e w' h => (⟨h.1, h.2 ▸ Kp.refl (fun _ => False) _⟩ : e = .returned (.float .f64 SP) ∧ Kp (fun _ => False) (x0.drewN n10) w'))) ?_
        rintro e x1 ⟨rfl, j⟩
        try dsimp only
        have kx1 : Kp (fun _ => False) w3 x1 := (kx0.drewN n10).trans j
        refine ⟨fun _ => kx1, ?_⟩
        try simp only [sC]
        refine tF 11 72 (.pointer (some ⟨b, 0, none⟩)) rfl rfl hSd (fun _ => kx1) ?_
        try simp only [sC]
        refine tF 12 73 (.pointer (some ⟨b, 4, none⟩)) rfl rfl hSd (fun _ => kx1) ?_
        try simp only [sC]
        refine tA 13 ?_
        intro n13
        have h4 := (kx1.drewN n13).cell H3.out.2.1 (fun h => h)
        have hat5 := (kx1.drewN n13).at H3.out.2.2.1 (fun h => h)
        have hf4 := hat5.frozen 4
        have hst := store_float (P := Tryz.prog) (k := .f64) (n := SP) h4 hf4
        have hat6 := hat5.set 4 (.float .f64 SP)
        have kp6 : Kp (· = b) wr ((x1.drewN n13).setCell ⟨b, 4, none⟩ (.float .f64 SP)) := ((H3.out.2.2.2.trans (kx1.drewN n13)).mono (S' := (· = b)) (fun _ _ h => h.elim)).setCell (p := ⟨b, 4, none⟩) (fun _ => rfl) _
        refine wpOp_of rfl rfl ?_
        go_simp
        refine ⟨fun h => Bool.noConfusion (show false = true from h), anyL_done (by kernel_rfl) (fun nn => ?_) _⟩
        have hat7 := hat6.drewN nn
        have kp7 := kp6.drewN nn
        generalize (((x1.drewN n13).setCell ⟨b, 4, none⟩ (.float .f64 SP))).drewN nn = w4 at *
        simp only [List.set_cons_succ, List.set_cons_zero] at hat7
        rw [← HD.out.2.2.2.2.2.1] at hat7
        have c43 : w4.cell? ⟨b, 3, none⟩ = some (.float .f64 me) := hat7.cell 3
        have H4 := Lib.hid (And.intro hat7 kp7)
        clear hat5 hat6 hat7 kp6 kp7 h4 hf4 hst kx0 kx1 j hSd
        go_upto_region 9 with fail
        have f43 := H4.out.1.frozen 3
        have st5 := store_float (P := Tryz.prog) (k := .f64) (n := MF) c43 f43
        go_upto_region 10 with (go_at_call 83; refine (CM.out _).mono ?_; rintro e w5 ⟨rfl, rfl⟩)
        have hat9 := H4.out.1.set 3 (.float .f64 MF)
        have kp9 : Kp (· = b) wr (w4.setCell ⟨b, 3, none⟩ (.float .f64 MF)) := H4.out.2.setCell (p := ⟨b, 3, none⟩) (fun _ => rfl) _
        generalize w4.setCell ⟨b, 3, none⟩ (.float .f64 MF) = w9 at *
        simp only [List.set_cons_succ, List.set_cons_zero] at hat9
        have c1 : w9.cell? ⟨b, 1, none⟩ = some (.slice (some ⟨g, off, none⟩) m c) := hat9.cell 1
        have f1 := hat9.frozen 1
        have H9 := Lib.hid (And.intro hat9 kp9)
        clear hat9 kp9 st5 c43 f43
        have HVN := HN.out.1
        go_wp2_with fail
        rw [← HVN]
        clear HVN
        go_roundw
        case rel =>
         have hstep : msStep T (msAck T (x.m, x.s) (x.l.take k)) (pk x.l k) = (MF, SP) := by
          unfold msStep
          have q1 := HK.out.2.2.2.2.2.2.1
          have q5 := q1.sent (by rw [← q1.times, ← HD.out.2.2.1]; decide)
          rw [if_pos (by rw [← q1.times, ← HD.out.2.2.1]), ← HD.out.2.2.2.2.2.1, ← HD.out.2.2.2.2.2.2, HSP.out.1, HSP.out.2.1]
          unfold dF
          rw [← q5.1, ← HD.out.2.2.2.1, ← HDN.out, ← HSP.out.2.2]
         have e : msAck T (x.m, x.s) (x.l.take (k + 1)) = (MF, SP) := by rw [take_pk (by have := HH.out.1.len; have := HK.out.2.2.2.2.2.2.2.1; omega), msAck_snoc]; exact hstep
         have ks := Kp.setCell (S := (· = b)) (Kp.refl _ w9) (p := ⟨b, 1, none⟩) (fun _ => rfl) VN
         have hpop := HK.out.1.pop HK.out.2.2.2.2.2.2.2.1 (H9.out.1.set 1 VN) (by rw [e]) (by rw [e]) (HN.out.2.2 _ (H9.out.2.trans ks)) (fun gg hg => by rw [HN.out.1] at hg; exact hg) (H9.out.2.trans ks)
         exact ⟨k + 1, VN, by omega, by go_num, hpop, HN.out.2.1, HK.out.2.2.1.trans (H9.out.2.trans ks)⟩
        case measure => simp [intOf]; omega
      · have ht2 : ((tm : Int) == 1) = false := by rw [beq_eq_false_iff_ne]; omega
        have f1 := H6.out.1.frozen 1
        have HVN := HN.out.1
        clear c3 c4 c5 p3
        go_wp2_with fail
        rw [← HVN]
        clear HVN
        go_roundw
        case rel =>
         have e : msAck T (x.m, x.s) (x.l.take (k + 1)) = msAck T (x.m, x.s) (x.l.take k) := by
          rw [take_pk (by have := HH.out.1.len; have := HK.out.2.2.2.2.2.2.2.1; omega), msAck_snoc]
          unfold msStep
          rw [if_neg (by rw [← HK.out.2.2.2.2.2.2.1.times, ← HD.out.2.2.1]; exact ht1)]
         have ks := Kp.setCell (S := (· = b)) (Kp.refl _ w6) (p := ⟨b, 1, none⟩) (fun _ => rfl) VN
         have k69 : Kp (· = b) wr (w6.setCell ⟨b, 1, none⟩ VN) := (H6.out.2.mono (fun _ _ h => h.elim)).trans ks
         have hpop := HK.out.1.pop HK.out.2.2.2.2.2.2.2.1 (H6.out.1.set 1 VN) (by rw [e]; rfl) (by rw [e]; rfl) (HN.out.2.2 _ k69) (fun gg hg => by rw [HN.out.1] at hg; exact hg) k69
         exact ⟨k + 1, VN, by omega, by go_num, hpop, HN.out.2.1, HK.out.2.2.1.trans k69⟩
        case measure => simp [intOf]; omega
  · obtain rfl : k = G := by omega
    have HW := Lib.hid (And.intro hw (And.intro hv hkp))
    have hlen := hw.len
    have hslf := hw.sl.form
    obtain ⟨a9, c9, e9⟩ := hslf
    obtain ⟨m, hm⟩ : ∃ m, m = (D.drop k).length := ⟨_, rfl⟩
    rw [← hm] at e9
    have HE9 := Lib.hid e9
    have c1 : wr.cell? ⟨b, 1, none⟩ = some (.slice a9 m c9) := by rw [hw.hat.cell]; show some vk = _; rw [e9]
    have hlenG := HH.out.1.len
    have hFIN : (w' : World) → Kp (fun _ => False) wr w' → ∃ v', RwC w' b (ackL x k T x.V) v' (D.drop k) ∧ (∀ j, RwF b v' (D.drop k) j → RwF b v D j) ∧ Kp (· = b) w w' := fun w' j => by
     refine ⟨vk, HW.out.1.kp0 j, fun i hi => ?_, HW.out.2.2.trans (j.mono (fun _ _ h => h.elim))⟩
     rcases hi with hi | hi | ⟨q, hq, hi⟩
     · exact .inl hi
     · exact .inr (.inl (HW.out.2.1 _ hi))
     · rw [List.length_drop] at hq
       rw [dr_drop] at hi
       exact .inr (.inr ⟨k + q, by omega, hi⟩)
    by_cases hm0 : m = 0
    · subst hm0
      have HF := Lib.hid hFIN
      clear hw hv hkp e9 hlen hFIN hm hlenG
      go_wp2_with fail
      go_ret2
      exact ⟨rfl, HF.out _ (Kp.refl _ _)⟩
    · have hkl : k < D.length := by rw [List.length_drop] at hm; omega
      obtain ⟨g, pre, post, c, e8, hat, _⟩ : ∃ g pre post c, vk = .slice (some ⟨g, pre.length, none⟩) (D.drop k).length c ∧ At wr g (pre ++ dsC (D.drop k) ++ post) ∧ (D.drop k).length ≤ c := by
       rcases hw.sl with ⟨e0, _⟩ | ⟨g, pre, post, c, e, hat, h1, _⟩
       · exfalso; rw [e0] at hm; simp at hm; omega
       · exact ⟨g, pre, post, c, e, hat, h1⟩
      rw [e9] at e8
      simp only [Value.slice.injEq] at e8
      obtain ⟨rfl, _, rfl⟩ := e8
      obtain ⟨off, hoff⟩ : ∃ off, off = pre.length := ⟨_, rfl⟩
      have q0 : wr.cell? ⟨g, off, none⟩ = some (.int .i64 (dr D k).seq) := by
       have := dsC_get (D.drop k) 0 (by omega) 0 (by omega)
       rw [hat.cell, hoff, List.append_assoc, List.getElem?_append_right (Nat.le_refl _), Nat.sub_self, List.getElem?_append_left (by rw [dsC_len]; omega)]
       rw [Nat.zero_mul, Nat.zero_add] at this
       rw [this, dr_drop, Nat.add_zero]; rfl
      rw [← hoff] at c1
      have hsm := hw.sm 0 (by omega)
      rw [dr_drop, Nat.add_zero] at hsm
      have hpk : pk (ackL x k T x.V).l 0 = pk x.l k := by show pk (x.l.drop k) 0 = _; rw [pk_drop, Nat.add_zero]
      rw [hpk] at hsm
      obtain ⟨sq, hsq⟩ : ∃ z, z = (dr D k).seq := ⟨_, rfl⟩
      rw [← hsq] at q0
      have i1 : ¬ (sq : Int) ≤ n := by
       have h1 := HH.out.2.2.1
       have h2 := hsm.seq
       have h3 := HLA.out
       have h4 := HH.out.2.1.seqs k (by omega)
       unfold goneN at h1
       omega
      have j1 : (m : Int) > 0 := by omega
      have HF := Lib.hid hFIN
      clear hw hv hkp e9 hlen hFIN hm hlenG hsm hpk hsq hat hoff
      go_wp2_with fail
      go_ret2
      exact ⟨rfl, HF.out _ (Kp.refl _ _)⟩
end
theorem wait_ms {m s : Nat} (h : Ms m s) : ∃ x, waitX m s = some x ∧ nanb x = false := by
 obtain ⟨p, e1, n1, _⟩ := mul_fin (x := f4) (y := s) (by unfold fin; decide +kernel) h.s.fin
 unfold waitX
 rw [e1]
 rcases cases3 p with hp | hp | hp
 · rw [n1] at hp; cases hp
 · obtain ⟨r, e2, n2, _⟩ := add_inf_right h.m.fin hp
   exact ⟨r, e2, n2⟩
 · obtain ⟨r, e2, n2, _⟩ := add_fin h.m.fin hp
   exact ⟨r, e2, n2⟩
def rdB (tm at_ wt now : Nat) : Bool := decide (tm = 0 ∨ at_ + wt ≤ now)
theorem rdue_any (sq : Nat) (B : Value) (tm at_ wt now : Nat) (w : World) (h1 : at_ ≤ 4611686018427387904) (h2 : wt ≤ 4611686018427387904) (h3 : now ≤ 4611686018427387904) :
 Calls Tryz.prog 55 #[.agg #[.int .i64 (sq : Nat), B, .int .i64 (tm : Nat), .int .i64 (at_ : Nat), .int .i64 (wt : Nat)], .int .i64 (now : Nat)] w fun e w' => e = .returned (.bool (rdB tm at_ wt now)) ∧ Kp (fun _ => False) w w' := by
 by_cases c1 : tm = 0
 · have e : rdB tm at_ wt now = true := by unfold rdB; simp [c1]
   rw [e]
   have ht : ((tm : Int) == 0) = true := by simp [c1]
   clear e c1
   go_enter Tryz.func55, Tryz.ntmps55
   go_wp2
   go_ret
   exact ⟨rfl, (Kp.refl _ w).alloc _⟩
 · have ht : ((tm : Int) == 0) = false := by simp; omega
   have hw : IntKind.i64.wrap ((now : Int) - (at_ : Int)) = (now : Int) - (at_ : Int) := IntWalk.i64_in _ (by omega)
   have hw2 : wrap64 ((now : Int) - (at_ : Int)) = (now : Int) - (at_ : Int) := IntWalk.wrap64_in _ (by omega)
   have e : rdB tm at_ wt now = decide ((wt : Int) ≤ (now : Int) - (at_ : Int)) := by unfold rdB; rw [Bool.eq_iff_iff]; simp; omega
   rw [e]
   clear e c1
   go_enter Tryz.func55, Tryz.ntmps55
   go_wp2
   go_ret
   exact ⟨rfl, (Kp.refl _ w).alloc _⟩
theorem rdB_due {d : Dr} {p : Pk} (h : Sm d p) (now : Nat) : rdB d.times d.att d.wt now = dueB p now := by
 unfold rdB dueB dueA
 rw [h.times]
 by_cases h0 : p.times = 0
 · simp [h0]
 · obtain ⟨e1, e2⟩ := h.sent h0
   rw [e1, e2, if_neg h0, Bool.eq_iff_iff]
   simp [h0]
def sentD (y : Wn) (d : Dr) : Dr := { d with times := d.times + 1, att := y.now, wt := wk (waitN y.m y.s) (d.times + 1) }
theorem Sm.sent_ {d : Dr} {p : Pk} (h : Sm d p) (y : Wn) : Sm (sentD y d) (sentP y p) := ⟨h.seq, h.body, by show d.times + 1 = p.times + 1; rw [h.times], fun _ => ⟨rfl, by show wk _ (d.times + 1) = wk _ (p.times + 1); rw [h.times]⟩⟩
theorem dr_set {D : List Dr} {k : Nat} (h : k < D.length) (d : Dr) (j : Nat) : dr (D.set k d) j = if j = k then d else dr D j := by
 unfold dr
 rw [List.getD_eq_getElem?_getD, List.getElem?_set, List.getD_eq_getElem?_getD]
 by_cases e : k = j
 · subst e; simp [h]
 · rw [if_neg e, if_neg (fun e' => e e'.symm)]
theorem preI_len (x : Wn) (k : Nat) : (preI x k).length ≤ k := by
 unfold preI
 have := List.length_filter_le (fun i => dueB (pk x.l i) x.now) (List.range k)
 rwa [List.length_range] at this
section
variable {w : World} {b : Nat} {y : Wn} {v : Value} {D : List Dr}
theorem store_dr {g i : Nat} {pre post : List Value} {E : List Dr} (hat : At w g (pre ++ dsC E ++ post)) (hi : i < E.length) (d : Dr) (hB : ∃ a n c, d.B = .slice a n c) :
 ∃ w', (Instr.storeAt 102 (.pointer (some ⟨g, pre.length + i * 5, none⟩)) (.agg (drC d).toArray)).run Tryz.prog w = .ok () w' ∧ At w' g (pre ++ dsC (E.set i d) ++ post) ∧ Kp (fun k => k = g) w w' := by
 have hl := dsC_len E
 have ht : w.there g (pre.length + i * 5) (drC d).toArray.size := fun j hj => by
  have hj : j < 5 := hj
  exact ⟨by rw [hat.cell, List.getElem?_eq_getElem (by simp; omega)]; rfl, hat.frozen _⟩
 refine ⟨_, run_storeAt_mid w g (pre.length + i * 5) 102 (drC d).toArray ht (by kernel_rfl) (by
  obtain ⟨a, n, c, e⟩ := hB
  simp [drC, e, Value.oneCell']), ?_, Kp.setCells (S := fun k => k = g) (fun _ => rfl) _ _ (Kp.refl _ w)⟩
 have := hat.setCells (drC d) (pre.length + i * 5) (by simp [drC]; omega)
 have e : (pre ++ dsC E ++ post).take (pre.length + i * 5) ++ drC d ++ (pre ++ dsC E ++ post).drop (pre.length + i * 5 + (drC d).length) = pre ++ dsC (E.set i d) ++ post := by
  rw [dsC_set E i d hi, List.append_assoc pre, take_past _ _ _ _ rfl, show (drC d).length = 5 from rfl, show pre.length + i * 5 + 5 = pre.length + (i + 1) * 5 by omega, drop_past _ _ _ _ rfl, List.take_append, List.drop_append, show i * 5 - (dsC E).length = 0 by omega, show (i + 1) * 5 - (dsC E).length = 0 by omega]
  simp only [List.take_zero, List.drop_zero, List.append_nil, List.append_assoc]
 rw [e] at this
 exact this
theorem RwC.send {w' : World} {pre : List Nat} {k g : Nat} (h : RwC w b (stW y pre) v D) (hk : k < D.length) (hkp : k ∉ pre) (hsl : Sl w' v (D.set k (sentD y (dr D k)))) (kp : Kp (fun j => j = g) w w') (hvg : SlB v g) :
 RwC w' b (stW y (pre ++ [k])) v (D.set k (sentD y (dr D k))) := by
 have hgb : g ≠ b := fun e => h.vb (e ▸ hvg)
 have hl : D.length = y.l.length := by rw [h.len]; exact stL_len y pre
 have hB : ∀ i, (dr (D.set k (sentD y (dr D k))) i).B = (dr D i).B := fun i => by rw [dr_set hk]; split; (rename_i e; subst e; rfl); rfl
 have hb2 : ∀ i, (dr (D.set k (sentD y (dr D k))) i).body = (dr D i).body := fun i => by rw [dr_set hk]; split; (rename_i e; subst e; rfl); rfl
 refine ⟨kp.at h.hat (fun e => hgb (by have e : b = g := e; exact e.symm)), hsl, by rw [List.length_set, hl]; exact (stL_len y _).symm, fun i hi => ?_, fun i hi => ?_, h.vb, fun i hi e => ?_, fun i q hi e => ?_⟩
 · rw [List.length_set] at hi
   rw [dr_set hk, stW_l, stL_at (by omega)]
   have hs := h.sm i hi
   rw [stW_l, stL_at (by omega)] at hs
   by_cases e : i = k
   · subst e
     rw [if_pos rfl, if_pos (by simp)]
     rw [if_neg hkp] at hs
     exact hs.sent_ y
   · rw [if_neg e]
     by_cases hp : i ∈ pre
     · rw [if_pos (List.mem_append_left _ hp)]; rwa [if_pos hp] at hs
     · rw [if_neg (by simp [hp, e])]; rwa [if_neg hp] at hs
 · rw [List.length_set] at hi
   rw [hB, hb2]
   exact (h.bod i hi).kp kp (fun q hq e => h.bv i q hi hq (by have e : q = g := e; exact e ▸ hvg))
 · rw [List.length_set] at hi; rw [hB] at e; exact h.bb i hi e
 · rw [List.length_set] at hi; rw [hB] at e; exact h.bv i q hi e
set_option maxHeartbeats 16000000 in
theorem rwdue_ok {x : Wn} (h : RwC w b x v D) (hx : Wf x) (hts : ∀ i, i < x.l.length → (pk x.l i).times ≤ 1000000) (hwt : ∀ i, i < D.length → (dr D i).att ≤ 2147483647 ∧ (dr D i).wt ≤ 60) (hbl : ∀ i, i < x.l.length → (pk x.l i).body.length ≤ 1000000) (now : Nat) (ht : now ≤ 2147483647) :
 Calls Tryz.prog 44 #[.pointer (some ⟨b, 0, none⟩), .int .i64 (now : Nat)] w fun e w' => ∃ vo l D', e = .returned vo ∧ OwnT w.heap.size w' vo l ∧ TelL (atW x now) (dueI (atW x now)) l ∧ RwC w' b (dueW (atW x now)) v D' ∧ (∀ i, i < D'.length → (dr D' i).att ≤ 2147483647 ∧ (dr D' i).wt ≤ 60) ∧ (∀ k, RwF b v D' k ↔ RwF b v D k) ∧ Kp (RwF b v D) w w' := by
 obtain ⟨y, hy⟩ : ∃ y, y = atW x now := ⟨_, rfl⟩
 have CT := rwtime_any h hx.now (now : Int)
 rw [timeN ht, if_pos rfl] at CT
 rw [show ((now : Int)).toNat = now from rfl] at CT
 have CT : Calls Tryz.prog 54 #[.pointer (some ⟨b, 0, none⟩), .int .i64 (now : Nat)] w fun e w' => e = .returned (.bool true) ∧ RwC w' b y v D ∧ Kp (· = b) w w' := by rw [hy]; exact CT
 rw [← hy]
 have hms : Ms y.m y.s := by rw [hy]; exact hx.ms
 have hyn : y.now ≤ 2147483647 := by rw [hy]; have := hx.now; show max x.now now ≤ _; omega
 have hyl : y.l = x.l := by rw [hy]; rfl
 have hlen := h.len
 have hDl : D.length ≤ 64 := by have := hx.len; omega
 have CT := Lib.hid CT
 obtain ⟨W, hW⟩ : ∃ W, W = waitN y.m y.s := ⟨_, rfl⟩
 have hWb := waitN_bd y.m y.s
 rw [← hW] at hWb
 have CW : ∀ w', Calls Tryz.prog 56 #[.float .f64 y.m, .float .f64 y.s] w' fun e w'' => e = .returned (.int .i64 (W : Nat)) ∧ Kp (fun _ => False) w' w'' := fun w' => by
  obtain ⟨xx, e1, e2⟩ : ∃ xx, waitX y.m y.s = some xx ∧ nanb xx = false := wait_ms hms
  have := rwait_is e1 e2 w'
  rw [hWb.2.2] at this
  exact this
 have HH := Lib.hid (And.intro h (And.intro hx (And.intro hy (And.intro hyl (And.intro hlen (And.intro hts hW))))))
 have HWT := Lib.hid hwt
 have HBL := Lib.hid hbl
 have CW := Lib.hid CW
 obtain ⟨n, hn⟩ : ∃ n, n = D.length := ⟨_, rfl⟩
 obtain ⟨va, vc, ev⟩ := h.sl.form
 rw [← hn] at ev
 have HN := Lib.hid (And.intro hn ev)
 have hn64 : n ≤ 64 := by omega
 clear h hx hy hyl hlen hDl hts hms hwt hbl hn
 go_enter Tryz.func44, Tryz.ntmps44
 go_wp2_with fail
 go_at_call 54
 refine CT.out.mono ?_
 rintro e w0 ⟨rfl, h0, k0⟩
 have H0 := Lib.hid (And.intro h0 k0)
 clear h0 k0 CT ev hW
 go_wp2_with fail
 go_loopw [5, 6] (fun ov iv wr => ∃ (i : Nat) (oa : Option Addr) (on oc : Nat) (l : List Tp) (E : List Dr), i ≤ n ∧ iv = .int .i64 i ∧ ov = .slice oa on oc ∧ RwC wr b (stW y (preI y i)) v E ∧ E.length = n ∧ (∀ j, (dr E j).B = (dr D j).B) ∧ (∀ j, i ≤ j → dr E j = dr D j) ∧ (∀ j, j < n → (dr E j).att ≤ 2147483647 ∧ (dr E j).wt ≤ 60) ∧ OwnT w.heap.size wr (.slice oa on oc) l ∧ TelL y (preI y i) l ∧ Kp (RwF b v D) w wr) (fun _ iv _ => n - (intOf iv).toNat)
 case atStart =>
  have e0 : stW y (preI y 0) = y := by rw [preI_zero, stW_nil]
  exact ⟨0, none, 0, 0, [], D, by omega, rfl, rfl, by rw [e0]; exact H0.out.1, HN.out.1.symm, fun _ => rfl, fun _ _ => rfl, fun j hj => HWT.out j (by have := HN.out.1; omega), OwnT.start _ _, ⟨rfl, fun j i hj => by rw [preI_zero] at hj; cases hj⟩, H0.out.2.mono (fun i _ e => .inl e)⟩
 case round =>
  obtain ⟨i, oa, on, oc, l, E, hi, rfl, rfl, hw, hE, hEB, hEs, hEw, hot, htl, hkp⟩ := hrel
  have ev := HN.out.2
  have c1 : wr.cell? ⟨b, 1, none⟩ = some (.slice va n vc) := by rw [hw.hat.cell, ← ev]; rfl
  by_cases hlt : i < n
  · have hil : i < E.length := by omega
    obtain ⟨g, pre, post, c, e8, hat, hc1, hc2⟩ : ∃ g pre post c, v = .slice (some ⟨g, pre.length, none⟩) E.length c ∧ At wr g (pre ++ dsC E ++ post) ∧ E.length ≤ c ∧ c ≤ maxLen := by
     rcases hw.sl with ⟨e0, _⟩ | h
     · exfalso; rw [e0] at hil; simp at hil
     · exact h
    rw [ev] at e8
    simp only [Value.slice.injEq] at e8
    obtain ⟨rfl, hne, rfl⟩ := e8
    clear hne
    obtain ⟨off, hoff⟩ : ∃ off, off = pre.length := ⟨_, rfl⟩
    obtain ⟨d, hd⟩ : ∃ d, d = dr E i := ⟨_, rfl⟩
    have hcell : ∀ j, j < 5 → wr.cell? ⟨g, off + i * 5 + j, none⟩ = (drC d)[j]? := fun j hj => by
     rw [hat.cell, hoff, List.append_assoc, List.getElem?_append_right (by omega), show pre.length + i * 5 + j - pre.length = i * 5 + j by omega, List.getElem?_append_left (by rw [dsC_len]; omega)]
     rw [dsC_get E i hil j hj, hd]
    have q0 : wr.cell? ⟨g, off + i * 5, none⟩ = some (.int .i64 d.seq) := hcell 0 (by omega)
    have q1 : wr.cell? ⟨g, off + i * 5 + 1, none⟩ = some d.B := hcell 1 (by omega)
    have q2 : wr.cell? ⟨g, off + i * 5 + 2, none⟩ = some (.int .i64 d.times) := hcell 2 (by omega)
    have q3 : wr.cell? ⟨g, off + i * 5 + 3, none⟩ = some (.int .i64 d.att) := hcell 3 (by omega)
    have q4 : wr.cell? ⟨g, off + i * 5 + 4, none⟩ = some (.int .i64 d.wt) := hcell 4 (by omega)
    rw [← hoff] at c1
    have hgb : g ≠ b := fun e => hw.vb (by rw [ev, e]; rfl)
    have hsm := hw.sm i hil
    rw [stW_l, stL_at (by have := hw.len; have e : (stW y (preI y i)).l.length = y.l.length := stL_len y _; omega), if_neg (preI_not y i), ← hd] at hsm
    have hBo := hw.bod i hil
    rw [← hd] at hBo
    obtain ⟨Ba, Bc, eB, hrB, _⟩ := hBo.form
    have hdw := hEw i hlt
    rw [← hd] at hdw
    have hdt : d.times ≤ 1000000 := by
     rw [hsm.times]
     have h1 := HH.out.2.2.2.1
     have h2 := HH.out.2.2.2.2.2.1
     rw [h1]
     exact h2 i (by have := HH.out.2.2.2.2.1; have := HN.out.1; omega)
    have hdue := rdB_due hsm y.now
    obtain ⟨sq, hsq⟩ : ∃ z, z = d.seq := ⟨_, rfl⟩
    obtain ⟨nB, hnB⟩ : ∃ z, z = d.body.length := ⟨_, rfl⟩
    obtain ⟨tm, htm⟩ : ∃ z, z = d.times := ⟨_, rfl⟩
    obtain ⟨at_, hat_⟩ : ∃ z, z = d.att := ⟨_, rfl⟩
    obtain ⟨wt, hwt⟩ : ∃ z, z = d.wt := ⟨_, rfl⟩
    rw [← hnB] at eB
    rw [← hsq] at q0
    rw [eB] at q1
    rw [← htm] at q2 hdt hdue
    rw [← hat_] at q3 hdw hdue
    rw [← hwt] at q4 hdw hdue
    have CD := fun w' => rdue_any sq (.slice Ba nB Bc) tm at_ wt y.now w' (by omega) (by omega) (by omega)
    rw [hdue] at CD
    have CD := Lib.hid CD
    have c3 : wr.cell? ⟨b, 3, none⟩ = some (.float .f64 y.m) := hw.hat.cell 3
    have c4 : wr.cell? ⟨b, 4, none⟩ = some (.float .f64 y.s) := hw.hat.cell 4
    have c5 : wr.cell? ⟨b, 5, none⟩ = some (.int .i64 y.now) := hw.hat.cell 5
    have HD := Lib.hid (And.intro hsq (And.intro hnB (And.intro htm (And.intro hat_ (And.intro hwt (And.intro hd (And.intro eB (And.intro hBo hrB))))))))
    have HK := Lib.hid (And.intro hw (And.intro hE (And.intro hEB (And.intro hEs (And.intro hEw (And.intro hot (And.intro htl (And.intro hkp (And.intro hat (And.intro hoff (And.intro hc1 (And.intro hc2 (And.intro hgb (And.intro hil hsm))))))))))))))
    have j1 : (i : Int) < n := by omega
    have HEV := Lib.hid ev
    obtain ⟨ynow, hyno⟩ : ∃ z, z = y.now := ⟨_, rfl⟩
    rw [← hyno] at c5 CD hyn
    have HYN := Lib.hid hyno
    clear hw hE hEB hEs hEw hot htl hkp hat hoff hc1 hc2 hgb hil hsm hcell hsq hnB htm hat_ hwt hd eB hBo hrB hdue ev hdw hyno
    go_upto_region 8 with fail
    obtain ⟨pb, hpb⟩ : ∃ pb, pb = wr.heap.size := ⟨_, rfl⟩
    obtain ⟨w6, hw6⟩ : ∃ w6, w6 = wr.alloc (.cells #[.int .i64 sq, .slice Ba nB Bc, .int .i64 tm, .int .i64 at_, .int .i64 wt] 102) := ⟨_, rfl⟩
    have hrow : At w6 pb [.int .i64 sq, .slice Ba nB Bc, .int .i64 tm, .int .i64 at_, .int .i64 wt] := by rw [hw6, hpb]; exact At.new wr _ _
    have k6 : Kp (fun _ => False) wr w6 := by rw [hw6]; exact (Kp.refl _ wr).alloc _
    have hpg : pb ≠ g := by have := HK.out.2.2.2.2.2.2.2.2.1.lt; omega
    have hop : ∀ g', (Value.slice oa on oc).ownBlock = some g' → g' ≠ pb := fun g' hg => by have := HK.out.2.2.2.2.2.1.lt hg; omega
    rw [← hw6, ← hpb]
    have p0 : w6.cell? ⟨pb, 0, none⟩ = some (.int .i64 sq) := hrow.cell 0
    have p1 : w6.cell? ⟨pb, 1, none⟩ = some (.slice Ba nB Bc) := hrow.cell 1
    have p2 : w6.cell? ⟨pb, 2, none⟩ = some (.int .i64 tm) := hrow.cell 2
    have p3 : w6.cell? ⟨pb, 3, none⟩ = some (.int .i64 at_) := hrow.cell 3
    have p4 : w6.cell? ⟨pb, 4, none⟩ = some (.int .i64 wt) := hrow.cell 4
    have c1 := k6.cell c1 (fun h => h)
    have c3 := k6.cell c3 (fun h => h)
    have c4 := k6.cell c4 (fun h => h)
    have c5 := k6.cell c5 (fun h => h)
    have H6 := Lib.hid (And.intro k6 hrow)
    clear hw6 hpb hrow k6 q0 q1 q2 q3 q4
    refine region_L (S := fun w' => Kp (fun _ => False) w6 w') [5] rfl ?_
    have hSd : ∀ (w' : World) (n' : Nat), Kp (fun _ => False) w6 w' → Kp (fun _ => False) w6 (w'.drewN n') := fun w' n' h => h.drewN n'
    have hS0 : Kp (fun _ => False) w6 w6.drew := (Kp.refl _ w6).drew
    refine anyL_world (fun w' => Kp (fun _ => False) w6 w') hS0 ?_
    clear hS0
    intro z0 kz0
    refine tD 0 30 (.agg #[.int .i64 (sq : Nat), .slice Ba nB Bc, .int .i64 (tm : Nat), .int .i64 (at_ : Nat), .int .i64 (wt : Nat)]) rfl rfl hSd (.inl (.inl ⟨rfl, fun w' hS => by have h0 := hS.cell p0 (fun h => h); have h1 := hS.cell p1 (fun h => h); have h2 := hS.cell p2 (fun h => h); have h3 := hS.cell p3 (fun h => h); have h4 := hS.cell p4 (fun h => h); go_simp⟩)) kz0 ?_
    try simp only [sC]
    refine tF 1 31 (.pointer (some ⟨b, 0, none⟩)) rfl rfl hSd (fun _ => kz0) ?_
    try simp only [sC]
    refine tF 2 32 (.pointer (some ⟨b, 0, none⟩)) rfl rfl hSd (fun _ => kz0) ?_
    try simp only [sC]
    refine tF 3 33 (.pointer (some ⟨b, 5, none⟩)) rfl rfl hSd (fun _ => kz0) ?_
    try simp only [sC]
    refine tD 4 34 (.int .i64 ynow) rfl rfl hSd (.inl (.inl ⟨rfl, fun w' hS => by have h := hS.cell c5 (fun h => h); go_simp⟩)) kz0 ?_
    try simp only [sC]
    refine tA 5 ?_
    intro n11
    refine wpOp_of rfl rfl ?_
    go_simp
    refine Calls.mono (CD.out (z0.drewN n11)) ?_
    rintro e w8p ⟨rfl, k9⟩
    try dsimp only
    refine ⟨fun h => Bool.noConfusion (show false = true from h), ?_⟩
    try simp only [sC]
    refine tF 6 36 (.bool (!(dueB (pk y.l i) ynow))) rfl rfl hSd (fun h => Bool.noConfusion (show false = true from h)) ?_
    try simp only [sC]
    refine anyL_done (by kernel_rfl) (fun nn => ?_) _
    have kw8 : Kp (fun _ => False) w8p (w8p.drewN nn) := (Kp.refl _ w8p).drewN nn
    generalize w8p.drewN nn = w8 at *
    have K8 := Lib.hid ((kz0.drewN n11).trans (k9.trans kw8))
    clear hSd kz0 k9 kw8
    by_cases hdb : dueB (pk y.l i) ynow = true
    · rw [hdb]
      have c3 := K8.out.cell c3 (fun h => h)
      have c4 := K8.out.cell c4 (fun h => h)
      have c1 := K8.out.cell c1 (fun h => h)
      have c5 := K8.out.cell c5 (fun h => h)
      have p0 := K8.out.cell p0 (fun h => h)
      have p1 := K8.out.cell p1 (fun h => h)
      have p2 := K8.out.cell p2 (fun h => h)
      go_upto_region 9 with fail
      refine region_L (S := fun w' => Kp (fun _ => False) w8 w') [8] rfl ?_
      have hSd : ∀ (w' : World) (n' : Nat), Kp (fun _ => False) w8 w' → Kp (fun _ => False) w8 (w'.drewN n') := fun w' n' h => h.drewN n'
      have hS0 : Kp (fun _ => False) w8 w8.drew := (Kp.refl _ w8).drew
      refine anyL_world (fun w' => Kp (fun _ => False) w8 w') hS0 ?_
      clear hS0
      intro z0 kz0
      refine tF 0 37 (.pointer (some ⟨b, 0, none⟩)) rfl rfl hSd (fun _ => kz0) ?_
      try simp only [sC]
      refine tF 1 38 (.pointer (some ⟨b, 0, none⟩)) rfl rfl hSd (fun _ => kz0) ?_
      try simp only [sC]
      refine tF 2 39 (.pointer (some ⟨b, 3, none⟩)) rfl rfl hSd (fun _ => kz0) ?_
      try simp only [sC]
      refine tD 3 40 (.float .f64 y.m) rfl rfl hSd (.inl (.inl ⟨rfl, fun w' hS => by have h := hS.cell c3 (fun h => h); go_simp⟩)) kz0 ?_
      try simp only [sC]
      refine tF 4 41 (.pointer (some ⟨b, 0, none⟩)) rfl rfl hSd (fun _ => kz0) ?_
      try simp only [sC]
      refine tF 5 42 (.pointer (some ⟨b, 0, none⟩)) rfl rfl hSd (fun _ => kz0) ?_
      try simp only [sC]
      refine tF 6 43 (.pointer (some ⟨b, 4, none⟩)) rfl rfl hSd (fun _ => kz0) ?_
      try simp only [sC]
      refine tD 7 44 (.float .f64 y.s) rfl rfl hSd (.inl (.inl ⟨rfl, fun w' hS => by have h := hS.cell c4 (fun h => h); go_simp⟩)) kz0 ?_
      try simp only [sC]
      refine tA 8 ?_
      intro n11
      refine wpOp_of rfl rfl ?_
      go_simp
      refine Calls.mono (CW.out (z0.drewN n11)) ?_
      rintro e w9p ⟨rfl, k9⟩
      try dsimp only
      refine ⟨fun h => Bool.noConfusion (show false = true from h), ?_⟩
      try simp only [sC]
      refine tF 9 8 (.int .i64 (W : Nat)) rfl rfl hSd (fun h => Bool.noConfusion (show false = true from h)) ?_
      try simp only [sC]
      refine anyL_done (by kernel_rfl) (fun nn => ?_) _
      have kw9 : Kp (fun _ => False) w9p (w9p.drewN nn) := (Kp.refl _ w9p).drewN nn
      generalize w9p.drewN nn = w9 at *
      have K9 := Lib.hid ((kz0.drewN n11).trans (k9.trans kw9))
      clear hSd kz0 k9 kw9 c3 c4
      have c1 := K9.out.cell c1 (fun h => h)
      have c5 := K9.out.cell c5 (fun h => h)
      have p0 := K9.out.cell p0 (fun h => h)
      have p1 := K9.out.cell p1 (fun h => h)
      have p2 := K9.out.cell p2 (fun h => h)
      go_wp2_with fail
      go_loopw [8, 9] (fun cv kv wz => ∃ (k c' : Nat), cv = .int .i64 c' ∧ kv = .int .i64 k ∧ k ≤ tm ∧ c' = W * 2 ^ k ∧ c' < 120 ∧ Kp (fun _ => False) w9 wz) (fun _ kv _ => tm - (intOf kv).toNat)
      case atStart => exact ⟨0, W, rfl, rfl, by omega, by simp, by omega, Kp.refl _ _⟩
      case round =>
       obtain ⟨k, c', rfl, rfl, hk1, hk2, hk3, hkz⟩ := hrel
       have HZ := Lib.hid hkz
       have HP := Lib.hid hk2
       have p2 := hkz.cell p2 (fun h => h)
       clear hkz hk2
       by_cases hk4 : k < tm
       · have j2 : (k : Int) < tm := by omega
         by_cases hk5 : c' < 60
         · have j3 : (c' : Int) < 60 := by omega
           go_wp2_with fail
           go_roundw
           case rel => exact ⟨k + 1, 2 * c', by go_num, by go_num, by omega, by rw [HP.out, Nat.pow_succ, Nat.mul_comm 2, Nat.mul_assoc], by omega, HZ.out⟩
           case measure => simp [intOf]; omega
         · have j3 : ¬ (c' : Int) < 60 := by omega
           have hq : min c' 60 = wk W (tm + 1) := wk_end HP.out (by omega) (.inr (by omega))
           go_upto_region 14 with fail
           have c1 := HZ.out.cell c1 (fun h => h)
           have c5 := HZ.out.cell c5 (fun h => h)
           have p0 := HZ.out.cell p0 (fun h => h)
           have p1 := HZ.out.cell p1 (fun h => h)
           obtain ⟨wz, hwz⟩ : ∃ wz, wz = wr := ⟨_, rfl⟩
           rw [← hwz] at HZ c1 c5 p0 p1 p2 ⊢
           clear hwz
           obtain ⟨q, hqq⟩ : ∃ q, q = min c' 60 := ⟨_, rfl⟩
           have hmin : (if 60 < (c' : Int) then (60 : Int) else (c' : Int)) = (q : Int) := by split <;> omega
           have hwt1 : IntKind.i64.wrap ((tm : Int) + 1) = ((tm + 1 : Nat) : Int) := by rw [IntWalk.i64_in _ (by omega)]; omega
           have HQ := Lib.hid (hqq.trans hq)
           have HKW := Lib.hid ((H6.out.1.trans K8.out).trans (K9.out.trans HZ.out))
           clear hqq hq hk1 hk3 hk4
           refine region_L (S := fun w' => Kp (fun _ => False) wz w') [20] rfl ?_
           have hSd : ∀ (w' : World) (n' : Nat), Kp (fun _ => False) wz w' → Kp (fun _ => False) wz (w'.drewN n') := fun w' n' h => h.drewN n'
           have hS0 : Kp (fun _ => False) wz wz.drew := (Kp.refl _ wz).drew
           refine anyL_world (fun w' => Kp (fun _ => False) wz w') hS0 ?_
           clear hS0
           intro t0 kt0
           refine tF 0 58 (.pointer (some ⟨b, 0, none⟩)) rfl rfl hSd (fun _ => kt0) ?_
           try simp only [sC]
           refine tF 1 59 (.pointer (some ⟨b, 0, none⟩)) rfl rfl hSd (fun _ => kt0) ?_
           try simp only [sC]
           refine tF 2 60 (.pointer (some ⟨b, 1, none⟩)) rfl rfl hSd (fun _ => kt0) ?_
           try simp only [sC]
           refine tD 3 61 (.slice (some ⟨g, off, none⟩) n vc) rfl rfl hSd (.inl (.inl ⟨rfl, fun w' hS => by have h := hS.cell c1 (fun h => h); go_simp⟩)) kt0 ?_
           try simp only [sC]
           refine tF 4 62 (.int .i64 i) rfl rfl hSd (fun _ => kt0) ?_
           try simp only [sC]
           refine tF 5 63 (.pointer (some ⟨pb, 0, none⟩)) rfl rfl hSd (fun _ => kt0) ?_
           try simp only [sC]
           refine tD 6 64 (.int .i64 sq) rfl rfl hSd (.inl (.inl ⟨rfl, fun w' hS => by have h := hS.cell p0 (fun h => h); go_simp⟩)) kt0 ?_
           try simp only [sC]
           refine tF 7 65 (.pointer (some ⟨pb, 1, none⟩)) rfl rfl hSd (fun _ => kt0) ?_
           try simp only [sC]
           refine tD 8 66 (.slice Ba nB Bc) rfl rfl hSd (.inl (.inl ⟨rfl, fun w' hS => by have h := hS.cell p1 (fun h => h); go_simp⟩)) kt0 ?_
           try simp only [sC]
           refine tF 9 67 (.pointer (some ⟨pb, 2, none⟩)) rfl rfl hSd (fun _ => kt0) ?_
           try simp only [sC]
           refine tD 10 68 (.int .i64 tm) rfl rfl hSd (.inl (.inl ⟨rfl, fun w' hS => by have h := hS.cell p2 (fun h => h); go_simp⟩)) kt0 ?_
           try simp only [sC]
           refine anyL_takeF (i := 11) (d := 69) (v := (.int .i64 (tm + 1 : Nat))) rfl rfl (by kernel_rfl) (by kernel_rfl) (by kernel_rfl) (fun _ _ _ h => h) hSd (by kernel_rfl) (.inl (.inl ⟨rfl, fun w' hS => by go_simp⟩)) (fun _ => kt0) ?_
           try simp only [sC]
           refine tF 12 70 (.pointer (some ⟨b, 0, none⟩)) rfl rfl hSd (fun _ => kt0) ?_
           try simp only [sC]
           refine tF 13 71 (.pointer (some ⟨b, 0, none⟩)) rfl rfl hSd (fun _ => kt0) ?_
           try simp only [sC]
           refine tF 14 72 (.pointer (some ⟨b, 5, none⟩)) rfl rfl hSd (fun _ => kt0) ?_
           try simp only [sC]
           refine tD 15 73 (.int .i64 ynow) rfl rfl hSd (.inl (.inl ⟨rfl, fun w' hS => by have h := hS.cell c5 (fun h => h); go_simp⟩)) kt0 ?_
           try simp only [sC]
           refine tF 16 74 (.int .i64 c') rfl rfl hSd (fun _ => kt0) ?_
           try simp only [sC]
           refine anyL_takeF (i := 17) (d := 75) (v := (.int .i64 (q : Nat))) rfl rfl (by kernel_rfl) (by kernel_rfl) (by kernel_rfl) (fun _ _ _ h => h) hSd (by kernel_rfl) (.inl (.inl ⟨rfl, fun w' hS => by go_simp⟩)) (fun _ => kt0) ?_
           try simp only [sC]
           refine tF 18 76 (.agg #[.int .i64 (sq : Nat), .slice Ba nB Bc, .int .i64 (tm + 1 : Nat), .int .i64 (ynow : Nat), .int .i64 (q : Nat)]) rfl rfl hSd (fun _ => kt0) ?_
           try simp only [sC]
           refine tF 19 77 (.pointer (some ⟨g, off + i * 5, none⟩)) rfl rfl hSd (fun _ => kt0) ?_
           try simp only [sC]
           refine tA 20 ?_
           intro n20
           have hatz := ((HKW.out.trans kt0).drewN n20).at HK.out.2.2.2.2.2.2.2.2.1 (fun h => h)
           obtain ⟨wa, hst, hata, ka⟩ := store_dr (w := t0.drewN n20) hatz HK.out.2.2.2.2.2.2.2.2.2.2.2.2.2.1 (sentD y d) ⟨_, _, _, HD.out.2.2.2.2.2.2.1⟩
           rw [← HK.out.2.2.2.2.2.2.2.2.2.1, show (drC (sentD y d)).toArray = #[.int .i64 (sq : Nat), .slice Ba nB Bc, .int .i64 (tm + 1 : Nat), .int .i64 (ynow : Nat), .int .i64 (q : Nat)] by rw [HD.out.1, HD.out.2.2.1, HYN.out, HQ.out, HH.out.2.2.2.2.2.2, HD.out.2.2.1, ← HD.out.2.2.2.2.2.2.1]; rfl] at hst
           refine wpOp_of rfl rfl ?_
           refine wp_store_run hst rfl rfl rfl ?_
           try dsimp only
           refine ⟨fun h => Bool.noConfusion (show false = true from h), ?_⟩
           try simp only [sC]
           refine anyL_done (by kernel_rfl) (fun nn => ?_) _
           have kza : Kp (fun k => k = g) wz (wa.drewN nn) := (((kt0.drewN n20).mono (fun _ _ h => h.elim)).trans ka).drewN nn
           have hata := hata.drewN nn
           generalize wa.drewN nn = wb at *
           have p0 := kza.cell p0 hpg
           have p1 := kza.cell p1 hpg
           have HS := Lib.hid (And.intro hata kza)
           clear hSd kt0 hst hatz ka hata kza c1 c5 p2 hmin hwt1
           go_upto_region 15 with fail
           refine region_L (S := fun w' => Kp (fun k => (Value.slice oa on oc).ownBlock = some k) wb w') [10] rfl ?_
           have hSd : ∀ (w' : World) (n' : Nat), Kp (fun k => (Value.slice oa on oc).ownBlock = some k) wb w' → Kp (fun k => (Value.slice oa on oc).ownBlock = some k) wb (w'.drewN n') := fun w' n' h => h.drewN n'
           have hS0 : Kp (fun k => (Value.slice oa on oc).ownBlock = some k) wb wb.drew := (Kp.refl _ wb).drew
           refine anyL_world (fun w' => Kp (fun _ => False) wb w') (Kp.refl _ wb).drew ?_
           clear hS0
           intro s0 kf0
           have ks0 : Kp (fun k => (Value.slice oa on oc).ownBlock = some k) wb s0 := kf0.mono (fun _ _ h => h.elim)
           refine tF 0 78 (.slice oa on oc) rfl rfl hSd (fun _ => ks0) ?_
           try simp only [sC]
           refine tF 1 79 (.pointer (some ⟨pb, 0, none⟩)) rfl rfl hSd (fun _ => ks0) ?_
           try simp only [sC]
           refine tD 2 80 (.int .i64 sq) rfl rfl hSd (.inl (.inl ⟨rfl, fun w' hS => by have h := hS.cell p0 (fun e => hop _ e rfl); go_simp⟩)) ks0 ?_
           try simp only [sC]
           refine tF 4 82 (.pointer (some ⟨pb, 1, none⟩)) rfl rfl hSd (fun _ => ks0) ?_
           try simp only [sC]
           refine tD 5 83 (.slice Ba nB Bc) rfl rfl hSd (.inl (.inl ⟨rfl, fun w' hS => by have h := hS.cell p1 (fun e => hop _ e rfl); go_simp⟩)) ks0 ?_
           try simp only [sC]
           refine tA 3 ?_
           intro n3
           refine wpOp_of rfl rfl ?_
           go_simp
           try dsimp only
           refine ⟨fun _ => (ks0.drewN n3).alloc _, ?_⟩
           try rw [show (s0.drewN n3).heap.size = s0.heap.size from rfl]
           try simp only [sC]
           refine anyL_world (fun wx => At wx s0.heap.size [] ∧ Kp (fun _ => False) s0 wx) ⟨At.new (s0.drewN n3) [] _, ((Kp.refl _ s0).drewN n3).alloc _⟩ ?_
           rintro s1 ⟨hga, js1⟩
           have lga : wb.heap.size ≤ s0.heap.size := kf0.size
           obtain ⟨ga, ega⟩ : ∃ g, g = s0.heap.size := ⟨_, rfl⟩
           rw [← ega] at hga lga ⊢
           have kf1 : Kp (fun _ => False) wb s1 := kf0.trans js1
           clear ega
           refine tA 6 ?_
           intro n6
           have hga' := ((Kp.refl (fun _ => False) s1).drewN n6).at hga (fun h => h)
           have hBlt : ∀ z, Ba = some z → z.block ≠ g := fun z hz e => by
            have e2 : (dr E i).B.ownBlock = some z.block := by rw [← HD.out.2.2.2.2.2.1, HD.out.2.2.2.2.2.2.1, hz]; rfl
            exact HK.out.1.bv i _ HK.out.2.2.2.2.2.2.2.2.2.2.2.2.2.1 e2 (by rw [HEV.out, e]; rfl)
           have hrB := HD.out.2.2.2.2.2.2.2.2
           have hrB6 : RdB (s1.drewN n6) Ba d.body := (((hrB.kp HKW.out (fun _ _ h => h)).kp HS.out.2 (fun z hz e => hBlt z hz e)).kp kf1 (fun _ _ h => h)).kp ((Kp.refl (fun _ => False) s1).drewN n6) (fun _ _ h => h)
           obtain ⟨v6a, v6c, s2, hr6, o6, j6, b6⟩ := rw_byt (w := s1.drewN n6) hga' hrB6 HD.out.2.1 (by rw [HD.out.2.1, HK.out.2.2.2.2.2.2.2.2.2.2.2.2.2.2.body, HH.out.2.2.2.1]; exact HBL.out i (by have := HH.out.2.2.2.2.1; have := HN.out.1; omega)) (c := Bc)
           refine wpOp_of rfl rfl ?_
           refine wp_append_rw hr6 rfl rfl rfl ?_
           have j12 : Kp (fun k => k = ga) s1 s2 := (((Kp.refl (fun _ => False) s1).drewN n6).mono (fun _ _ h => h.elim)).trans j6
           have kf2 : Kp (fun _ => False) wb s2 := kf1.then j12 (fun i' hi' e => by have e : i' = ga := e; omega)
           have ks2 : Kp (fun k => (Value.slice oa on oc).ownBlock = some k) wb s2 := kf2.mono (fun _ _ h => h.elim)
           refine ⟨fun _ => ks2, ?_⟩
           try simp only [sC]
           have b6 : (Value.slice v6a nB v6c).ownBlock = some ga ∨ (Value.slice v6a nB v6c).ownBlock = some s1.heap.size := b6
           have l6 : ∀ g', (Value.slice v6a nB v6c).ownBlock = some g' → wb.heap.size ≤ g' := fun g' hg => by
            have := kf1.size
            rcases b6 with e | e <;> (rw [e] at hg; cases hg; omega)
           clear hr6 b6 hga hga' hrB6 js1 hBlt hrB
           refine tF 7 85 (.agg #[.int .i64 (sq : Nat), .slice v6a nB v6c]) rfl rfl hSd (fun _ => ks2) ?_
           try simp only [sC]
           refine tA 8 ?_
           intro n8
           refine wpOp_of rfl rfl ?_
           go_simp
           try dsimp only
           refine ⟨fun _ => (ks2.drewN n8).alloc _, ?_⟩
           try rw [show (s2.drewN n8).heap.size = s2.heap.size from rfl]
           try simp only [sC]
           refine anyL_world (fun wx => At wx s2.heap.size [.int .i64 (sq : Nat), .slice v6a nB v6c] ∧ Kp (fun _ => False) s2 wx) ⟨At.new (s2.drewN n8) [.int .i64 (sq : Nat), .slice v6a nB v6c] _, ((Kp.refl _ s2).drewN n8).alloc _⟩ ?_
           rintro s3 ⟨hrw3, j23⟩
           have kf3 : Kp (fun _ => False) wb s3 := kf2.trans j23
           obtain ⟨gr, egr⟩ : ∃ g, g = s2.heap.size := ⟨_, rfl⟩
           rw [← egr] at hrw3 ⊢
           clear egr
           refine tA 9 ?_
           intro n9
           have kf9 := kf3.drewN n9
           have hgw : g < w.heap.size := HH.out.1.lt _ (.inr (.inl (by rw [HEV.out]; rfl)))
           have hwb : w.heap.size ≤ wb.heap.size := Nat.le_trans (Nat.le_trans HK.out.2.2.2.2.2.2.2.1.size HKW.out.size) HS.out.2.size
           have hots : OwnT w.heap.size (s3.drewN n9) (.slice oa on oc) l := ((HK.out.2.2.2.2.2.1.kp0 HKW.out).kpN HS.out.2 (fun k e => by have e : k = g := e; omega)).kp0 kf9
           have hll : l.length ≤ 1000000 := by have h1 := HK.out.2.2.2.2.2.2.1.1; have h2 := preI_len y i; omega
           obtain ⟨v9, s4, hr9, ho9, k9, b9⟩ := hots.app hll ⟨sq, .slice v6a nB v6c, d.body⟩ ((o6.kp j23 (fun _ _ h => h)).kp ((Kp.refl (fun _ => False) s3).drewN n9) (fun _ _ h => h)) (fun g' hg => Nat.le_trans hwb (l6 g' hg)) (Nat.le_trans hwb kf9.size) (((Kp.refl (fun _ => False) s3).drewN n9).at hrw3 (fun h => h))
           obtain ⟨v9a, v9c, e9, _⟩ := ho9.form
           refine wpOp_of rfl rfl ?_
           refine wp_append_rw hr9 rfl rfl rfl ?_
           have ks4 : Kp (fun k => (Value.slice oa on oc).ownBlock = some k) wb s4 := (kf9.mono (fun _ _ h => h.elim)).trans k9
           refine ⟨fun _ => ks4, ?_⟩
           try simp only [sC]
           refine tA 10 ?_
           intro n10
           refine wpOp_of rfl rfl ?_
           go_simp
           refine ⟨by kernel_rfl, fun nn => ?_⟩
           have ks5 := (ks4.drewN n10).drewN nn
           have ho5 := (ho9.kp0 ((Kp.refl _ s4).drewN n10)).kp0 ((Kp.refl _ (s4.drewN n10)).drewN nn)
           generalize (s4.drewN n10).drewN nn = s5 at *
           have H5 := Lib.hid (And.intro ks5 (And.intro ho5 e9))
           subst e9
           clear hSd ks0 kf0 kf1 kf2 ks2 kf3 kf9 ks4 ks5 ho5 ho9 hots hr9 k9 b9 j12 j6 j23 o6 l6 hrw3 p0 p1 hll
           go_wp2_with fail
           go_roundw
           case rel =>
            have e : preI y (i + 1) = preI y i ++ [i] := preI_yes (by rw [← HYN.out]; exact hdb)
            have hE2 := HK.out.2.1
            have hiE := HK.out.2.2.2.2.2.2.2.2.2.2.2.2.2.1
            have hsl : Sl wb v (E.set i (sentD y (dr E i))) := by
             refine .inr ⟨g, pre, post, vc, by rw [List.length_set, hE2, HEV.out], ?_, by rw [List.length_set]; exact HK.out.2.2.2.2.2.2.2.2.2.2.1, HK.out.2.2.2.2.2.2.2.2.2.2.2.1⟩
             rw [← HD.out.2.2.2.2.2.1]
             exact HS.out.1
            have hsnd := (HK.out.1.kp0 HKW.out).send hiE (preI_not y i) hsl HS.out.2 (by rw [HEV.out]; rfl)
            have hlo := HK.out.2.2.2.2.2.1.lo
            have hdB : ∀ j, (dr (E.set i (sentD y (dr E i))) j).B = (dr D j).B := fun j => by
             rw [dr_set hiE]
             by_cases ej : j = i
             · rw [if_pos ej, ej]; exact HK.out.2.2.1 i
             · rw [if_neg ej]; exact HK.out.2.2.1 j
            have hlE : (E.set i (sentD y (dr E i))).length = D.length := by rw [List.length_set, hE2]; exact HN.out.1
            have hrf : ∀ k, RwF b v (E.set i (sentD y (dr E i))) k → k < w.heap.size := fun k hk => HH.out.1.lt k (hk.imp_right (fun h => h.imp_right (fun ⟨j, h1, h2⟩ => ⟨j, by omega, by rw [← hdB]; exact h2⟩)))
            refine ⟨i + 1, v9a, l.length + 1, v9c, l ++ [⟨sq, .slice v6a nB v6c, d.body⟩], E.set i (sentD y (dr E i)), by omega, by go_num, by first | rfl | simp, ?_, by rw [List.length_set]; exact hE2, hdB, fun j hj => ?_, fun j hj => ?_, by have := H5.out.2.1; rw [List.length_append] at this; exact this, ?_, ?_⟩
            · rw [e]
              exact hsnd.kp H5.out.1 (fun k hk e' => by have := hrf k hk; have := hlo k e'; omega)
            · rw [dr_set hiE, if_neg (by omega)]; exact HK.out.2.2.2.1 j (by omega)
            · rw [dr_set hiE]
              by_cases ej : j = i
              · rw [if_pos ej]
                refine ⟨?_, ?_⟩
                · show y.now ≤ _; rw [← HYN.out]; exact hyn
                · show wk _ _ ≤ 60; exact (wk_bd (waitN_bd y.m y.s).1).2
              · rw [if_neg ej]; exact HK.out.2.2.2.2.1 j hj
            · rw [e]
              exact HK.out.2.2.2.2.2.2.1.snoc i _ (by show sq = _; rw [HD.out.1, HK.out.2.2.2.2.2.2.2.2.2.2.2.2.2.2.seq]) (by show d.body = _; exact HK.out.2.2.2.2.2.2.2.2.2.2.2.2.2.2.body)
            · refine ((HK.out.2.2.2.2.2.2.2.1.trans (HKW.out.mono (fun _ _ h => h.elim))).trans (HS.out.2.mono (fun k _ e' => by have e' : k = g := e'; exact .inr (.inl (by rw [HEV.out, e']; rfl))))).then H5.out.1 (fun k hk e' => by have := hlo k e'; omega)
           case measure => simp [intOf]; omega
       · have j2 : ¬ (k : Int) < tm := by omega
         have hq : min c' 60 = wk W (tm + 1) := wk_end HP.out (by omega) (.inl (by omega))
         go_upto_region 14 with fail
         have c1 := HZ.out.cell c1 (fun h => h)
         have c5 := HZ.out.cell c5 (fun h => h)
         have p0 := HZ.out.cell p0 (fun h => h)
         have p1 := HZ.out.cell p1 (fun h => h)
         obtain ⟨wz, hwz⟩ : ∃ wz, wz = wr := ⟨_, rfl⟩
         rw [← hwz] at HZ c1 c5 p0 p1 p2 ⊢
         clear hwz
         obtain ⟨q, hqq⟩ : ∃ q, q = min c' 60 := ⟨_, rfl⟩
         have hmin : (if 60 < (c' : Int) then (60 : Int) else (c' : Int)) = (q : Int) := by split <;> omega
         have hwt1 : IntKind.i64.wrap ((tm : Int) + 1) = ((tm + 1 : Nat) : Int) := by rw [IntWalk.i64_in _ (by omega)]; omega
         have HQ := Lib.hid (hqq.trans hq)
         have HKW := Lib.hid ((H6.out.1.trans K8.out).trans (K9.out.trans HZ.out))
         clear hqq hq hk1 hk3 hk4
         refine region_L (S := fun w' => Kp (fun _ => False) wz w') [20] rfl ?_
         have hSd : ∀ (w' : World) (n' : Nat), Kp (fun _ => False) wz w' → Kp (fun _ => False) wz (w'.drewN n') := fun w' n' h => h.drewN n'
         have hS0 : Kp (fun _ => False) wz wz.drew := (Kp.refl _ wz).drew
         refine anyL_world (fun w' => Kp (fun _ => False) wz w') hS0 ?_
         clear hS0
         intro t0 kt0
         refine tF 0 58 (.pointer (some ⟨b, 0, none⟩)) rfl rfl hSd (fun _ => kt0) ?_
         try simp only [sC]
         refine tF 1 59 (.pointer (some ⟨b, 0, none⟩)) rfl rfl hSd (fun _ => kt0) ?_
         try simp only [sC]
         refine tF 2 60 (.pointer (some ⟨b, 1, none⟩)) rfl rfl hSd (fun _ => kt0) ?_
         try simp only [sC]
         refine tD 3 61 (.slice (some ⟨g, off, none⟩) n vc) rfl rfl hSd (.inl (.inl ⟨rfl, fun w' hS => by have h := hS.cell c1 (fun h => h); go_simp⟩)) kt0 ?_
         try simp only [sC]
         refine tF 4 62 (.int .i64 i) rfl rfl hSd (fun _ => kt0) ?_
         try simp only [sC]
         refine tF 5 63 (.pointer (some ⟨pb, 0, none⟩)) rfl rfl hSd (fun _ => kt0) ?_
         try simp only [sC]
         refine tD 6 64 (.int .i64 sq) rfl rfl hSd (.inl (.inl ⟨rfl, fun w' hS => by have h := hS.cell p0 (fun h => h); go_simp⟩)) kt0 ?_
         try simp only [sC]
         refine tF 7 65 (.pointer (some ⟨pb, 1, none⟩)) rfl rfl hSd (fun _ => kt0) ?_
         try simp only [sC]
         refine tD 8 66 (.slice Ba nB Bc) rfl rfl hSd (.inl (.inl ⟨rfl, fun w' hS => by have h := hS.cell p1 (fun h => h); go_simp⟩)) kt0 ?_
         try simp only [sC]
         refine tF 9 67 (.pointer (some ⟨pb, 2, none⟩)) rfl rfl hSd (fun _ => kt0) ?_
         try simp only [sC]
         refine tD 10 68 (.int .i64 tm) rfl rfl hSd (.inl (.inl ⟨rfl, fun w' hS => by have h := hS.cell p2 (fun h => h); go_simp⟩)) kt0 ?_
         try simp only [sC]
         refine anyL_takeF (i := 11) (d := 69) (v := (.int .i64 (tm + 1 : Nat))) rfl rfl (by kernel_rfl) (by kernel_rfl) (by kernel_rfl) (fun _ _ _ h => h) hSd (by kernel_rfl) (.inl (.inl ⟨rfl, fun w' hS => by go_simp⟩)) (fun _ => kt0) ?_
         try simp only [sC]
         refine tF 12 70 (.pointer (some ⟨b, 0, none⟩)) rfl rfl hSd (fun _ => kt0) ?_
         try simp only [sC]
         refine tF 13 71 (.pointer (some ⟨b, 0, none⟩)) rfl rfl hSd (fun _ => kt0) ?_
         try simp only [sC]
         refine tF 14 72 (.pointer (some ⟨b, 5, none⟩)) rfl rfl hSd (fun _ => kt0) ?_
         try simp only [sC]
         refine tD 15 73 (.int .i64 ynow) rfl rfl hSd (.inl (.inl ⟨rfl, fun w' hS => by have h := hS.cell c5 (fun h => h); go_simp⟩)) kt0 ?_
         try simp only [sC]
         refine tF 16 74 (.int .i64 c') rfl rfl hSd (fun _ => kt0) ?_
         try simp only [sC]
         refine anyL_takeF (i := 17) (d := 75) (v := (.int .i64 (q : Nat))) rfl rfl (by kernel_rfl) (by kernel_rfl) (by kernel_rfl) (fun _ _ _ h => h) hSd (by kernel_rfl) (.inl (.inl ⟨rfl, fun w' hS => by go_simp⟩)) (fun _ => kt0) ?_
         try simp only [sC]
         refine tF 18 76 (.agg #[.int .i64 (sq : Nat), .slice Ba nB Bc, .int .i64 (tm + 1 : Nat), .int .i64 (ynow : Nat), .int .i64 (q : Nat)]) rfl rfl hSd (fun _ => kt0) ?_
         try simp only [sC]
         refine tF 19 77 (.pointer (some ⟨g, off + i * 5, none⟩)) rfl rfl hSd (fun _ => kt0) ?_
         try simp only [sC]
         refine tA 20 ?_
         intro n20
         have hatz := ((HKW.out.trans kt0).drewN n20).at HK.out.2.2.2.2.2.2.2.2.1 (fun h => h)
         obtain ⟨wa, hst, hata, ka⟩ := store_dr (w := t0.drewN n20) hatz HK.out.2.2.2.2.2.2.2.2.2.2.2.2.2.1 (sentD y d) ⟨_, _, _, HD.out.2.2.2.2.2.2.1⟩
         rw [← HK.out.2.2.2.2.2.2.2.2.2.1, show (drC (sentD y d)).toArray = #[.int .i64 (sq : Nat), .slice Ba nB Bc, .int .i64 (tm + 1 : Nat), .int .i64 (ynow : Nat), .int .i64 (q : Nat)] by rw [HD.out.1, HD.out.2.2.1, HYN.out, HQ.out, HH.out.2.2.2.2.2.2, HD.out.2.2.1, ← HD.out.2.2.2.2.2.2.1]; rfl] at hst
         refine wpOp_of rfl rfl ?_
         refine wp_store_run hst rfl rfl rfl ?_
         try dsimp only
         refine ⟨fun h => Bool.noConfusion (show false = true from h), ?_⟩
         try simp only [sC]
         refine anyL_done (by kernel_rfl) (fun nn => ?_) _
         have kza : Kp (fun k => k = g) wz (wa.drewN nn) := (((kt0.drewN n20).mono (fun _ _ h => h.elim)).trans ka).drewN nn
         have hata := hata.drewN nn
         generalize wa.drewN nn = wb at *
         have p0 := kza.cell p0 hpg
         have p1 := kza.cell p1 hpg
         have HS := Lib.hid (And.intro hata kza)
         clear hSd kt0 hst hatz ka hata kza c1 c5 p2 hmin hwt1
         go_upto_region 15 with fail
         refine region_L (S := fun w' => Kp (fun k => (Value.slice oa on oc).ownBlock = some k) wb w') [10] rfl ?_
         have hSd : ∀ (w' : World) (n' : Nat), Kp (fun k => (Value.slice oa on oc).ownBlock = some k) wb w' → Kp (fun k => (Value.slice oa on oc).ownBlock = some k) wb (w'.drewN n') := fun w' n' h => h.drewN n'
         have hS0 : Kp (fun k => (Value.slice oa on oc).ownBlock = some k) wb wb.drew := (Kp.refl _ wb).drew
         refine anyL_world (fun w' => Kp (fun _ => False) wb w') (Kp.refl _ wb).drew ?_
         clear hS0
         intro s0 kf0
         have ks0 : Kp (fun k => (Value.slice oa on oc).ownBlock = some k) wb s0 := kf0.mono (fun _ _ h => h.elim)
         refine tF 0 78 (.slice oa on oc) rfl rfl hSd (fun _ => ks0) ?_
         try simp only [sC]
         refine tF 1 79 (.pointer (some ⟨pb, 0, none⟩)) rfl rfl hSd (fun _ => ks0) ?_
         try simp only [sC]
         refine tD 2 80 (.int .i64 sq) rfl rfl hSd (.inl (.inl ⟨rfl, fun w' hS => by have h := hS.cell p0 (fun e => hop _ e rfl); go_simp⟩)) ks0 ?_
         try simp only [sC]
         refine tF 4 82 (.pointer (some ⟨pb, 1, none⟩)) rfl rfl hSd (fun _ => ks0) ?_
         try simp only [sC]
         refine tD 5 83 (.slice Ba nB Bc) rfl rfl hSd (.inl (.inl ⟨rfl, fun w' hS => by have h := hS.cell p1 (fun e => hop _ e rfl); go_simp⟩)) ks0 ?_
         try simp only [sC]
         refine tA 3 ?_
         intro n3
         refine wpOp_of rfl rfl ?_
         go_simp
         try dsimp only
         refine ⟨fun _ => (ks0.drewN n3).alloc _, ?_⟩
         try rw [show (s0.drewN n3).heap.size = s0.heap.size from rfl]
         try simp only [sC]
         refine anyL_world (fun wx => At wx s0.heap.size [] ∧ Kp (fun _ => False) s0 wx) ⟨At.new (s0.drewN n3) [] _, ((Kp.refl _ s0).drewN n3).alloc _⟩ ?_
         rintro s1 ⟨hga, js1⟩
         have lga : wb.heap.size ≤ s0.heap.size := kf0.size
         obtain ⟨ga, ega⟩ : ∃ g, g = s0.heap.size := ⟨_, rfl⟩
         rw [← ega] at hga lga ⊢
         have kf1 : Kp (fun _ => False) wb s1 := kf0.trans js1
         clear ega
         refine tA 6 ?_
         intro n6
         have hga' := ((Kp.refl (fun _ => False) s1).drewN n6).at hga (fun h => h)
         have hBlt : ∀ z, Ba = some z → z.block ≠ g := fun z hz e => by
          have e2 : (dr E i).B.ownBlock = some z.block := by rw [← HD.out.2.2.2.2.2.1, HD.out.2.2.2.2.2.2.1, hz]; rfl
          exact HK.out.1.bv i _ HK.out.2.2.2.2.2.2.2.2.2.2.2.2.2.1 e2 (by rw [HEV.out, e]; rfl)
         have hrB := HD.out.2.2.2.2.2.2.2.2
         have hrB6 : RdB (s1.drewN n6) Ba d.body := (((hrB.kp HKW.out (fun _ _ h => h)).kp HS.out.2 (fun z hz e => hBlt z hz e)).kp kf1 (fun _ _ h => h)).kp ((Kp.refl (fun _ => False) s1).drewN n6) (fun _ _ h => h)
         obtain ⟨v6a, v6c, s2, hr6, o6, j6, b6⟩ := rw_byt (w := s1.drewN n6) hga' hrB6 HD.out.2.1 (by rw [HD.out.2.1, HK.out.2.2.2.2.2.2.2.2.2.2.2.2.2.2.body, HH.out.2.2.2.1]; exact HBL.out i (by have := HH.out.2.2.2.2.1; have := HN.out.1; omega)) (c := Bc)
         refine wpOp_of rfl rfl ?_
         refine wp_append_rw hr6 rfl rfl rfl ?_
         have j12 : Kp (fun k => k = ga) s1 s2 := (((Kp.refl (fun _ => False) s1).drewN n6).mono (fun _ _ h => h.elim)).trans j6
         have kf2 : Kp (fun _ => False) wb s2 := kf1.then j12 (fun i' hi' e => by have e : i' = ga := e; omega)
         have ks2 : Kp (fun k => (Value.slice oa on oc).ownBlock = some k) wb s2 := kf2.mono (fun _ _ h => h.elim)
         refine ⟨fun _ => ks2, ?_⟩
         try simp only [sC]
         have b6 : (Value.slice v6a nB v6c).ownBlock = some ga ∨ (Value.slice v6a nB v6c).ownBlock = some s1.heap.size := b6
         have l6 : ∀ g', (Value.slice v6a nB v6c).ownBlock = some g' → wb.heap.size ≤ g' := fun g' hg => by
          have := kf1.size
          rcases b6 with e | e <;> (rw [e] at hg; cases hg; omega)
         clear hr6 b6 hga hga' hrB6 js1 hBlt hrB
         refine tF 7 85 (.agg #[.int .i64 (sq : Nat), .slice v6a nB v6c]) rfl rfl hSd (fun _ => ks2) ?_
         try simp only [sC]
         refine tA 8 ?_
         intro n8
         refine wpOp_of rfl rfl ?_
         go_simp
         try dsimp only
         refine ⟨fun _ => (ks2.drewN n8).alloc _, ?_⟩
         try rw [show (s2.drewN n8).heap.size = s2.heap.size from rfl]
         try simp only [sC]
         refine anyL_world (fun wx => At wx s2.heap.size [.int .i64 (sq : Nat), .slice v6a nB v6c] ∧ Kp (fun _ => False) s2 wx) ⟨At.new (s2.drewN n8) [.int .i64 (sq : Nat), .slice v6a nB v6c] _, ((Kp.refl _ s2).drewN n8).alloc _⟩ ?_
         rintro s3 ⟨hrw3, j23⟩
         have kf3 : Kp (fun _ => False) wb s3 := kf2.trans j23
         obtain ⟨gr, egr⟩ : ∃ g, g = s2.heap.size := ⟨_, rfl⟩
         rw [← egr] at hrw3 ⊢
         clear egr
         refine tA 9 ?_
         intro n9
         have kf9 := kf3.drewN n9
         have hgw : g < w.heap.size := HH.out.1.lt _ (.inr (.inl (by rw [HEV.out]; rfl)))
         have hwb : w.heap.size ≤ wb.heap.size := Nat.le_trans (Nat.le_trans HK.out.2.2.2.2.2.2.2.1.size HKW.out.size) HS.out.2.size
         have hots : OwnT w.heap.size (s3.drewN n9) (.slice oa on oc) l := ((HK.out.2.2.2.2.2.1.kp0 HKW.out).kpN HS.out.2 (fun k e => by have e : k = g := e; omega)).kp0 kf9
         have hll : l.length ≤ 1000000 := by have h1 := HK.out.2.2.2.2.2.2.1.1; have h2 := preI_len y i; omega
         obtain ⟨v9, s4, hr9, ho9, k9, b9⟩ := hots.app hll ⟨sq, .slice v6a nB v6c, d.body⟩ ((o6.kp j23 (fun _ _ h => h)).kp ((Kp.refl (fun _ => False) s3).drewN n9) (fun _ _ h => h)) (fun g' hg => Nat.le_trans hwb (l6 g' hg)) (Nat.le_trans hwb kf9.size) (((Kp.refl (fun _ => False) s3).drewN n9).at hrw3 (fun h => h))
         obtain ⟨v9a, v9c, e9, _⟩ := ho9.form
         refine wpOp_of rfl rfl ?_
         refine wp_append_rw hr9 rfl rfl rfl ?_
         have ks4 : Kp (fun k => (Value.slice oa on oc).ownBlock = some k) wb s4 := (kf9.mono (fun _ _ h => h.elim)).trans k9
         refine ⟨fun _ => ks4, ?_⟩
         try simp only [sC]
         refine tA 10 ?_
         intro n10
         refine wpOp_of rfl rfl ?_
         go_simp
         refine ⟨by kernel_rfl, fun nn => ?_⟩
         have ks5 := (ks4.drewN n10).drewN nn
         have ho5 := (ho9.kp0 ((Kp.refl _ s4).drewN n10)).kp0 ((Kp.refl _ (s4.drewN n10)).drewN nn)
         generalize (s4.drewN n10).drewN nn = s5 at *
         have H5 := Lib.hid (And.intro ks5 (And.intro ho5 e9))
         subst e9
         clear hSd ks0 kf0 kf1 kf2 ks2 kf3 kf9 ks4 ks5 ho5 ho9 hots hr9 k9 b9 j12 j6 j23 o6 l6 hrw3 p0 p1 hll
         go_wp2_with fail
         go_roundw
         case rel =>
          have e : preI y (i + 1) = preI y i ++ [i] := preI_yes (by rw [← HYN.out]; exact hdb)
          have hE2 := HK.out.2.1
          have hiE := HK.out.2.2.2.2.2.2.2.2.2.2.2.2.2.1
          have hsl : Sl wb v (E.set i (sentD y (dr E i))) := by
           refine .inr ⟨g, pre, post, vc, by rw [List.length_set, hE2, HEV.out], ?_, by rw [List.length_set]; exact HK.out.2.2.2.2.2.2.2.2.2.2.1, HK.out.2.2.2.2.2.2.2.2.2.2.2.1⟩
           rw [← HD.out.2.2.2.2.2.1]
           exact HS.out.1
          have hsnd := (HK.out.1.kp0 HKW.out).send hiE (preI_not y i) hsl HS.out.2 (by rw [HEV.out]; rfl)
          have hlo := HK.out.2.2.2.2.2.1.lo
          have hdB : ∀ j, (dr (E.set i (sentD y (dr E i))) j).B = (dr D j).B := fun j => by
           rw [dr_set hiE]
           by_cases ej : j = i
           · rw [if_pos ej, ej]; exact HK.out.2.2.1 i
           · rw [if_neg ej]; exact HK.out.2.2.1 j
          have hlE : (E.set i (sentD y (dr E i))).length = D.length := by rw [List.length_set, hE2]; exact HN.out.1
          have hrf : ∀ k, RwF b v (E.set i (sentD y (dr E i))) k → k < w.heap.size := fun k hk => HH.out.1.lt k (hk.imp_right (fun h => h.imp_right (fun ⟨j, h1, h2⟩ => ⟨j, by omega, by rw [← hdB]; exact h2⟩)))
          refine ⟨i + 1, v9a, l.length + 1, v9c, l ++ [⟨sq, .slice v6a nB v6c, d.body⟩], E.set i (sentD y (dr E i)), by omega, by go_num, by first | rfl | simp, ?_, by rw [List.length_set]; exact hE2, hdB, fun j hj => ?_, fun j hj => ?_, by have := H5.out.2.1; rw [List.length_append] at this; exact this, ?_, ?_⟩
          · rw [e]
            exact hsnd.kp H5.out.1 (fun k hk e' => by have := hrf k hk; have := hlo k e'; omega)
          · rw [dr_set hiE, if_neg (by omega)]; exact HK.out.2.2.2.1 j (by omega)
          · rw [dr_set hiE]
            by_cases ej : j = i
            · rw [if_pos ej]
              refine ⟨?_, ?_⟩
              · show y.now ≤ _; rw [← HYN.out]; exact hyn
              · show wk _ _ ≤ 60; exact (wk_bd (waitN_bd y.m y.s).1).2
            · rw [if_neg ej]; exact HK.out.2.2.2.2.1 j hj
          · rw [e]
            exact HK.out.2.2.2.2.2.2.1.snoc i _ (by show sq = _; rw [HD.out.1, HK.out.2.2.2.2.2.2.2.2.2.2.2.2.2.2.seq]) (by show d.body = _; exact HK.out.2.2.2.2.2.2.2.2.2.2.2.2.2.2.body)
          · refine ((HK.out.2.2.2.2.2.2.2.1.trans (HKW.out.mono (fun _ _ h => h.elim))).trans (HS.out.2.mono (fun k _ e' => by have e' : k = g := e'; exact .inr (.inl (by rw [HEV.out, e']; rfl))))).then H5.out.1 (fun k hk e' => by have := hlo k e'; omega)
         case measure => simp [intOf]; omega
    · have hdb : dueB (pk y.l i) ynow = false := by simpa using hdb
      rw [hdb]
      go_wp2_with fail
      go_roundw
      case rel =>
       have e : preI y (i + 1) = preI y i := preI_no (by rw [← HYN.out]; exact hdb)
       have kk := H6.out.1.trans K8.out
       exact ⟨i + 1, oa, on, oc, l, E, by omega, by go_num, rfl, by rw [e]; exact HK.out.1.kp0 kk, HK.out.2.1, HK.out.2.2.1, fun j hj => HK.out.2.2.2.1 j (by omega), HK.out.2.2.2.2.1, HK.out.2.2.2.2.2.1.kp0 kk, by rw [e]; exact HK.out.2.2.2.2.2.2.1, HK.out.2.2.2.2.2.2.2.1.trans (kk.mono (fun _ _ h => h.elim))⟩
      case measure => simp [intOf]; omega
  · obtain rfl : i = n := by omega
    have j1 : ¬ (i : Int) < i := by omega
    have e9 : preI y i = dueI y := by
     have h1 := HN.out.1
     have h2 := HH.out.2.2.2.2.1
     have h3 := HH.out.2.2.2.1
     rw [← preI_all, h3, ← h2, ← h1]
    rw [e9] at hw htl
    have HF := Lib.hid (And.intro hw (And.intro hE (And.intro hEB (And.intro hEw (And.intro hot (And.intro htl hkp))))))
    clear hw hE hEB hEs hEw hot htl hkp ev
    go_wp2_with fail
    go_ret
    refine ⟨_, rfl, l, HF.out.2.2.2.2.1, HF.out.2.2.2.2.2.1, E, HF.out.1, fun j hj => HF.out.2.2.2.1 j (by have := HF.out.2.1; omega), fun k => ?_, HF.out.2.2.2.2.2.2⟩
    have hl : E.length = D.length := by rw [HF.out.2.1]; exact HN.out.1
    unfold RwF
    rw [hl]
    refine or_congr Iff.rfl (or_congr Iff.rfl ⟨fun ⟨q, h1, h2⟩ => ⟨q, h1, by rw [← HF.out.2.2.1]; exact h2⟩, fun ⟨q, h1, h2⟩ => ⟨q, h1, by rw [HF.out.2.2.1]; exact h2⟩⟩)
end
end Go.Proofs.YtokembhfebnjpaaGreat
