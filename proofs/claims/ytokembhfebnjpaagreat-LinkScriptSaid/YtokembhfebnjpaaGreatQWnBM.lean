/- Package window: New, Open, Last, Times, Push. (Written by wip/win13b.py.) -/
import Derived.Test.YtokembhfebnjpaaGreatQRegL
import Derived.Test.YtokembhfebnjpaaGreatQKt0M
import Derived.Test.YtokembhfebnjpaaGreatQRunL
import Derived.Test.YtokembhfebnjpaaGreatQWnAM
import Derived.Deep.DeepCutAuto
namespace Go.Proofs.YtokembhfebnjpaaGreat
set_option maxRecDepth 20000
open Go.RowKit Flt
set_option linter.unusedVariables false
set_option linter.unusedSimpArgs false
def wnew (s : Nat) : Wn := ⟨s, 0, .slice none 0 0, [], 4616189618054758400, 4607182418800017408, 0⟩
theorem wnew_ok (s : Nat) (w : World) (hs : 1 ≤ s ∧ s ≤ 64) :
 Calls Tryz.prog 115 #[.int .i64 s] w fun e w' => e = .returned (.tuple #[.pointer (some ⟨w.heap.size, 0, none⟩), .int .i64 0]) ∧ WinC w' w.heap.size (wnew s) ∧ Kp (fun _ => False) w w' := by
 have h1 : 1 ≤ (s : Int) := by omega
 have h2 : (s : Int) ≤ 64 := by omega
 go_enter Tryz.func115, Tryz.ntmps115
 go_wp2
 go_ret2
 exact ⟨rfl, ⟨At.new w (winC (wnew s)) _, .inl ⟨rfl, rfl⟩, fun i hi => absurd hi (Nat.not_lt_zero _), fun i hi => absurd hi (Nat.not_lt_zero _), hs, Nat.zero_le _, fun i hi => absurd hi (Nat.not_lt_zero _), Nat.zero_le _, fun i hi => absurd hi (Nat.not_lt_zero _)⟩, (Kp.refl _ w).alloc _⟩
def PS (wp : World) (VV : Value) (GS : List Nat) (w' : World) : Prop := Kp (fun k => VV.ownBlock = some k) wp w' ∧ Row w' VV GS
theorem PS.kp0 {wp w' w'' : World} {VV : Value} {GS : List Nat} (h : PS wp VV GS w') (k : Kp (fun _ => False) w' w'') : PS wp VV GS w'' := ⟨h.1.then k (fun _ _ h => h.elim), h.2.kp k (fun _ _ h => h)⟩
theorem PS.drewN {wp w' : World} {VV : Value} {GS : List Nat} (h : PS wp VV GS w') (n : Nat) : PS wp VV GS (w'.drewN n) := h.kp0 ((Kp.refl _ w').drewN n)
theorem PS.start {wp : World} {VV : Value} {GS : List Nat} (h : Row wp VV GS) : PS wp VV GS wp.drew := ⟨(Kp.refl _ wp).drew, h.kp ((Kp.refl (fun _ => False) wp).drew) (fun _ _ h => h)⟩
theorem elem_ptr : Elem Tryz.prog 98 (.pointer none) 1 8 := Elem.mk' (by kernel_rfl) rfl (by omega) (by simp [Value.cells, Value.oneCell'])
theorem RdB.apart {S : Nat → Prop} {w w' : World} {a : Option Addr} {l : List Int} (h : RdB w a l) (k : Kp S w w') (hS : ∀ j, S j → ∃ cs, At w j cs ∧ ∀ u ∈ cs, ¬ isB u) : RdB w' a l :=
 ⟨fun i hi => by
  obtain ⟨b, off, ha, hc⟩ := h.cell i hi
  refine ⟨b, off, ha, k.cell (p := ⟨b, off + i, none⟩) hc (fun hs => ?_)⟩
  obtain ⟨cs, hat, hn⟩ := hS b hs
  rw [hat.cell] at hc
  exact hn _ (List.mem_of_getElem? hc) ⟨_, rfl, h.bd.getD i⟩, h.bd, h.len⟩
theorem winC_notB (x : Wn) (hV : ¬ isB x.V) : ∀ u ∈ winC x, ¬ isB u := fun u hu => by
 simp only [winC, List.mem_cons, List.not_mem_nil, or_false] at hu
 rcases hu with rfl | rfl | rfl | rfl | rfl | rfl
 · exact not_isB_i64 _
 · exact not_isB_i64 _
 · exact hV
 · exact fun ⟨m, e, _⟩ => by cases e
 · exact fun ⟨m, e, _⟩ => by cases e
 · exact not_isB_i64 _
variable {w : World} {b : Nat} {x : Wn}
theorem WinC.c0 (h : WinC w b x) : w.cell? ⟨b, 0, none⟩ = some (.int .i64 x.size) := h.hat.cell 0
theorem WinC.c1 (h : WinC w b x) : w.cell? ⟨b, 1, none⟩ = some (.int .i64 x.last) := h.hat.cell 1
theorem WinC.c2 (h : WinC w b x) : w.cell? ⟨b, 2, none⟩ = some x.V := h.hat.cell 2
theorem WinC.c3 (h : WinC w b x) : w.cell? ⟨b, 3, none⟩ = some (.float .f64 x.m) := h.hat.cell 3
theorem WinC.c4 (h : WinC w b x) : w.cell? ⟨b, 4, none⟩ = some (.float .f64 x.s) := h.hat.cell 4
theorem WinC.c5 (h : WinC w b x) : w.cell? ⟨b, 5, none⟩ = some (.int .i64 x.now) := h.hat.cell 5
theorem WinC.form (h : WinC w b x) : ∃ a c, x.V = .slice a x.l.length c ∧ x.l.length ≤ c := by
 obtain ⟨a, c, e, hc⟩ := h.row.len
 rw [List.length_map] at e hc
 exact ⟨a, c, e, hc⟩
theorem wopen_any (h : WinC w b x) : Calls Tryz.prog 45 #[.pointer (some ⟨b, 0, none⟩)] w fun e w' => e = .returned (.int .i64 x.l.length) ∧ w = w' := by
 obtain ⟨a, c, e, hc⟩ := h.form
 have h2 := h.c2
 rw [e] at h2
 have C := Lib.hid (wnone_no b x.size w h.c0 h.size_bd.1)
 clear h e hc
 go_enter Tryz.func45, Tryz.ntmps45
 go_wp2_with (go_at_call 48; refine C.out.mono ?_; rintro e w' ⟨rfl, rfl⟩)
 go_ret
 exact ⟨rfl, rfl⟩
theorem push_full (h : WinC w b x) (hf : x.size ≤ x.l.length) (a : Option Addr) (n c : Nat) : Calls Tryz.prog 35 #[.pointer (some ⟨b, 0, none⟩), .slice a n c] w fun e w' => e = .returned (.tuple #[.int .i64 0, .int .i64 8]) ∧ ∃ k, w' = w.drewN k := by
 obtain ⟨a1, c1, e, hc⟩ := h.form
 have h2 := h.c2
 rw [e] at h2
 have h0 := h.c0
 have C := Lib.hid (wnone_no b x.size w h.c0 h.size_bd.1)
 have hd : decide (x.size ≤ x.l.length) = true := by simpa using hf
 have hd2 : decide ((x.size : Int) ≤ x.l.length) = true := by simpa using hf
 clear h e hc
 go_enter Tryz.func35, Tryz.ntmps35
 go_wp2_with (go_at_call 48; refine C.out.mono ?_; rintro e w' ⟨rfl, rfl⟩)
 go_quiet (fail)
 go_wp2
 go_ret2
 exact ⟨rfl, _, rfl⟩
theorem push_ok (h : WinC w b x) (hf : x.l.length < x.size) (hl : x.last ≤ 4611686018427387904) (a : Option Addr) (n c : Nat) (body : List Int) (hn : n = body.length) (hr : RdB w a body) (hbl : n ≤ 1000000000) :
 Calls Tryz.prog 35 #[.pointer (some ⟨b, 0, none⟩), .slice a n c] w fun e w' => e = .returned (.tuple #[.int .i64 (x.last + 1 : Nat), .int .i64 0]) ∧
  ∃ p V', p.seq = x.last + 1 ∧ p.body = body ∧ p.times = 0 ∧ WinC w' b { x with last := x.last + 1, V := V', l := x.l ++ [p] } ∧ (∀ k, Mine b { x with last := x.last + 1, V := V', l := x.l ++ [p] } k → Mine b x k ∨ w.heap.size ≤ k) ∧ Kp (Mine b x) w w' := by
 obtain ⟨a1, c1, e, hc⟩ := h.form
 have h2 := h.c2
 have h1 := h.c1
 have h0 := h.c0
 have hfr := h.hat.frozen 1
 have hfr2 := h.hat.frozen 2
 have hne : ¬ x.V.ownBlock = some b := fun e => (h.rowNe e).1 rfl
 have c0 := wnone_no b x.size w h.c0 h.size_bd.1
 have hd : decide (x.size ≤ x.l.length) = false := by simpa using hf
 have hd2 : decide ((x.size : Int) ≤ x.l.length) = false := by simpa using hf
 have HW := Lib.hid h
 have HR := Lib.hid hr
 have HF := Lib.hid (And.intro hn hf)
 obtain ⟨last, hla⟩ : ∃ last, last = x.last := ⟨_, rfl⟩
 obtain ⟨len, hle⟩ : ∃ len, len = x.l.length := ⟨_, rfl⟩
 obtain ⟨size, hsi⟩ : ∃ size, size = x.size := ⟨_, rfl⟩
 rw [← hla] at h1 hl
 rw [← hle, ← hsi] at hd hd2
 rw [← hsi] at h0
 have C := Lib.hid c0
 have hV : x.V = .slice a1 len c1 := by rw [e, hle]
 rw [hV] at h2 hne
 have HX := Lib.hid (And.intro hla (And.intro hle (And.intro hsi hV)))
 have hw2 := h2
 clear h e hc hr hn hf hle hsi hV c0
 rw [show ((x.last + 1 : Nat) : Int) = ((last + 1 : Nat) : Int) by rw [hla]]
 clear hla
 go_enter Tryz.func35, Tryz.ntmps35
 go_wp2_with (go_at_call 48; refine C.out.mono ?_; rintro e w' ⟨rfl, rfl⟩)
 go_quiet (fail)
 go_upto_region 6 with fail
 have hat1 : At ((w.drewN nq).setCell ⟨b, 1, none⟩ (.int .i64 ((last : Int) + 1))) b (winC { x with last := x.last + 1 }) := by
  have := (HW.out.hat.drewN nq).set 1 (.int .i64 ((last : Int) + 1))
  rw [HX.out.1] at this ⊢
  exact this
 have kp1 : Kp (· = b) w ((w.drewN nq).setCell ⟨b, 1, none⟩ (.int .i64 ((last : Int) + 1))) := ((Kp.refl (· = b) w).drewN nq).setCell (p := ⟨b, 1, none⟩) (fun _ => rfl) _
 obtain ⟨wp, hwp⟩ : ∃ wp, wp = (w.drewN nq).setCell ⟨b, 1, none⟩ (.int .i64 ((last : Int) + 1)) := ⟨_, rfl⟩
 rw [← hwp] at hat1 kp1 ⊢
 obtain ⟨VV, hVV⟩ : ∃ VV, VV = Value.slice a1 len c1 := ⟨_, rfl⟩
 rw [← hVV] at hne
 have HV := Lib.hid (show wp.cell? ⟨b, 1, none⟩ = some (.int .i64 (last + 1 : Nat)) ∧ wp.cell? ⟨b, 2, none⟩ = some VV ∧ ¬ VV.ownBlock = some b from ⟨by have := hat1.cell 1; rw [this]; rw [HX.out.1]; rfl, by have := hat1.cell 2; rw [this, hVV, ← HX.out.2.2.2]; rfl, hne⟩)
 have H1 := Lib.hid (And.intro hat1 kp1)
 have hVB : ¬ isB x.V := by rw [HX.out.2.2.2]; exact fun ⟨m, e, _⟩ => by cases e
 have hrow : Row wp x.V (x.l.map Pk.g) := HW.out.row.kp kp1 (fun g hg => (HW.out.rowNe hg).1)
 have HRB := Lib.hid (show ∀ w', Kp (fun k => VV.ownBlock = some k) wp w' → RdB w' a body from fun w' k => (HR.out.apart kp1 (fun j e => ⟨_, by rw [show j = b from e]; exact HW.out.hat, winC_notB x hVB⟩)).apart k (fun j e => by
  obtain ⟨cs, h1, _, h2⟩ := hrow.blk (g := j) (by rw [HX.out.2.2.2, ← hVV]; exact e)
  exact ⟨cs, h1, fun u hu => by obtain ⟨q, rfl⟩ := h2 u hu; exact not_isB_ptr q⟩))
 have hgsl : (x.l.map Pk.g).length ≤ 1000 := by have h1 := HW.out.len; have h2 := HW.out.size_bd; simp; omega
 obtain ⟨GS, hGS⟩ : ∃ GS, GS = x.l.map Pk.g := ⟨_, rfl⟩
 rw [← hGS] at hrow hgsl
 have HROW := Lib.hid (show Row wp VV GS by rw [hVV, ← HX.out.2.2.2]; exact hrow)
 have HG := Lib.hid hGS
 have HF := Lib.hid (And.intro HF.out.1 (And.intro HF.out.2 hgsl))
 clear hVB hrow hGS hgsl
 have HVV := Lib.hid hVV
 clear hat1 kp1 hwp hVV h0 h1 h2 hw2 hd hd2 hfr hfr2 hne C
 refine region_L (S := fun w' => PS wp VV GS w') [18] rfl ?_
 have hSd : ∀ (w' : World) (n' : Nat), PS wp VV GS w' → PS wp VV GS (w'.drewN n') := fun w' n' h => h.drewN n'
 have hS0 : PS wp VV GS wp.drew := PS.start HROW.out
 refine anyL_world (fun w' => PS wp VV GS w') hS0 ?_
 clear hS0
 intro x0 kx0
 refine tF 0 27 (.pointer (some ⟨b, 0, none⟩)) rfl rfl hSd (fun _ => kx0) ?_
 try simp only [sC]
 refine tF 1 28 (.pointer (some ⟨b, 0, none⟩)) rfl rfl hSd (fun _ => kx0) ?_
 try simp only [sC]
 refine tF 2 29 (.pointer (some ⟨b, 0, none⟩)) rfl rfl hSd (fun _ => kx0) ?_
 try simp only [sC]
 refine tF 3 30 (.pointer (some ⟨b, 2, none⟩)) rfl rfl hSd (fun _ => kx0) ?_
 try simp only [sC]
 refine tD 4 31 VV rfl rfl hSd (.inl (.inl ⟨rfl, fun w' hS => by have h0 := hS.1.cell HV.out.2.1 HV.out.2.2; go_simp⟩)) kx0 ?_
 try simp only [sC]
 refine tF 5 32 (.pointer (some ⟨b, 0, none⟩)) rfl rfl hSd (fun _ => kx0) ?_
 try simp only [sC]
 refine tF 6 33 (.pointer (some ⟨b, 0, none⟩)) rfl rfl hSd (fun _ => kx0) ?_
 try simp only [sC]
 refine tF 7 34 (.pointer (some ⟨b, 1, none⟩)) rfl rfl hSd (fun _ => kx0) ?_
 try simp only [sC]
 refine tD 8 35 (.int .i64 (last + 1 : Nat)) rfl rfl hSd (.inl (.inl ⟨rfl, fun w' hS => by have h0 := hS.1.cell HV.out.1 HV.out.2.2; go_simp⟩)) kx0 ?_
 try simp only [sC]
 refine tF 9 36 (.slice a n c) rfl rfl hSd (fun _ => kx0) ?_
 try simp only [sC]
 refine tA 10 ?_
 intro n10
 refine wpOp_of rfl rfl ?_
 obtain ⟨vB, xa, rB, oB, kB, bB⟩ := run_append_b (P := Tryz.prog) (t := 32) (tx := 32) (ty := 32) (x0.drewN n10) Tryz.underlying32 elem_u8 Tryz.underlying32 (OwnB.nil' _) (a := a) (c := c) (m := body) ((HRB.out _ kx0.1).drewN n10) (by have := HF.out.1; simp; omega)
 rw [← HF.out.1] at rB
 rw [List.nil_append] at oB
 obtain ⟨aB, cB, eB, _, _⟩ := oB.form
 rw [← HF.out.1] at eB
 subst eB
 refine wp_append_run rB rfl rfl rfl ?_
 have kB' : Kp (fun _ => False) (x0.drewN n10) xa := kB.mono (fun _ _ h => by cases h)
 try dsimp only
 have kxa : PS wp VV GS xa := (kx0.drewN n10).kp0 kB'
 refine ⟨fun _ => kxa, ?_⟩
 try simp only [sC]
 refine tF 11 38 (.agg #[.int .i64 (last + 1 : Nat), .slice aB n cB]) rfl rfl hSd (fun _ => kxa) ?_
 try simp only [sC]
 refine tF 12 39 (.agg #[.int .i64 (last + 1 : Nat), .slice aB n cB, .int .i64 0, .int .i64 0, .int .i64 0]) rfl rfl hSd (fun _ => kxa) ?_
 try simp only [sC]
 refine tA 13 ?_
 intro n13
 refine wpOp_of rfl rfl ?_
 go_simp
 obtain ⟨xb, hxb⟩ : ∃ xb, xb = (xa.drewN n13).alloc (Obj.cells #[.int .i64 ((last : Int) + 1), .slice aB n cB, .int .i64 0, .int .i64 0, .int .i64 0] 100) := ⟨_, rfl⟩
 obtain ⟨pb, hpb⟩ : ∃ pb, pb = xa.heap.size := ⟨_, rfl⟩
 try rw [← hxb, ← hpb]
 have jxb : Kp (fun _ => False) xa xb := by rw [hxb]; exact ((Kp.refl _ xa).drewN n13).alloc _
 have atpb : At xb pb [.int .i64 ((last : Int) + 1), .slice aB n cB, .int .i64 0, .int .i64 0, .int .i64 0] := by rw [hxb, hpb]; exact At.new (xa.drewN n13) [.int .i64 ((last : Int) + 1), .slice aB n cB, .int .i64 0, .int .i64 0, .int .i64 0] 100
 have ltpb : xa.heap.size ≤ pb := by omega
 clear hxb hpb
 try dsimp only
 have kxb : PS wp VV GS xb := kxa.kp0 jxb
 refine ⟨fun _ => kxb, ?_⟩
 try simp only [sC]
 refine tA 14 ?_
 intro n14
 refine wpOp_of rfl rfl ?_
 go_simp
 obtain ⟨xc, hxc⟩ : ∃ xc, xc = (xb.drewN n14).alloc (Obj.cells #[.pointer (some ⟨pb, 0, none⟩)] 98) := ⟨_, rfl⟩
 obtain ⟨pc, hpc⟩ : ∃ pc, pc = xb.heap.size := ⟨_, rfl⟩
 try rw [← hxc, ← hpc]
 have jxc : Kp (fun _ => False) xb xc := by rw [hxc]; exact ((Kp.refl _ xb).drewN n14).alloc _
 have atpc : At xc pc [ptr pb] := by rw [hxc, hpc]; exact At.new (xb.drewN n14) [ptr pb] 98
 have ltpc : xb.heap.size ≤ pc := by omega
 clear hxc hpc
 try dsimp only
 have kxc : PS wp VV GS xc := kxb.kp0 jxc
 refine ⟨fun _ => kxc, ?_⟩
 try simp only [sC]
 refine tA 15 ?_
 intro n15
 refine wpOp_of rfl rfl ?_
 obtain ⟨V', xd, rV, oV, kV, bV, oV2⟩ := row_app (P := Tryz.prog) (w := xc.drewN n15) (t := 95) (tx := 95) (ty := 95) ((kxc.drewN n15).2) Tryz.underlying95 elem_ptr Tryz.underlying95 HF.out.2.2 (a := some ⟨pc, 0, none⟩) 1 (q := pb) ((Rd.of_at (pre := []) (post := []) atpc).kp ((Kp.refl (fun _ => False) _).drewN n15) (fun _ _ h => h))
 obtain ⟨aV, cV, eV, _⟩ := oV.len
 obtain ⟨nV, hnV⟩ : ∃ nV, nV = (GS ++ [pb]).length := ⟨_, rfl⟩
 rw [← hnV] at eV
 subst eV
 refine wp_append_run rV rfl rfl rfl ?_
 try dsimp only
 have kxd : PS wp VV GS xd := ⟨(kxc.drewN n15).1.then kV (fun _ _ h => h), oV2⟩
 refine ⟨fun _ => kxd, ?_⟩
 try simp only [sC]
 refine tF 16 43 (.pointer (some ⟨b, 0, none⟩)) rfl rfl hSd (fun _ => kxd) ?_
 try simp only [sC]
 refine tF 17 44 (.pointer (some ⟨b, 2, none⟩)) rfl rfl hSd (fun _ => kxd) ?_
 try simp only [sC]
 refine tA 18 ?_
 intro n18
 have hatD : At xd b (winC { x with last := x.last + 1 }) := kxd.1.at H1.out.1 HV.out.2.2
 have hb0 : (xd.drewN n18).cell? ⟨b, 2, none⟩ = some x.V := (hatD.drewN n18).cell 2
 have hfz : (xd.drewN n18).frozen? ⟨b, 2, none⟩ = false := (hatD.drewN n18).frozen 2
 have nrow : ∀ k, VV.ownBlock = some k → k < wp.heap.size := fun k hk => by obtain ⟨cs, hc, _⟩ := HROW.out.blk hk; exact hc.lt
 have lw : wp.heap.size ≤ xa.heap.size := kxa.1.size
 have lb : xa.heap.size ≤ xb.heap.size := jxb.size
 have npb : ¬ VV.ownBlock = some pb := fun e => by have := nrow pb e; omega
 have hP : At xd pb (pkC ⟨pb, x.last + 1, .slice aB n cB, body, 0, 0, 0⟩) := by
  have h1 : At xd pb [.int .i64 ((last : Int) + 1), .slice aB n cB, .int .i64 0, .int .i64 0, .int .i64 0] := kV.at ((jxc.at atpb (fun h => h)).drewN n15) npb
  rw [HX.out.1] at h1
  exact h1
 have hO : OwnB xd (.slice aB n cB) body := by
  have q := bB
  refine (((oB.kp jxb (fun _ _ h => h)).kp jxc (fun _ _ h => h)).kp ((Kp.refl (fun _ => False) xc).drewN n15) (fun _ _ h => h)).kp kV (fun g hg e => ?_)
  have h1 := nrow g e
  rcases bB with bB | bB
  · rw [bB] at hg; cases hg
  · rw [bB] at hg; simp only [Option.some.injEq] at hg; have h2 : wp.heap.size ≤ (x0.drewN n10).heap.size := (kx0.drewN n10).1.size; omega
 have hbN : ∀ g, (Value.slice aB n cB).ownBlock = some g → wp.heap.size ≤ g := fun g hg => by
  rcases bB with bB | bB
  · rw [bB] at hg; cases hg
  · rw [bB] at hg; simp only [Option.some.injEq] at hg; have h2 : wp.heap.size ≤ (x0.drewN n10).heap.size := (kx0.drewN n10).1.size; omega
 have HD := Lib.hid (And.intro hatD (And.intro hP (And.intro hO (And.intro oV (And.intro bV (And.intro kxd.1 (And.intro hbN (show wp.heap.size ≤ pb ∧ wp.heap.size ≤ (xc.drewN n15).heap.size from ⟨by omega, by have := (kxc.drewN n15).1.size; omega⟩))))))))
 clear hatD nrow lw lb npb hP hO hbN oV bV kV oV2 kxd rV atpc atpb oB rB kB bB kB' ltpb ltpc jxb jxc kx0 kxa kxb kxc hSd
 refine wpOp_of rfl rfl ?_
 go_simp
 refine ⟨fun h => Bool.noConfusion (show false = true from h), anyL_done (by kernel_rfl) (fun nn => ?_) _⟩
 obtain ⟨wz, hwz⟩ : ∃ wz, wz = ((xd.drewN n18).setCell ⟨b, 2, none⟩ (.slice aV (GS.length + 1) cV)).drewN nn := ⟨_, rfl⟩
 rw [← hwz]
 have kz : Kp (· = b) xd wz := by rw [hwz]; exact (((Kp.refl (· = b) xd).drewN n18).setCell (p := ⟨b, 2, none⟩) (fun _ => rfl) _).drewN nn
 obtain ⟨hatD, hP, hO, oV, bV, kxd, hbN, hpbN, hxcN⟩ := HD.out
 have hgs : GS ++ [pb] = (x.l ++ [(⟨pb, x.last + 1, .slice aB n cB, body, 0, 0, 0⟩ : Pk)]).map Pk.g := by rw [HG.out]; simp
 have hnv : nV = GS.length + 1 := by rw [hnV]; simp
 have hatZ : At wz b (winC { x with last := x.last + 1, V := .slice aV (GS.length + 1) cV, l := x.l ++ [(⟨pb, x.last + 1, .slice aB n cB, body, 0, 0, 0⟩ : Pk)] }) := by rw [hwz]; exact ((hatD.drewN n18).set 2 (.slice aV (GS.length + 1) cV)).drewN nn
 have hVo : x.V = VV := by rw [HX.out.2.2.2, HVV.out]
 have kwp : Kp (fun j => j = b ∨ x.V.ownBlock = some j) w wz := (((H1.out.2.mono (fun j _ e => .inl e)).then kxd (fun j _ e => .inr (by rw [hVo]; exact e))).then kz (fun j _ e => .inl e))
 rw [hnv] at oV
 have oVz : Row wz (.slice aV (GS.length + 1) cV) (GS ++ [pb]) := oV.kp kz (fun g hg e => by
  obtain ⟨cs, hc, h0, hp⟩ := oV.blk hg
  subst e
  rw [hc.inj hatD] at hp
  exact not_isP_int .i64 x.size (hp _ (by simp [winC])))
 have hW := HW.out.push ⟨pb, x.last + 1, .slice aB n cB, body, 0, 0, 0⟩ (kz.at hP (fun e => by
  have e : pb = b := e
  rw [e] at hP
  have := congrArg List.length (hP.inj hatD)
  cases this)) (hO.kp kz (fun g hg e => by
  subst e
  exact hO.notC hatD (u := .int .i64 x.size) (by simp [winC]) (not_isB_i64 _) hg)) rfl ⟨rfl, rfl, rfl⟩ (V' := .slice aV (GS.length + 1) cV) (by rw [← hgs]; exact oVz) hatZ kwp HF.out.2.1
 have hsz := H1.out.2.size
 have hbv : (Value.slice aV (GS.length + 1) cV).ownBlock = x.V.ownBlock ∨ ∃ g, (Value.slice aV (GS.length + 1) cV).ownBlock = some g ∧ w.heap.size ≤ g := by
  rw [hnv] at bV
  rcases bV with e | e
  · exact .inl (by rw [hVo, ← e])
  · exact .inr ⟨_, e, by omega⟩
 have hM := fun k => Mine.push (b := b) (x := x) (p := ⟨pb, x.last + 1, .slice aB n cB, body, 0, 0, 0⟩) (V' := .slice aV (GS.length + 1) cV) (l' := x.last + 1) (N := w.heap.size) (k := k) hbv (by show w.heap.size ≤ pb; omega) (fun g hg => by have := hbN g hg; omega)
 have hc1 : wz.cell? ⟨b, 1, none⟩ = some (.int .i64 ((last : Int) + 1)) := by have := hatZ.cell 1; rw [this, HX.out.1]; rfl
 have HZ := Lib.hid (And.intro hW (And.intro hM (show Kp (Mine b x) w wz from kwp.mono (fun j _ e => e.elim (fun e => .inl e) (fun e => .inr (.inl e))))))
 clear hwz kz hatD hP hO oV bV kxd hbN hpbN hxcN hgs hatZ hVo kwp oVz hW hM hsz hnv hnV hb0 hfz HD hbv
 go_wp2
 go_ret2
 exact ⟨rfl, _, _, rfl, rfl, rfl, HZ.out.1, HZ.out.2.1, HZ.out.2.2⟩
end Go.Proofs.YtokembhfebnjpaaGreat
namespace Go.Proofs.YtokembhfebnjpaaGreat
set_option maxRecDepth 20000
open Go.RowKit Flt
set_option linter.unusedVariables false
set_option linter.unusedSimpArgs false
theorem toKp {P : Program} {f : FuncId} {args : Array Value} {w : World} {v : Value} (h : Calls P f args w fun e w' => e = .returned v ∧ ∃ k, w' = w.drewN k) : Calls P f args w fun e w' => e = .returned v ∧ Kp (fun _ => False) w w' :=
 h.mono fun e w' ⟨h1, k, h2⟩ => ⟨h1, by rw [h2]; exact (Kp.refl _ w).drewN k⟩
theorem store_float {P : Program} {w : World} {a : Addr} {v : Value} {k : FloatKind} {n : Nat} (h : w.cell? a = some v) (hf : w.frozen? a = false) : (store a (.float k n)).run P w = .ok () (w.setCell a (.float k n)) := by
 rw [run_store _ _ _ _ _ rfl, h]; simp [hf]
def spreadF (s m d : Nat) : Nat := match Ieee.double.sub d m with | some g => meanF s (rung g) quarter | none => s
def dF (now : Nat) (p : Pk) : Nat := floatOfInt .f64 ((now - p.att : Nat) : Int)
def msStep (now : Nat) (a : Nat × Nat) (p : Pk) : Nat × Nat := if p.times = 1 then (meanF a.1 (dF now p) eighth, spreadF a.2 a.1 (dF now p)) else a
def msAck (now : Nat) (a : Nat × Nat) (l : List Pk) : Nat × Nat := l.foldl (msStep now) a
theorem Flt.Ms.pk {m s now : Nat} (h : Ms m s) (hn : now ≤ 2147483647) (p : Pk) : Ms (msStep now (m, s) p).1 (msStep now (m, s) p).2 := by
 unfold msStep
 by_cases h1 : p.times = 1
 · rw [if_pos h1]
   obtain ⟨g, e, l, q⟩ := h.step (n := now - p.att) (by omega)
   show Ms (meanF m (dF now p) eighth) (spreadF s m (dF now p))
   unfold spreadF dF
   rw [e]; exact q
 · rw [if_neg h1]; exact h
theorem msAck_snoc (now : Nat) (a : Nat × Nat) (l : List Pk) (p : Pk) : msAck now a (l ++ [p]) = msStep now (msAck now a l) p := by simp [msAck]
theorem Flt.Ms.ack {m s now : Nat} (h : Ms m s) (hn : now ≤ 2147483647) : ∀ l : List Pk, Ms (msAck now (m, s) l).1 (msAck now (m, s) l).2 := fun l => by
 suffices H : ∀ (l : List Pk) (a : Nat × Nat), Ms a.1 a.2 → Ms (msAck now a l).1 (msAck now a l).2 from H l (m, s) h
 intro l
 induction l with
 | nil => intro a h; exact h
 | cons p r ih => intro a h; exact ih _ (h.pk hn p)
theorem take_pk {l : List Pk} {k : Nat} (h : k < l.length) : l.take (k + 1) = l.take k ++ [pk l k] := by
 rw [List.take_add_one, pk_at h]; rfl
theorem spread_kp (s m n : Nat) (h : Ms m s) (hn : n ≤ 2147483647) (w : World) :
 Calls Tryz.prog 124 #[.float .f64 s, .float .f64 m, .float .f64 (floatOfInt .f64 (n : Nat)), .float .f64 4598175219545276416] w fun e w' => e = .returned (.float .f64 (spreadF s m (floatOfInt .f64 (n : Nat)))) ∧ Kp (fun _ => False) w w' := by
 obtain ⟨g, e, l, _⟩ := h.step (n := n) (by omega)
 have := toKp (spread_at s m (floatOfInt .f64 (n : Nat)) quarter g w e l)
 unfold spreadF
 rw [e]; exact this
theorem mean_kp (m d : Nat) (w : World) :
 Calls Tryz.prog 125 #[.float .f64 m, .float .f64 d, .float .f64 4593671619917905920] w fun e w' => e = .returned (.float .f64 (meanF m d eighth)) ∧ Kp (fun _ => False) w w' := toKp (mean_any m d eighth w)
theorem hP9 {w w' : World} {p : Pk} {b : Nat} (k : Kp (· = b) w w') (h : At w p.g (pkC p)) (hb : p.g ≠ b) : At w' p.g (pkC p) := k.at h hb
variable {w : World} {b : Nat} {x : Wn}
def goneN (x : Wn) (n : Nat) : Nat := n + x.l.length - x.last
def ackL (x : Wn) (k now : Nat) (V : Value) : Wn := { x with V := V, l := x.l.drop k, m := (msAck now (x.m, x.s) (x.l.take k)).1, s := (msAck now (x.m, x.s) (x.l.take k)).2, now := now }
theorem ack_neg (h : WinC w b x) (n now : Int) (hn : n < 0) : Calls Tryz.prog 118 #[.pointer (some ⟨b, 0, none⟩), .int .i64 n, .int .i64 now] w fun e w' => e = .returned (.tuple #[.int .i64 0, .int .i64 5]) ∧ w = w' := by
 have h1 := h.c1
 have C := Lib.hid (wnone_no b x.size w h.c0 h.size_bd.1)
 clear h
 have CT := Lib.hid (fun w' => wtime_any now w')
 go_enter Tryz.func118, Tryz.ntmps118
 go_wp2_with (first | (go_at_call 48; refine C.out.mono ?_; rintro e w' ⟨rfl, rfl⟩) | (go_at_call 123; refine (CT.out _).mono ?_; rintro e w' ⟨rfl, rfl⟩))
 go_ret2
 exact ⟨rfl, rfl⟩
theorem ack_far (h : WinC w b x) (n now : Int) (hn : ¬ n < 0) (hf : (x.last : Int) < n) : Calls Tryz.prog 118 #[.pointer (some ⟨b, 0, none⟩), .int .i64 n, .int .i64 now] w fun e w' => e = .returned (.tuple #[.int .i64 0, .int .i64 5]) ∧ w = w' := by
 have h1 := h.c1
 have C := Lib.hid (wnone_no b x.size w h.c0 h.size_bd.1)
 clear h
 have CT := Lib.hid (fun w' => wtime_any now w')
 go_enter Tryz.func118, Tryz.ntmps118
 go_wp2_with (first | (go_at_call 48; refine C.out.mono ?_; rintro e w' ⟨rfl, rfl⟩) | (go_at_call 123; refine (CT.out _).mono ?_; rintro e w' ⟨rfl, rfl⟩))
 go_ret2
 exact ⟨rfl, rfl⟩
theorem ack_late (h : WinC w b x) (n now : Int) (hn : ¬ n < 0) (hf : ¬ (x.last : Int) < n) (ht : timeB now = false) : Calls Tryz.prog 118 #[.pointer (some ⟨b, 0, none⟩), .int .i64 n, .int .i64 now] w fun e w' => e = .returned (.tuple #[.int .i64 0, .int .i64 5]) ∧ w = w' := by
 have h1 := h.c1
 have C := Lib.hid (wnone_no b x.size w h.c0 h.size_bd.1)
 clear h
 have CT := (fun w' => wtime_any now w')
 rw [ht] at CT
 have CT := Lib.hid CT
 go_enter Tryz.func118, Tryz.ntmps118
 go_wp2_with (first | (go_at_call 48; refine C.out.mono ?_; rintro e w' ⟨rfl, rfl⟩) | (go_at_call 123; refine (CT.out _).mono ?_; rintro e w' ⟨rfl, rfl⟩))
 go_ret2
 exact ⟨rfl, rfl⟩
set_option maxHeartbeats 1000000 in
set_option maxRecDepth 20000 in
theorem ack_ok (h : WinC w b x) (hms : Ms x.m x.s) (n now : Nat) (hn : n ≤ x.last) (hl : x.last ≤ 4611686018427387904) (ht : now ≤ 2147483647) : Calls Tryz.prog 118 #[.pointer (some ⟨b, 0, none⟩), .int .i64 n, .int .i64 now] w fun e w' =>
 e = .returned (.tuple #[.int .i64 (goneN x n : Nat), .int .i64 0]) ∧ ∃ V', WinC w' b (ackL x (goneN x n) (max x.now now) V') ∧ V'.ownBlock = x.V.ownBlock ∧ Kp (· = b) w w' := by
 have h1 := h.c1
 have h5 := h.c5
 have hf5 := h.hat.frozen 5
 have C := Lib.hid (wnone_no b x.size w h.c0 h.size_bd.1)
 have CT := (fun w' => wtime_any (now : Int) w')
 rw [timeB_of ht] at CT
 have CT := Lib.hid CT
 have hnb := h.now_bd
 have hlen := h.len
 have hsz := h.size_bd
 have h0 := h.hat.set 5 (.int .i64 (max x.now now : Nat))
 have hW0 := h.head (last' := x.last) (m' := x.m) (s' := x.s) (now' := max x.now now) rfl h0 ((Kp.refl (· = b) w).setCell (p := ⟨b, 5, none⟩) (fun _ => rfl) _) (by omega) (by omega)
 have k0 : Kp (· = b) w (w.setCell ⟨b, 5, none⟩ (.int .i64 (max x.now now : Nat))) := (Kp.refl (· = b) w).setCell (p := ⟨b, 5, none⟩) (fun _ => rfl) _
 obtain ⟨G, hG⟩ : ∃ G, G = goneN x n := ⟨_, rfl⟩
 obtain ⟨T, hT⟩ : ∃ T, T = max x.now now := ⟨_, rfl⟩
 obtain ⟨xn, hxn⟩ : ∃ xn, xn = x.now := ⟨_, rfl⟩
 have hTb : T ≤ 2147483647 := by omega
 have hGl : G ≤ x.l.length := by unfold goneN at hG; omega
 have HT := Lib.hid (show T = max xn now by rw [hT, hxn])
 rw [← hxn] at h5
 rw [← hG, ← hT]
 rw [← hT] at hW0 k0
 have HG := Lib.hid hG
 have H := Lib.hid (And.intro h hms)
 have HW0 := Lib.hid (And.intro hW0 k0)
 obtain ⟨last, hla⟩ : ∃ last, last = x.last := ⟨_, rfl⟩
 rw [← hla] at h1 hn hl
 have HLA := Lib.hid hla
 have hn' : (n : Int) ≤ last := by omega
 have hb1 : decide ((n : Int) < 0) = false := decide_eq_false (by omega)
 have hb2 : decide (last < n) = false := decide_eq_false (by omega)
 have hb3 : decide ((last : Int) < n) = false := decide_eq_false (by omega)
 clear h hms hG hW0 k0 h0 hla hT hxn hnb hlen hsz
 have hbr : (xn < now ∧ T = now) ∨ (¬ xn < now ∧ T = xn) := by have := HT.out; omega
 rcases hbr with ⟨hmx, rfl⟩ | ⟨hmx, rfl⟩
 all_goals
  go_enter Tryz.func118, Tryz.ntmps118
  go_wp2_with (first | (go_at_call 48; refine C.out.mono ?_; rintro e w' ⟨rfl, rfl⟩) | (go_at_call 123; refine (CT.out _).mono ?_; rintro e w' ⟨rfl, rfl⟩))
  obtain ⟨w0, hw0⟩ : ∃ w0, w0 = w.setCell ⟨b, 5, none⟩ (.int .i64 (T : Nat)) := ⟨_, rfl⟩
  rw [← hw0] at HW0 ⊢
  clear hw0 h1 h5 hf5 C CT HT
  go_loopw [8] (fun gv wr => ∃ k : Nat, k ≤ G ∧ gv = .int .i64 k ∧ ∃ V', WinC wr b (ackL x k T V') ∧ V'.ownBlock = x.V.ownBlock ∧ Kp (· = b) w wr) (fun gv _ => G - (intOf gv).toNat)
  case atStart => exact ⟨0, by omega, rfl, x.V, HW0.out.1, rfl, HW0.out.2⟩
  case round =>
   obtain ⟨k, hk, rfl, V, hW, hV, hkp⟩ := hrel
   by_cases hlt : k < G
   · have hkl : k < x.l.length := by omega
     have hdrop : x.l.drop k = pk x.l k :: x.l.drop (k + 1) := by
      rw [List.drop_eq_getElem_cons hkl]
      have := pk_at hkl
      rw [List.getElem?_eq_getElem hkl] at this
      rw [Option.some.inj this]
     have hp := H.out.1.seqs k hkl
     have hP : At wr (pk x.l k).g (pkC (pk x.l k)) := by
      have := hW.pks 0 (by show 0 < (x.l.drop k).length; rw [List.length_drop]; omega)
      rwa [show (ackL x k T V).l = x.l.drop k from rfl, pk_drop, Nat.add_zero] at this
     have hR : Row wr V ((pk x.l k).g :: (x.l.drop (k + 1)).map Pk.g) := by
      have := hW.row
      rwa [show (ackL x k T V).l = x.l.drop k from rfl, hdrop, List.map_cons] at this
     obtain ⟨a0, c, hVe, _⟩ := hR.len
     obtain ⟨m, hm⟩ : ∃ m, m = ((pk x.l k).g :: (x.l.drop (k + 1)).map Pk.g).length := ⟨_, rfl⟩
     rw [← hm] at hVe
     subst hVe
     obtain ⟨g, o, rfl, hm2, hmc, htl⟩ := hR.tail
     obtain ⟨_, _, e0, en, hc0⟩ := hR.cell (i := 0) (by simp)
     cases e0
     clear en
     have h2 := hW.c2
     have hf2 := hW.hat.frozen 2
     have hq0 := hP.cell 0
     have hq2 := hP.cell 2
     have hsq : (pk x.l k).seq ≤ n := by have q1 := HG.out; have q2 := HLA.out; unfold goneN at q1; omega
     obtain ⟨p, hpe⟩ : ∃ p, p = pk x.l k := ⟨_, rfl⟩
     rw [← hpe] at hP hq0 hq2 hsq hR hc0
     have hm0 : 1 ≤ m := by omega
     have hkb : k ≤ 64 := by have q1 := H.out.1.len; have q2 := H.out.1.size_bd; omega
     have hpb : p.g ≠ b := by have q := (H.out.1.pkNe hkl).1; rwa [← hpe] at q
     have i1 : (p.seq : Int) ≤ n := by omega
     have HK := Lib.hid (And.intro hW (And.intro hV (And.intro hkp (And.intro hdrop (And.intro hpe (And.intro hkl (And.intro hP (And.intro hm2 (And.intro htl hm)))))))))
     simp only [ackL] at h2
     simp only [pkC, List.getElem?_cons_zero, List.getElem?_cons_succ, List.getD_cons_zero, Nat.add_zero] at hq0 hq2 hc0
     clear hW hV hkp hdrop hpe hP hR hm2 htl hp hm
     by_cases hc1 : c = 1
     · subst hc1
       have hm1 : m = 1 := by omega
       subst hm1
       have htl : Row wr (.slice (some ⟨g, o, none⟩) 0 0) ((x.l.drop (k + 1)).map Pk.g) := HK.out.2.2.2.2.2.2.2.2.1 _ (by simp)
       have HTL := Lib.hid htl
       clear htl
       go_upto_region 10 with fail
       obtain ⟨VN, hVN⟩ : ∃ VN, VN = Value.slice (some ⟨g, o, none⟩) 0 0 := ⟨_, rfl⟩
       rw [← hVN] at HTL ⊢
       obtain ⟨w9, hw9⟩ : ∃ w9, w9 = wr.setCell ⟨b, 2, none⟩ VN := ⟨_, rfl⟩
       rw [← hw9]
       have hat9 : At w9 b (winC { ackL x k T (.slice (some ⟨g, o, none⟩) 1 1) with V := VN, l := x.l.drop (k + 1) }) := by rw [hw9]; exact HK.out.1.hat.set 2 VN
       have kp9 : Kp (· = b) wr w9 := by rw [hw9]; exact (Kp.refl (· = b) wr).setCell (p := ⟨b, 2, none⟩) (fun _ => rfl) _
       have hvo : VN.ownBlock = x.V.ownBlock := by rw [hVN, ← HK.out.2.1]; rfl
       have q0 := hP9 kp9 HK.out.2.2.2.2.2.2.1 hpb
       have q2 := q0.cell 2
       have q3 := q0.cell 3
       simp only [pkC, List.getElem?_cons_zero, List.getElem?_cons_succ] at q2 q3
       have H9 := Lib.hid (And.intro hat9 (And.intro kp9 hvo))
       have c3 := hat9.cell 3
       have c4 := hat9.cell 4
       have c5 := hat9.cell 5
       have f3 := hat9.frozen 3
       have f4 := hat9.frozen 4
       simp only [winC, ackL, List.getElem?_cons_zero, List.getElem?_cons_succ] at c3 c4 c5
       clear hw9 hat9 kp9 hvo hVN h2 hf2 hq0 hq2 hc0 q0
       by_cases ht1 : p.times = 1
       · rw [ht1] at q2
         obtain ⟨me, hme⟩ : ∃ me, me = (msAck T (x.m, x.s) (x.l.take k)).1 := ⟨_, rfl⟩
         obtain ⟨sp, hsp⟩ : ∃ sp, sp = (msAck T (x.m, x.s) (x.l.take k)).2 := ⟨_, rfl⟩
         rw [← hme] at c3
         rw [← hsp] at c4
         have hMs : Ms me sp := by rw [hme, hsp]; exact H.out.2.ack hTb _
         obtain ⟨dn, hdn⟩ : ∃ dn, dn = T - p.att := ⟨_, rfl⟩
         have hab : p.att ≤ T := by have q := (HK.out.1.bd 0 (by show 0 < (x.l.drop k).length; rw [List.length_drop]; have := HK.out.2.2.2.2.2.1; omega)).1; rw [show (ackL x k T _).l = x.l.drop k from rfl, pk_drop, Nat.add_zero, ← HK.out.2.2.2.2.1] at q; exact q
         have hwr : IntKind.i64.wrap ((T : Int) - (p.att : Nat)) = (dn : Nat) := by rw [IntWalk.i64_in _ (by omega)]; omega
         have CS := (fun w' => spread_kp sp me dn hMs (by omega) w')
         have CM := (fun w' => mean_kp me (floatOfInt .f64 (dn : Nat)) w')
         have HM := Lib.hid (And.intro hme (And.intro hsp hdn))
         clear hme hsp hMs hdn hab
         go_upto_region 12 with fail
         go_quiet (fail)
         obtain ⟨D, hD⟩ : ∃ D, D = floatOfInt .f64 ((dn : Nat) : Int) := ⟨_, rfl⟩
         rw [← hD] at CS CM
         try rw [← hD]
         go_upto_region 13 with fail
         obtain ⟨SP, hSP⟩ : ∃ SP, SP = spreadF sp me D := ⟨_, rfl⟩
         rw [← hSP] at CS
         have HSP := Lib.hid hSP
         have HD := Lib.hid hD
         have CS := Lib.hid CS
         have CM := Lib.hid CM
         have H3 := Lib.hid (show (w9.drewN nq).cell? ⟨b, 3, none⟩ = some (.float .f64 me) ∧ (w9.drewN nq).cell? ⟨b, 4, none⟩ = some (.float .f64 sp) ∧ At (w9.drewN nq) b (winC { ackL x k T (.slice (some ⟨g, o, none⟩) 1 1) with V := VN, l := x.l.drop (k + 1) }) ∧ Kp (fun _ => False) w9 (w9.drewN nq) from ⟨c3, c4, H9.out.1.drewN nq, (Kp.refl _ w9).drewN nq⟩)
         clear c3 c4 c5 f3 f4 q2 q3 hwr hSP hD
         generalize w9.drewN nq = w3 at *
         refine region_L (S := fun w' => Kp (fun _ => False) w3 w') [13] rfl ?_
         have hSd : ∀ (w' : World) (n' : Nat), Kp (fun _ => False) w3 w' → Kp (fun _ => False) w3 (w'.drewN n') := fun w' n' h => h.drewN n'
         have hS0 : Kp (fun _ => False) w3 w3.drew := (Kp.refl _ w3).drew
         refine anyL_world (fun w' => Kp (fun _ => False) w3 w') hS0 ?_
         clear hS0
         intro x0 kx0
         refine tF 0 90 (.pointer (some ⟨b, 0, none⟩)) rfl rfl hSd (fun _ => kx0) ?_
         try simp only [sC]
         refine tF 1 91 (.pointer (some ⟨b, 0, none⟩)) rfl rfl hSd (fun _ => kx0) ?_
         try simp only [sC]
         refine tF 2 92 (.pointer (some ⟨b, 0, none⟩)) rfl rfl hSd (fun _ => kx0) ?_
         try simp only [sC]
         refine tF 3 93 (.pointer (some ⟨b, 4, none⟩)) rfl rfl hSd (fun _ => kx0) ?_
         try simp only [sC]
         refine tD 4 94 (.float .f64 sp) rfl rfl hSd (.inl (.inl ⟨rfl, fun w' hS => by have h0 := hS.cell H3.out.2.1 (fun h => h); go_simp⟩)) kx0 ?_
         try simp only [sC]
         refine tF 5 95 (.pointer (some ⟨b, 0, none⟩)) rfl rfl hSd (fun _ => kx0) ?_
         try simp only [sC]
         refine tF 6 96 (.pointer (some ⟨b, 0, none⟩)) rfl rfl hSd (fun _ => kx0) ?_
         try simp only [sC]
         refine tF 7 97 (.pointer (some ⟨b, 3, none⟩)) rfl rfl hSd (fun _ => kx0) ?_
         try simp only [sC]
         refine tD 8 98 (.float .f64 me) rfl rfl hSd (.inl (.inl ⟨rfl, fun w' hS => by have h0 := hS.cell H3.out.1 (fun h => h); go_simp⟩)) kx0 ?_
         try simp only [sC]
         refine tF 9 99 (.float .f64 D) rfl rfl hSd (fun _ => kx0) ?_
         try simp only [sC]
         refine tA 10 ?_
         intro n10
         refine wpOp_of rfl rfl ?_
         go_simp
         refine Calls.mono (CS.out (x0.drewN n10)) ?_
         rintro e x1 ⟨rfl, j⟩
         try dsimp only
         have kx1 : Kp (fun _ => False) w3 x1 := (kx0.drewN n10).trans j
         refine ⟨fun _ => kx1, ?_⟩
         try simp only [sC]
         refine tF 11 101 (.pointer (some ⟨b, 0, none⟩)) rfl rfl hSd (fun _ => kx1) ?_
         try simp only [sC]
         refine tF 12 102 (.pointer (some ⟨b, 4, none⟩)) rfl rfl hSd (fun _ => kx1) ?_
         try simp only [sC]
         refine tA 13 ?_
         intro n13
         have h4 := (kx1.drewN n13).cell H3.out.2.1 (fun h => h)
         have hat5 := (kx1.drewN n13).at H3.out.2.2.1 (fun h => h)
         have hf4 := hat5.frozen 4
         have hst := store_float (P := Tryz.prog) (k := .f64) (n := SP) h4 hf4
         have hat6 := hat5.set 4 (.float .f64 SP)
         have kp6 : Kp (· = b) w9 ((x1.drewN n13).setCell ⟨b, 4, none⟩ (.float .f64 SP)) := ((H3.out.2.2.2.trans (kx1.drewN n13)).mono (S' := (· = b)) (fun _ _ h => h.elim)).setCell (p := ⟨b, 4, none⟩) (fun _ => rfl) _
         refine wpOp_of rfl rfl ?_
         go_simp
         refine ⟨fun h => Bool.noConfusion (show false = true from h), anyL_done (by kernel_rfl) (fun nn => ?_) _⟩
         have hat7 := hat6.drewN nn
         have kp7 := kp6.drewN nn
         generalize (((x1.drewN n13).setCell ⟨b, 4, none⟩ (.float .f64 SP))).drewN nn = w4 at *
         simp only [winC, ackL, List.set_cons_succ, List.set_cons_zero] at hat7
         have c43 := hat7.cell 3
         simp only [List.getElem?_cons_zero, List.getElem?_cons_succ] at c43
         rw [← HM.out.1] at c43
         have H4 := Lib.hid (And.intro hat7 kp7)
         clear hat5 hat6 hat7 kp6 kp7 h4 hf4 hst kx0 kx1 j hSd
         go_wp2_with (go_at_call 125; (with_reducible refine (CM.out _).mono ?_); rintro e w5 ⟨rfl, j5⟩; have c53 := j5.cell c43 (fun h => h); have a5 := j5.at H4.out.1 (fun h => h); have f53 := a5.frozen 3; have st5 := store_float (P := Tryz.prog) (k := .f64) (n := meanF me D eighth) c53 f53; have H5 := Lib.hid (And.intro a5 j5); clear a5 j5)
         go_roundw
         case rel =>
          have hstep : msStep T (msAck T (x.m, x.s) (x.l.take k)) p = (meanF me D eighth, SP) := by
           unfold msStep
           rw [if_pos ht1, ← HM.out.1, ← HM.out.2.1, HSP.out]
           unfold dF
           rw [← HM.out.2.2, ← HD.out]
          have e : msAck T (x.m, x.s) (x.l.take (k + 1)) = (meanF me D eighth, SP) := by rw [take_pk HK.out.2.2.2.2.2.1, msAck_snoc, ← HK.out.2.2.2.2.1]; exact hstep
          have hatZ := H5.out.1.set 3 (.float .f64 (meanF me D eighth))
          simp only [List.set_cons_succ, List.set_cons_zero] at hatZ
          have kpZ : Kp (· = b) w9 (w5.setCell ⟨b, 3, none⟩ (.float .f64 (meanF me D eighth))) := (H4.out.2.then H5.out.2 (fun _ _ h => h.elim)).setCell (p := ⟨b, 3, none⟩) (fun _ => rfl) _
          have e2 : (x.l.drop k).drop 1 = x.l.drop (k + 1) := List.drop_drop ..
          have hpop := HK.out.1.pop (V' := VN) (m' := meanF me D eighth) (s' := SP) (w' := w5.setCell ⟨b, 3, none⟩ (.float .f64 (meanF me D eighth))) (by rw [show (ackL x k T _).l.drop 1 = x.l.drop (k + 1) from List.drop_drop ..]; exact hatZ) (H9.out.2.1.trans kpZ) (by show 0 < (x.l.drop k).length; rw [List.length_drop]; have := HK.out.2.2.2.2.2.1; omega) (by rw [H9.out.2.2, ← HK.out.2.1]; rfl) (by rw [show (ackL x k T _).l.drop 1 = x.l.drop (k + 1) from List.drop_drop ..]; exact HTL.out)
          refine ⟨k + 1, by omega, by go_num, VN, ?_, H9.out.2.2, HK.out.2.2.1.trans (H9.out.2.1.trans kpZ)⟩
          unfold ackL
          rw [e, ← e2]
          exact hpop
         case measure => simp [intOf]; omega
       · have ht2 : ((p.times : Int) == 1) = false := by rw [beq_eq_false_iff_ne]; omega
         clear c3 c4 c5 f3 f4
         go_wp2_with fail
         go_roundw
         case rel =>
          have hpop := HK.out.1.pop (V' := VN) (m' := (msAck T (x.m, x.s) (x.l.take k)).1) (s' := (msAck T (x.m, x.s) (x.l.take k)).2) (w' := w9) (by rw [show (ackL x k T _).l.drop 1 = x.l.drop (k + 1) from List.drop_drop ..]; exact H9.out.1) H9.out.2.1 (by show 0 < (x.l.drop k).length; rw [List.length_drop]; have := HK.out.2.2.2.2.2.1; omega) (by rw [H9.out.2.2, ← HK.out.2.1]; rfl) (by rw [show (ackL x k T _).l.drop 1 = x.l.drop (k + 1) from List.drop_drop ..]; exact HTL.out)
          refine ⟨k + 1, by omega, by go_num, VN, ?_, H9.out.2.2, HK.out.2.2.1.trans H9.out.2.1⟩
          have e : msAck T (x.m, x.s) (x.l.take (k + 1)) = msAck T (x.m, x.s) (x.l.take k) := by rw [take_pk HK.out.2.2.2.2.2.1, msAck_snoc, ← HK.out.2.2.2.2.1]; unfold msStep; rw [if_neg ht1]
          unfold ackL
          rw [e]
          have e2 : (x.l.drop k).drop 1 = x.l.drop (k + 1) := List.drop_drop ..
          rw [← e2]
          exact hpop
         case measure => simp [intOf]; omega
     · have hc2 : 2 ≤ c := by omega
       have htl : Row wr (.slice (some ⟨g, o + 1, none⟩) (m - 1) (c - 1)) ((x.l.drop (k + 1)).map Pk.g) := HK.out.2.2.2.2.2.2.2.2.1 _ (by simp [hc1])
       have HTL := Lib.hid htl
       clear htl hc1
       go_upto_region 10 with fail
       obtain ⟨VN, hVN⟩ : ∃ VN, VN = Value.slice (some ⟨g, o + 1, none⟩) (m - 1) (c - 1) := ⟨_, rfl⟩
       rw [← hVN] at HTL ⊢
       obtain ⟨w9, hw9⟩ : ∃ w9, w9 = wr.setCell ⟨b, 2, none⟩ VN := ⟨_, rfl⟩
       rw [← hw9]
       have hat9 : At w9 b (winC { ackL x k T (.slice (some ⟨g, o, none⟩) m c) with V := VN, l := x.l.drop (k + 1) }) := by rw [hw9]; exact HK.out.1.hat.set 2 VN
       have kp9 : Kp (· = b) wr w9 := by rw [hw9]; exact (Kp.refl (· = b) wr).setCell (p := ⟨b, 2, none⟩) (fun _ => rfl) _
       have hvo : VN.ownBlock = x.V.ownBlock := by rw [hVN, ← HK.out.2.1]; rfl
       have q0 := hP9 kp9 HK.out.2.2.2.2.2.2.1 hpb
       have q2 := q0.cell 2
       have q3 := q0.cell 3
       simp only [pkC, List.getElem?_cons_zero, List.getElem?_cons_succ] at q2 q3
       have H9 := Lib.hid (And.intro hat9 (And.intro kp9 hvo))
       have c3 := hat9.cell 3
       have c4 := hat9.cell 4
       have c5 := hat9.cell 5
       have f3 := hat9.frozen 3
       have f4 := hat9.frozen 4
       simp only [winC, ackL, List.getElem?_cons_zero, List.getElem?_cons_succ] at c3 c4 c5
       clear hw9 hat9 kp9 hvo hVN h2 hf2 hq0 hq2 hc0 q0
       by_cases ht1 : p.times = 1
       · rw [ht1] at q2
         obtain ⟨me, hme⟩ : ∃ me, me = (msAck T (x.m, x.s) (x.l.take k)).1 := ⟨_, rfl⟩
         obtain ⟨sp, hsp⟩ : ∃ sp, sp = (msAck T (x.m, x.s) (x.l.take k)).2 := ⟨_, rfl⟩
         rw [← hme] at c3
         rw [← hsp] at c4
         have hMs : Ms me sp := by rw [hme, hsp]; exact H.out.2.ack hTb _
         obtain ⟨dn, hdn⟩ : ∃ dn, dn = T - p.att := ⟨_, rfl⟩
         have hab : p.att ≤ T := by have q := (HK.out.1.bd 0 (by show 0 < (x.l.drop k).length; rw [List.length_drop]; have := HK.out.2.2.2.2.2.1; omega)).1; rw [show (ackL x k T _).l = x.l.drop k from rfl, pk_drop, Nat.add_zero, ← HK.out.2.2.2.2.1] at q; exact q
         have hwr : IntKind.i64.wrap ((T : Int) - (p.att : Nat)) = (dn : Nat) := by rw [IntWalk.i64_in _ (by omega)]; omega
         have CS := (fun w' => spread_kp sp me dn hMs (by omega) w')
         have CM := (fun w' => mean_kp me (floatOfInt .f64 (dn : Nat)) w')
         have HM := Lib.hid (And.intro hme (And.intro hsp hdn))
         clear hme hsp hMs hdn hab
         go_upto_region 12 with fail
         go_quiet (fail)
         obtain ⟨D, hD⟩ : ∃ D, D = floatOfInt .f64 ((dn : Nat) : Int) := ⟨_, rfl⟩
         rw [← hD] at CS CM
         try rw [← hD]
         go_upto_region 13 with fail
         obtain ⟨SP, hSP⟩ : ∃ SP, SP = spreadF sp me D := ⟨_, rfl⟩
         rw [← hSP] at CS
         have HSP := Lib.hid hSP
         have HD := Lib.hid hD
         have CS := Lib.hid CS
         have CM := Lib.hid CM
         have H3 := Lib.hid (show (w9.drewN nq).cell? ⟨b, 3, none⟩ = some (.float .f64 me) ∧ (w9.drewN nq).cell? ⟨b, 4, none⟩ = some (.float .f64 sp) ∧ At (w9.drewN nq) b (winC { ackL x k T (.slice (some ⟨g, o, none⟩) m c) with V := VN, l := x.l.drop (k + 1) }) ∧ Kp (fun _ => False) w9 (w9.drewN nq) from ⟨c3, c4, H9.out.1.drewN nq, (Kp.refl _ w9).drewN nq⟩)
         clear c3 c4 c5 f3 f4 q2 q3 hwr hSP hD
         generalize w9.drewN nq = w3 at *
         refine region_L (S := fun w' => Kp (fun _ => False) w3 w') [13] rfl ?_
         have hSd : ∀ (w' : World) (n' : Nat), Kp (fun _ => False) w3 w' → Kp (fun _ => False) w3 (w'.drewN n') := fun w' n' h => h.drewN n'
         have hS0 : Kp (fun _ => False) w3 w3.drew := (Kp.refl _ w3).drew
         refine anyL_world (fun w' => Kp (fun _ => False) w3 w') hS0 ?_
         clear hS0
         intro x0 kx0
         refine tF 0 90 (.pointer (some ⟨b, 0, none⟩)) rfl rfl hSd (fun _ => kx0) ?_
         try simp only [sC]
         refine tF 1 91 (.pointer (some ⟨b, 0, none⟩)) rfl rfl hSd (fun _ => kx0) ?_
         try simp only [sC]
         refine tF 2 92 (.pointer (some ⟨b, 0, none⟩)) rfl rfl hSd (fun _ => kx0) ?_
         try simp only [sC]
         refine tF 3 93 (.pointer (some ⟨b, 4, none⟩)) rfl rfl hSd (fun _ => kx0) ?_
         try simp only [sC]
         refine tD 4 94 (.float .f64 sp) rfl rfl hSd (.inl (.inl ⟨rfl, fun w' hS => by have h0 := hS.cell H3.out.2.1 (fun h => h); go_simp⟩)) kx0 ?_
         try simp only [sC]
         refine tF 5 95 (.pointer (some ⟨b, 0, none⟩)) rfl rfl hSd (fun _ => kx0) ?_
         try simp only [sC]
         refine tF 6 96 (.pointer (some ⟨b, 0, none⟩)) rfl rfl hSd (fun _ => kx0) ?_
         try simp only [sC]
         refine tF 7 97 (.pointer (some ⟨b, 3, none⟩)) rfl rfl hSd (fun _ => kx0) ?_
         try simp only [sC]
         refine tD 8 98 (.float .f64 me) rfl rfl hSd (.inl (.inl ⟨rfl, fun w' hS => by have h0 := hS.cell H3.out.1 (fun h => h); go_simp⟩)) kx0 ?_
         try simp only [sC]
         refine tF 9 99 (.float .f64 D) rfl rfl hSd (fun _ => kx0) ?_
         try simp only [sC]
         refine tA 10 ?_
         intro n10
         refine wpOp_of rfl rfl ?_
         go_simp
         refine Calls.mono (CS.out (x0.drewN n10)) ?_
         rintro e x1 ⟨rfl, j⟩
         try dsimp only
         have kx1 : Kp (fun _ => False) w3 x1 := (kx0.drewN n10).trans j
         refine ⟨fun _ => kx1, ?_⟩
         try simp only [sC]
         refine tF 11 101 (.pointer (some ⟨b, 0, none⟩)) rfl rfl hSd (fun _ => kx1) ?_
         try simp only [sC]
         refine tF 12 102 (.pointer (some ⟨b, 4, none⟩)) rfl rfl hSd (fun _ => kx1) ?_
         try simp only [sC]
         refine tA 13 ?_
         intro n13
         have h4 := (kx1.drewN n13).cell H3.out.2.1 (fun h => h)
         have hat5 := (kx1.drewN n13).at H3.out.2.2.1 (fun h => h)
         have hf4 := hat5.frozen 4
         have hst := store_float (P := Tryz.prog) (k := .f64) (n := SP) h4 hf4
         have hat6 := hat5.set 4 (.float .f64 SP)
         have kp6 : Kp (· = b) w9 ((x1.drewN n13).setCell ⟨b, 4, none⟩ (.float .f64 SP)) := ((H3.out.2.2.2.trans (kx1.drewN n13)).mono (S' := (· = b)) (fun _ _ h => h.elim)).setCell (p := ⟨b, 4, none⟩) (fun _ => rfl) _
         refine wpOp_of rfl rfl ?_
         go_simp
         refine ⟨fun h => Bool.noConfusion (show false = true from h), anyL_done (by kernel_rfl) (fun nn => ?_) _⟩
         have hat7 := hat6.drewN nn
         have kp7 := kp6.drewN nn
         generalize (((x1.drewN n13).setCell ⟨b, 4, none⟩ (.float .f64 SP))).drewN nn = w4 at *
         simp only [winC, ackL, List.set_cons_succ, List.set_cons_zero] at hat7
         have c43 := hat7.cell 3
         simp only [List.getElem?_cons_zero, List.getElem?_cons_succ] at c43
         rw [← HM.out.1] at c43
         have H4 := Lib.hid (And.intro hat7 kp7)
         clear hat5 hat6 hat7 kp6 kp7 h4 hf4 hst kx0 kx1 j hSd
         go_wp2_with (go_at_call 125; (with_reducible refine (CM.out _).mono ?_); rintro e w5 ⟨rfl, j5⟩; have c53 := j5.cell c43 (fun h => h); have a5 := j5.at H4.out.1 (fun h => h); have f53 := a5.frozen 3; have st5 := store_float (P := Tryz.prog) (k := .f64) (n := meanF me D eighth) c53 f53; have H5 := Lib.hid (And.intro a5 j5); clear a5 j5)
         go_roundw
         case rel =>
          have hstep : msStep T (msAck T (x.m, x.s) (x.l.take k)) p = (meanF me D eighth, SP) := by
           unfold msStep
           rw [if_pos ht1, ← HM.out.1, ← HM.out.2.1, HSP.out]
           unfold dF
           rw [← HM.out.2.2, ← HD.out]
          have e : msAck T (x.m, x.s) (x.l.take (k + 1)) = (meanF me D eighth, SP) := by rw [take_pk HK.out.2.2.2.2.2.1, msAck_snoc, ← HK.out.2.2.2.2.1]; exact hstep
          have hatZ := H5.out.1.set 3 (.float .f64 (meanF me D eighth))
          simp only [List.set_cons_succ, List.set_cons_zero] at hatZ
          have kpZ : Kp (· = b) w9 (w5.setCell ⟨b, 3, none⟩ (.float .f64 (meanF me D eighth))) := (H4.out.2.then H5.out.2 (fun _ _ h => h.elim)).setCell (p := ⟨b, 3, none⟩) (fun _ => rfl) _
          have e2 : (x.l.drop k).drop 1 = x.l.drop (k + 1) := List.drop_drop ..
          have hpop := HK.out.1.pop (V' := VN) (m' := meanF me D eighth) (s' := SP) (w' := w5.setCell ⟨b, 3, none⟩ (.float .f64 (meanF me D eighth))) (by rw [show (ackL x k T _).l.drop 1 = x.l.drop (k + 1) from List.drop_drop ..]; exact hatZ) (H9.out.2.1.trans kpZ) (by show 0 < (x.l.drop k).length; rw [List.length_drop]; have := HK.out.2.2.2.2.2.1; omega) (by rw [H9.out.2.2, ← HK.out.2.1]; rfl) (by rw [show (ackL x k T _).l.drop 1 = x.l.drop (k + 1) from List.drop_drop ..]; exact HTL.out)
          refine ⟨k + 1, by omega, by go_num, VN, ?_, H9.out.2.2, HK.out.2.2.1.trans (H9.out.2.1.trans kpZ)⟩
          unfold ackL
          rw [e, ← e2]
          exact hpop
         case measure => simp [intOf]; omega
       · have ht2 : ((p.times : Int) == 1) = false := by rw [beq_eq_false_iff_ne]; omega
         clear c3 c4 c5 f3 f4
         go_wp2_with fail
         go_roundw
         case rel =>
          have hpop := HK.out.1.pop (V' := VN) (m' := (msAck T (x.m, x.s) (x.l.take k)).1) (s' := (msAck T (x.m, x.s) (x.l.take k)).2) (w' := w9) (by rw [show (ackL x k T _).l.drop 1 = x.l.drop (k + 1) from List.drop_drop ..]; exact H9.out.1) H9.out.2.1 (by show 0 < (x.l.drop k).length; rw [List.length_drop]; have := HK.out.2.2.2.2.2.1; omega) (by rw [H9.out.2.2, ← HK.out.2.1]; rfl) (by rw [show (ackL x k T _).l.drop 1 = x.l.drop (k + 1) from List.drop_drop ..]; exact HTL.out)
          refine ⟨k + 1, by omega, by go_num, VN, ?_, H9.out.2.2, HK.out.2.2.1.trans H9.out.2.1⟩
          have e : msAck T (x.m, x.s) (x.l.take (k + 1)) = msAck T (x.m, x.s) (x.l.take k) := by rw [take_pk HK.out.2.2.2.2.2.1, msAck_snoc, ← HK.out.2.2.2.2.1]; unfold msStep; rw [if_neg ht1]
          unfold ackL
          rw [e]
          have e2 : (x.l.drop k).drop 1 = x.l.drop (k + 1) := List.drop_drop ..
          rw [← e2]
          exact hpop
         case measure => simp [intOf]; omega
   · obtain rfl : k = G := by omega
     have HZ := Lib.hid (And.intro hW (And.intro hV hkp))
     by_cases h0 : 0 < x.l.length - k
     · have hP : At wr (pk x.l k).g (pkC (pk x.l k)) := by
        have := hW.pks 0 (by show 0 < (x.l.drop k).length; rw [List.length_drop]; omega)
        rwa [show (ackL x k T V).l = x.l.drop k from rfl, pk_drop, Nat.add_zero] at this
       have hsq := H.out.1.seqs k (by omega)
       have hq0 := hP.cell 0
       obtain ⟨a0, c, hVe, hc⟩ := hW.form
       have hll : (ackL x k T V).l.length = x.l.length - k := by show (x.l.drop k).length = _; rw [List.length_drop]
       obtain ⟨_, o0, e0, en, hc0⟩ := (show Row wr (.slice a0 (ackL x k T V).l.length c) _ from hVe ▸ hW.row).cell (i := 0) (by rw [List.length_map, hll]; omega)
       rw [gs_at (by rw [hll]; omega)] at hc0
       rw [show (ackL x k T V).l = x.l.drop k from rfl, pk_drop, Nat.add_zero, Nat.add_zero] at hc0
       have h2 := hW.c2
       rw [show (ackL x k T V).V = V from rfl] at h2 hVe
       rw [hVe, hll, e0] at h2
       have hgt : ¬ (pk x.l k).seq ≤ n := by have q1 := HG.out; have q2 := HLA.out; have q3 := H.out.1.len; unfold goneN at q1; omega
       simp only [pkC, List.getElem?_cons_zero, List.getElem?_cons_succ] at hq0
       obtain ⟨p, hpe⟩ : ∃ p, p = pk x.l k := ⟨_, rfl⟩
       rw [← hpe] at hq0 hgt hc0
       obtain ⟨m, hm⟩ : ∃ m, m = x.l.length - k := ⟨_, rfl⟩
       rw [← hm] at h2 h0
       have i1 : ¬ (p.seq : Int) ≤ n := by omega
       clear hW hV hkp hP hsq hVe hll e0 en hpe hm hc hlt
       go_wp2_with fail
       go_ret2
       exact ⟨rfl, V, HZ.out.1, HZ.out.2.1, HZ.out.2.2⟩
     · obtain ⟨a0, c, hVe, hc⟩ := hW.form
       have hll : (ackL x k T V).l.length = 0 := by show (x.l.drop k).length = _; rw [List.length_drop]; omega
       have h2 := hW.c2
       rw [show (ackL x k T V).V = V from rfl] at h2 hVe
       rw [hVe, hll] at h2
       clear hW hV hkp hVe hll hc hlt h0
       go_wp2_with fail
       go_ret2
       exact ⟨rfl, V, HZ.out.1, HZ.out.2.1, HZ.out.2.2⟩
end Go.Proofs.YtokembhfebnjpaaGreat
namespace Go.Proofs.YtokembhfebnjpaaGreat
set_option maxRecDepth 20000
open Go.RowKit Flt
set_option linter.unusedVariables false
namespace Flt
open Ieee
theorem sub_plus {x y g : Nat} (hx : fin x) (hy : fin y) (sx : sgn x = false) (h : double.sub x y = some g) (hg : ¬ key g < 0) : sgn g = false := by
 obtain ⟨m, p, e, hp, hm⟩ := read_fin hx
 obtain ⟨n, q, e', hq, hn⟩ := read_fin hy
 unfold Format.sub at h
 rw [e, e', sx] at h
 have hb : -1074 ≤ min p q := by omega
 generalize hT : signed false m (p - min p q).toNat + signed (!sgn y) n (q - min p q).toNat = T
 have h' : double.nearest (if T = 0 then false && !sgn y else T < 0) T.natAbs (min p q) = g := by
  rw [← hT]
  exact Option.some.inj h
 obtain ⟨R, e2, hR⟩ := nearest_rnd (if T = 0 then false && !sgn y else T < 0) T.natAbs (min p q)
 rw [e2] at h'
 subst h'
 rw [key_word _ hR.1] at hg
 rw [sgn_word _ hR.1]
 by_cases h0 : T = 0
 · simp [h0]
 · by_cases h1 : T < 0
   · exfalso
     simp only [if_neg h0, decide_eq_true h1, if_true] at hg
     have hR0 : R = 0 := by omega
     subst hR0
     rw [fb_one hb] at hR
     have h2 := (Rnd.exact (s := 1) (by decide)).mono hR (by decide) (by decide) (by
      have e1 : mg 1 = 1 := by decide +kernel
      rw [e1]
      unfold fa
      have : 1 ≤ T.natAbs := by omega
      have : 0 < 2 ^ (min p q + 1074).toNat := Nat.pos_of_ne_zero (by simp)
      have := Nat.mul_le_mul (show 1 ≤ T.natAbs by omega) this
      omega)
     omega
   · simp [h0, h1]
theorem rung_plus {g : Nat} (h : g < 18446744073709551616) (hs : sgn g = false) : rung g = g := by
 unfold sgn rung at *
 simp only [SW, beq_eq_false_iff_ne, ne_eq] at *
 omega
theorem rung_minus {g : Nat} (h : g < 18446744073709551616) (hs : sgn g = true) : rung g = g - 9223372036854775808 ∧ 9223372036854775808 ≤ g := by
 unfold sgn rung at *
 simp only [SW, beq_iff_eq] at *
 omega
theorem neg_top {g : Nat} (h : g < 18446744073709551616) (h2 : 9223372036854775808 ≤ g) : Go.Op.negFloat .f64 g = g - 9223372036854775808 := by
 obtain ⟨r, rfl⟩ : ∃ r, g = 2 ^ 63 + r := ⟨g - 2 ^ 63, by omega⟩
 have hr : r < 2 ^ 63 := by omega
 show (2 ^ 63 + r) ^^^ 2 ^ 63 = 2 ^ 63 + r - 9223372036854775808
 rw [show 2 ^ 63 + r - 9223372036854775808 = r by omega]
 refine Nat.eq_of_testBit_eq fun i => ?_
 rw [Nat.testBit_xor, Nat.testBit_two_pow]
 rcases Nat.lt_trichotomy i 63 with hi | rfl | hi
 · rw [Nat.testBit_two_pow_add_gt hi, decide_eq_false (by omega), Bool.xor_false]
 · rw [Nat.testBit_two_pow_add_eq, decide_eq_true rfl]; cases r.testBit 63 <;> rfl
 · have p64 : (2 : Nat) ^ 64 ≤ 2 ^ i := Nat.pow_le_pow_right (by decide) hi
   rw [Nat.testBit_lt_two_pow (show 2 ^ 63 + r < 2 ^ i by omega), Nat.testBit_lt_two_pow (show r < 2 ^ i by omega), decide_eq_false (by omega)]
   rfl
theorem time_sgn (n : Nat) : sgn (floatOfInt .f64 (n : Int)) = false := by
 have e2 : floatOfInt .f64 (n : Int) = double.nearest false (n : Int).natAbs 0 := by
  show double.nearest (decide ((n : Int) < 0)) (n : Int).natAbs 0 = _
  rw [decide_eq_false (by omega)]
 obtain ⟨R, e, hR⟩ := nearest_rnd false (n : Int).natAbs 0
 rw [e2, e, sgn_word _ hR.1]
theorem small_mv : ∀ n : Fin 62, mv (floatOfInt .f64 (n.val : Int)) = (n.val : Int) * (uu 1074 : Int) := by decide +kernel
theorem key_lt_iff {x y : Nat} : key x < key y ↔ mv x < mv y := by
 have h1 := @mv_mono y x
 have h2 := @key_of_mv y x
 omega
theorem ceil_lt {x : Nat} (hn : nanb x = false) (h2 : key f2 ≤ key x) (h60 : key x ≤ key f60) : ∃ c : Nat, 2 ≤ c ∧ c ≤ 60 ∧ ceilF x = c ∧ ∀ n : Nat, n ≤ 61 → (key (floatOfInt .f64 (n : Int)) < key x ↔ n < c) := by
 obtain ⟨c, b1, b2, _, b4, b5, b6⟩ := between x hn h2 h60
 refine ⟨c, b1, b2, b4, fun n hn61 => ?_⟩
 rw [key_lt_iff, small_mv ⟨n, by omega⟩]
 show (n : Int) * (uu 1074 : Int) < mv x ↔ n < c
 have hU := uu_pos 1074
 generalize (uu 1074 : Int) = U at *
 constructor
 · intro h
   rcases Nat.lt_or_ge n c with g | g
   · exact g
   · have := Int.mul_le_mul_of_nonneg_right (show (c : Int) ≤ n by omega) (show 0 ≤ U by omega)
     omega
 · intro h
   have := Int.mul_le_mul_of_nonneg_right (show (n : Int) + 1 ≤ c by omega) (show 0 ≤ U by omega)
   rw [Int.add_mul, Int.one_mul] at this
   omega
end Flt
theorem rnanz (a : Nat) (w : World) : Calls Tryz.prog 71 #[.float .f64 a] w fun e w' => e = .returned (.bool (nanb a)) ∧ w = w' := by
 have ha := ord_nan a
 go_enter Tryz.func71, Tryz.ntmps71
 go_wp2
 go_ret
 exact ⟨rfl, rfl⟩
theorem rmean_is {old now part x : Nat} (ho : nanb old = false) (hx : meanX old now part = some x) (hnx : nanb x = false) (w : World) : Calls Tryz.prog 83 #[.float .f64 old, .float .f64 now, .float .f64 part] w fun e w' => e = .returned (.float .f64 x) ∧ w = w' := by
 unfold meanX at hx
 obtain ⟨g, hg, hx⟩ := Option.bind_eq_some_iff.1 hx
 obtain ⟨p, hp, ha⟩ := Option.bind_eq_some_iff.1 hx
 have h1 := fun w' => run_float_arith (P := Tryz.prog) w' .sub 92 .f64 now old g hg
 have h2 := fun w' => run_float_arith (P := Tryz.prog) w' .mul 92 .f64 part g p hp
 have h3 := fun w' => run_float_arith (P := Tryz.prog) w' .add 92 .f64 old p x ha
 have C1 := rnanz old w
 have C2 := rnanz x w
 rw [ho] at C1
 rw [hnx] at C2
 have C1 := Lib.hid C1
 have C2 := Lib.hid C2
 clear hx hg hp ha ho hnx
 go_enter Tryz.func83, Tryz.ntmps83
 go_wp2_with (go_at_call 71; (first | (with_reducible refine C1.out.mono ?_) | (with_reducible refine C2.out.mono ?_)); rintro e w1 ⟨rfl, rfl⟩)
 go_ret
 exact ⟨rfl, rfl⟩
theorem rspread_is {s m n g x : Nat} (hs : nanb s = false) (hg : Ieee.double.sub n m = some g) (hgl : g < 18446744073709551616) (hgn : nanb g = false) (hgs : ¬ key g < 0 → sgn g = false) (hx : meanX s (rung g) quarter = some x) (hnx : nanb x = false) (w : World) :
 Calls Tryz.prog 82 #[.float .f64 s, .float .f64 m, .float .f64 n, .float .f64 quarter] w fun e w' => e = .returned (.float .f64 x) ∧ w = w' := by
 have h1 := fun w' => run_float_arith (P := Tryz.prog) w' .sub 92 .f64 n m g hg
 have C := Lib.hid (rmean_is hs hx hnx w)
 have o1 := ord_lt g 0
 rw [hgn, show nanb 0 = false by decide +kernel, show key 0 = 0 by decide +kernel] at o1
 simp only [Bool.not_false, Bool.true_and] at o1
 by_cases hk : key g < 0
 · rw [decide_eq_true hk] at o1
   clear hx hnx hg
   have hsg : sgn g = true := by
    cases e : sgn g
    · unfold key at hk; rw [e] at hk; simp at hk; omega
    · rfl
   have hng : Go.Op.negFloat .f64 g = rung g := by
    have := rung_minus hgl hsg
    rw [this.1]
    exact neg_top hgl this.2
   have h9 : ∀ w' : World, (Op.unary .neg (.float .f64 g)).run Tryz.prog w' = .ok (.float .f64 (rung g)) w' := fun w' => by
    rw [← hng]; rfl
   clear hng hsg
   go_enter Tryz.func82, Tryz.ntmps82
   go_wp2_with (go_at_call 83; refine C.out.mono ?_; rintro e w1 ⟨rfl, rfl⟩)
   go_ret
   exact ⟨rfl, rfl⟩
 · rw [decide_eq_false hk] at o1
   have e := rung_plus hgl (hgs hk)
   rw [e] at C
   clear hx hnx hg e
   go_enter Tryz.func82, Tryz.ntmps82
   go_wp2_with (go_at_call 83; refine C.out.mono ?_; rintro e w1 ⟨rfl, rfl⟩)
   go_ret
   exact ⟨rfl, rfl⟩
theorem rmean_ms {m s : Nat} (h : Ms m s) {n : Nat} (hn : n ≤ 2147483648) (w : World) : Calls Tryz.prog 83 #[.float .f64 m, .float .f64 (floatOfInt .f64 (n : Nat)), .float .f64 eighth] w fun e w' => e = .returned (.float .f64 (meanF m (floatOfInt .f64 (n : Nat)) eighth)) ∧ w = w' := by
 have a3 := mv_c31
 have a4 := mv_c32
 have hU := uu_pos 1074
 obtain ⟨x, hx, e, b⟩ := mean_bw h.m (time_bw hn) (by omega) eighth_fin.1 eighth_fin.2.1 eighth_fin.2.2
 rw [e]
 exact rmean_is h.m.num hx b.num w
theorem rspread_ms {m s : Nat} (h : Ms m s) {n : Nat} (hn : n ≤ 2147483648) (w : World) : Calls Tryz.prog 82 #[.float .f64 s, .float .f64 m, .float .f64 (floatOfInt .f64 (n : Nat)), .float .f64 quarter] w fun e w' => e = .returned (.float .f64 (spreadF s m (floatOfInt .f64 (n : Nat)))) ∧ w = w' := by
 have a3 := mv_c31
 have a4 := mv_c32
 have a5 := mv_c33
 have hU := uu_pos 1074
 obtain ⟨g, hg, hgl, hgn, bg⟩ := h.gap hn
 obtain ⟨x, hx, e, b⟩ := mean_bw h.s bg (by omega) quarter_fin.1 quarter_fin.2.1 quarter_fin.2.2
 have e2 : spreadF s m (floatOfInt .f64 (n : Nat)) = x := by unfold spreadF; rw [hg]; exact e
 rw [e2]
 exact rspread_is h.s.num hg hgl hgn (fun hk => sub_plus (time_bw hn).fin h.m.fin (time_sgn n) hg hk) hx b.num w
theorem rwait_is {m s x : Nat} (hx : waitX m s = some x) (hnx : nanb x = false) (w : World) : Calls Tryz.prog 56 #[.float .f64 m, .float .f64 s] w fun e w' => e = .returned (.int .i64 (waitF m s)) ∧ Kp (fun _ => False) w w' := by
 have hw : waitF m s = if key f60 < key x then 60 else if key x < key f2 then 2 else ceilF x := by unfold waitF; rw [hx]; simp [hnx]
 unfold waitX at hx
 obtain ⟨p, hp, ha⟩ := Option.bind_eq_some_iff.1 hx
 have h1 := fun w' => run_float_arith (P := Tryz.prog) w' .mul 92 .f64 4616189618054758400 s p hp
 have h2 := fun w' => run_float_arith (P := Tryz.prog) w' .add 92 .f64 m p x ha
 have g2 := ord_gt x 4633641066610819072
 have g3 := ord_lt x 4611686018427387904
 rw [show nanb 4633641066610819072 = false by decide +kernel, hnx] at g2
 rw [show nanb 4611686018427387904 = false by decide +kernel, hnx] at g3
 simp only [Bool.not_false, Bool.true_and] at g2 g3
 have C := rnanz x w
 rw [hnx] at C
 have C := Lib.hid C
 rw [hw]
 clear hx hp ha
 by_cases c1 : key f60 < key x
 · rw [decide_eq_true (show key 4633641066610819072 < key x from c1)] at g2
   rw [if_pos c1]
   clear hw
   go_enter Tryz.func56, Tryz.ntmps56
   go_wp2_with (go_at_call 71; refine C.out.mono ?_; rintro e w1 ⟨rfl, rfl⟩)
   go_ret
   exact ⟨rfl, Kp.refl _ _⟩
 · rw [decide_eq_false (show ¬ key 4633641066610819072 < key x from c1)] at g2
   by_cases c2 : key x < key f2
   · rw [decide_eq_true (show key x < key 4611686018427387904 from c2)] at g3
     rw [if_neg c1, if_pos c2]
     clear hw
     go_enter Tryz.func56, Tryz.ntmps56
     go_wp2_with (go_at_call 71; refine C.out.mono ?_; rintro e w1 ⟨rfl, rfl⟩)
     go_ret
     exact ⟨rfl, Kp.refl _ _⟩
   · rw [decide_eq_false (show ¬ key x < key 4611686018427387904 from c2)] at g3
     rw [if_neg c1, if_neg c2]
     obtain ⟨c, b1, b2, b3, b4⟩ := ceil_lt hnx (by omega) (by omega)
     rw [b3]
     have HB := Lib.hid b4
     clear hw b4 c1 c2
     go_enter Tryz.func56, Tryz.ntmps56
     go_wp2_with (go_at_call 71; refine C.out.mono ?_; rintro e w1 ⟨rfl, rfl⟩)
     go_loopw [7] (fun iv wr => ∃ n : Nat, n ≤ c ∧ iv = .int .i64 n ∧ Kp (fun _ => False) w wr) (fun iv _ => c - (intOf iv).toNat)
     case atStart => exact ⟨2, b1, rfl, Kp.refl _ _⟩
     case round =>
      obtain ⟨n, hn, rfl, hk⟩ := hrel
      have HK := Lib.hid hk
      have o := ord_lt (floatOfInt .f64 (n : Int)) x
      rw [(time_bw (show n ≤ 2147483648 by omega)).num, hnx] at o
      simp only [Bool.not_false, Bool.true_and] at o
      have hb := HB.out n (by omega)
      clear hk
      by_cases hlt : n < c
      · rw [decide_eq_true (hb.2 hlt)] at o
        clear hb
        go_wp2_with fail
        go_roundw
        case rel => exact ⟨n + 1, by omega, by go_num, HK.out⟩
        case measure => simp [intOf]; omega
      · rw [decide_eq_false (fun h => hlt (hb.1 h))] at o
        obtain rfl : n = c := by omega
        clear hb
        go_wp2_with fail
        go_ret
        exact ⟨rfl, HK.out⟩
end Go.Proofs.YtokembhfebnjpaaGreat
