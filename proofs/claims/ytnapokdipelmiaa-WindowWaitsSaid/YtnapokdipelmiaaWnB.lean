/- Package window: New, Open, Last, Times, Push. (Written by wip/win13b.py.) -/
import Derived.Test.YtnapokdipelmiaaWnA
import Derived.Test.YtnapokdipelmiaaApb
import Derived.Test.YtnapokdipelmiaaRegL
import Derived.Test.YtnapokdipelmiaaRunL
import Derived.Deep.DeepCutAuto
namespace Go.Proofs.Ytnapokdipelmiaa
open Go.RowKit Flt
set_option linter.unusedVariables false
set_option linter.unusedSimpArgs false
theorem wnew_bad (s : Int) (w : World) (h : s < 1 ∨ 64 < s) :
    Calls Try.prog 10 #[.int .i64 s] w fun e w' => e = .returned (.tuple #[.pointer none, .int .i64 2]) ∧ w = w' := by
  by_cases h1 : s < 1
  all_goals
    go_enter Try.func10, Try.ntmps10
    go_wp2
    go_ret2
    exact ⟨rfl, rfl⟩
def wnew (s : Nat) : Wn := ⟨s, 0, .slice none 0 0, [], 4616189618054758400, 4607182418800017408, 0⟩
theorem wnew_ok (s : Nat) (w : World) (hs : 1 ≤ s ∧ s ≤ 64) :
    Calls Try.prog 10 #[.int .i64 s] w fun e w' => e = .returned (.tuple #[.pointer (some ⟨w.heap.size, 0, none⟩), .int .i64 0]) ∧ WinC w' w.heap.size (wnew s) ∧ Kp (fun _ => False) w w' := by
  have h1 : 1 ≤ (s : Int) := by omega
  have h2 : (s : Int) ≤ 64 := by omega
  go_enter Try.func10, Try.ntmps10
  go_wp2
  go_ret2
  exact ⟨rfl, ⟨At.new w (winC (wnew s)) _, .inl ⟨rfl, rfl⟩, fun i hi => absurd hi (Nat.not_lt_zero _), fun i hi => absurd hi (Nat.not_lt_zero _), hs, Nat.zero_le _, fun i hi => absurd hi (Nat.not_lt_zero _), Nat.zero_le _, fun i hi => absurd hi (Nat.not_lt_zero _)⟩, (Kp.refl _ w).alloc _⟩
/-- As long as the row alone turns, behind what it reads as. -/
def PS (wp : World) (VV : Value) (GS : List Nat) (w' : World) : Prop := Kp (fun k => VV.ownBlock = some k) wp w' ∧ Row w' VV GS
theorem PS.kp0 {wp w' w'' : World} {VV : Value} {GS : List Nat} (h : PS wp VV GS w') (k : Kp (fun _ => False) w' w'') : PS wp VV GS w'' := ⟨h.1.then k (fun _ _ h => h.elim), h.2.kp k (fun _ _ h => h)⟩
theorem PS.drewN {wp w' : World} {VV : Value} {GS : List Nat} (h : PS wp VV GS w') (n : Nat) : PS wp VV GS (w'.drewN n) := h.kp0 ((Kp.refl _ w').drewN n)
theorem PS.start {wp : World} {VV : Value} {GS : List Nat} (h : Row wp VV GS) : PS wp VV GS wp.drew := ⟨(Kp.refl _ wp).drew, h.kp ((Kp.refl (fun _ => False) wp).drew) (fun _ _ h => h)⟩
theorem elem_ptr : Elem Try.prog 57 (.pointer none) 1 8 := Elem.mk' (by kernel_rfl) rfl (by omega) (by simp [Value.cells, Value.oneCell'])
/-- Bytes that lie in no block that turns. -/
theorem RdB.apart {S : Nat → Prop} {w w' : World} {a : Option Addr} {l : List Int} (h : RdB w a l) (k : Kp S w w') (hS : ∀ j, S j → ∃ cs, At w j cs ∧ ∀ u ∈ cs, ¬ isB u) : RdB w' a l :=
  ⟨fun i hi => by
    obtain ⟨b, off, ha, hc⟩ := h.cell i hi
    refine ⟨b, off, ha, k.cell (p := ⟨b, off + i, none⟩) hc (fun hs => ?_)⟩
    obtain ⟨cs, hat, hn⟩ := hS b hs
    rw [hat.cell] at hc
    exact hn _ (List.mem_of_getElem? hc) ⟨_, rfl, h.bd.getD i⟩, h.bd, h.len⟩
theorem winC_notB (x : Wn) (hV : ¬ isB x.V) : ∀ u ∈ winC x, ¬ isB u := fun u hu => by
  simp only [winC, List.mem_cons, List.not_mem_nil, or_false] at hu
  rcases hu with rfl | rfl | rfl | rfl | rfl | rfl
  · exact not_isB_i64 _
  · exact not_isB_i64 _
  · exact hV
  · exact fun ⟨m, e, _⟩ => by cases e
  · exact fun ⟨m, e, _⟩ => by cases e
  · exact not_isB_i64 _
variable {w : World} {b : Nat} {x : Wn}
theorem WinC.c0 (h : WinC w b x) : w.cell? ⟨b, 0, none⟩ = some (.int .i64 x.size) := h.hat.cell 0
theorem WinC.c1 (h : WinC w b x) : w.cell? ⟨b, 1, none⟩ = some (.int .i64 x.last) := h.hat.cell 1
theorem WinC.c2 (h : WinC w b x) : w.cell? ⟨b, 2, none⟩ = some x.V := h.hat.cell 2
theorem WinC.c3 (h : WinC w b x) : w.cell? ⟨b, 3, none⟩ = some (.float .f64 x.m) := h.hat.cell 3
theorem WinC.c4 (h : WinC w b x) : w.cell? ⟨b, 4, none⟩ = some (.float .f64 x.s) := h.hat.cell 4
theorem WinC.c5 (h : WinC w b x) : w.cell? ⟨b, 5, none⟩ = some (.int .i64 x.now) := h.hat.cell 5
theorem WinC.form (h : WinC w b x) : ∃ a c, x.V = .slice a x.l.length c ∧ x.l.length ≤ c := by
  obtain ⟨a, c, e, hc⟩ := h.row.len
  rw [List.length_map] at e hc
  exact ⟨a, c, e, hc⟩
theorem wopen_any (h : WinC w b x) : Calls Try.prog 15 #[.pointer (some ⟨b, 0, none⟩)] w fun e w' => e = .returned (.int .i64 x.l.length) ∧ w = w' := by
  obtain ⟨a, c, e, hc⟩ := h.form
  have h2 := h.c2
  rw [e] at h2
  have C := Lib.hid (wnone_no b x.size w h.c0 h.size_bd.1)
  clear h e hc
  go_enter Try.func15, Try.ntmps15
  go_wp2_with (go_at_call 22; refine C.out.mono ?_; rintro e w' ⟨rfl, rfl⟩)
  go_ret
  exact ⟨rfl, rfl⟩
theorem wopen_none (w : World) (b : Nat) (h : w.cell? ⟨b, 0, none⟩ = some (.int .i64 0)) : Calls Try.prog 15 #[.pointer (some ⟨b, 0, none⟩)] w fun e w' => e = .returned (.int .i64 0) ∧ w = w' := by
  have C := Lib.hid (wnone_at b 0 w h)
  go_enter Try.func15, Try.ntmps15
  go_wp2_with (go_at_call 22; refine C.out.mono ?_; rintro e w' ⟨rfl, rfl⟩)
  go_ret
  exact ⟨rfl, rfl⟩
theorem wopen_nil (w : World) : Calls Try.prog 15 #[.pointer none] w fun e w' => e = .returned (.int .i64 0) ∧ w = w' := by
  go_enter Try.func15, Try.ntmps15
  go_wp2_with (go_at_call 22; refine (wnone_nil _).mono ?_; rintro e w' ⟨rfl, rfl⟩)
  go_ret
  exact ⟨rfl, rfl⟩
theorem push_full (h : WinC w b x) (hf : x.size ≤ x.l.length) (a : Option Addr) (n c : Nat) : Calls Try.prog 11 #[.pointer (some ⟨b, 0, none⟩), .slice a n c] w fun e w' => e = .returned (.tuple #[.int .i64 0, .int .i64 8]) ∧ ∃ k, w' = w.drewN k := by
  obtain ⟨a1, c1, e, hc⟩ := h.form
  have h2 := h.c2
  rw [e] at h2
  have h0 := h.c0
  have C := Lib.hid (wnone_no b x.size w h.c0 h.size_bd.1)
  have hd : decide (x.size ≤ x.l.length) = true := by simpa using hf
  have hd2 : decide ((x.size : Int) ≤ x.l.length) = true := by simpa using hf
  clear h e hc
  go_enter Try.func11, Try.ntmps11
  go_wp2_with (go_at_call 22; refine C.out.mono ?_; rintro e w' ⟨rfl, rfl⟩)
  go_quiet (fail)
  go_wp2
  go_ret2
  exact ⟨rfl, _, rfl⟩
theorem push_ok (h : WinC w b x) (hf : x.l.length < x.size) (hl : x.last ≤ 4611686018427387904) (a : Option Addr) (n c : Nat) (body : List Int) (hn : n = body.length) (hr : RdB w a body) (hbl : n ≤ 1000000000) :
    Calls Try.prog 11 #[.pointer (some ⟨b, 0, none⟩), .slice a n c] w fun e w' => e = .returned (.tuple #[.int .i64 (x.last + 1 : Nat), .int .i64 0]) ∧
      ∃ p V', p.seq = x.last + 1 ∧ p.body = body ∧ p.times = 0 ∧ WinC w' b { x with last := x.last + 1, V := V', l := x.l ++ [p] } ∧ (∀ k, Mine b { x with last := x.last + 1, V := V', l := x.l ++ [p] } k → Mine b x k ∨ w.heap.size ≤ k) ∧ Kp (Mine b x) w w' := by
  obtain ⟨a1, c1, e, hc⟩ := h.form
  have h2 := h.c2
  have h1 := h.c1
  have h0 := h.c0
  have hfr := h.hat.frozen 1
  have hfr2 := h.hat.frozen 2
  have hne : ¬ x.V.ownBlock = some b := fun e => (h.rowNe e).1 rfl
  have c0 := wnone_no b x.size w h.c0 h.size_bd.1
  have hd : decide (x.size ≤ x.l.length) = false := by simpa using hf
  have hd2 : decide ((x.size : Int) ≤ x.l.length) = false := by simpa using hf
  have HW := Lib.hid h
  have HR := Lib.hid hr
  have HF := Lib.hid (And.intro hn hf)
  obtain ⟨last, hla⟩ : ∃ last, last = x.last := ⟨_, rfl⟩
  obtain ⟨len, hle⟩ : ∃ len, len = x.l.length := ⟨_, rfl⟩
  obtain ⟨size, hsi⟩ : ∃ size, size = x.size := ⟨_, rfl⟩
  rw [← hla] at h1 hl
  rw [← hle, ← hsi] at hd hd2
  rw [← hsi] at h0
  have C := Lib.hid c0
  have hV : x.V = .slice a1 len c1 := by rw [e, hle]
  rw [hV] at h2 hne
  have HX := Lib.hid (And.intro hla (And.intro hle (And.intro hsi hV)))
  have hw2 := h2
  clear h e hc hr hn hf hle hsi hV c0
  rw [show ((x.last + 1 : Nat) : Int) = ((last + 1 : Nat) : Int) by rw [hla]]
  clear hla
  go_enter Try.func11, Try.ntmps11
  go_wp2_with (go_at_call 22; refine C.out.mono ?_; rintro e w' ⟨rfl, rfl⟩)
  go_quiet (fail)
  go_upto_region 6 with fail
  have hat1 : At ((w.drewN nq).setCell ⟨b, 1, none⟩ (.int .i64 ((last : Int) + 1))) b (winC { x with last := x.last + 1 }) := by
    have := (HW.out.hat.drewN nq).set 1 (.int .i64 ((last : Int) + 1))
    rw [HX.out.1] at this ⊢
    exact this
  have kp1 : Kp (· = b) w ((w.drewN nq).setCell ⟨b, 1, none⟩ (.int .i64 ((last : Int) + 1))) := ((Kp.refl (· = b) w).drewN nq).setCell (p := ⟨b, 1, none⟩) (fun _ => rfl) _
  obtain ⟨wp, hwp⟩ : ∃ wp, wp = (w.drewN nq).setCell ⟨b, 1, none⟩ (.int .i64 ((last : Int) + 1)) := ⟨_, rfl⟩
  rw [← hwp] at hat1 kp1 ⊢
  obtain ⟨VV, hVV⟩ : ∃ VV, VV = Value.slice a1 len c1 := ⟨_, rfl⟩
  rw [← hVV] at hne
  have HV := Lib.hid (show wp.cell? ⟨b, 1, none⟩ = some (.int .i64 (last + 1 : Nat)) ∧ wp.cell? ⟨b, 2, none⟩ = some VV ∧ ¬ VV.ownBlock = some b from ⟨by have := hat1.cell 1; rw [this]; rw [HX.out.1]; rfl, by have := hat1.cell 2; rw [this, hVV, ← HX.out.2.2.2]; rfl, hne⟩)
  have H1 := Lib.hid (And.intro hat1 kp1)
  have hVB : ¬ isB x.V := by rw [HX.out.2.2.2]; exact fun ⟨m, e, _⟩ => by cases e
  have hrow : Row wp x.V (x.l.map Pk.g) := HW.out.row.kp kp1 (fun g hg => (HW.out.rowNe hg).1)
  have HRB := Lib.hid (show ∀ w', Kp (fun k => VV.ownBlock = some k) wp w' → RdB w' a body from fun w' k => (HR.out.apart kp1 (fun j e => ⟨_, by rw [show j = b from e]; exact HW.out.hat, winC_notB x hVB⟩)).apart k (fun j e => by
    obtain ⟨cs, h1, _, h2⟩ := hrow.blk (g := j) (by rw [HX.out.2.2.2, ← hVV]; exact e)
    exact ⟨cs, h1, fun u hu => by obtain ⟨q, rfl⟩ := h2 u hu; exact not_isB_ptr q⟩))
  have hgsl : (x.l.map Pk.g).length ≤ 1000 := by have h1 := HW.out.len; have h2 := HW.out.size_bd; simp; omega
  obtain ⟨GS, hGS⟩ : ∃ GS, GS = x.l.map Pk.g := ⟨_, rfl⟩
  rw [← hGS] at hrow hgsl
  have HROW := Lib.hid (show Row wp VV GS by rw [hVV, ← HX.out.2.2.2]; exact hrow)
  have HG := Lib.hid hGS
  have HF := Lib.hid (And.intro HF.out.1 (And.intro HF.out.2 hgsl))
  clear hVB hrow hGS hgsl
  have HVV := Lib.hid hVV
  clear hat1 kp1 hwp hVV h0 h1 h2 hw2 hd hd2 hfr hfr2 hne C
  refine region_L (S := fun w' => PS wp VV GS w') [18] rfl ?_
  have hSd : ∀ (w' : World) (n' : Nat), PS wp VV GS w' → PS wp VV GS (w'.drewN n') := fun w' n' h => h.drewN n'
  have hS0 : PS wp VV GS wp.drew := PS.start HROW.out
  refine anyL_world (fun w' => PS wp VV GS w') hS0 ?_
  clear hS0
  intro x0 kx0
  refine anyL_takeF (i := 0) (d := 27) (v := (.pointer (some ⟨b, 0, none⟩))) rfl rfl (by kernel_rfl) (by kernel_rfl) (by kernel_rfl) (fun _ _ _ h => h) hSd (by kernel_rfl) (.inl (.inl ⟨rfl, fun w' hS => by first | rfl | go_simp⟩)) (fun _ => kx0) ?_
  try simp only [List.setIfInBounds_toArray, List.set_cons_succ, List.set_cons_zero]
  refine anyL_takeF (i := 1) (d := 28) (v := (.pointer (some ⟨b, 0, none⟩))) rfl rfl (by kernel_rfl) (by kernel_rfl) (by kernel_rfl) (fun _ _ _ h => h) hSd (by kernel_rfl) (.inl (.inl ⟨rfl, fun w' hS => by first | rfl | go_simp⟩)) (fun _ => kx0) ?_
  try simp only [List.setIfInBounds_toArray, List.set_cons_succ, List.set_cons_zero]
  refine anyL_takeF (i := 2) (d := 29) (v := (.pointer (some ⟨b, 0, none⟩))) rfl rfl (by kernel_rfl) (by kernel_rfl) (by kernel_rfl) (fun _ _ _ h => h) hSd (by kernel_rfl) (.inl (.inl ⟨rfl, fun w' hS => by first | rfl | go_simp⟩)) (fun _ => kx0) ?_
  try simp only [List.setIfInBounds_toArray, List.set_cons_succ, List.set_cons_zero]
  refine anyL_takeF (i := 3) (d := 30) (v := (.pointer (some ⟨b, 2, none⟩))) rfl rfl (by kernel_rfl) (by kernel_rfl) (by kernel_rfl) (fun _ _ _ h => h) hSd (by kernel_rfl) (.inl (.inl ⟨rfl, fun w' hS => by first | rfl | go_simp⟩)) (fun _ => kx0) ?_
  try simp only [List.setIfInBounds_toArray, List.set_cons_succ, List.set_cons_zero]
  refine anyL_takeD (i := 4) (d := 31) (v := VV) rfl rfl (by kernel_rfl) (by kernel_rfl) (by kernel_rfl) (fun _ _ _ h => h) hSd (by kernel_rfl) (.inl (.inl ⟨rfl, fun w' hS => by have h0 := hS.1.cell HV.out.2.1 HV.out.2.2; go_simp⟩)) kx0 ?_
  try simp only [List.setIfInBounds_toArray, List.set_cons_succ, List.set_cons_zero]
  refine anyL_takeF (i := 5) (d := 32) (v := (.pointer (some ⟨b, 0, none⟩))) rfl rfl (by kernel_rfl) (by kernel_rfl) (by kernel_rfl) (fun _ _ _ h => h) hSd (by kernel_rfl) (.inl (.inl ⟨rfl, fun w' hS => by first | rfl | go_simp⟩)) (fun _ => kx0) ?_
  try simp only [List.setIfInBounds_toArray, List.set_cons_succ, List.set_cons_zero]
  refine anyL_takeF (i := 6) (d := 33) (v := (.pointer (some ⟨b, 0, none⟩))) rfl rfl (by kernel_rfl) (by kernel_rfl) (by kernel_rfl) (fun _ _ _ h => h) hSd (by kernel_rfl) (.inl (.inl ⟨rfl, fun w' hS => by first | rfl | go_simp⟩)) (fun _ => kx0) ?_
  try simp only [List.setIfInBounds_toArray, List.set_cons_succ, List.set_cons_zero]
  refine anyL_takeF (i := 7) (d := 34) (v := (.pointer (some ⟨b, 1, none⟩))) rfl rfl (by kernel_rfl) (by kernel_rfl) (by kernel_rfl) (fun _ _ _ h => h) hSd (by kernel_rfl) (.inl (.inl ⟨rfl, fun w' hS => by first | rfl | go_simp⟩)) (fun _ => kx0) ?_
  try simp only [List.setIfInBounds_toArray, List.set_cons_succ, List.set_cons_zero]
  refine anyL_takeD (i := 8) (d := 35) (v := (.int .i64 (last + 1 : Nat))) rfl rfl (by kernel_rfl) (by kernel_rfl) (by kernel_rfl) (fun _ _ _ h => h) hSd (by kernel_rfl) (.inl (.inl ⟨rfl, fun w' hS => by have h0 := hS.1.cell HV.out.1 HV.out.2.2; go_simp⟩)) kx0 ?_
  try simp only [List.setIfInBounds_toArray, List.set_cons_succ, List.set_cons_zero]
  refine anyL_takeF (i := 9) (d := 36) (v := (.slice a n c)) rfl rfl (by kernel_rfl) (by kernel_rfl) (by kernel_rfl) (fun _ _ _ h => h) hSd (by kernel_rfl) (.inl (.inl ⟨rfl, fun w' hS => by first | rfl | go_simp⟩)) (fun _ => kx0) ?_
  try simp only [List.setIfInBounds_toArray, List.set_cons_succ, List.set_cons_zero]
  refine anyL_all (rs := [10]) (by kernel_rfl) (by simp) ?_
  intro n10 i hi
  simp only [List.mem_cons, List.not_mem_nil, or_false] at hi
  obtain rfl := hi
  refine wpOp_of rfl rfl ?_
  obtain ⟨vB, xa, rB, oB, kB, bB⟩ := run_append_b (P := Try.prog) (t := 31) (tx := 31) (ty := 31) (x0.drewN n10) Try.underlying31 elem_u8 Try.underlying31 (OwnB.nil' _) (a := a) (c := c) (m := body) ((HRB.out _ kx0.1).drewN n10) (by have := HF.out.1; simp; omega)
  rw [← HF.out.1] at rB
  rw [List.nil_append] at oB
  obtain ⟨aB, cB, eB, _, _⟩ := oB.form
  rw [← HF.out.1] at eB
  subst eB
  refine wp_append_run rB rfl rfl rfl ?_
  have kB' : Kp (fun _ => False) (x0.drewN n10) xa := kB.mono (fun _ _ h => by cases h)
  try dsimp only
  have kxa : PS wp VV GS xa := (kx0.drewN n10).kp0 kB'
  refine ⟨fun _ => kxa, ?_⟩
  try simp only [List.setIfInBounds_toArray, List.set_cons_succ, List.set_cons_zero]
  refine anyL_takeF (i := 11) (d := 38) (v := (.agg #[.int .i64 (last + 1 : Nat), .slice aB n cB])) rfl rfl (by kernel_rfl) (by kernel_rfl) (by kernel_rfl) (fun _ _ _ h => h) hSd (by kernel_rfl) (.inl (.inl ⟨rfl, fun w' hS => by first | rfl | go_simp⟩)) (fun _ => kxa) ?_
  try simp only [List.setIfInBounds_toArray, List.set_cons_succ, List.set_cons_zero]
  refine anyL_takeF (i := 12) (d := 39) (v := (.agg #[.int .i64 (last + 1 : Nat), .slice aB n cB, .int .i64 0, .int .i64 0, .int .i64 0])) rfl rfl (by kernel_rfl) (by kernel_rfl) (by kernel_rfl) (fun _ _ _ h => h) hSd (by kernel_rfl) (.inl (.inl ⟨rfl, fun w' hS => by first | rfl | go_simp⟩)) (fun _ => kxa) ?_
  try simp only [List.setIfInBounds_toArray, List.set_cons_succ, List.set_cons_zero]
  refine anyL_all (rs := [13]) (by kernel_rfl) (by simp) ?_
  intro n13 i hi
  simp only [List.mem_cons, List.not_mem_nil, or_false] at hi
  obtain rfl := hi
  refine wpOp_of rfl rfl ?_
  go_simp
  obtain ⟨xb, hxb⟩ : ∃ xb, xb = (xa.drewN n13).alloc (Obj.cells #[.int .i64 ((last : Int) + 1), .slice aB n cB, .int .i64 0, .int .i64 0, .int .i64 0] 59) := ⟨_, rfl⟩
  obtain ⟨pb, hpb⟩ : ∃ pb, pb = xa.heap.size := ⟨_, rfl⟩
  try rw [← hxb, ← hpb]
  have jxb : Kp (fun _ => False) xa xb := by rw [hxb]; exact ((Kp.refl _ xa).drewN n13).alloc _
  have atpb : At xb pb [.int .i64 ((last : Int) + 1), .slice aB n cB, .int .i64 0, .int .i64 0, .int .i64 0] := by rw [hxb, hpb]; exact At.new (xa.drewN n13) [.int .i64 ((last : Int) + 1), .slice aB n cB, .int .i64 0, .int .i64 0, .int .i64 0] 59
  have ltpb : xa.heap.size ≤ pb := by omega
  clear hxb hpb
  try dsimp only
  have kxb : PS wp VV GS xb := kxa.kp0 jxb
  refine ⟨fun _ => kxb, ?_⟩
  try simp only [List.setIfInBounds_toArray, List.set_cons_succ, List.set_cons_zero]
  refine anyL_all (rs := [14]) (by kernel_rfl) (by simp) ?_
  intro n14 i hi
  simp only [List.mem_cons, List.not_mem_nil, or_false] at hi
  obtain rfl := hi
  refine wpOp_of rfl rfl ?_
  go_simp
  obtain ⟨xc, hxc⟩ : ∃ xc, xc = (xb.drewN n14).alloc (Obj.cells #[.pointer (some ⟨pb, 0, none⟩)] 57) := ⟨_, rfl⟩
  obtain ⟨pc, hpc⟩ : ∃ pc, pc = xb.heap.size := ⟨_, rfl⟩
  try rw [← hxc, ← hpc]
  have jxc : Kp (fun _ => False) xb xc := by rw [hxc]; exact ((Kp.refl _ xb).drewN n14).alloc _
  have atpc : At xc pc [ptr pb] := by rw [hxc, hpc]; exact At.new (xb.drewN n14) [ptr pb] 57
  have ltpc : xb.heap.size ≤ pc := by omega
  clear hxc hpc
  try dsimp only
  have kxc : PS wp VV GS xc := kxb.kp0 jxc
  refine ⟨fun _ => kxc, ?_⟩
  try simp only [List.setIfInBounds_toArray, List.set_cons_succ, List.set_cons_zero]
  refine anyL_all (rs := [15]) (by kernel_rfl) (by simp) ?_
  intro n15 i hi
  simp only [List.mem_cons, List.not_mem_nil, or_false] at hi
  obtain rfl := hi
  refine wpOp_of rfl rfl ?_
  obtain ⟨V', xd, rV, oV, kV, bV, oV2⟩ := row_app (P := Try.prog) (w := xc.drewN n15) (t := 52) (tx := 52) (ty := 52) ((kxc.drewN n15).2) Try.underlying52 elem_ptr Try.underlying52 HF.out.2.2 (a := some ⟨pc, 0, none⟩) 1 (q := pb) ((Rd.of_at (pre := []) (post := []) atpc).kp ((Kp.refl (fun _ => False) _).drewN n15) (fun _ _ h => h))
  obtain ⟨aV, cV, eV, _⟩ := oV.len
  obtain ⟨nV, hnV⟩ : ∃ nV, nV = (GS ++ [pb]).length := ⟨_, rfl⟩
  rw [← hnV] at eV
  subst eV
  refine wp_append_run rV rfl rfl rfl ?_
  try dsimp only
  have kxd : PS wp VV GS xd := ⟨(kxc.drewN n15).1.then kV (fun _ _ h => h), oV2⟩
  refine ⟨fun _ => kxd, ?_⟩
  try simp only [List.setIfInBounds_toArray, List.set_cons_succ, List.set_cons_zero]
  refine anyL_takeF (i := 16) (d := 43) (v := (.pointer (some ⟨b, 0, none⟩))) rfl rfl (by kernel_rfl) (by kernel_rfl) (by kernel_rfl) (fun _ _ _ h => h) hSd (by kernel_rfl) (.inl (.inl ⟨rfl, fun w' hS => by first | rfl | go_simp⟩)) (fun _ => kxd) ?_
  try simp only [List.setIfInBounds_toArray, List.set_cons_succ, List.set_cons_zero]
  refine anyL_takeF (i := 17) (d := 44) (v := (.pointer (some ⟨b, 2, none⟩))) rfl rfl (by kernel_rfl) (by kernel_rfl) (by kernel_rfl) (fun _ _ _ h => h) hSd (by kernel_rfl) (.inl (.inl ⟨rfl, fun w' hS => by first | rfl | go_simp⟩)) (fun _ => kxd) ?_
  try simp only [List.setIfInBounds_toArray, List.set_cons_succ, List.set_cons_zero]
  refine anyL_all (rs := [18]) (by kernel_rfl) (by simp) ?_
  intro n18 i hi
  simp only [List.mem_cons, List.not_mem_nil, or_false] at hi
  obtain rfl := hi
  have hatD : At xd b (winC { x with last := x.last + 1 }) := kxd.1.at H1.out.1 HV.out.2.2
  have hb0 : (xd.drewN n18).cell? ⟨b, 2, none⟩ = some x.V := (hatD.drewN n18).cell 2
  have hfz : (xd.drewN n18).frozen? ⟨b, 2, none⟩ = false := (hatD.drewN n18).frozen 2
  have nrow : ∀ k, VV.ownBlock = some k → k < wp.heap.size := fun k hk => by obtain ⟨cs, hc, _⟩ := HROW.out.blk hk; exact hc.lt
  have lw : wp.heap.size ≤ xa.heap.size := kxa.1.size
  have lb : xa.heap.size ≤ xb.heap.size := jxb.size
  have npb : ¬ VV.ownBlock = some pb := fun e => by have := nrow pb e; omega
  have hP : At xd pb (pkC ⟨pb, x.last + 1, .slice aB n cB, body, 0, 0, 0⟩) := by
    have h1 : At xd pb [.int .i64 ((last : Int) + 1), .slice aB n cB, .int .i64 0, .int .i64 0, .int .i64 0] := kV.at ((jxc.at atpb (fun h => h)).drewN n15) npb
    rw [HX.out.1] at h1
    exact h1
  have hO : OwnB xd (.slice aB n cB) body := by
    have q := bB
    refine (((oB.kp jxb (fun _ _ h => h)).kp jxc (fun _ _ h => h)).kp ((Kp.refl (fun _ => False) xc).drewN n15) (fun _ _ h => h)).kp kV (fun g hg e => ?_)
    have h1 := nrow g e
    rcases bB with bB | bB
    · rw [bB] at hg; cases hg
    · rw [bB] at hg; simp only [Option.some.injEq] at hg; have h2 : wp.heap.size ≤ (x0.drewN n10).heap.size := (kx0.drewN n10).1.size; omega
  have hbN : ∀ g, (Value.slice aB n cB).ownBlock = some g → wp.heap.size ≤ g := fun g hg => by
    rcases bB with bB | bB
    · rw [bB] at hg; cases hg
    · rw [bB] at hg; simp only [Option.some.injEq] at hg; have h2 : wp.heap.size ≤ (x0.drewN n10).heap.size := (kx0.drewN n10).1.size; omega
  have HD := Lib.hid (And.intro hatD (And.intro hP (And.intro hO (And.intro oV (And.intro bV (And.intro kxd.1 (And.intro hbN (show wp.heap.size ≤ pb ∧ wp.heap.size ≤ (xc.drewN n15).heap.size from ⟨by omega, by have := (kxc.drewN n15).1.size; omega⟩))))))))
  clear hatD nrow lw lb npb hP hO hbN oV bV kV oV2 kxd rV atpc atpb oB rB kB bB kB' ltpb ltpc jxb jxc kx0 kxa kxb kxc hSd
  refine wpOp_of rfl rfl ?_
  go_simp
  refine ⟨fun h => Bool.noConfusion (show false = true from h), anyL_done (by kernel_rfl) (fun nn => ?_) _⟩
  obtain ⟨wz, hwz⟩ : ∃ wz, wz = ((xd.drewN n18).setCell ⟨b, 2, none⟩ (.slice aV (GS.length + 1) cV)).drewN nn := ⟨_, rfl⟩
  rw [← hwz]
  have kz : Kp (· = b) xd wz := by rw [hwz]; exact (((Kp.refl (· = b) xd).drewN n18).setCell (p := ⟨b, 2, none⟩) (fun _ => rfl) _).drewN nn
  obtain ⟨hatD, hP, hO, oV, bV, kxd, hbN, hpbN, hxcN⟩ := HD.out
  have hgs : GS ++ [pb] = (x.l ++ [(⟨pb, x.last + 1, .slice aB n cB, body, 0, 0, 0⟩ : Pk)]).map Pk.g := by rw [HG.out]; simp
  have hnv : nV = GS.length + 1 := by rw [hnV]; simp
  have hatZ : At wz b (winC { x with last := x.last + 1, V := .slice aV (GS.length + 1) cV, l := x.l ++ [(⟨pb, x.last + 1, .slice aB n cB, body, 0, 0, 0⟩ : Pk)] }) := by rw [hwz]; exact ((hatD.drewN n18).set 2 (.slice aV (GS.length + 1) cV)).drewN nn
  have hVo : x.V = VV := by rw [HX.out.2.2.2, HVV.out]
  have kwp : Kp (fun j => j = b ∨ x.V.ownBlock = some j) w wz := (((H1.out.2.mono (fun j _ e => .inl e)).then kxd (fun j _ e => .inr (by rw [hVo]; exact e))).then kz (fun j _ e => .inl e))
  rw [hnv] at oV
  have oVz : Row wz (.slice aV (GS.length + 1) cV) (GS ++ [pb]) := oV.kp kz (fun g hg e => by
    obtain ⟨cs, hc, h0, hp⟩ := oV.blk hg
    subst e
    rw [hc.inj hatD] at hp
    exact not_isP_int .i64 x.size (hp _ (by simp [winC])))
  have hW := HW.out.push ⟨pb, x.last + 1, .slice aB n cB, body, 0, 0, 0⟩ (kz.at hP (fun e => by
    have e : pb = b := e
    rw [e] at hP
    have := congrArg List.length (hP.inj hatD)
    cases this)) (hO.kp kz (fun g hg e => by
    subst e
    exact hO.notC hatD (u := .int .i64 x.size) (by simp [winC]) (not_isB_i64 _) hg)) rfl ⟨rfl, rfl, rfl⟩ (V' := .slice aV (GS.length + 1) cV) (by rw [← hgs]; exact oVz) hatZ kwp HF.out.2.1
  have hsz := H1.out.2.size
  have hbv : (Value.slice aV (GS.length + 1) cV).ownBlock = x.V.ownBlock ∨ ∃ g, (Value.slice aV (GS.length + 1) cV).ownBlock = some g ∧ w.heap.size ≤ g := by
    rw [hnv] at bV
    rcases bV with e | e
    · exact .inl (by rw [hVo, ← e])
    · exact .inr ⟨_, e, by omega⟩
  have hM := fun k => Mine.push (b := b) (x := x) (p := ⟨pb, x.last + 1, .slice aB n cB, body, 0, 0, 0⟩) (V' := .slice aV (GS.length + 1) cV) (l' := x.last + 1) (N := w.heap.size) (k := k) hbv (by show w.heap.size ≤ pb; omega) (fun g hg => by have := hbN g hg; omega)
  have hc1 : wz.cell? ⟨b, 1, none⟩ = some (.int .i64 ((last : Int) + 1)) := by have := hatZ.cell 1; rw [this, HX.out.1]; rfl
  have HZ := Lib.hid (And.intro hW (And.intro hM (show Kp (Mine b x) w wz from kwp.mono (fun j _ e => e.elim (fun e => .inl e) (fun e => .inr (.inl e))))))
  clear hwz kz hatD hP hO oV bV kxd hbN hpbN hxcN hgs hatZ hVo kwp oVz hW hM hsz hnv hnV hb0 hfz HD hbv
  go_wp2
  go_ret2
  exact ⟨rfl, _, _, rfl, rfl, rfl, HZ.out.1, HZ.out.2.1, HZ.out.2.2⟩
end Go.Proofs.Ytnapokdipelmiaa
