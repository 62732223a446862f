/- The walk of InboxOrder: it returns true, whatever comes in. No condition. -/
import Derived.Test.YtnigdgopmmccgaaInbQ
namespace Go.Proofs.Ytnigdgopmmccgaa
open Go.RowKit
set_option linter.unusedVariables false
theorem elem_i64 : Elem Try.prog 3 (.int .i64 0) 1 8 := Elem.mk' (by kernel_rfl) rfl (by omega) (by simp [Value.cells, Value.oneCell'])
/-- What was told can be read: the bodies of u + 1, u + 2 .. -/
def Outs (w : World) (va : Option Addr) (d : Nat) (f : Bodies) (u : Nat) : Prop :=
  ∀ j, j < d → ∃ ge a' c' y, va = some ⟨ge, 0, none⟩ ∧ w.cell? ⟨ge, j, none⟩ = some (.slice a' y.length c') ∧ RdB w a' y ∧ f (u + 1 + j) = some y
theorem outs_of {w : World} {va : Option Addr} {d c n : Nat} {f : Bodies} {u : Nat} {vs : List Value} {G F : Nat → Prop} (h : Own w (.slice va d c) d 1 vs) (ht : Told w f n vs G F) (hn : n = u + 1) : Outs w va d f u := fun j hj => by
  subst hn
  have hl := h.1
  obtain ⟨y, hy, ho⟩ := ht.own j (by omega)
  obtain ⟨a', c', e, hr, _⟩ := ho.form
  rcases h.2 with ⟨_, h0⟩ | ⟨g, cap, sp, hv, hat, _⟩
  · omega
  · cases hv
    refine ⟨g, a', c', y, rfl, ?_, hr, hy⟩
    rw [hat.cell, List.getElem?_append_left (by omega), List.getElem?_eq_getElem (by omega)]
    rw [List.getD_eq_getElem?_getD, List.getElem?_eq_getElem (by omega)] at e
    exact congrArg some e
structure OrdS (w wr : World) (a1 : Option Addr) (b b2 s : Nat) (l : List (Int × List Int)) (f : Bodies) (u d hd : Nat) (F : Nat → Prop) (fs : Nat → Int) (k : Nat) (va : Option Addr) : Prop where
  inb : InbAt wr b s f (u + 1 + d) hd F
  fr : ∀ g, F g → g = b ∨ b2 < g
  kp : Kp (fun _ => False) w wr
  tab : AtF wr b2 400 (fun q => .int .i64 (fs q))
  fst : FirstI f l k fs
  cnt : u + d + hd ≤ k
  out : Outs wr va d f u
  rdc : RdC wr a1 l
theorem OrdS.drewN {w wr : World} {a1 : Option Addr} {b b2 s : Nat} {l : List (Int × List Int)} {f : Bodies} {u d hd : Nat} {F : Nat → Prop} {fs : Nat → Int} {k : Nat} {va : Option Addr} (h : OrdS w wr a1 b b2 s l f u d hd F fs k va) (m : Nat) :
    OrdS w (wr.drewN m) a1 b b2 s l f u d hd F fs k va :=
  ⟨h.inb.kp ((Kp.refl (fun _ => False) wr).drewN m) (fun _ _ h => h), h.fr, h.kp.drewN m, h.tab.drewN m, h.fst, h.cnt, fun j hj => by obtain ⟨ge, a', c', y, h1, h2, h3, h4⟩ := h.out j hj; exact ⟨ge, a', c', y, h1, h2, h3.drewN m, h4⟩,
    h.rdc.kp0 ((Kp.refl (fun _ => False) wr).drewN m) (fun _ _ h => h)⟩
theorem OrdS.low {w wr : World} {a1 : Option Addr} {b b2 s : Nat} {l : List (Int × List Int)} {f : Bodies} {u d hd : Nat} {F : Nat → Prop} {fs : Nat → Int} {k : Nat} {va : Option Addr} (h : OrdS w wr a1 b b2 s l f u d hd F fs k va) (hk : k ≤ l.length) (h3 : l.length ≤ 300) {j : Nat} (hj : j < d) :
    ∃ (ge : Nat) (a' : Option Addr) (c' : Nat) (y : List Int) (jq : Nat) (b1 o1 : Nat) (a2 : Option Addr) (c2 : Nat), a1 = some ⟨b1, o1, none⟩ ∧ va = some ⟨ge, 0, none⟩ ∧ wr.cell? ⟨ge, j, none⟩ = some (.slice a' y.length c') ∧ RdB wr a' y ∧ u + j + 1 < 400 ∧ wr.cell? ⟨b2, u + j + 1, none⟩ = some (.int .i64 ((jq : Int) + 1)) ∧ jq < l.length ∧
      wr.cell? ⟨b1, o1 + jq * 2 + 1, none⟩ = some (.slice a2 y.length c2) ∧ RdB wr a2 y := by
  obtain ⟨ge, a', c', y, h1, h2, h3', h4⟩ := h.out j hj
  have hc := h.cnt
  have hlt : u + j + 1 < 400 := by omega
  obtain ⟨jq, q1, q2, q3⟩ := (h.fst (u + 1 + j) (by omega) (by omega)).2 y h4
  obtain ⟨b1, o1, a2, c2, e, r1, r2, r3, _⟩ := h.rdc jq (by omega)
  rw [← q3] at r2 r3
  refine ⟨ge, a', c', y, jq, b1, o1, a2, c2, e, h1, h2, h3', hlt, ?_, by omega, r2, r3⟩
  refine h.tab.is hlt ?_
  rw [show u + j + 1 = u + 1 + j by omega, q2]
theorem ord_next {w w5 w6 w7 : World} {a1 : Option Addr} {b b2 s : Nat} {l : List (Int × List Int)} {f : Bodies} {u n n' hd hd' : Nat} {F F' : Nat → Prop} {fs fs' : Nat → Int} {k : Nat} {sq : Int} {bd : List Int} {va : Option Addr} {vc : Nat} {vs : List Value}
    (hl : RdC w a1 l) (hb : w.heap.size ≤ b) (hb2 : w.heap.size ≤ b2) (HF : ∀ g, F g → g = b ∨ b2 < g) (HTB : AtF w5 b2 400 (fun q => .int .i64 (fs q))) (HKP : Kp (fun _ => False) w w5) (HFS : FirstI f l k fs) (hcnt : u + 0 + hd ≤ k) (hn : n = u + 1) (hbb : b < b2)
    (hin : InbAt w5 b s f n hd F) (hx : (sq, bd) = l.getD k (0, [])) (kk2 : InbAt w6 b s (nf f n s sq bd) n' hd' F') (kk3 : n ≤ n') (kk4 : n' ≤ n + s) (kk6 : Own w6 (.slice va (n' - n) vc) (n' - n) 1 vs) (kk7 : Told w6 (nf f n s sq bd) n vs (fun g => (F g ∧ g ≠ b) ∨ w5.drew.heap.size ≤ g) F')
    (kk8 : ∀ g, (Value.slice va (n' - n) vc).ownBlock = some g → w5.drew.heap.size ≤ g ∧ ¬ F' g) (kk9 : ∀ g, F' g → F g ∨ w5.drew.heap.size ≤ g) (kk1 : Kp (· = b) w5.drew w6) (kk10 : cd f n s sq ≠ 0 → n' = n ∧ hd' = hd)
    (k67 : Kp (· = b2) w6 w7) (htab : AtF w7 b2 400 (fun q => .int .i64 (fs' q))) (h0 : cd f n s sq = 0 → (∀ j, j ≠ sq.toNat → fs' j = fs j) ∧ (sq.toNat < 400 → fs' sq.toNat = (k : Int) + 1)) (h1 : cd f n s sq ≠ 0 → fs' = fs) :
    OrdS w w7 a1 b b2 s l (nf f n s sq bd) u (n' - n) hd' F' fs' (k + 1) va := by
  have hsz : b2 < w5.drew.heap.size := HTB.lt
  have hF' : ∀ g, F' g → g = b ∨ b2 < g := fun g hg => by
    rcases kk9 g hg with e | e
    · exact HF g e
    · right; omega
  have hK : Kp (fun _ => False) w w7 := (HKP.drew.then kk1 (fun i hi e => by omega)).then k67 (fun i hi e => by omega)
  refine ⟨?_, hF', hK, htab, ?_, ?_, ?_, hl.kp0 hK (fun _ _ h => h)⟩
  · rw [← hn, Nat.add_sub_cancel' kk3]
    exact kk2.kp k67 (fun g hg e => by rcases hF' g hg with e' | e' <;> omega)
  · by_cases hc : cd f n s sq = 0
    · rw [nf_put _ _ _ _ _ hc]
      have := HFS.more sq.toNat (h0 hc).1 (h0 hc).2
      rw [← hx] at this
      exact this
    · rw [nf_same _ _ _ _ _ hc, h1 hc]
      exact HFS.keep
  · by_cases hc : cd f n s sq = 0
    · have := hin.count kk2 kk3 kk4 hc
      omega
    · have := kk10 hc
      omega
  · have hne : ∀ g, w5.drew.heap.size ≤ g → ¬ g = b2 := fun g hg e => by omega
    refine outs_of (kk6.kp k67 (fun g hg => hne g (kk8 g hg).1)) (kk7.kp k67 (fun i g hi hg e => ?_)) hn
    rcases (kk7.blk i g hi hg).1 with ⟨e1, e2⟩ | e1
    · rcases HF g e1 with e3 | e3 <;> omega
    · omega
theorem OrdS.roll {w wr : World} {a1 : Option Addr} {b b2 s : Nat} {l : List (Int × List Int)} {f : Bodies} {u d hd : Nat} {F : Nat → Prop} {fs : Nat → Int} {k : Nat} {va : Option Addr} (h : OrdS w wr a1 b b2 s l f u d hd F fs k va) :
    OrdS w wr a1 b b2 s l f (u + d) 0 hd F fs k none :=
  ⟨by have := h.inb; rw [show u + d + 1 + 0 = u + 1 + d by omega]; exact this, h.fr, h.kp, h.tab, h.fst, h.cnt, fun j hj => by omega, h.rdc⟩
theorem order_bad (n0 : Int) (a1 : Option Addr) (cap1 : Nat) (w : World) (l : List (Int × List Int)) (hl : RdC w a1 l) (hll : l.length ≤ 140737488351232) (hs : n0 < 1 ∨ 64 < n0) :
    Calls Try.prog 5 #[.int .i64 n0, .slice a1 l.length cap1] w fun e w' => e = .returned (.bool true) ∧ Below w.heap.size w w' := by
  go_enter Try.func5, Try.ntmps5
  go_wp2_with fail
  refine (awake_any _).mono ?_
  rintro e w1 ⟨rfl, hk⟩
  go_wp2_with fail
  refine (inew_bad n0 _ hs).mono ?_
  rintro e w' ⟨rfl, rfl⟩
  have D := Lib.hid (long_any a1 l.length cap1 l w1 (hl.kp0 hk (fun _ _ h => h)) rfl hll)
  have H := Lib.hid (hk.below (fun _ _ h => h))
  clear hl hk hs
  generalize lg l = t at *
  cases t
  all_goals
    go_wp2_with (go_at_call 9; refine D.out.mono ?_; rintro e w' ⟨rfl, rfl⟩)
    all_goals go_ret
    all_goals exact ⟨rfl, H.out⟩
theorem order_long (s : Nat) (hs : 1 ≤ s ∧ s ≤ 64) (a1 : Option Addr) (cap1 : Nat) (w : World) (l : List (Int × List Int)) (hl : RdC w a1 l) (hll : l.length ≤ 140737488351232) (h1 : lg l = true) :
    Calls Try.prog 5 #[.int .i64 s, .slice a1 l.length cap1] w fun e w' => e = .returned (.bool true) ∧ Below w.heap.size w w' := by
  go_enter Try.func5, Try.ntmps5
  go_wp2_with fail
  refine (awake_any _).mono ?_
  rintro e w1 ⟨rfl, hk⟩
  go_wp2_with fail
  refine (inew_ok s _ hs).mono ?_
  rintro e w2 ⟨rfl, _, hk2⟩
  have D := Lib.hid (long_any a1 l.length cap1 l w2 (hl.kp0 (hk.trans hk2) (fun _ _ h => h)) rfl hll)
  have H := Lib.hid ((hk.trans hk2).below (fun _ _ h => h))
  clear hl hk hk2 hs
  rw [h1] at D
  clear h1
  go_wp2_with (go_at_call 9; refine D.out.mono ?_; rintro e w' ⟨rfl, rfl⟩)
  go_ret
  exact ⟨rfl, H.out⟩
set_option maxRecDepth 20000 in
set_option maxHeartbeats 4000000 in
theorem order_main (s : Nat) (hs : 1 ≤ s ∧ s ≤ 64) (a1 : Option Addr) (cap1 : Nat) (w : World) (l : List (Int × List Int)) (hl : RdC w a1 l) (h1 : lg l = false) :
    Calls Try.prog 5 #[.int .i64 s, .slice a1 l.length cap1] w fun e w' => e = .returned (.bool true) ∧ Below w.heap.size w w' := by
  obtain ⟨h300, _, hbody⟩ := lg_no h1
  have h301 : (l.length : Int) ≤ 300 := by omega
  go_enter Try.func5, Try.ntmps5
  go_wp2_with fail
  refine (awake_any _).mono ?_
  rintro e w1 ⟨rfl, hk⟩
  go_wp2_with fail
  refine (inew_ok s _ hs).mono ?_
  rintro e w2 ⟨rfl, hin, hk2⟩
  have hb : w.heap.size ≤ w1.heap.size := hk.size
  have hbb : w1.heap.size < w2.heap.size := by
    obtain ⟨⟨c, hc⟩, _⟩ := hin
    exact hc.lt _ hc.base
  have hkA := hk.trans hk2
  generalize w1.heap.size = b at *
  have D := Lib.hid (long_any a1 l.length cap1 l w2 (hl.kp0 hkA (fun _ _ h => h)) rfl (by omega))
  rw [h1] at D
  obtain ⟨w3, hr3, hat3, hk3⟩ := run_make_at (P := Try.prog) w2 Try.underlying53 elem_i64 .i64 .i64 400 400 400 rfl rfl (by omega) (by unfold maxLen; omega)
  rw [zeros_one _ rfl] at hat3
  have hat4 : AtF w3 w2.heap.size 400 (fun q => .int .i64 ((fun _ => (0 : Int)) q)) := by
    unfold AtF
    have e : (List.range 400).map (fun q => Value.int .i64 ((fun _ => (0 : Int)) q)) = List.replicate 400 (Value.int .i64 0) := by simp [List.map_const']
    rw [e]; exact hat3
  generalize hb2 : w2.heap.size = b2 at *
  have HI : Hid (OrdS w w3 a1 b b2 s l (fun _ => none) 0 0 0 (· = b) (fun _ => 0) 0 none) :=
    ⟨hin.kp hk3 (fun _ _ h => h), fun g hg => .inl hg, hkA.trans hk3, hat4, FirstI.start l, by omega, fun j hj => by omega, hl.kp0 (hkA.trans hk3) (fun _ _ h => h)⟩
  have hb2w : w.heap.size ≤ b2 := by omega
  clear hk hk2 hin hkA h1 hat3 hat4 hk3 hs hb2 h300
  have hl0 := Lib.hid hl
  clear hl
  go_wp2_with (go_at_call 9; refine D.out.mono ?_; rintro e w' ⟨rfl, rfl⟩)
  clear D hr3
  go_loopw [10, 9] (fun i t wr => ∃ (k u : Nat) (f : Bodies) (hd : Nat) (F : Nat → Prop) (fs : Nat → Int), k ≤ l.length ∧ i = .int .i64 k ∧ t = .int .i64 u ∧ OrdS w wr a1 b b2 s l f u 0 hd F fs k none) (fun i _ _ => l.length - (intOf i).toNat)
  case atStart => exact ⟨0, 0, _, _, _, _, by omega, rfl, rfl, HI.out⟩
  case round =>
    obtain ⟨k, u, f, hd, F, fs, hkl, rfl, rfl, S⟩ := hrel
    by_cases hlt : k < l.length
    · obtain ⟨b1, o1, ai, ci, rfl, q1, q2, q3, q4, q5, q6⟩ := S.rdc k hlt
      have hbb' : ¬ b1 = b := by
        obtain ⟨_, _, _, _, e, c, _⟩ := hl0.out k hlt
        cases e
        have hlt : b1 < w.heap.size := World.block_lt_of_cell? w _ c
        omega
      have i1 : (k : Int) < l.length := by omega
      have hx4 := hbody k
      obtain ⟨x, hx⟩ : ∃ x, x = l.getD k (0, []) := ⟨_, rfl⟩
      rw [← hx] at q1 q2 q3 q4 q5 q6 hx4
      obtain ⟨sq, bd⟩ := x
      dsimp only at q1 q2 q3 q4 q5 q6 hx4
      obtain ⟨hin, hfr, hkp, htab, hfst, hcnt, _, hrd⟩ := S
      obtain ⟨n, hn⟩ : ∃ n, n = u + 1 := ⟨_, rfl⟩
      rw [Nat.add_zero, ← hn] at hin
      have HN := Lib.hid hn
      clear hn
      obtain ⟨⟨c, hc⟩, hn0⟩ := hin
      have HS := Lib.hid (hc.hasSpec hn0 sq ⟨q5, q6⟩)
      have hinA := Lib.hid (show InbAt wr b s f n hd F from ⟨⟨c, hc⟩, hn0⟩)
      have HX := Lib.hid hx
      clear hc hn0 hx
      go_wp2_with fail
      refine HS.out.mono ?_
      rintro e w5 ⟨rfl, mm, rfl⟩
      have hk6 : Kp (fun _ => False) wr (wr.drewN mm) := (Kp.refl _ _).drewN mm
      have q1' := hk6.cell q1 (fun h => h)
      have q2' := hk6.cell q2 (fun h => h)
      have q3' := q3.kp0 hk6 (fun _ _ h => h)
      have htab' := htab.drewN mm
      have hrd' := hrd.kp0 hk6 (fun _ _ h => h)
      have hkp' := hkp.drewN mm
      have hin' := hinA.out.kp hk6 (fun _ _ h => h)
      clear hk6 q1 q2 q3 htab hrd hkp hinA HS
      generalize wr.drewN mm = w5 at *
      have T := take_any (hin'.kp (Kp.refl (fun _ => False) w5).drew (fun _ _ h => h)) sq ⟨q5, q6⟩ ai bd.length ci bd (q3'.kp (Kp.refl (fun _ => False) w5).drew (fun _ _ h => h)) rfl (by omega)
      have HT := Lib.hid T
      have HF := Lib.hid hfr
      have HIN := Lib.hid hin'
      have HTB := Lib.hid htab'
      have HRD := Lib.hid hrd'
      have HKP := Lib.hid hkp'
      have HFS := Lib.hid hfst
      have HC := Lib.hid hcnt
      have HL := Lib.hid (And.intro hkl hlt)
      have H301 := Lib.hid h301
      clear T hfr hin' htab' hrd' hkp' hfst q3' hcnt hx4 q4 q5 q6 hkl hlt h301
      go_wp2_with fail
      go_region_held3 (fun w' => w'.cell? ⟨b1, o1 + k * 2, none⟩ = some (.int .i64 sq) ∧ w'.cell? ⟨b1, o1 + k * 2 + 1, none⟩ = some (.slice ai bd.length ci)) (first | (exact ⟨by simpa using q1', by simpa using q2'⟩) | (go_split_ands; exact ⟨Kp.cell kk1 ‹_› hbb', Kp.cell kk1 ‹_› hbb'⟩)) (first | (go_at_call 13; refine HT.out.mono ?_; rintro e w6 ⟨n', hd', F', v, vs, rfl, kk2, kk3, kk4, kk5, kk6, kk7, kk8, kk9, kk1, kk10⟩))
      obtain ⟨va, vc, rfl, _, _⟩ := kk6.form
      have hsz : b2 < w5.drew.heap.size := HTB.out.lt
      have hT6 : AtF w6 b2 400 (fun q => .int .i64 (fs q)) := kk1.atF HTB.out (fun e => by omega)
      have NX := fun w7 fs' k67 htab h0 h1 => ord_next (w7 := w7) (fs' := fs') hl0.out hb hb2w HF.out HTB.out HKP.out HFS.out HC.out HN.out hbb HIN.out HX.out kk2 kk3 kk4 kk6 kk7 kk8 kk9 kk1 kk10 k67 htab h0 h1
      have NX := Lib.hid NX
      obtain ⟨d, hd2⟩ : ∃ d, d = n' - n := ⟨_, rfl⟩
      rw [← hd2] at NX ⊢
      have H10 := Lib.hid (fun h => hd2.trans (by rw [(kk10 h).1, Nat.sub_self]) : cd f n s sq ≠ 0 → d = 0)
      clear kk2 kk3 kk4 kk5 kk6 kk7 kk8 kk9 kk10 hd2 HT HF HIN HTB HRD HKP HFS HC HN HX
      have HCZ := Lib.hid (fun h => cd_zero h : cd f n s sq = 0 → _)
      have ew : IntKind.i64.wrap ((k : Int) + 1) = (k : Int) + 1 := IntWalk.i64_in _ (by have := H301.out; omega)
      rcases cd_cases f n s sq with ⟨e1, e2⟩ | hB
      · obtain ⟨c1, c2, _, _⟩ := HCZ.out e1
        obtain ⟨q, rfl⟩ := Int.eq_ofNat_of_zero_le (show 0 ≤ sq by omega)
        have g1 : (0 : Int) < q := by omega
        rw [e1, e2]
        go_split_ands
        clear H10 HCZ e2 c1 c2 q1' q2'
        by_cases h4 : (q : Int) < 400
        case' pos =>
          have S := Lib.hid (NX.out (w6.setCell ⟨b2, q, none⟩ (.int .i64 ((k : Int) + 1))) (fun j => if j = q then (k : Int) + 1 else fs j) ((Kp.refl (· = b2) w6).setCell (p := ⟨b2, q, none⟩) (fun _ => rfl) (.int .i64 ((k : Int) + 1)))
            (by
              have := hT6.set q (.int .i64 ((k : Int) + 1))
              have e : upd (fun q => Value.int .i64 (fs q)) q (.int .i64 ((k : Int) + 1)) = fun j => Value.int .i64 (if j = q then (k : Int) + 1 else fs j) := by
                funext j; unfold upd; split <;> rfl
              rw [e] at this; exact this)
            (fun _ => ⟨fun j hj => by simp at hj; simp [hj], fun _ => by simp⟩) (fun h => absurd e1 h))
          have hv := hT6.is (i := q) (by omega) rfl
          have hf := fun i => hT6.frozen i
          clear NX e1 hT6
          go_wp2_with fail
          clear hv hf
          generalize w6.setCell ⟨b2, q, none⟩ (.int .i64 ((k : Int) + 1)) = w7 at *
        case' neg =>
          have S := Lib.hid (NX.out w6 fs ((Kp.refl _ _)) hT6 (fun _ => ⟨fun _ _ => rfl, fun h => by simp at h; omega⟩) (fun _ => rfl))
          clear NX e1 hT6
          go_wp2_with fail
          generalize w6 = w7 at *
        all_goals
          clear kk1
          generalize nf f n s _ _ = f' at *
          go_loopw [14, 9] (fun j t wr => ∃ (jj : Nat), jj ≤ d ∧ j = .int .i64 jj ∧ t = .int .i64 (u + jj : Nat) ∧ OrdS w wr (some ⟨b1, o1, none⟩) b b2 s l f' u d hd' F' _ (k + 1) va) (fun j _ _ => d - (intOf j).toNat)
          case atStart => exact ⟨0, by omega, rfl, rfl, S.out⟩
          case round =>
            obtain ⟨jj, hjd, rfl, rfl, S⟩ := hrel
            by_cases hj : jj < d
            · obtain ⟨ge, a', c', y, jq, b1', o1', a2, c2, e, eva, p1, p2, p3, p4, p5, p6, p7⟩ := S.low (by have := HL.out; omega) (by have := H301.out; omega) hj
              cases e
              subst eva
              have HS := Lib.hid S
              obtain ⟨t, ht⟩ : ∃ t, t = u + jj := ⟨_, rfl⟩
              rw [← ht] at p3 p4 ⊢
              have j1 : (jj : Int) < d := by omega
              have t1 : (t : Int) + 1 < 400 := by omega
              have t2 : IntKind.i64.wrap ((t : Int) + 1) = (t : Int) + 1 := IntWalk.i64_in _ (by omega)
              have t3 : ((t : Int) + 1).toNat = t + 1 := by omega
              have t4 : 0 ≤ (t : Int) + 1 := by omega
              have t5 : ((jq : Int) + 1 == 0) = false := by rw [beq_eq_false_iff_ne]; omega
              have t6 : IntKind.i64.wrap (jq : Int) = jq := IntWalk.i64_in _ (by have := H301.out; omega)
              have t7 : (jq : Int) < l.length := by omega
              have t8 : IntKind.i64.wrap ((jj : Int) + 1) = (jj : Int) + 1 := IntWalk.i64_in _ (by have := S.cnt; have := HL.out; have := H301.out; omega)
              have C := fun m => Calls.quiet_of_same (n := m) (Calls.turn (same_n a' a2 y.length y.length c' c2 y y (wr.drewN m) (p2.drewN m) (p7.drewN m) rfl rfl))
              rw [decide_eq_true (rfl : y = y)] at C
              have HT := Lib.hid ht
              have HJ := Lib.hid hj
              clear S p2 p3 p5 p7 hjd ht hj
              go_wp2_with fail
              go_quiet ((go_at_call 23; exact C _))
              go_wp2
              go_roundw
              case rel => exact ⟨jj + 1, by have := HJ.out; omega, by go_num, by rw [← Nat.add_assoc, ← HT.out]; go_num, HS.out.drewN _⟩
              case measure => simp [intOf]; have := HJ.out; omega
            · obtain rfl : jj = d := by omega
              obtain ⟨⟨c, hc⟩, hn0⟩ := S.inb
              have hlt := S.inb.held_lt
              have HN := Lib.hid hc.next
              have HH := Lib.hid hc.held
              have HS := Lib.hid S.roll
              have hcn := S.cnt
              obtain ⟨t, ht⟩ : ∃ t, t = u + jj := ⟨_, rfl⟩
              rw [show ((u + 1 + jj : Nat) : Int) = (t : Int) + 1 by omega] at HN
              rw [← ht] at HS ⊢
              have t2 : IntKind.i64.wrap ((t : Int) + 1) = (t : Int) + 1 := IntWalk.i64_in _ (by have := HL.out; have := H301.out; omega)
              have i4 : (hd' : Int) < s := by omega
              have i5 : ¬ ((hd' : Int) < 0) := by omega
              have j0 : ¬ ((jj : Int) < jj) := by omega
              clear S hc hn0 hlt hcn ht hj hjd
              go_wp2_with fail
              refine HN.out.mono ?_
              rintro e w8 ⟨rfl, rfl⟩
              go_wp2_with fail
              refine HH.out.mono ?_
              rintro e w8 ⟨rfl, rfl⟩
              go_wp2_with fail
              refine HH.out.mono ?_
              rintro e w8 ⟨rfl, rfl⟩
              go_wp2
              go_roundw
              case rel => exact ⟨k + 1, t, _, _, _, _, by have := HL.out; omega, by go_num, rfl, HS.out⟩
              case measure => simp [intOf]; have := HL.out; omega
      · obtain rfl : d = 0 := H10.out (hB.elim (fun h => by rw [h.1]; decide) (fun h => h.1))
        have S := Lib.hid (NX.out w6 fs ((Kp.refl _ _)) hT6 (fun e => hB.elim (fun h => absurd (h.1.symm.trans e) (by decide)) (fun h => absurd e h.1)) (fun _ => rfl))
        clear NX H10 HCZ hT6
        rcases hB with ⟨e1, e2⟩ | ⟨e1, e2⟩
        case' inl =>
          rw [e1, e2]
          clear e1 e2
          go_wp2_with fail
          generalize w6 = w7 at *
        case' inr =>
          generalize cd f n s sq = cc at *
          go_wp2_with fail
          generalize w6 = w7 at *
        all_goals
          clear kk1
          generalize nf f n s _ _ = f' at *
          go_loopw [14, 9] (fun j t wr => j = .int .i64 0 ∧ t = .int .i64 u ∧ OrdS w wr (some ⟨b1, o1, none⟩) b b2 s l f' u 0 hd' F' _ (k + 1) va) (fun j _ _ => 0)
          case atStart => exact ⟨rfl, rfl, S.out⟩
          case round =>
            obtain ⟨rfl, rfl, S⟩ := hrel
            obtain ⟨⟨c, hc⟩, hn0⟩ := S.inb
            have hlt := S.inb.held_lt
            have HN := Lib.hid hc.next
            have HH := Lib.hid hc.held
            have HS := Lib.hid S.roll
            have hcn := S.cnt
            rw [Nat.add_zero] at HS
            obtain ⟨t, ht⟩ : ∃ t, t = u := ⟨_, rfl⟩
            rw [show ((u + 1 + 0 : Nat) : Int) = (t : Int) + 1 by omega] at HN
            rw [← ht] at HS ⊢
            have t2 : IntKind.i64.wrap ((t : Int) + 1) = (t : Int) + 1 := IntWalk.i64_in _ (by have := HL.out; have := H301.out; omega)
            have i4 : (hd' : Int) < s := by omega
            have i5 : ¬ ((hd' : Int) < 0) := by omega
            have j0 : ¬ ((0 : Int) < 0) := by omega
            clear S hc hn0 hlt hcn ht
            go_wp2_with fail
            refine HN.out.mono ?_
            rintro e w8 ⟨rfl, rfl⟩
            go_wp2_with fail
            refine HH.out.mono ?_
            rintro e w8 ⟨rfl, rfl⟩
            go_wp2_with fail
            refine HH.out.mono ?_
            rintro e w8 ⟨rfl, rfl⟩
            go_wp2
            go_roundw
            case rel => exact ⟨k + 1, t, _, _, _, _, by have := HL.out; omega, by go_num, rfl, HS.out⟩
            case measure => simp [intOf]; have := HL.out; omega
    · go_wp2
      go_ret
      exact ⟨rfl, S.kp.below (fun _ _ h => h)⟩
theorem inboxOrder_walk (n0 : Int) (a1 : Option Addr) (len1 cap1 : Nat) (w : World) (r0 : Rdg Try.prog w 3 [.int .i64 n0]) (r1 : Rdg Try.prog w 22 [.slice a1 len1 cap1]) :
    Calls Try.prog 5 #[.int .i64 n0, .slice a1 len1 cap1] w fun e w' => e = .returned (.bool true) ∧ Below w.heap.size w w' := by
  obtain ⟨_, l, _, e1, hl, hll⟩ := rdc_open r1
  simp only [List.cons.injEq, Value.slice.injEq, and_true] at e1
  obtain ⟨rfl, rfl, rfl⟩ := e1
  by_cases hs : n0 < 1 ∨ 64 < n0
  · exact order_bad n0 a1 cap1 w l hl hll hs
  · obtain ⟨s, rfl⟩ := Int.eq_ofNat_of_zero_le (show 0 ≤ n0 by omega)
    cases h : lg l with
    | true => exact order_long s (by omega) a1 cap1 w l hl hll h
    | false => exact order_main s (by omega) a1 cap1 w l hl h
end Go.Proofs.Ytnigdgopmmccgaa
