/- The walk of InboxTakes: it returns true, whatever comes in. No condition. -/
import Derived.Test.YtnigdgopmmccgaaInbU
import Derived.Deep.DeepCutAuto
import Derived.Outline
namespace Go.Proofs.Ytnigdgopmmccgaa
open Go.RowKit
set_option linter.unusedVariables false
theorem takes_early (n0 : Int) (a1 : Option Addr) (cap1 : Nat) (w : World) (l : List (Int × List Int)) (hl : RdC w a1 l) (hll : l.length ≤ 140737488351232) (he : lg l = true) :
    Calls Try.prog 3 #[.int .i64 n0, .slice a1 l.length cap1] w fun e w' => e = .returned (.bool true) ∧ Below w.heap.size w w' := by
  have D := Lib.hid (long_any a1 l.length cap1 l w hl rfl hll)
  rw [he] at D
  clear hl he
  go_enter Try.func3, Try.ntmps3
  go_wp2_with (go_at_call 9; refine D.out.mono ?_; rintro e w' ⟨rfl, rfl⟩)
  go_ret
  exact ⟨rfl, Below.refl _ _⟩
theorem takes_bad (n0 : Int) (hs : n0 < 1 ∨ 64 < n0) (a1 : Option Addr) (cap1 : Nat) (w : World) (l : List (Int × List Int)) (hl : RdC w a1 l) (hll : l.length ≤ 140737488351232) (he : lg l = false) :
    Calls Try.prog 3 #[.int .i64 n0, .slice a1 l.length cap1] w fun e w' => e = .returned (.bool true) ∧ Below w.heap.size w w' := by
  have D := Lib.hid (long_any a1 l.length cap1 l w hl rfl hll)
  rw [he] at D
  clear hl he
  have C1 := Lib.hid (fun w => inew_bad n0 w hs)
  have C2 := Lib.hid (fun w => rnew_bad n0 w hs)
  clear hs
  go_enter Try.func3, Try.ntmps3
  go_wp2_with (first | (go_at_call 9; refine D.out.mono ?_; rintro e w' ⟨rfl, rfl⟩) | (go_at_call 10; refine (C1.out _).mono ?_; rintro e w' ⟨rfl, rfl⟩) | (go_at_call 11; refine (C2.out _).mono ?_; rintro e w' ⟨rfl, rfl⟩))
  go_loop [9] (fun i => i = .int .i64 0) (fun i => 0)
  case atStart => rfl
  case round =>
    subst hrel
    by_cases hlt : 0 < l.length
    · have i1 : (0 : Int) < l.length := by omega
      go_wp2_with fail
      refine (awake_any _).mono ?_
      rintro e w1 ⟨rfl, hk⟩
      go_wp2
      go_ret
      exact ⟨rfl, hk.below (fun _ _ h => h)⟩
    · have i1 : ¬ (0 : Int) < l.length := by omega
      go_wp2_with fail
      refine (awake_any _).mono ?_
      rintro e w1 ⟨rfl, hk⟩
      go_wp2
      go_ret
      exact ⟨rfl, hk.below (fun _ _ h => h)⟩
set_option maxRecDepth 20000 in
set_option maxHeartbeats 8000000 in
theorem takes_main (s : Nat) (hs : 1 ≤ s ∧ s ≤ 64) (a1 : Option Addr) (cap1 : Nat) (w : World) (l : List (Int × List Int)) (hl : RdC w a1 l) (he : lg l = false) :
    Calls Try.prog 3 #[.int .i64 s, .slice a1 l.length cap1] w fun e w' => e = .returned (.bool true) ∧ Below w.heap.size w w' := by
  obtain ⟨hlen, _, hbody⟩ := lg_no he
  have D := Lib.hid (long_any a1 l.length cap1 l w hl rfl (by omega))
  rw [he] at D
  have HL := Lib.hid hl
  have HB := Lib.hid hbody
  have HS := Lib.hid hs
  clear hl he hbody hs
  go_enter Try.func3, Try.ntmps3
  go_wp2_with (go_at_call 9; refine D.out.mono ?_; rintro e w' ⟨rfl, rfl⟩)
  refine (inew_ok s _ HS.out).mono ?_
  rintro e w1 ⟨rfl, hin, hk1⟩
  go_wp2_with fail
  refine (rnew_ok s _ HS.out).mono ?_
  rintro e w2 ⟨rfl, hrf, hk2⟩
  have hb1 := hk1.size
  have hbw : w.heap.size < w1.heap.size := by obtain ⟨⟨c, hc⟩, _⟩ := hin; exact hc.lt _ hc.base
  obtain ⟨b, hb⟩ : ∃ b, b = w.heap.size := ⟨_, rfl⟩
  obtain ⟨r, hr⟩ : ∃ r, r = w1.heap.size := ⟨_, rfl⟩
  rw [← hb] at hin hbw ⊢
  rw [← hr] at hrf hbw ⊢
  have S0 : TakesS w w2 b r s (fun _ => none) 1 0 (· = b) (.slice none 0 0) [] (· = r) :=
    ⟨hin.kp hk2 (fun _ _ h => h), hrf, hk1.trans hk2, fun g hg => by omega, fun g hg => by omega, fun g h1 h2 => by omega⟩
  have HS0 := Lib.hid S0
  have HBR := Lib.hid (And.intro hb hr)
  clear hin hrf hk1 hk2 S0 hb hr hb1 hbw D
  go_wp2_with fail
  go_loopw [9] (fun iv wr => ∃ (i n hd : Nat) (f : Bodies) (F : Nat → Prop) (v : Value) (L : List (Nat × Value)) (G : Nat → Prop), i ≤ l.length ∧ iv = .int .i64 i ∧ TakesS w wr b r s f n hd F v L G) (fun iv _ => l.length - (intOf iv).toNat)
  case atStart => exact ⟨0, 1, 0, _, _, _, _, _, by omega, rfl, HS0.out⟩
  case round =>
    clear HS0
    obtain ⟨i, n, hd, f, F, v, L, G, hil, rfl, S⟩ := hrel
    by_cases hlt : i < l.length
    · have i1 : (i : Int) < l.length := by omega
      obtain ⟨b1, o1, ai, ci, rfl, q1, q2, q3, q4, q5, q6⟩ := HL.out i hlt
      have hb1w : b1 < w.heap.size := World.block_lt_of_cell? w _ q1
      have q1 := S.kp.cell q1 (fun h => h)
      have q2 := S.kp.cell q2 (fun h => h)
      have hx4 := HB.out i
      generalize l.getD i (0, []) = x at *
      obtain ⟨sq, bd⟩ := x
      dsimp only at *
      have HLT := Lib.hid (And.intro hlt (And.intro hb1w (And.intro q3 (And.intro q4 (And.intro q5 (And.intro q6 hx4))))))
      have C1 := Lib.hid (lent_any ai ci bd wr (q3.kp0 S.kp (fun _ _ h => h)) (by omega))
      have HSt := Lib.hid S
      clear S hlt q3 q4 q5 q6 hil hx4 hb1w
      go_wp2_with fail
      refine C1.out.mono ?_
      rintro e w3 ⟨rfl, hat3, hk3⟩
      have c1 := hk3.cell q1 (fun h => h)
      have c2 := hk3.cell q2 (fun h => h)
      have S3 := HSt.out.drew hk3
      have T := take_any S3.inb sq ⟨HLT.out.2.2.2.2.1, HLT.out.2.2.2.2.2.1⟩ (some ⟨wr.heap.size, 0, none⟩) bd.length (bd.length + 3) bd (RdB.lent' hat3 HLT.out.2.2.1.bd (by have := HLT.out.2.2.2.2.2.2; omega)) rfl (by have := HLT.out.2.2.2.2.2.2; omega)
      have HT := Lib.hid T
      have HA3 := Lib.hid (And.intro hat3 (And.intro hk3 S3))
      clear T hat3 hk3 S3 C1 q1 q2
      go_wp2_with fail
      refine HT.out.mono ?_
      rintro e w4 ⟨n', hd', F', va, vs, rfl, t2, t3, t4, t5, t6, t7, t8, t9, t10, _⟩
      have S3 := HA3.out.2.2
      have hbF : F b := by obtain ⟨⟨c, hc⟩, _⟩ := S3.inb; exact hc.base
      have hb1b : ¬ b1 = b := by have := S3.fF b hbF; have := HLT.out.2.1; omega
      have c3 := t10.cell c1 hb1b
      have c4 := t10.cell c2 hb1b
      have R4 := S3.ref.kp t10 (fun k hG e => S3.dj b hbF (by rw [← e]; exact hG))
      have hd4 := (Kp.refl (fun _ => False) w4).drew
      have hg4 : ¬ G b1 := fun hG => by have := S3.fG b1 hG; have := HLT.out.2.1; omega
      have RT := rtake_any (R4.kp hd4 (fun _ _ h => h)) S3.inb.2 sq ⟨HLT.out.2.2.2.2.1, HLT.out.2.2.2.2.2.1⟩ ai bd.length ci bd (HLT.out.2.2.1.kp0 (((S3.kp.then t10 (fun i hi e => by have := S3.fF b hbF; omega))).trans hd4) (fun _ _ h => h)) rfl (by have := HLT.out.2.2.2.2.2.2; omega)
      have HRT := Lib.hid RT
      have HT4 := Lib.hid (And.intro t2 (And.intro t3 (And.intro t4 (And.intro t5 (And.intro t6 (And.intro t7 (And.intro t8 (And.intro t9 t10))))))))
      obtain ⟨vaa, vac, rfl, _, _⟩ := t6.form
      clear RT t2 t3 t4 t5 t6 t7 t8 t9 t10 S3 R4 HT c1 c2
      go_wp2_with fail
      go_region_held3 (fun w' => w'.cell? ⟨b1, o1 + i * 2, none⟩ = some (.int .i64 sq) ∧ w'.cell? ⟨b1, o1 + i * 2 + 1, none⟩ = some (.slice ai bd.length ci)) (first | (exact ⟨by simpa using c3, by simpa using c4⟩) | (go_split_ands; exact ⟨Kp.cell u10 ‹_› hg4, Kp.cell u10 ‹_› hg4⟩)) (first | (go_at_call 14; refine HRT.out.mono ?_; rintro e w5 ⟨n2, v', L', G', vb, vt, rfl, u2, u3, u4, u5, u6, u7, u8, u9, u10⟩))
      go_split_ands
      obtain ⟨t2, t3, t4, t5, t6, t7, t8, t9, t10⟩ := HT4.out
      obtain ⟨hn2, hhd, S5, o5, T5, hva⟩ := takes_round HA3.out.2.2 t2 t5 t6 t7 t8 t9 t10 u2 u3 u9 (((Kp.refl _ w4).drew).trans u10)
      subst hn2
      subst hhd
      obtain ⟨vba, vbc, rfl, _, _⟩ := u7.form
      have hK35 : Kp (fun k => k = b ∨ G k) w3 w5 := (t10.mono (S' := fun k => k = b ∨ G k) (fun _ _ e => .inl e)).then (((Kp.refl _ w4).drew).trans u10) (fun _ _ e => .inr e)
      have hgi : ¬ (wr.heap.size = b ∨ G wr.heap.size) := fun e => by
        have h1 := HSt.out.ref.lt wr.heap.size
        have h2 : b < wr.heap.size := by obtain ⟨⟨c, hc⟩, _⟩ := HSt.out.inb; exact hc.lt b hc.base
        rcases e with e | e
        · omega
        · have := h1 e; omega
      have hat5 := hK35.at HA3.out.1 hgi
      have hlen4 := HLT.out.2.2.2.2.2.2
      have hnn : n2 - n ≤ 64 := by have := HS.out.2; omega
      have ra := rdl_vals o5 T5.own
      have rb := rdl_vals u7 u8
      have rbd := HLT.out.2.2.1.kp0 S5.kp (fun _ _ h => h)
      have C15 := Lib.hid (show ∀ w', Kp (fun _ => False) w5 w' → Calls Try.prog 15 #[.slice vaa (n2 - n) vac, .slice vba (n2 - n) vbc] w' fun e w'' => e = .returned (.bool true) ∧ Kp (fun _ => False) w' w'' from fun w' k =>
        (samelists_any vaa vba (n2 - n) (n2 - n) vac vbc _ _ w' (ra.kp0 k (fun _ _ h => h)) (rb.kp0 k (fun _ _ h => h)) (tld_len _ _ _) (tld_len _ _ _) (by omega)).mono fun e w'' ⟨h1, h2⟩ => ⟨h1.trans (by rw [decide_eq_true rfl]), h2⟩)
      have C16 := Lib.hid (fun w' (k : Kp (fun _ => False) w5 w') => kept_any wr.heap.size ai ci bd w' (k.at hat5 (fun h => h)) (rbd.kp0 k (fun _ _ h => h)) (by omega))
      have C17 := Lib.hid (fun w' (k : Kp (fun _ => False) w5 w') => ((S5.drew k).inb.1.elim fun c hc => hc.next))
      have C18 := Lib.hid (fun w' (k : Kp (fun _ => False) w5 w') => ((S5.drew k).inb.1.elim fun c hc => hc.held))
      have C19 := Lib.hid (show ∀ w', Kp (fun _ => False) w5 w' → ∀ seq : Int, (-9223372036854775808 ≤ seq ∧ seq ≤ 9223372036854775807) → Calls Try.prog 19 #[.pointer (some ⟨b, 0, none⟩), .int .i64 seq] w' fun e w'' => e = .returned (.bool (hasI (nf f n s sq bd) seq)) ∧ Kp (fun _ => False) w' w'' from fun w' k seq hs =>
        ((S5.drew k).inb.1.elim fun c hc => hc.hasSpec (S5.inb.2) seq hs).mono fun e w'' ⟨h1, m, h2⟩ => ⟨h1, by rw [h2]; exact (Kp.refl _ _).drewN m⟩)
      have C20 := Lib.hid (fun w' (k : Kp (fun _ => False) w5 w') seq hs => (S5.drew k).ref.has seq hs)
      obtain ⟨rva, rvc, e, _, _, _, d0, d1, d2, _⟩ := S5.ref.form
      have hg1 : ¬ G b1 := hg4
      have c5 := u10.cell (w := w4.drew) (p := ⟨b1, o1 + i * 2, none⟩) (v := .int .i64 sq) c3 hg1
      have c6 := u10.cell (w := w4.drew) (p := ⟨b1, o1 + i * 2 + 1, none⟩) (v := .slice ai bd.length ci) c4 hg1
      have hsq := HLT.out.2.2.2.2.1
      have hsq2 := HLT.out.2.2.2.2.2.1
      have hgi3 := HA3.out.1.lt
      have h34 := t10.size
      have HGI := Lib.hid (show ¬ F' wr.heap.size ∧ ¬ G' wr.heap.size ∧ (∀ k, k < vs.length → (vs.getD k undef).ownBlock ≠ some wr.heap.size) ∧ (Value.slice vaa (n2 - n) vac).ownBlock ≠ some wr.heap.size by
        have hF1 : ¬ F wr.heap.size := fun e => by
          have := HSt.out.inb.1.elim fun c hc => hc.lt _ e
          omega
        have hG1 : ¬ G wr.heap.size := fun e => by have := HSt.out.ref.lt _ e; omega
        refine ⟨fun e => ?_, fun e => ?_, fun k hk e => ?_, fun e => ?_⟩
        · rcases t9 _ e with h | h
          · exact hF1 h
          · omega
        · rcases u9 _ e with h | h
          · exact hG1 h
          · have h' : w4.heap.size ≤ wr.heap.size := h
            omega
        · rcases (t7.blk k _ hk e).1 with h | h
          · exact hF1 h.1
          · omega
        · have := (t8 _ e).1; omega)
      have HS5 := Lib.hid (And.intro S5 (And.intro o5 (And.intro T5 (And.intro hva (And.intro hat5 hnn)))))
      have HHH := Lib.hid (And.intro c5 (And.intro c6 (And.intro d1 d2)))
      clear hgi3 h34 S5 o5 T5 hva hat5 hnn ra rb rbd t2 t3 t4 t5 t6 t7 t8 t9 t10 hK35 hgi HRT HT4 HA3 d0 u2 u3 u4 u5 u6 u7 u8 u9 u10 c5 c6 d1 d2 hg1 hg4 c3 c4
      subst e
      generalize cd f n s sq = code
      go_wp2_with fail
      go_upto_region 13 with fail
      go_cut [143] (fun sx wx => sx = .bool false ∧ Kp (fun _ => False) w5 wx)
      case first =>
        go_region_held3 (fun w' => Kp (fun _ => False) w5 w' ∧ w'.cell? ⟨b1, o1 + i * 2, none⟩ = some (.int .i64 sq) ∧ w'.cell? ⟨b1, o1 + i * 2 + 1, none⟩ = some (.slice ai bd.length ci) ∧ w'.cell? ⟨r, 1, none⟩ = some (.int .i64 n2) ∧ w'.cell? ⟨r, 2, none⟩ = some (.slice rva L'.length rvc)) (first | assumption | (exact ⟨(Kp.refl _ w5).drew, HHH.out⟩) | (go_split_ands; exact ⟨Kp.trans ‹_› kq, Kp.cell kq ‹_› (fun h => h), Kp.cell kq ‹_› (fun h => h), Kp.cell kq ‹_› (fun h => h), Kp.cell kq ‹_› (fun h => h)⟩)) (first | (go_at_call 15; refine (C15.out _ ?_).mono ?_; (go_split_ands; assumption); rintro e w6 ⟨rfl, kq⟩) | (go_at_call 16; refine (C16.out _ ?_).mono ?_; (go_split_ands; assumption); rintro e w6 ⟨rfl, kq⟩) | (go_at_call 17; refine (C17.out _ ?_).mono ?_; (go_split_ands; assumption); rintro e w6 ⟨rfl, rfl⟩) | (go_at_call 18; refine (C18.out _ ?_).mono ?_; (go_split_ands; assumption); rintro e w6 ⟨rfl, rfl⟩) | (go_at_call 19; refine (C19.out _ ?_ _ ⟨by omega, by omega⟩).mono ?_; (go_split_ands; assumption); rintro e w6 ⟨rfl, kq⟩) | (go_at_call 20; refine (C20.out _ ?_ _ ⟨by omega, by omega⟩).mono ?_; (go_split_ands; assumption); rintro e w6 ⟨rfl, rfl⟩))
        all_goals (go_split_ands; go_wp2_with fail; go_meet; exact ⟨rfl, ‹Kp _ w5 _›⟩)
      case rest =>
        obtain ⟨rfl, k6⟩ := hcut
        clear C15 C16 C17 C18 C19 C20 HHH
        obtain ⟨S5, o5, T5, hva, hat5, hnn⟩ := HS5.out
        have C21 := Lib.hid (over_at wr.heap.size 0 bd.length (bd.length + 3) _ wc (k6.at hat5 (fun h => h)) (isB_map (HLT.out.2.2.1.bd.append (byt_marks _))) (by simp [marks]) (by omega) (by omega))
        have HK6 := Lib.hid k6
        clear S5 o5 T5 hva hat5 k6
        go_wp2_with fail
        refine C21.out.mono ?_
        rintro e w7 ⟨rfl, _, k7⟩
        obtain ⟨S5, o5, T5, hva, hat5, hnn⟩ := HS5.out
        obtain ⟨g1, g2, g3, g4⟩ := HGI.out
        have S7 : TakesS w w7 b r s (nf f n s sq bd) n2 L'.length F' (.slice rva L'.length rvc) L' G' :=
          ⟨(S5.inb.kp HK6.out (fun _ _ h => h)).kp k7 (fun g hg e => g1 (e ▸ hg)), (S5.ref.kp HK6.out (fun _ _ h => h)).kp k7 (fun g hg e => g2 (e ▸ hg)), (S5.kp.trans HK6.out).then k7 (fun i hi e => by have := HSt.out.kp.size; omega), S5.fF, S5.fG, S5.dj⟩
        have o7 := (o5.kp HK6.out (fun _ _ h => h)).kp k7 (fun g hg e => g4 (e ▸ hg))
        have hvl : vs.length = n2 - n := by have := o7.1; omega
        have T7 : ∀ j, j < vs.length → ∃ y, OwnB w7 (vs.getD j undef) y := fun j hj => by
          obtain ⟨y, _, e2⟩ := T5.own j hj
          exact ⟨y, (e2.kp HK6.out (fun _ _ h => h)).kp k7 (fun g hg e => g3 j hj (e ▸ hg))⟩
        have H7 := Lib.hid (And.intro S7 (And.intro o7 (And.intro T5 (And.intro hvl T7))))
        clear S5 o5 T5 hva hat5 g1 g2 g3 g4 S7 o7 hvl T7 k7 HGI HS5 HK6 C21 q1 q2
        go_wp2_with fail
        go_loopw [15] (fun iv wq => ∃ k : Nat, k ≤ n2 - n ∧ iv = .int .i64 k ∧ Kp (fun g => ∃ j, j < vs.length ∧ (vs.getD j undef).ownBlock = some g) w7 wq ∧ ∀ j, k ≤ j → j < vs.length → ∃ y, OwnB wq (vs.getD j undef) y) (fun iv _ => n2 - n - (intOf iv).toNat)
        case atStart => exact ⟨0, by omega, rfl, Kp.refl _ _, fun j _ hj => H7.out.2.2.2.2 j hj⟩
        case round =>
          obtain ⟨k, hk, rfl, kq, hq⟩ := hrel
          obtain ⟨S7, o7, T5, hvl, T7⟩ := H7.out
          by_cases hkl : k < n2 - n
          · have j1 : (k : Int) < ((n2 - n : Nat) : Int) := by omega
            have o8 := o7.kp kq (fun g hg ⟨j, hj, e⟩ => (T5.blk j g hj e).1.2.2 hg)
            obtain ⟨gv, ov, rfl, cv⟩ := o8.rd k (by omega)
            obtain ⟨y, hy⟩ := hq k (Nat.le_refl _) (by omega)
            obtain ⟨ya, yc, ey, _, _⟩ := hy.form
            have CO := over_own hy
            have hn8 : ∀ w', Kp (fun g => (vs.getD k undef).ownBlock = some g) wr w' → Kp (fun g => ∃ j, j < vs.length ∧ (vs.getD j undef).ownBlock = some g) w7 w' ∧ ∀ j, k + 1 ≤ j → j < vs.length → ∃ y, OwnB w' (vs.getD j undef) y := fun w' kk =>
              ⟨kq.then kk (fun i _ e => ⟨k, by omega, e⟩), fun j h1 h2 => by
                obtain ⟨y', hy'⟩ := hq j (by omega) h2
                exact ⟨y', hy'.kp kk (fun g hg e => by have := T5.dist j k g h2 (by omega) hg e; omega)⟩⟩
            rw [ey] at cv CO
            simp only [ey] at hn8
            have HN := Lib.hid hn8
            have CO' := Lib.hid CO
            clear S7 o7 T5 hvl T7 o8 hy ey CO hn8 kq hq
            go_wp2_with fail
            refine CO'.out.mono ?_
            rintro e w8 ⟨rfl, k8⟩
            have HN8 := Lib.hid (HN.out _ k8)
            clear k8 HN CO'
            go_wp2_with fail
            go_roundw
            case rel => exact ⟨k + 1, by omega, by go_num, HN8.out.1, HN8.out.2⟩
            case measure => simp [intOf]; omega
          · have j1 : ¬ (k : Int) < ((n2 - n : Nat) : Int) := by omega
            have HE := Lib.hid (show TakesS w wr b r s (nf f n s sq bd) n2 L'.length F' (.slice rva L'.length rvc) L' G' from
              ⟨S7.inb.kp kq (fun g hg ⟨j, hj, e⟩ => (T5.blk j g hj e).2 hg), S7.ref.kp kq (fun g hg ⟨j, hj, e⟩ => (T5.blk j g hj e).1.2.1 hg), S7.kp.then kq (fun i hi ⟨j, hj, e⟩ => by have := (T5.blk j i hj e).1.1; omega), S7.fF, S7.fG, S7.dj⟩)
            have hlt := HLT.out.1
            clear S7 o7 T5 hvl T7 kq hq
            go_wp2_with fail
            go_roundw
            case rel => exact ⟨i + 1, n2, L'.length, _, F', _, L', G', by omega, by go_num, HE.out⟩
            case measure => simp [intOf]; omega
    · have i1 : ¬ (i : Int) < l.length := by omega
      have HK := Lib.hid S.kp
      clear S hlt
      go_wp2_with fail
      refine (awake_any _).mono ?_
      rintro e w3 ⟨rfl, hk3⟩
      go_wp2
      go_ret
      exact ⟨rfl, (HK.out.trans hk3).below (fun _ _ h => h)⟩
theorem inboxTakes_walk (n0 : Int) (a1 : Option Addr) (len1 cap1 : Nat) (w : World) (r0 : Rdg Try.prog w 3 [.int .i64 n0]) (r1 : Rdg Try.prog w 22 [.slice a1 len1 cap1]) :
    Calls Try.prog 3 #[.int .i64 n0, .slice a1 len1 cap1] w fun e w' => e = .returned (.bool true) ∧ Below w.heap.size w w' := by
  obtain ⟨_, l, _, e1, hl, hll⟩ := rdc_open r1
  simp only [List.cons.injEq, Value.slice.injEq, and_true] at e1
  obtain ⟨rfl, rfl, rfl⟩ := e1
  by_cases he : lg l = true
  · exact takes_early n0 a1 cap1 w l hl hll he
  · have he' : lg l = false := by simpa using he
    by_cases hs : n0 < 1 ∨ 64 < n0
    · exact takes_bad n0 hs a1 cap1 w l hl hll he'
    · obtain ⟨s, rfl⟩ := Int.eq_ofNat_of_zero_le (show 0 ≤ n0 by omega)
      exact takes_main s (by omega) a1 cap1 w l hl he'
end Go.Proofs.Ytnigdgopmmccgaa
