/- Package window: Ack. (Written by wip/win13c.py.) -/
import Derived.Test.YtnapokdipelmiaaWnB
namespace Go.Proofs.Ytnapokdipelmiaa
open Go.RowKit Flt
set_option linter.unusedVariables false
set_option linter.unusedSimpArgs false
theorem toKp {P : Program} {f : FuncId} {args : Array Value} {w : World} {v : Value} (h : Calls P f args w fun e w' => e = .returned v ∧ ∃ k, w' = w.drewN k) : Calls P f args w fun e w' => e = .returned v ∧ Kp (fun _ => False) w w' :=
  h.mono fun e w' ⟨h1, k, h2⟩ => ⟨h1, by rw [h2]; exact (Kp.refl _ w).drewN k⟩
/-- A float is stored (the kit's walk has no rule for it). -/
theorem store_float {P : Program} {w : World} {a : Addr} {v : Value} {k : FloatKind} {n : Nat} (h : w.cell? a = some v) (hf : w.frozen? a = false) : (store a (.float k n)).run P w = .ok () (w.setCell a (.float k n)) := by
  rw [run_store _ _ _ _ _ rfl, h]; simp [hf]
/-- Mean and spread behind a packet that goes. -/
def spreadF (s m d : Nat) : Nat := match Ieee.double.sub d m with | some g => meanF s (rung g) quarter | none => s
def dF (now : Nat) (p : Pk) : Nat := floatOfInt .f64 ((now - p.att : Nat) : Int)
def msStep (now : Nat) (a : Nat × Nat) (p : Pk) : Nat × Nat := if p.times = 1 then (meanF a.1 (dF now p) eighth, spreadF a.2 a.1 (dF now p)) else a
def msAck (now : Nat) (a : Nat × Nat) (l : List Pk) : Nat × Nat := l.foldl (msStep now) a
theorem Flt.Ms.pk {m s now : Nat} (h : Ms m s) (hn : now ≤ 2147483647) (p : Pk) : Ms (msStep now (m, s) p).1 (msStep now (m, s) p).2 := by
  unfold msStep
  by_cases h1 : p.times = 1
  · rw [if_pos h1]
    obtain ⟨g, e, l, q⟩ := h.step (n := now - p.att) (by omega)
    show Ms (meanF m (dF now p) eighth) (spreadF s m (dF now p))
    unfold spreadF dF
    rw [e]; exact q
  · rw [if_neg h1]; exact h
theorem msAck_snoc (now : Nat) (a : Nat × Nat) (l : List Pk) (p : Pk) : msAck now a (l ++ [p]) = msStep now (msAck now a l) p := by simp [msAck]
theorem Flt.Ms.ack {m s now : Nat} (h : Ms m s) (hn : now ≤ 2147483647) : ∀ l : List Pk, Ms (msAck now (m, s) l).1 (msAck now (m, s) l).2 := fun l => by
  suffices H : ∀ (l : List Pk) (a : Nat × Nat), Ms a.1 a.2 → Ms (msAck now a l).1 (msAck now a l).2 from H l (m, s) h
  intro l
  induction l with
  | nil => intro a h; exact h
  | cons p r ih => intro a h; exact ih _ (h.pk hn p)
theorem take_pk {l : List Pk} {k : Nat} (h : k < l.length) : l.take (k + 1) = l.take k ++ [pk l k] := by
  rw [List.take_add_one, pk_at h]; rfl
theorem spread_kp (s m n : Nat) (h : Ms m s) (hn : n ≤ 2147483647) (w : World) :
    Calls Try.prog 24 #[.float .f64 s, .float .f64 m, .float .f64 (floatOfInt .f64 (n : Nat)), .float .f64 4598175219545276416] w fun e w' => e = .returned (.float .f64 (spreadF s m (floatOfInt .f64 (n : Nat)))) ∧ Kp (fun _ => False) w w' := by
  obtain ⟨g, e, l, _⟩ := h.step (n := n) (by omega)
  have := toKp (spread_at s m (floatOfInt .f64 (n : Nat)) quarter g w e l)
  unfold spreadF
  rw [e]; exact this
theorem mean_kp (m d : Nat) (w : World) :
    Calls Try.prog 25 #[.float .f64 m, .float .f64 d, .float .f64 4593671619917905920] w fun e w' => e = .returned (.float .f64 (meanF m d eighth)) ∧ Kp (fun _ => False) w w' := toKp (mean_any m d eighth w)
theorem hP9 {w w' : World} {p : Pk} {b : Nat} (k : Kp (· = b) w w') (h : At w p.g (pkC p)) (hb : p.g ≠ b) : At w' p.g (pkC p) := k.at h hb
variable {w : World} {b : Nat} {x : Wn}
/-- How many packets go. -/
def goneN (x : Wn) (n : Nat) : Nat := n + x.l.length - x.last
def ackL (x : Wn) (k now : Nat) (V : Value) : Wn := { x with V := V, l := x.l.drop k, m := (msAck now (x.m, x.s) (x.l.take k)).1, s := (msAck now (x.m, x.s) (x.l.take k)).2, now := now }
theorem ack_neg (h : WinC w b x) (n now : Int) (hn : n < 0) : Calls Try.prog 12 #[.pointer (some ⟨b, 0, none⟩), .int .i64 n, .int .i64 now] w fun e w' => e = .returned (.tuple #[.int .i64 0, .int .i64 5]) ∧ w = w' := by
  have h1 := h.c1
  have C := Lib.hid (wnone_no b x.size w h.c0 h.size_bd.1)
  clear h
  have CT := Lib.hid (fun w' => wtime_any now w')
  go_enter Try.func12, Try.ntmps12
  go_wp2_with (first | (go_at_call 22; refine C.out.mono ?_; rintro e w' ⟨rfl, rfl⟩) | (go_at_call 23; refine (CT.out _).mono ?_; rintro e w' ⟨rfl, rfl⟩))
  go_ret2
  exact ⟨rfl, rfl⟩
theorem ack_far (h : WinC w b x) (n now : Int) (hn : ¬ n < 0) (hf : (x.last : Int) < n) : Calls Try.prog 12 #[.pointer (some ⟨b, 0, none⟩), .int .i64 n, .int .i64 now] w fun e w' => e = .returned (.tuple #[.int .i64 0, .int .i64 5]) ∧ w = w' := by
  have h1 := h.c1
  have C := Lib.hid (wnone_no b x.size w h.c0 h.size_bd.1)
  clear h
  have CT := Lib.hid (fun w' => wtime_any now w')
  go_enter Try.func12, Try.ntmps12
  go_wp2_with (first | (go_at_call 22; refine C.out.mono ?_; rintro e w' ⟨rfl, rfl⟩) | (go_at_call 23; refine (CT.out _).mono ?_; rintro e w' ⟨rfl, rfl⟩))
  go_ret2
  exact ⟨rfl, rfl⟩
theorem ack_late (h : WinC w b x) (n now : Int) (hn : ¬ n < 0) (hf : ¬ (x.last : Int) < n) (ht : timeB now = false) : Calls Try.prog 12 #[.pointer (some ⟨b, 0, none⟩), .int .i64 n, .int .i64 now] w fun e w' => e = .returned (.tuple #[.int .i64 0, .int .i64 5]) ∧ w = w' := by
  have h1 := h.c1
  have C := Lib.hid (wnone_no b x.size w h.c0 h.size_bd.1)
  clear h
  have CT := (fun w' => wtime_any now w')
  rw [ht] at CT
  have CT := Lib.hid CT
  go_enter Try.func12, Try.ntmps12
  go_wp2_with (first | (go_at_call 22; refine C.out.mono ?_; rintro e w' ⟨rfl, rfl⟩) | (go_at_call 23; refine (CT.out _).mono ?_; rintro e w' ⟨rfl, rfl⟩))
  go_ret2
  exact ⟨rfl, rfl⟩
set_option maxHeartbeats 1000000 in
set_option maxRecDepth 20000 in
theorem ack_ok (h : WinC w b x) (hms : Ms x.m x.s) (n now : Nat) (hn : n ≤ x.last) (hl : x.last ≤ 4611686018427387904) (ht : now ≤ 2147483647) : Calls Try.prog 12 #[.pointer (some ⟨b, 0, none⟩), .int .i64 n, .int .i64 now] w fun e w' =>
    e = .returned (.tuple #[.int .i64 (goneN x n : Nat), .int .i64 0]) ∧ ∃ V', WinC w' b (ackL x (goneN x n) (max x.now now) V') ∧ V'.ownBlock = x.V.ownBlock ∧ Kp (· = b) w w' := by
  have h1 := h.c1
  have h5 := h.c5
  have hf5 := h.hat.frozen 5
  have C := Lib.hid (wnone_no b x.size w h.c0 h.size_bd.1)
  have CT := (fun w' => wtime_any (now : Int) w')
  rw [timeB_of ht] at CT
  have CT := Lib.hid CT
  have hnb := h.now_bd
  have hlen := h.len
  have hsz := h.size_bd
  have h0 := h.hat.set 5 (.int .i64 (max x.now now : Nat))
  have hW0 := h.head (last' := x.last) (m' := x.m) (s' := x.s) (now' := max x.now now) rfl h0 ((Kp.refl (· = b) w).setCell (p := ⟨b, 5, none⟩) (fun _ => rfl) _) (by omega) (by omega)
  have k0 : Kp (· = b) w (w.setCell ⟨b, 5, none⟩ (.int .i64 (max x.now now : Nat))) := (Kp.refl (· = b) w).setCell (p := ⟨b, 5, none⟩) (fun _ => rfl) _
  obtain ⟨G, hG⟩ : ∃ G, G = goneN x n := ⟨_, rfl⟩
  obtain ⟨T, hT⟩ : ∃ T, T = max x.now now := ⟨_, rfl⟩
  obtain ⟨xn, hxn⟩ : ∃ xn, xn = x.now := ⟨_, rfl⟩
  have hTb : T ≤ 2147483647 := by omega
  have hGl : G ≤ x.l.length := by unfold goneN at hG; omega
  have HT := Lib.hid (show T = max xn now by rw [hT, hxn])
  rw [← hxn] at h5
  rw [← hG, ← hT]
  rw [← hT] at hW0 k0
  have HG := Lib.hid hG
  have H := Lib.hid (And.intro h hms)
  have HW0 := Lib.hid (And.intro hW0 k0)
  obtain ⟨last, hla⟩ : ∃ last, last = x.last := ⟨_, rfl⟩
  rw [← hla] at h1 hn hl
  have HLA := Lib.hid hla
  have hn' : (n : Int) ≤ last := by omega
  have hb1 : decide ((n : Int) < 0) = false := decide_eq_false (by omega)
  have hb2 : decide (last < n) = false := decide_eq_false (by omega)
  have hb3 : decide ((last : Int) < n) = false := decide_eq_false (by omega)
  clear h hms hG hW0 k0 h0 hla hT hxn hnb hlen hsz
  have hbr : (xn < now ∧ T = now) ∨ (¬ xn < now ∧ T = xn) := by have := HT.out; omega
  rcases hbr with ⟨hmx, rfl⟩ | ⟨hmx, rfl⟩
  all_goals
    go_enter Try.func12, Try.ntmps12
    go_wp2_with (first | (go_at_call 22; refine C.out.mono ?_; rintro e w' ⟨rfl, rfl⟩) | (go_at_call 23; refine (CT.out _).mono ?_; rintro e w' ⟨rfl, rfl⟩))
    obtain ⟨w0, hw0⟩ : ∃ w0, w0 = w.setCell ⟨b, 5, none⟩ (.int .i64 (T : Nat)) := ⟨_, rfl⟩
    rw [← hw0] at HW0 ⊢
    clear hw0 h1 h5 hf5 C CT HT
    go_loopw [8] (fun gv wr => ∃ k : Nat, k ≤ G ∧ gv = .int .i64 k ∧ ∃ V', WinC wr b (ackL x k T V') ∧ V'.ownBlock = x.V.ownBlock ∧ Kp (· = b) w wr) (fun gv _ => G - (intOf gv).toNat)
    case atStart => exact ⟨0, by omega, rfl, x.V, HW0.out.1, rfl, HW0.out.2⟩
    case round =>
      obtain ⟨k, hk, rfl, V, hW, hV, hkp⟩ := hrel
      by_cases hlt : k < G
      · have hkl : k < x.l.length := by omega
        have hdrop : x.l.drop k = pk x.l k :: x.l.drop (k + 1) := by
          rw [List.drop_eq_getElem_cons hkl]
          have := pk_at hkl
          rw [List.getElem?_eq_getElem hkl] at this
          rw [Option.some.inj this]
        have hp := H.out.1.seqs k hkl
        have hP : At wr (pk x.l k).g (pkC (pk x.l k)) := by
          have := hW.pks 0 (by show 0 < (x.l.drop k).length; rw [List.length_drop]; omega)
          rwa [show (ackL x k T V).l = x.l.drop k from rfl, pk_drop, Nat.add_zero] at this
        have hR : Row wr V ((pk x.l k).g :: (x.l.drop (k + 1)).map Pk.g) := by
          have := hW.row
          rwa [show (ackL x k T V).l = x.l.drop k from rfl, hdrop, List.map_cons] at this
        obtain ⟨a0, c, hVe, _⟩ := hR.len
        obtain ⟨m, hm⟩ : ∃ m, m = ((pk x.l k).g :: (x.l.drop (k + 1)).map Pk.g).length := ⟨_, rfl⟩
        rw [← hm] at hVe
        subst hVe
        obtain ⟨g, o, rfl, hm2, hmc, htl⟩ := hR.tail
        obtain ⟨_, _, e0, en, hc0⟩ := hR.cell (i := 0) (by simp)
        cases e0
        clear en
        have h2 := hW.c2
        have hf2 := hW.hat.frozen 2
        have hq0 := hP.cell 0
        have hq2 := hP.cell 2
        have hsq : (pk x.l k).seq ≤ n := by have q1 := HG.out; have q2 := HLA.out; unfold goneN at q1; omega
        obtain ⟨p, hpe⟩ : ∃ p, p = pk x.l k := ⟨_, rfl⟩
        rw [← hpe] at hP hq0 hq2 hsq hR hc0
        have hm0 : 1 ≤ m := by omega
        have hkb : k ≤ 64 := by have q1 := H.out.1.len; have q2 := H.out.1.size_bd; omega
        have hpb : p.g ≠ b := by have q := (H.out.1.pkNe hkl).1; rwa [← hpe] at q
        have i1 : (p.seq : Int) ≤ n := by omega
        have HK := Lib.hid (And.intro hW (And.intro hV (And.intro hkp (And.intro hdrop (And.intro hpe (And.intro hkl (And.intro hP (And.intro hm2 (And.intro htl hm)))))))))
        simp only [ackL] at h2
        simp only [pkC, List.getElem?_cons_zero, List.getElem?_cons_succ, List.getD_cons_zero, Nat.add_zero] at hq0 hq2 hc0
        clear hW hV hkp hdrop hpe hP hR hm2 htl hp hm
        by_cases hc1 : c = 1
        · subst hc1
          have hm1 : m = 1 := by omega
          subst hm1
          have htl : Row wr (.slice (some ⟨g, o, none⟩) 0 0) ((x.l.drop (k + 1)).map Pk.g) := HK.out.2.2.2.2.2.2.2.2.1 _ (by simp)
          have HTL := Lib.hid htl
          clear htl
          go_upto_region 10 with fail
          obtain ⟨VN, hVN⟩ : ∃ VN, VN = Value.slice (some ⟨g, o, none⟩) 0 0 := ⟨_, rfl⟩
          rw [← hVN] at HTL ⊢
          obtain ⟨w9, hw9⟩ : ∃ w9, w9 = wr.setCell ⟨b, 2, none⟩ VN := ⟨_, rfl⟩
          rw [← hw9]
          have hat9 : At w9 b (winC { ackL x k T (.slice (some ⟨g, o, none⟩) 1 1) with V := VN, l := x.l.drop (k + 1) }) := by rw [hw9]; exact HK.out.1.hat.set 2 VN
          have kp9 : Kp (· = b) wr w9 := by rw [hw9]; exact (Kp.refl (· = b) wr).setCell (p := ⟨b, 2, none⟩) (fun _ => rfl) _
          have hvo : VN.ownBlock = x.V.ownBlock := by rw [hVN, ← HK.out.2.1]; rfl
          have q0 := hP9 kp9 HK.out.2.2.2.2.2.2.1 hpb
          have q2 := q0.cell 2
          have q3 := q0.cell 3
          simp only [pkC, List.getElem?_cons_zero, List.getElem?_cons_succ] at q2 q3
          have H9 := Lib.hid (And.intro hat9 (And.intro kp9 hvo))
          have c3 := hat9.cell 3
          have c4 := hat9.cell 4
          have c5 := hat9.cell 5
          have f3 := hat9.frozen 3
          have f4 := hat9.frozen 4
          simp only [winC, ackL, List.getElem?_cons_zero, List.getElem?_cons_succ] at c3 c4 c5
          clear hw9 hat9 kp9 hvo hVN h2 hf2 hq0 hq2 hc0 q0
          by_cases ht1 : p.times = 1
          · rw [ht1] at q2
            obtain ⟨me, hme⟩ : ∃ me, me = (msAck T (x.m, x.s) (x.l.take k)).1 := ⟨_, rfl⟩
            obtain ⟨sp, hsp⟩ : ∃ sp, sp = (msAck T (x.m, x.s) (x.l.take k)).2 := ⟨_, rfl⟩
            rw [← hme] at c3
            rw [← hsp] at c4
            have hMs : Ms me sp := by rw [hme, hsp]; exact H.out.2.ack hTb _
            obtain ⟨dn, hdn⟩ : ∃ dn, dn = T - p.att := ⟨_, rfl⟩
            have hab : p.att ≤ T := by have q := (HK.out.1.bd 0 (by show 0 < (x.l.drop k).length; rw [List.length_drop]; have := HK.out.2.2.2.2.2.1; omega)).1; rw [show (ackL x k T _).l = x.l.drop k from rfl, pk_drop, Nat.add_zero, ← HK.out.2.2.2.2.1] at q; exact q
            have hwr : IntKind.i64.wrap ((T : Int) - (p.att : Nat)) = (dn : Nat) := by rw [IntWalk.i64_in _ (by omega)]; omega
            have CS := (fun w' => spread_kp sp me dn hMs (by omega) w')
            have CM := (fun w' => mean_kp me (floatOfInt .f64 (dn : Nat)) w')
            have HM := Lib.hid (And.intro hme (And.intro hsp hdn))
            clear hme hsp hMs hdn hab
            go_upto_region 12 with fail
            go_quiet (fail)
            obtain ⟨D, hD⟩ : ∃ D, D = floatOfInt .f64 ((dn : Nat) : Int) := ⟨_, rfl⟩
            rw [← hD] at CS CM
            try rw [← hD]
            go_upto_region 13 with fail
            obtain ⟨SP, hSP⟩ : ∃ SP, SP = spreadF sp me D := ⟨_, rfl⟩
            rw [← hSP] at CS
            have HSP := Lib.hid hSP
            have HD := Lib.hid hD
            have CS := Lib.hid CS
            have CM := Lib.hid CM
            have H3 := Lib.hid (show (w9.drewN nq).cell? ⟨b, 3, none⟩ = some (.float .f64 me) ∧ (w9.drewN nq).cell? ⟨b, 4, none⟩ = some (.float .f64 sp) ∧ At (w9.drewN nq) b (winC { ackL x k T (.slice (some ⟨g, o, none⟩) 1 1) with V := VN, l := x.l.drop (k + 1) }) ∧ Kp (fun _ => False) w9 (w9.drewN nq) from ⟨c3, c4, H9.out.1.drewN nq, (Kp.refl _ w9).drewN nq⟩)
            clear c3 c4 c5 f3 f4 q2 q3 hwr hSP hD
            generalize w9.drewN nq = w3 at *
            refine region_L (S := fun w' => Kp (fun _ => False) w3 w') [13] rfl ?_
            have hSd : ∀ (w' : World) (n' : Nat), Kp (fun _ => False) w3 w' → Kp (fun _ => False) w3 (w'.drewN n') := fun w' n' h => h.drewN n'
            have hS0 : Kp (fun _ => False) w3 w3.drew := (Kp.refl _ w3).drew
            refine anyL_world (fun w' => Kp (fun _ => False) w3 w') hS0 ?_
            clear hS0
            intro x0 kx0
            refine anyL_takeF (i := 0) (d := 90) (v := (.pointer (some ⟨b, 0, none⟩))) rfl rfl (by kernel_rfl) (by kernel_rfl) (by kernel_rfl) (fun _ _ _ h => h) hSd (by kernel_rfl) (.inl (.inl ⟨rfl, fun w' hS => by first | rfl | go_simp⟩)) (fun _ => kx0) ?_
            try simp only [List.setIfInBounds_toArray, List.set_cons_succ, List.set_cons_zero]
            refine anyL_takeF (i := 1) (d := 91) (v := (.pointer (some ⟨b, 0, none⟩))) rfl rfl (by kernel_rfl) (by kernel_rfl) (by kernel_rfl) (fun _ _ _ h => h) hSd (by kernel_rfl) (.inl (.inl ⟨rfl, fun w' hS => by first | rfl | go_simp⟩)) (fun _ => kx0) ?_
            try simp only [List.setIfInBounds_toArray, List.set_cons_succ, List.set_cons_zero]
            refine anyL_takeF (i := 2) (d := 92) (v := (.pointer (some ⟨b, 0, none⟩))) rfl rfl (by kernel_rfl) (by kernel_rfl) (by kernel_rfl) (fun _ _ _ h => h) hSd (by kernel_rfl) (.inl (.inl ⟨rfl, fun w' hS => by first | rfl | go_simp⟩)) (fun _ => kx0) ?_
            try simp only [List.setIfInBounds_toArray, List.set_cons_succ, List.set_cons_zero]
            refine anyL_takeF (i := 3) (d := 93) (v := (.pointer (some ⟨b, 4, none⟩))) rfl rfl (by kernel_rfl) (by kernel_rfl) (by kernel_rfl) (fun _ _ _ h => h) hSd (by kernel_rfl) (.inl (.inl ⟨rfl, fun w' hS => by first | rfl | go_simp⟩)) (fun _ => kx0) ?_
            try simp only [List.setIfInBounds_toArray, List.set_cons_succ, List.set_cons_zero]
            refine anyL_takeD (i := 4) (d := 94) (v := (.float .f64 sp)) rfl rfl (by kernel_rfl) (by kernel_rfl) (by kernel_rfl) (fun _ _ _ h => h) hSd (by kernel_rfl) (.inl (.inl ⟨rfl, fun w' hS => by have h0 := hS.cell H3.out.2.1 (fun h => h); go_simp⟩)) kx0 ?_
            try simp only [List.setIfInBounds_toArray, List.set_cons_succ, List.set_cons_zero]
            refine anyL_takeF (i := 5) (d := 95) (v := (.pointer (some ⟨b, 0, none⟩))) rfl rfl (by kernel_rfl) (by kernel_rfl) (by kernel_rfl) (fun _ _ _ h => h) hSd (by kernel_rfl) (.inl (.inl ⟨rfl, fun w' hS => by first | rfl | go_simp⟩)) (fun _ => kx0) ?_
            try simp only [List.setIfInBounds_toArray, List.set_cons_succ, List.set_cons_zero]
            refine anyL_takeF (i := 6) (d := 96) (v := (.pointer (some ⟨b, 0, none⟩))) rfl rfl (by kernel_rfl) (by kernel_rfl) (by kernel_rfl) (fun _ _ _ h => h) hSd (by kernel_rfl) (.inl (.inl ⟨rfl, fun w' hS => by first | rfl | go_simp⟩)) (fun _ => kx0) ?_
            try simp only [List.setIfInBounds_toArray, List.set_cons_succ, List.set_cons_zero]
            refine anyL_takeF (i := 7) (d := 97) (v := (.pointer (some ⟨b, 3, none⟩))) rfl rfl (by kernel_rfl) (by kernel_rfl) (by kernel_rfl) (fun _ _ _ h => h) hSd (by kernel_rfl) (.inl (.inl ⟨rfl, fun w' hS => by first | rfl | go_simp⟩)) (fun _ => kx0) ?_
            try simp only [List.setIfInBounds_toArray, List.set_cons_succ, List.set_cons_zero]
            refine anyL_takeD (i := 8) (d := 98) (v := (.float .f64 me)) rfl rfl (by kernel_rfl) (by kernel_rfl) (by kernel_rfl) (fun _ _ _ h => h) hSd (by kernel_rfl) (.inl (.inl ⟨rfl, fun w' hS => by have h0 := hS.cell H3.out.1 (fun h => h); go_simp⟩)) kx0 ?_
            try simp only [List.setIfInBounds_toArray, List.set_cons_succ, List.set_cons_zero]
            refine anyL_takeF (i := 9) (d := 99) (v := (.float .f64 D)) rfl rfl (by kernel_rfl) (by kernel_rfl) (by kernel_rfl) (fun _ _ _ h => h) hSd (by kernel_rfl) (.inl (.inl ⟨rfl, fun w' hS => by first | rfl | go_simp⟩)) (fun _ => kx0) ?_
            try simp only [List.setIfInBounds_toArray, List.set_cons_succ, List.set_cons_zero]
            refine anyL_all (rs := [10]) (by kernel_rfl) (by simp) ?_
            intro n10 i hi
            simp only [List.mem_cons, List.not_mem_nil, or_false] at hi
            obtain rfl := hi
            refine wpOp_of rfl rfl ?_
            go_simp
            refine Calls.mono (CS.out (x0.drewN n10)) ?_
            rintro e x1 ⟨rfl, j⟩
            try dsimp only
            have kx1 : Kp (fun _ => False) w3 x1 := (kx0.drewN n10).trans j
            refine ⟨fun _ => kx1, ?_⟩
            try simp only [List.setIfInBounds_toArray, List.set_cons_succ, List.set_cons_zero]
            refine anyL_takeF (i := 11) (d := 101) (v := (.pointer (some ⟨b, 0, none⟩))) rfl rfl (by kernel_rfl) (by kernel_rfl) (by kernel_rfl) (fun _ _ _ h => h) hSd (by kernel_rfl) (.inl (.inl ⟨rfl, fun w' hS => by first | rfl | go_simp⟩)) (fun _ => kx1) ?_
            try simp only [List.setIfInBounds_toArray, List.set_cons_succ, List.set_cons_zero]
            refine anyL_takeF (i := 12) (d := 102) (v := (.pointer (some ⟨b, 4, none⟩))) rfl rfl (by kernel_rfl) (by kernel_rfl) (by kernel_rfl) (fun _ _ _ h => h) hSd (by kernel_rfl) (.inl (.inl ⟨rfl, fun w' hS => by first | rfl | go_simp⟩)) (fun _ => kx1) ?_
            try simp only [List.setIfInBounds_toArray, List.set_cons_succ, List.set_cons_zero]
            refine anyL_all (rs := [13]) (by kernel_rfl) (by simp) ?_
            intro n13 i hi
            simp only [List.mem_cons, List.not_mem_nil, or_false] at hi
            obtain rfl := hi
            have h4 := (kx1.drewN n13).cell H3.out.2.1 (fun h => h)
            have hat5 := (kx1.drewN n13).at H3.out.2.2.1 (fun h => h)
            have hf4 := hat5.frozen 4
            have hst := store_float (P := Try.prog) (k := .f64) (n := SP) h4 hf4
            have hat6 := hat5.set 4 (.float .f64 SP)
            have kp6 : Kp (· = b) w9 ((x1.drewN n13).setCell ⟨b, 4, none⟩ (.float .f64 SP)) := ((H3.out.2.2.2.trans (kx1.drewN n13)).mono (S' := (· = b)) (fun _ _ h => h.elim)).setCell (p := ⟨b, 4, none⟩) (fun _ => rfl) _
            refine wpOp_of rfl rfl ?_
            go_simp
            refine ⟨fun h => Bool.noConfusion (show false = true from h), anyL_done (by kernel_rfl) (fun nn => ?_) _⟩
            have hat7 := hat6.drewN nn
            have kp7 := kp6.drewN nn
            generalize (((x1.drewN n13).setCell ⟨b, 4, none⟩ (.float .f64 SP))).drewN nn = w4 at *
            simp only [winC, ackL, List.set_cons_succ, List.set_cons_zero] at hat7
            have c43 := hat7.cell 3
            simp only [List.getElem?_cons_zero, List.getElem?_cons_succ] at c43
            rw [← HM.out.1] at c43
            have H4 := Lib.hid (And.intro hat7 kp7)
            clear hat5 hat6 hat7 kp6 kp7 h4 hf4 hst kx0 kx1 j hSd
            go_wp2_with (go_at_call 25; (with_reducible refine (CM.out _).mono ?_); rintro e w5 ⟨rfl, j5⟩; have c53 := j5.cell c43 (fun h => h); have a5 := j5.at H4.out.1 (fun h => h); have f53 := a5.frozen 3; have st5 := store_float (P := Try.prog) (k := .f64) (n := meanF me D eighth) c53 f53; have H5 := Lib.hid (And.intro a5 j5); clear a5 j5)
            go_roundw
            case rel =>
              have hstep : msStep T (msAck T (x.m, x.s) (x.l.take k)) p = (meanF me D eighth, SP) := by
                unfold msStep
                rw [if_pos ht1, ← HM.out.1, ← HM.out.2.1, HSP.out]
                unfold dF
                rw [← HM.out.2.2, ← HD.out]
              have e : msAck T (x.m, x.s) (x.l.take (k + 1)) = (meanF me D eighth, SP) := by rw [take_pk HK.out.2.2.2.2.2.1, msAck_snoc, ← HK.out.2.2.2.2.1]; exact hstep
              have hatZ := H5.out.1.set 3 (.float .f64 (meanF me D eighth))
              simp only [List.set_cons_succ, List.set_cons_zero] at hatZ
              have kpZ : Kp (· = b) w9 (w5.setCell ⟨b, 3, none⟩ (.float .f64 (meanF me D eighth))) := (H4.out.2.then H5.out.2 (fun _ _ h => h.elim)).setCell (p := ⟨b, 3, none⟩) (fun _ => rfl) _
              have e2 : (x.l.drop k).drop 1 = x.l.drop (k + 1) := List.drop_drop ..
              have hpop := HK.out.1.pop (V' := VN) (m' := meanF me D eighth) (s' := SP) (w' := w5.setCell ⟨b, 3, none⟩ (.float .f64 (meanF me D eighth))) (by rw [show (ackL x k T _).l.drop 1 = x.l.drop (k + 1) from List.drop_drop ..]; exact hatZ) (H9.out.2.1.trans kpZ) (by show 0 < (x.l.drop k).length; rw [List.length_drop]; have := HK.out.2.2.2.2.2.1; omega) (by rw [H9.out.2.2, ← HK.out.2.1]; rfl) (by rw [show (ackL x k T _).l.drop 1 = x.l.drop (k + 1) from List.drop_drop ..]; exact HTL.out)
              refine ⟨k + 1, by omega, by go_num, VN, ?_, H9.out.2.2, HK.out.2.2.1.trans (H9.out.2.1.trans kpZ)⟩
              unfold ackL
              rw [e, ← e2]
              exact hpop
            case measure => simp [intOf]; omega
          · have ht2 : ((p.times : Int) == 1) = false := by rw [beq_eq_false_iff_ne]; omega
            clear c3 c4 c5 f3 f4
            go_wp2_with fail
            go_roundw
            case rel =>
              have hpop := HK.out.1.pop (V' := VN) (m' := (msAck T (x.m, x.s) (x.l.take k)).1) (s' := (msAck T (x.m, x.s) (x.l.take k)).2) (w' := w9) (by rw [show (ackL x k T _).l.drop 1 = x.l.drop (k + 1) from List.drop_drop ..]; exact H9.out.1) H9.out.2.1 (by show 0 < (x.l.drop k).length; rw [List.length_drop]; have := HK.out.2.2.2.2.2.1; omega) (by rw [H9.out.2.2, ← HK.out.2.1]; rfl) (by rw [show (ackL x k T _).l.drop 1 = x.l.drop (k + 1) from List.drop_drop ..]; exact HTL.out)
              refine ⟨k + 1, by omega, by go_num, VN, ?_, H9.out.2.2, HK.out.2.2.1.trans H9.out.2.1⟩
              have e : msAck T (x.m, x.s) (x.l.take (k + 1)) = msAck T (x.m, x.s) (x.l.take k) := by rw [take_pk HK.out.2.2.2.2.2.1, msAck_snoc, ← HK.out.2.2.2.2.1]; unfold msStep; rw [if_neg ht1]
              unfold ackL
              rw [e]
              have e2 : (x.l.drop k).drop 1 = x.l.drop (k + 1) := List.drop_drop ..
              rw [← e2]
              exact hpop
            case measure => simp [intOf]; omega
        · have hc2 : 2 ≤ c := by omega
          have htl : Row wr (.slice (some ⟨g, o + 1, none⟩) (m - 1) (c - 1)) ((x.l.drop (k + 1)).map Pk.g) := HK.out.2.2.2.2.2.2.2.2.1 _ (by simp [hc1])
          have HTL := Lib.hid htl
          clear htl hc1
          go_upto_region 10 with fail
          obtain ⟨VN, hVN⟩ : ∃ VN, VN = Value.slice (some ⟨g, o + 1, none⟩) (m - 1) (c - 1) := ⟨_, rfl⟩
          rw [← hVN] at HTL ⊢
          obtain ⟨w9, hw9⟩ : ∃ w9, w9 = wr.setCell ⟨b, 2, none⟩ VN := ⟨_, rfl⟩
          rw [← hw9]
          have hat9 : At w9 b (winC { ackL x k T (.slice (some ⟨g, o, none⟩) m c) with V := VN, l := x.l.drop (k + 1) }) := by rw [hw9]; exact HK.out.1.hat.set 2 VN
          have kp9 : Kp (· = b) wr w9 := by rw [hw9]; exact (Kp.refl (· = b) wr).setCell (p := ⟨b, 2, none⟩) (fun _ => rfl) _
          have hvo : VN.ownBlock = x.V.ownBlock := by rw [hVN, ← HK.out.2.1]; rfl
          have q0 := hP9 kp9 HK.out.2.2.2.2.2.2.1 hpb
          have q2 := q0.cell 2
          have q3 := q0.cell 3
          simp only [pkC, List.getElem?_cons_zero, List.getElem?_cons_succ] at q2 q3
          have H9 := Lib.hid (And.intro hat9 (And.intro kp9 hvo))
          have c3 := hat9.cell 3
          have c4 := hat9.cell 4
          have c5 := hat9.cell 5
          have f3 := hat9.frozen 3
          have f4 := hat9.frozen 4
          simp only [winC, ackL, List.getElem?_cons_zero, List.getElem?_cons_succ] at c3 c4 c5
          clear hw9 hat9 kp9 hvo hVN h2 hf2 hq0 hq2 hc0 q0
          by_cases ht1 : p.times = 1
          · rw [ht1] at q2
            obtain ⟨me, hme⟩ : ∃ me, me = (msAck T (x.m, x.s) (x.l.take k)).1 := ⟨_, rfl⟩
            obtain ⟨sp, hsp⟩ : ∃ sp, sp = (msAck T (x.m, x.s) (x.l.take k)).2 := ⟨_, rfl⟩
            rw [← hme] at c3
            rw [← hsp] at c4
            have hMs : Ms me sp := by rw [hme, hsp]; exact H.out.2.ack hTb _
            obtain ⟨dn, hdn⟩ : ∃ dn, dn = T - p.att := ⟨_, rfl⟩
            have hab : p.att ≤ T := by have q := (HK.out.1.bd 0 (by show 0 < (x.l.drop k).length; rw [List.length_drop]; have := HK.out.2.2.2.2.2.1; omega)).1; rw [show (ackL x k T _).l = x.l.drop k from rfl, pk_drop, Nat.add_zero, ← HK.out.2.2.2.2.1] at q; exact q
            have hwr : IntKind.i64.wrap ((T : Int) - (p.att : Nat)) = (dn : Nat) := by rw [IntWalk.i64_in _ (by omega)]; omega
            have CS := (fun w' => spread_kp sp me dn hMs (by omega) w')
            have CM := (fun w' => mean_kp me (floatOfInt .f64 (dn : Nat)) w')
            have HM := Lib.hid (And.intro hme (And.intro hsp hdn))
            clear hme hsp hMs hdn hab
            go_upto_region 12 with fail
            go_quiet (fail)
            obtain ⟨D, hD⟩ : ∃ D, D = floatOfInt .f64 ((dn : Nat) : Int) := ⟨_, rfl⟩
            rw [← hD] at CS CM
            try rw [← hD]
            go_upto_region 13 with fail
            obtain ⟨SP, hSP⟩ : ∃ SP, SP = spreadF sp me D := ⟨_, rfl⟩
            rw [← hSP] at CS
            have HSP := Lib.hid hSP
            have HD := Lib.hid hD
            have CS := Lib.hid CS
            have CM := Lib.hid CM
            have H3 := Lib.hid (show (w9.drewN nq).cell? ⟨b, 3, none⟩ = some (.float .f64 me) ∧ (w9.drewN nq).cell? ⟨b, 4, none⟩ = some (.float .f64 sp) ∧ At (w9.drewN nq) b (winC { ackL x k T (.slice (some ⟨g, o, none⟩) m c) with V := VN, l := x.l.drop (k + 1) }) ∧ Kp (fun _ => False) w9 (w9.drewN nq) from ⟨c3, c4, H9.out.1.drewN nq, (Kp.refl _ w9).drewN nq⟩)
            clear c3 c4 c5 f3 f4 q2 q3 hwr hSP hD
            generalize w9.drewN nq = w3 at *
            refine region_L (S := fun w' => Kp (fun _ => False) w3 w') [13] rfl ?_
            have hSd : ∀ (w' : World) (n' : Nat), Kp (fun _ => False) w3 w' → Kp (fun _ => False) w3 (w'.drewN n') := fun w' n' h => h.drewN n'
            have hS0 : Kp (fun _ => False) w3 w3.drew := (Kp.refl _ w3).drew
            refine anyL_world (fun w' => Kp (fun _ => False) w3 w') hS0 ?_
            clear hS0
            intro x0 kx0
            refine anyL_takeF (i := 0) (d := 90) (v := (.pointer (some ⟨b, 0, none⟩))) rfl rfl (by kernel_rfl) (by kernel_rfl) (by kernel_rfl) (fun _ _ _ h => h) hSd (by kernel_rfl) (.inl (.inl ⟨rfl, fun w' hS => by first | rfl | go_simp⟩)) (fun _ => kx0) ?_
            try simp only [List.setIfInBounds_toArray, List.set_cons_succ, List.set_cons_zero]
            refine anyL_takeF (i := 1) (d := 91) (v := (.pointer (some ⟨b, 0, none⟩))) rfl rfl (by kernel_rfl) (by kernel_rfl) (by kernel_rfl) (fun _ _ _ h => h) hSd (by kernel_rfl) (.inl (.inl ⟨rfl, fun w' hS => by first | rfl | go_simp⟩)) (fun _ => kx0) ?_
            try simp only [List.setIfInBounds_toArray, List.set_cons_succ, List.set_cons_zero]
            refine anyL_takeF (i := 2) (d := 92) (v := (.pointer (some ⟨b, 0, none⟩))) rfl rfl (by kernel_rfl) (by kernel_rfl) (by kernel_rfl) (fun _ _ _ h => h) hSd (by kernel_rfl) (.inl (.inl ⟨rfl, fun w' hS => by first | rfl | go_simp⟩)) (fun _ => kx0) ?_
            try simp only [List.setIfInBounds_toArray, List.set_cons_succ, List.set_cons_zero]
            refine anyL_takeF (i := 3) (d := 93) (v := (.pointer (some ⟨b, 4, none⟩))) rfl rfl (by kernel_rfl) (by kernel_rfl) (by kernel_rfl) (fun _ _ _ h => h) hSd (by kernel_rfl) (.inl (.inl ⟨rfl, fun w' hS => by first | rfl | go_simp⟩)) (fun _ => kx0) ?_
            try simp only [List.setIfInBounds_toArray, List.set_cons_succ, List.set_cons_zero]
            refine anyL_takeD (i := 4) (d := 94) (v := (.float .f64 sp)) rfl rfl (by kernel_rfl) (by kernel_rfl) (by kernel_rfl) (fun _ _ _ h => h) hSd (by kernel_rfl) (.inl (.inl ⟨rfl, fun w' hS => by have h0 := hS.cell H3.out.2.1 (fun h => h); go_simp⟩)) kx0 ?_
            try simp only [List.setIfInBounds_toArray, List.set_cons_succ, List.set_cons_zero]
            refine anyL_takeF (i := 5) (d := 95) (v := (.pointer (some ⟨b, 0, none⟩))) rfl rfl (by kernel_rfl) (by kernel_rfl) (by kernel_rfl) (fun _ _ _ h => h) hSd (by kernel_rfl) (.inl (.inl ⟨rfl, fun w' hS => by first | rfl | go_simp⟩)) (fun _ => kx0) ?_
            try simp only [List.setIfInBounds_toArray, List.set_cons_succ, List.set_cons_zero]
            refine anyL_takeF (i := 6) (d := 96) (v := (.pointer (some ⟨b, 0, none⟩))) rfl rfl (by kernel_rfl) (by kernel_rfl) (by kernel_rfl) (fun _ _ _ h => h) hSd (by kernel_rfl) (.inl (.inl ⟨rfl, fun w' hS => by first | rfl | go_simp⟩)) (fun _ => kx0) ?_
            try simp only [List.setIfInBounds_toArray, List.set_cons_succ, List.set_cons_zero]
            refine anyL_takeF (i := 7) (d := 97) (v := (.pointer (some ⟨b, 3, none⟩))) rfl rfl (by kernel_rfl) (by kernel_rfl) (by kernel_rfl) (fun _ _ _ h => h) hSd (by kernel_rfl) (.inl (.inl ⟨rfl, fun w' hS => by first | rfl | go_simp⟩)) (fun _ => kx0) ?_
            try simp only [List.setIfInBounds_toArray, List.set_cons_succ, List.set_cons_zero]
            refine anyL_takeD (i := 8) (d := 98) (v := (.float .f64 me)) rfl rfl (by kernel_rfl) (by kernel_rfl) (by kernel_rfl) (fun _ _ _ h => h) hSd (by kernel_rfl) (.inl (.inl ⟨rfl, fun w' hS => by have h0 := hS.cell H3.out.1 (fun h => h); go_simp⟩)) kx0 ?_
            try simp only [List.setIfInBounds_toArray, List.set_cons_succ, List.set_cons_zero]
            refine anyL_takeF (i := 9) (d := 99) (v := (.float .f64 D)) rfl rfl (by kernel_rfl) (by kernel_rfl) (by kernel_rfl) (fun _ _ _ h => h) hSd (by kernel_rfl) (.inl (.inl ⟨rfl, fun w' hS => by first | rfl | go_simp⟩)) (fun _ => kx0) ?_
            try simp only [List.setIfInBounds_toArray, List.set_cons_succ, List.set_cons_zero]
            refine anyL_all (rs := [10]) (by kernel_rfl) (by simp) ?_
            intro n10 i hi
            simp only [List.mem_cons, List.not_mem_nil, or_false] at hi
            obtain rfl := hi
            refine wpOp_of rfl rfl ?_
            go_simp
            refine Calls.mono (CS.out (x0.drewN n10)) ?_
            rintro e x1 ⟨rfl, j⟩
            try dsimp only
            have kx1 : Kp (fun _ => False) w3 x1 := (kx0.drewN n10).trans j
            refine ⟨fun _ => kx1, ?_⟩
            try simp only [List.setIfInBounds_toArray, List.set_cons_succ, List.set_cons_zero]
            refine anyL_takeF (i := 11) (d := 101) (v := (.pointer (some ⟨b, 0, none⟩))) rfl rfl (by kernel_rfl) (by kernel_rfl) (by kernel_rfl) (fun _ _ _ h => h) hSd (by kernel_rfl) (.inl (.inl ⟨rfl, fun w' hS => by first | rfl | go_simp⟩)) (fun _ => kx1) ?_
            try simp only [List.setIfInBounds_toArray, List.set_cons_succ, List.set_cons_zero]
            refine anyL_takeF (i := 12) (d := 102) (v := (.pointer (some ⟨b, 4, none⟩))) rfl rfl (by kernel_rfl) (by kernel_rfl) (by kernel_rfl) (fun _ _ _ h => h) hSd (by kernel_rfl) (.inl (.inl ⟨rfl, fun w' hS => by first | rfl | go_simp⟩)) (fun _ => kx1) ?_
            try simp only [List.setIfInBounds_toArray, List.set_cons_succ, List.set_cons_zero]
            refine anyL_all (rs := [13]) (by kernel_rfl) (by simp) ?_
            intro n13 i hi
            simp only [List.mem_cons, List.not_mem_nil, or_false] at hi
            obtain rfl := hi
            have h4 := (kx1.drewN n13).cell H3.out.2.1 (fun h => h)
            have hat5 := (kx1.drewN n13).at H3.out.2.2.1 (fun h => h)
            have hf4 := hat5.frozen 4
            have hst := store_float (P := Try.prog) (k := .f64) (n := SP) h4 hf4
            have hat6 := hat5.set 4 (.float .f64 SP)
            have kp6 : Kp (· = b) w9 ((x1.drewN n13).setCell ⟨b, 4, none⟩ (.float .f64 SP)) := ((H3.out.2.2.2.trans (kx1.drewN n13)).mono (S' := (· = b)) (fun _ _ h => h.elim)).setCell (p := ⟨b, 4, none⟩) (fun _ => rfl) _
            refine wpOp_of rfl rfl ?_
            go_simp
            refine ⟨fun h => Bool.noConfusion (show false = true from h), anyL_done (by kernel_rfl) (fun nn => ?_) _⟩
            have hat7 := hat6.drewN nn
            have kp7 := kp6.drewN nn
            generalize (((x1.drewN n13).setCell ⟨b, 4, none⟩ (.float .f64 SP))).drewN nn = w4 at *
            simp only [winC, ackL, List.set_cons_succ, List.set_cons_zero] at hat7
            have c43 := hat7.cell 3
            simp only [List.getElem?_cons_zero, List.getElem?_cons_succ] at c43
            rw [← HM.out.1] at c43
            have H4 := Lib.hid (And.intro hat7 kp7)
            clear hat5 hat6 hat7 kp6 kp7 h4 hf4 hst kx0 kx1 j hSd
            go_wp2_with (go_at_call 25; (with_reducible refine (CM.out _).mono ?_); rintro e w5 ⟨rfl, j5⟩; have c53 := j5.cell c43 (fun h => h); have a5 := j5.at H4.out.1 (fun h => h); have f53 := a5.frozen 3; have st5 := store_float (P := Try.prog) (k := .f64) (n := meanF me D eighth) c53 f53; have H5 := Lib.hid (And.intro a5 j5); clear a5 j5)
            go_roundw
            case rel =>
              have hstep : msStep T (msAck T (x.m, x.s) (x.l.take k)) p = (meanF me D eighth, SP) := by
                unfold msStep
                rw [if_pos ht1, ← HM.out.1, ← HM.out.2.1, HSP.out]
                unfold dF
                rw [← HM.out.2.2, ← HD.out]
              have e : msAck T (x.m, x.s) (x.l.take (k + 1)) = (meanF me D eighth, SP) := by rw [take_pk HK.out.2.2.2.2.2.1, msAck_snoc, ← HK.out.2.2.2.2.1]; exact hstep
              have hatZ := H5.out.1.set 3 (.float .f64 (meanF me D eighth))
              simp only [List.set_cons_succ, List.set_cons_zero] at hatZ
              have kpZ : Kp (· = b) w9 (w5.setCell ⟨b, 3, none⟩ (.float .f64 (meanF me D eighth))) := (H4.out.2.then H5.out.2 (fun _ _ h => h.elim)).setCell (p := ⟨b, 3, none⟩) (fun _ => rfl) _
              have e2 : (x.l.drop k).drop 1 = x.l.drop (k + 1) := List.drop_drop ..
              have hpop := HK.out.1.pop (V' := VN) (m' := meanF me D eighth) (s' := SP) (w' := w5.setCell ⟨b, 3, none⟩ (.float .f64 (meanF me D eighth))) (by rw [show (ackL x k T _).l.drop 1 = x.l.drop (k + 1) from List.drop_drop ..]; exact hatZ) (H9.out.2.1.trans kpZ) (by show 0 < (x.l.drop k).length; rw [List.length_drop]; have := HK.out.2.2.2.2.2.1; omega) (by rw [H9.out.2.2, ← HK.out.2.1]; rfl) (by rw [show (ackL x k T _).l.drop 1 = x.l.drop (k + 1) from List.drop_drop ..]; exact HTL.out)
              refine ⟨k + 1, by omega, by go_num, VN, ?_, H9.out.2.2, HK.out.2.2.1.trans (H9.out.2.1.trans kpZ)⟩
              unfold ackL
              rw [e, ← e2]
              exact hpop
            case measure => simp [intOf]; omega
          · have ht2 : ((p.times : Int) == 1) = false := by rw [beq_eq_false_iff_ne]; omega
            clear c3 c4 c5 f3 f4
            go_wp2_with fail
            go_roundw
            case rel =>
              have hpop := HK.out.1.pop (V' := VN) (m' := (msAck T (x.m, x.s) (x.l.take k)).1) (s' := (msAck T (x.m, x.s) (x.l.take k)).2) (w' := w9) (by rw [show (ackL x k T _).l.drop 1 = x.l.drop (k + 1) from List.drop_drop ..]; exact H9.out.1) H9.out.2.1 (by show 0 < (x.l.drop k).length; rw [List.length_drop]; have := HK.out.2.2.2.2.2.1; omega) (by rw [H9.out.2.2, ← HK.out.2.1]; rfl) (by rw [show (ackL x k T _).l.drop 1 = x.l.drop (k + 1) from List.drop_drop ..]; exact HTL.out)
              refine ⟨k + 1, by omega, by go_num, VN, ?_, H9.out.2.2, HK.out.2.2.1.trans H9.out.2.1⟩
              have e : msAck T (x.m, x.s) (x.l.take (k + 1)) = msAck T (x.m, x.s) (x.l.take k) := by rw [take_pk HK.out.2.2.2.2.2.1, msAck_snoc, ← HK.out.2.2.2.2.1]; unfold msStep; rw [if_neg ht1]
              unfold ackL
              rw [e]
              have e2 : (x.l.drop k).drop 1 = x.l.drop (k + 1) := List.drop_drop ..
              rw [← e2]
              exact hpop
            case measure => simp [intOf]; omega
      · obtain rfl : k = G := by omega
        have HZ := Lib.hid (And.intro hW (And.intro hV hkp))
        by_cases h0 : 0 < x.l.length - k
        · have hP : At wr (pk x.l k).g (pkC (pk x.l k)) := by
            have := hW.pks 0 (by show 0 < (x.l.drop k).length; rw [List.length_drop]; omega)
            rwa [show (ackL x k T V).l = x.l.drop k from rfl, pk_drop, Nat.add_zero] at this
          have hsq := H.out.1.seqs k (by omega)
          have hq0 := hP.cell 0
          obtain ⟨a0, c, hVe, hc⟩ := hW.form
          have hll : (ackL x k T V).l.length = x.l.length - k := by show (x.l.drop k).length = _; rw [List.length_drop]
          obtain ⟨_, o0, e0, en, hc0⟩ := (show Row wr (.slice a0 (ackL x k T V).l.length c) _ from hVe ▸ hW.row).cell (i := 0) (by rw [List.length_map, hll]; omega)
          rw [gs_at (by rw [hll]; omega)] at hc0
          rw [show (ackL x k T V).l = x.l.drop k from rfl, pk_drop, Nat.add_zero, Nat.add_zero] at hc0
          have h2 := hW.c2
          rw [show (ackL x k T V).V = V from rfl] at h2 hVe
          rw [hVe, hll, e0] at h2
          have hgt : ¬ (pk x.l k).seq ≤ n := by have q1 := HG.out; have q2 := HLA.out; have q3 := H.out.1.len; unfold goneN at q1; omega
          simp only [pkC, List.getElem?_cons_zero, List.getElem?_cons_succ] at hq0
          obtain ⟨p, hpe⟩ : ∃ p, p = pk x.l k := ⟨_, rfl⟩
          rw [← hpe] at hq0 hgt hc0
          obtain ⟨m, hm⟩ : ∃ m, m = x.l.length - k := ⟨_, rfl⟩
          rw [← hm] at h2 h0
          have i1 : ¬ (p.seq : Int) ≤ n := by omega
          clear hW hV hkp hP hsq hVe hll e0 en hpe hm hc hlt
          go_wp2_with fail
          go_ret2
          exact ⟨rfl, V, HZ.out.1, HZ.out.2.1, HZ.out.2.2⟩
        · obtain ⟨a0, c, hVe, hc⟩ := hW.form
          have hll : (ackL x k T V).l.length = 0 := by show (x.l.drop k).length = _; rw [List.length_drop]; omega
          have h2 := hW.c2
          rw [show (ackL x k T V).V = V from rfl] at h2 hVe
          rw [hVe, hll] at h2
          clear hW hV hkp hVe hll hc hlt h0
          go_wp2_with fail
          go_ret2
          exact ⟨rfl, V, HZ.out.1, HZ.out.2.1, HZ.out.2.2⟩
end Go.Proofs.Ytnapokdipelmiaa
