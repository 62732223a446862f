/- Chapter 15: the frames of an end that is up. (Written by wip/lne.py.) -/
import Derived.Test.YtokembhfebnjpaaGreatQLnAM
import Derived.Test.YtokembhfebnjpaaGreatQLnB
import Derived.Deep.RegionHeld3
import Derived.Deep.CutBlock
import Derived.StillTailTactics
namespace Go.Proofs.YtokembhfebnjpaaGreat
set_option maxRecDepth 20000
open Go.RowKit Flt
set_option linter.unusedVariables false
set_option linter.unusedSimpArgs false
def datF (se bo ac : Nat) (p : Tp) : Fr := ⟨3, se, bo, p.seq, ac, p.body⟩
def layL (se bo ac : Nat) (ls : List (List Int)) (l : List Tp) : List (List Int) := l.foldl (fun ls p => layP ls (datF se bo ac p)) ls
def dueL (t : Tk) (ls : List (List Int)) (l : List Tp) : List (List Int) :=
 if l.length = 0 ∧ t.owed = true then layP ls ⟨4, t.se, t.bo, 0, (t.i.n - 1 : Nat), []⟩ else layL t.se t.bo (t.i.n - 1) ls l
def dueT (t : Tk) (now : Nat) : Tk := { t with owed := false, i := { t.i with x := dueW (atW t.i.x now) } }
theorem due_no {W : World} {o I : Nat} {t : Tk} {ext : List Value} (h : TkC W o t ext I) (hst : t.st ≠ 2) (now : Int) (v : Value) (hv : ∃ a n c, v = .slice a n c) :
 Calls Tryz.prog 114 #[.pointer (some ⟨o, 0, none⟩), v, .int .i64 now] W fun e w' => e = .returned v ∧ W = w' := by
 have C := tis_any o t.st W h.c.1
 rw [decide_eq_false hst] at C
 have C := Lib.hid C
 obtain ⟨a, n, c, rfl⟩ := hv
 clear h
 go_enter Tryz.func114, Tryz.ntmps114
 go_wp2_with (go_at_call 34; refine C.out.mono ?_; rintro e w' ⟨rfl, rfl⟩)
 go_ret
 exact ⟨rfl, rfl⟩
theorem dueW_timesL {x : Wn} {i now : Nat} (h : ∀ j, j < x.l.length → (pk x.l j).times ≤ i) : ∀ j, j < (dueW (atW x now)).l.length → (pk (dueW (atW x now)).l j).times ≤ i + 1 := fun j hj => by
 have hj' : j < x.l.length := by have : (stL (atW x now) (dueI (atW x now))).length = _ := stL_len _ _; show j < (atW x now).l.length; rw [← this]; exact hj
 show (pk (stL (atW x now) (dueI (atW x now))) j).times ≤ i + 1
 rw [stL_at (x := atW x now) hj']
 have := h j hj'
 split
 · show (pk x.l j).times + 1 ≤ _; omega
 · show (pk x.l j).times ≤ _; omega
theorem TkC.due {W W' : World} {o I : Nat} {t : Tk} {ext : List Value} (h : TkC W o t ext I) (hst : t.st = 2) (now : Nat) (hw : WinC W' t.i.g (dueW (atW t.i.x now))) (k : Kp (Mine t.i.g t.i.x) W W') : TkC W' o { t with i := { t.i with x := dueW (atW t.i.x now) } } ext (I + 1) := by
 have hu := h.up hst
 have hM : ∀ j, Mine t.i.g (dueW (atW t.i.x now)) j → Mine t.i.g t.i.x j := fun j hj => (st_mine t.i.g (atW t.i.x now) _ j).1 hj
 refine { h with hat := k.at h.hat hu.oW, up := fun _ => { hu with win := hw, ms := hu.ms, wsz := hu.wsz, last := Nat.le_succ_of_le hu.last, ll := ?_, times := dueW_timesL hu.times, inb := hu.inb.kp k (fun g hg hm => hu.ap g hm hg), oW := fun hm => hu.oW (hM _ hm), ap := fun j hj => hu.ap j (hM j hj) } }
 show (stL _ _).length ≤ t.i.x.last
 rw [stL_len]; exact hu.ll
def SF (w4 : World) (fb se bo ac : Nat) (w' : World) : Prop := Kp (fun k => k = fb) w4 w' ∧ ∃ (S : Int) (x : Option Addr) (y z : Nat), At w' fb [.int .i64 3, .int .i64 (se : Nat), .int .i64 (bo : Nat), .int .i64 S, .int .i64 (ac : Nat), .slice x y z]
theorem SF.drewN {w4 w' : World} {fb se bo ac : Nat} (h : SF w4 fb se bo ac w') (n : Nat) : SF w4 fb se bo ac (w'.drewN n) := by
 obtain ⟨k, S, x, y, z, a⟩ := h
 exact ⟨k.drewN n, S, x, y, z, a.drewN n⟩
theorem LLs.notFr {B : Nat} {w : World} {v : Value} {ls : List (List Int)} {vs : List Value} {fb : Nat} {cs : List Value} (h : LLs B w v ls vs) (hf : At w fb (.int .i64 3 :: cs)) (hg : v.ownBlock = some fb) : False := by
 obtain ⟨ds, hd, hp⟩ := h.blk fb hg
 have e := hf.inj hd
 obtain ⟨a, n, c, e2⟩ := hp (.int .i64 3) (by rw [← e]; simp)
 cases e2
theorem dueI_ltL {x : Wn} {q : Nat} {k : Nat} (h : (dueI x)[q]? = some k) : k < x.l.length := by
 have := List.mem_of_getElem? h
 unfold dueI at this
 rw [List.mem_filter, List.mem_range] at this
 exact this.1
theorem layP_len (ls : List (List Int)) (f : Fr) : (layP ls f).length ≤ ls.length + 1 := by unfold layP; split <;> simp
theorem layL_len (se bo ac : Nat) : ∀ (ls : List (List Int)) (l : List Tp), (layL se bo ac ls l).length ≤ ls.length + l.length
 | ls, [] => Nat.le_refl _
 | ls, p :: r => by
  have h1 := layL_len se bo ac (layP ls (datF se bo ac p)) r
  have h2 := layP_len ls (datF se bo ac p)
  have e : layL se bo ac ls (p :: r) = layL se bo ac (layP ls (datF se bo ac p)) r := rfl
  rw [e, List.length_cons]; omega
set_option maxHeartbeats 2000000 in
theorem due_yes {W : World} {o I : Nat} {t : Tk} {ext : List Value} (h : TkC W o t ext I) (hst : t.st = 2) (hI : I ≤ 1000000) (now : Nat) (ht : now ≤ 2147483647) {B : Nat} {v : Value} {ls : List (List Int)} {vs : List Value} (hl : LLs B W v ls vs) (hB : ∀ k, Me o t k → k < B) (hBW : B ≤ W.heap.size) (hn : ls.length ≤ 1000) :
 Calls Tryz.prog 114 #[.pointer (some ⟨o, 0, none⟩), v, .int .i64 now] W fun e w' => ∃ v' vs' l8, e = .returned v' ∧ TelL (atW t.i.x now) (dueI (atW t.i.x now)) l8 ∧ LLs B w' v' (dueL t ls l8) vs' ∧ TkC w' o (dueT t now) ext (I + 1) ∧ Kp (fun k => Me o t k ∨ B ≤ k) W w' := by
 have C := tis_any o t.st W h.c.1
 rw [decide_eq_true hst] at C
 have C := Lib.hid C
 have hu := h.up hst
 have c1 := h.c.2.1
 have c2 := h.c.2.2.1
 have c5 : W.cell? ⟨o, 5, none⟩ = some (.pointer (some ⟨t.i.b, 0, none⟩)) := by rw [h.c.2.2.2.2.2.1, hu.xv]
 have hni := hu.inb.1.elim fun c hc => hc.n_bd
 have CN := Lib.hid (fun w' (k : Kp (fun _ => False) W w') => (hu.inb.kp k (fun _ _ h => h)).1.elim fun c hc => hc.next)
 obtain ⟨va, vc, hv, _⟩ := hl.form
 generalize hnl : ls.length = nl at *
 subst hv
 have H := Lib.hid (And.intro h (And.intro hst (And.intro hl (And.intro hB hnl))))
 obtain ⟨b, hb⟩ : ∃ b, b = t.i.b := ⟨_, rfl⟩
 obtain ⟨n, hnn⟩ : ∃ n, n = t.i.n := ⟨_, rfl⟩
 rw [← hb] at c5
 rw [← hnn] at hni
 have CN := CN.out
 simp only [← hb, ← hnn] at CN
 have CN := Lib.hid CN
 obtain ⟨se, hse⟩ : ∃ x, x = t.se := ⟨_, rfl⟩
 obtain ⟨bo, hbo⟩ : ∃ x, x = t.bo := ⟨_, rfl⟩
 rw [← hse] at c1
 rw [← hbo] at c2
 obtain ⟨ac, hac⟩ : ∃ ac, ac = n - 1 := ⟨_, rfl⟩
 have hac2 : (n : Int) - 1 = (ac : Int) := by omega
 have hacb : ac ≤ 2147483646 := by omega
 have hwA : IntKind.i64.wrap (ac : Int) = (ac : Int) := IntWalk.i64_in _ (by omega)
 have HN := Lib.hid (And.intro hb (And.intro hnn (And.intro hac (And.intro hse hbo))))
 clear h hu hst hl hB hnl hb hnn hac hse hbo
 go_enter Tryz.func114, Tryz.ntmps114
 go_wp2_with (go_at_call 34; refine C.out.mono ?_; rintro e w' ⟨rfl, rfl⟩)
 clear C
 have K0 : Kp (fun _ => False) W W.drew := (Kp.refl _ W).drew
 go_upto_region 3 with fail
 go_cut [7] (fun sv wx => ∃ fb, sv = .pointer (some ⟨fb, 0, none⟩) ∧ At wx fb [.int .i64 3, .int .i64 (se : Nat), .int .i64 (bo : Nat), .int .i64 0, .int .i64 (ac : Nat), .slice none 0 0] ∧ W.heap.size ≤ fb ∧ Kp (fun _ => False) W wx)
 case first =>
  go_region_held3 (fun w' => Kp (fun _ => False) W w' ∧ w'.cell? ⟨o, 1, none⟩ = some (.int .i64 (se : Nat)) ∧ w'.cell? ⟨o, 2, none⟩ = some (.int .i64 (bo : Nat)) ∧ w'.cell? ⟨o, 5, none⟩ = some (.pointer (some ⟨b, 0, none⟩))) (first | assumption | exact ⟨K0, c1, c2, c5⟩ | exact ⟨((Kp.refl _ W).alloc _).drew, ((Kp.refl (fun _ => False) W).alloc _).cell c1 (fun h => h), ((Kp.refl (fun _ => False) W).alloc _).cell c2 (fun h => h), ((Kp.refl (fun _ => False) W).alloc _).cell c5 (fun h => h)⟩) (first | (go_at_call 46; refine (CN.out _ (by first | assumption | exact K0 | exact ((Kp.refl _ W).alloc _).drew)).mono ?_; rintro e w' ⟨rfl, rfl⟩))
  all_goals go_wp2_with fail
  all_goals go_meet
  all_goals exact ⟨W.heap.size, rfl, (At.new W _ _).drew, Nat.le_refl _, ((Kp.refl _ W).alloc _).drew⟩
 case rest =>
  obtain ⟨fb, rfl, hfb, hfl, k2⟩ := hcut
  obtain ⟨w2, hw2⟩ : ∃ w2, w2 = wc := ⟨_, rfl⟩
  rw [← hw2] at hfb k2 ⊢
  have ht2 := H.out.1.kp0 k2
  have hu2 := ht2.up H.out.2.1
  have hfs := hfb.lt
  have c4 : w2.cell? ⟨o, 4, none⟩ = some (.pointer (some ⟨t.i.g, 0, none⟩)) := by rw [ht2.c.2.2.2.2.1, hu2.wv]
  have CD := Lib.hid (due_ok hu2.win now ht (fun j hj => by have := hu2.times j hj; omega))
  have H2 := Lib.hid (And.intro ht2 (And.intro hfb k2))
  obtain ⟨N, hN⟩ : ∃ N, N = w2.heap.size := ⟨_, rfl⟩
  rw [← hN] at hfs
  have hWN : W.heap.size ≤ N := by rw [hN]; exact k2.size
  have HNN := Lib.hid hN
  clear hw2 hfb k2 ht2 hu2 K0 c1 c2 c5 CN hN
  go_wp2_with fail
  go_at_call 121
  refine CD.out.mono ?_
  rintro e w3 ⟨v8, l8, rfl, ho8, ht8, hw8, k3⟩
  rw [← HNN.out] at ho8
  obtain ⟨a8, c8, hv8, _⟩ := ho8.form
  obtain ⟨K, hK⟩ : ∃ K, K = l8.length := ⟨_, rfl⟩
  rw [← hK] at hv8
  subst hv8
  have ht3 := H2.out.1.due H.out.2.1 now hw8 k3
  have hgN : ∀ k, Mine t.i.g t.i.x k → k < W.heap.size := fun k hk => (H.out.1.up H.out.2.1).win.lt hk
  have hfb3 := k3.at H2.out.2.1 (fun hm => by have := hgN _ hm; omega)
  have hll3 := (H.out.2.2.1.kp0 H2.out.2.2).kp k3 (fun g hg hm => by have h1 := H.out.2.2.1.ge g hg; have h2 := H.out.2.2.2.1 g (.inr ⟨H.out.2.1, .inl hm⟩); omega) (fun i g hi hg hm => by have h1 := H.out.2.2.1.geE i g hi hg; have h2 := H.out.2.2.2.1 g (.inr ⟨H.out.2.1, .inl hm⟩); omega)
  have hN3 : N ≤ w3.heap.size := by rw [HNN.out]; exact k3.size
  have hK64 : K ≤ 64 := by
   have h1 := ht8.1
   have h2 := (H.out.1.up H.out.2.1).win.len
   have h3 := (H.out.1.up H.out.2.1).win.size_bd
   have h4 : (dueI (atW t.i.x now)).length ≤ t.i.x.l.length := by
    have := List.length_filter_le (fun i => dueB (pk (atW t.i.x now).l i) (atW t.i.x now).now) (List.range t.i.x.l.length)
    rw [List.length_range] at this
    exact this
   omega
  have hme : ∀ k, Me o { t with i := { t.i with x := dueW (atW t.i.x now) } } k → k < B := fun k hk => H.out.2.2.2.1 k (by
   rcases hk with hk | ⟨e, hk | hk⟩
   · exact .inl hk
   · exact .inr ⟨e, .inl ((st_mine t.i.g (atW t.i.x now) _ k).1 hk)⟩
   · exact .inr ⟨e, .inr hk⟩)
  have hvN : ∀ g, (Value.slice va nl vc).ownBlock = some g → g < N := fun g hg => by have := H.out.2.2.1.own.lt g hg; omega
  have H3 := Lib.hid (And.intro ho8 (And.intro ht8 (And.intro ht3 (And.intro hfb3 (And.intro hll3 (And.intro hK (And.intro k3 (And.intro hme hvN))))))))
  clear ho8 ht8 hw8 ht3 hfb3 hll3 hK k3 hgN CD c4 hme hvN
  go_wp2_with fail
  go_loopw [1, 38] (fun ov iv wr => ∃ (i : Nat) (vs' : List Value) (S : Int) (Bv : Value), i ≤ K ∧ iv = .int .i64 i ∧ LLs B wr ov (layL se bo ac ls (l8.take i)) vs' ∧ (∀ g, ov.ownBlock = some g → g < N ∨ w3.heap.size ≤ g) ∧ At wr fb [.int .i64 3, .int .i64 (se : Nat), .int .i64 (bo : Nat), .int .i64 S, .int .i64 (ac : Nat), Bv] ∧ (∃ x y z, Bv = .slice x y z) ∧ Kp (fun k => B ≤ k ∧ k < N) w3 wr) (fun _ iv _ => K - (intOf iv).toNat)
  case atStart => exact ⟨0, vs, 0, .slice none 0 0, by omega, rfl, H3.out.2.2.2.2.1, fun g hg => .inl (H3.out.2.2.2.2.2.2.2.2 g hg), H3.out.2.2.2.1, ⟨_, _, _, rfl⟩, Kp.refl _ _⟩
  case round =>
   obtain ⟨i, vs', S, Bv, hi, rfl, hll, hob, hfr, ⟨bx0, by0, bz0, rfl⟩, hk⟩ := hrel
   have hoT : OwnT N wr (.slice a8 K c8) l8 := H3.out.1.kp hk (fun g hg e => by have := H3.out.1.lo g hg; omega) (fun j g hj hg e => by have := H3.out.1.loB j g hj hg; omega)
   obtain ⟨oa, oc, hov, _⟩ := hll.form
   obtain ⟨ol, hol⟩ : ∃ ol, ol = (layL se bo ac ls (l8.take i)).length := ⟨_, rfl⟩
   rw [← hol] at hov
   subst hov
   by_cases hlt : i < K
   · have j1 : (i : Int) < K := by omega
     have hil : i < l8.length := by rw [← H3.out.2.2.2.2.2.1]; exact hlt
     obtain ⟨g8, e8, hg8, d0, d1⟩ := hoT.at' hil
     have hob8 := hoT.each i hil
     obtain ⟨aB, cB, eB, hrB, hcB⟩ := hob8.form
     subst e8
     have hsq := hoT
     obtain ⟨T8, hT8⟩ : ∃ T, T = tp l8 i := ⟨_, rfl⟩
     rw [← hT8] at d0 d1 eB hrB hcB
     obtain ⟨sq, B8, bd⟩ := T8
     dsimp only at d0 d1 eB hrB hcB
     obtain ⟨nb, hnb⟩ : ∃ nb, nb = bd.length := ⟨_, rfl⟩
     rw [← hnb] at eB hcB
     subst eB
     have HT8 := Lib.hid (And.intro hT8 hnb)
     have HR := Lib.hid (And.intro hll (And.intro hob (And.intro hfr (And.intro hk (And.intro hoT (And.intro hrB hol))))))
     clear hT8 hnb hll hob hfr hk hoT hrB hol hsq hob8
     go_upto_region 8 with fail
     obtain ⟨w4, hw4⟩ : ∃ w4, w4 = wr.alloc (.cells #[.int .i64 (sq : Nat), .slice aB nb cB] 90) := ⟨_, rfl⟩
     obtain ⟨pb, hpb⟩ : ∃ pb, pb = wr.heap.size := ⟨_, rfl⟩
     rw [← hw4, ← hpb]
     have k4 : Kp (fun _ => False) wr w4 := by rw [hw4]; exact (Kp.refl _ wr).alloc _
     have hp4 : At w4 pb [.int .i64 (sq : Nat), .slice aB nb cB] := by rw [hw4, hpb]; exact At.new wr _ _
     have hf4 := k4.at HR.out.2.2.1 (fun h => h)
     have p0 : w4.cell? ⟨pb, 0, none⟩ = some (.int .i64 (sq : Nat)) := hp4.cell 0
     have p1 : w4.cell? ⟨pb, 1, none⟩ = some (.slice aB nb cB) := hp4.cell 1
     have q3 : w4.cell? ⟨fb, 3, none⟩ = some (.int .i64 S) := hf4.cell 3
     have q5 : w4.cell? ⟨fb, 5, none⟩ = some (.slice bx0 by0 bz0) := hf4.cell 5
     have z3 := hf4.frozen 3
     have z5 := hf4.frozen 5
     have hpf : ¬ pb = fb := fun e => by have h1 := HR.out.2.2.1.lt; rw [← e, hpb] at h1; exact Nat.lt_irrefl _ h1
     have H4 := Lib.hid (And.intro k4 (And.intro hf4 hp4))
     clear hw4 hpb k4 hp4 hf4 d0 d1
     refine region_L (S := fun w' => SF w4 fb se bo ac w') [] rfl ?_
     have hSd : ∀ (w' : World) (n' : Nat), SF w4 fb se bo ac w' → SF w4 fb se bo ac (w'.drewN n') := fun w' n' h => h.drewN n'
     have hS0 : SF w4 fb se bo ac w4.drew := ⟨(Kp.refl _ w4).drew, _, _, _, _, H4.out.2.1.drew⟩
     refine anyL_world (fun w' => SF w4 fb se bo ac w') hS0 ?_
     clear hS0
     intro z0 kz0
     refine tF 0 42 (.pointer (some ⟨pb, 0, none⟩)) rfl rfl hSd (fun _ => kz0) ?_
     try simp only [sC]
     refine tD 1 43 (.int .i64 (sq : Nat)) rfl rfl hSd (.inl (.inl ⟨rfl, fun w' hS => by have h := hS.1.cell p0 hpf; go_simp⟩)) kz0 ?_
     try simp only [sC]
     refine tF 2 44 (.pointer (some ⟨pb, 1, none⟩)) rfl rfl hSd (fun _ => kz0) ?_
     try simp only [sC]
     refine tD 3 45 (.slice aB nb cB) rfl rfl hSd (.inl (.inl ⟨rfl, fun w' hS => by have h := hS.1.cell p1 hpf; go_simp⟩)) kz0 ?_
     try simp only [sC]
     refine tF 4 46 (.pointer (some ⟨fb, 3, none⟩)) rfl rfl hSd (fun _ => kz0) ?_
     try simp only [sC]
     refine tA 5 ?_
     intro n11
     obtain ⟨kk5, S5, x5, y5, v5, a5⟩ := kz0.drewN n11
     have s3 : (z0.drewN n11).cell? ⟨fb, 3, none⟩ = some (.int .i64 S5) := a5.cell 3
     have e3 := a5.frozen 3
     refine wpOp_of rfl rfl ?_
     go_simp
     have a6 := a5.set 3 (.int .i64 (sq : Nat))
     have k6 : Kp (fun k => k = fb) w4 ((z0.drewN n11).setCell ⟨fb, 3, none⟩ (.int .i64 (sq : Nat))) := Kp.setCell (S := fun k => k = fb) kk5 (p := ⟨fb, 3, none⟩) (fun _ => rfl) _
     generalize (z0.drewN n11).setCell ⟨fb, 3, none⟩ (.int .i64 (sq : Nat)) = w6 at *
     try dsimp only
     refine ⟨fun _ => ⟨k6, _, _, _, _, a6⟩, ?_⟩
     try simp only [sC]
     refine tF 6 47 (.pointer (some ⟨fb, 5, none⟩)) rfl rfl hSd (fun _ => ⟨k6, _, _, _, _, a6⟩) ?_
     try simp only [sC]
     refine tA 7 ?_
     intro n12
     have a7 := a6.drewN n12
     have s5 : (w6.drewN n12).cell? ⟨fb, 5, none⟩ = some (.slice x5 y5 v5) := a7.cell 5
     have e5 := a7.frozen 5
     refine wpOp_of rfl rfl ?_
     go_simp
     have a8 := a7.set 5 (.slice aB nb cB)
     have k8 : Kp (fun k => k = fb) w4 ((w6.drewN n12).setCell ⟨fb, 5, none⟩ (.slice aB nb cB)) := Kp.setCell (S := fun k => k = fb) (k6.drewN n12) (p := ⟨fb, 5, none⟩) (fun _ => rfl) _
     generalize (w6.drewN n12).setCell ⟨fb, 5, none⟩ (.slice aB nb cB) = w8 at *
     try dsimp only
     refine ⟨fun _ => ⟨k8, _, _, _, _, a8⟩, ?_⟩
     try simp only [sC]
     refine anyL_done (by kernel_rfl) (fun nn => ?_) _
     have a9 := a8.drewN nn
     have k9 := k8.drewN nn
     generalize w8.drewN nn = w9 at *
     clear a8 k8 a7 s5 e5 a6 k6 a5 s3 e3 kk5 kz0 hSd
     clear p0 p1 q3 q5 z3 z5
     go_upto_region 9 with fail
     have a9 : At w9 fb [.int .i64 3, .int .i64 (se : Nat), .int .i64 (bo : Nat), .int .i64 (sq : Nat), .int .i64 (ac : Nat), .slice aB nb cB] := a9
     have f0 : w9.cell? ⟨fb, 0, none⟩ = some (.int .i64 3) := a9.cell 0
     have f1 : w9.cell? ⟨fb, 1, none⟩ = some (.int .i64 (se : Nat)) := a9.cell 1
     have f2 : w9.cell? ⟨fb, 2, none⟩ = some (.int .i64 (bo : Nat)) := a9.cell 2
     have f3 : w9.cell? ⟨fb, 3, none⟩ = some (.int .i64 (sq : Nat)) := a9.cell 3
     have f4 : w9.cell? ⟨fb, 4, none⟩ = some (.int .i64 (ac : Nat)) := a9.cell 4
     have f5 : w9.cell? ⟨fb, 5, none⟩ = some (.slice aB nb cB) := a9.cell 5
     have kr9 : Kp (fun k => k = fb) wr w9 := (H4.out.1.mono (fun _ _ h => h.elim)).trans k9
     have hfbN : fb < N := hfs
     have hfr := HR.out.2.2.1
     have hll9 := HR.out.1.kp kr9 (fun g hg e => by
      have e : g = fb := e
      subst e
      exact LLs.notFr HR.out.1 hfr hg) (fun j g hj hg e => by
      have e : g = fb := e
      subst e
      exact (HR.out.1.each j hj).notC hfr (u := .int .i64 3) (by simp) (not_isB_i64 _) hg)
     have hnF : ∀ g, (Value.slice oa ol oc).ownBlock = some g → ¬ g = fb := fun g hg e => by
      subst e
      exact LLs.notFr HR.out.1 hfr hg
     have hoT9 : OwnT N w9 (.slice (some ⟨g8, 0, none⟩) K c8) l8 := HR.out.2.2.2.2.1.kp kr9 (fun g hg e => by have := HR.out.2.2.2.2.1.lo g hg; have e : g = fb := e; omega) (fun j g hj hg e => by have := HR.out.2.2.2.2.1.loB j g hj hg; have e : g = fb := e; omega)
     have hrB9 : RdB w9 aB bd := by
      obtain ⟨a', c', e', h', _⟩ := (hoT9.each i hil).form
      rw [← HT8.out.1] at e' h'
      dsimp only at e' h'
      cases e'
      exact h'
     have hsqb : sq ≤ I + 100 := by
      have hs := H3.out.2.1
      obtain ⟨kk, hkk⟩ : ∃ kk, (dueI (atW t.i.x now))[i]? = some kk := ⟨_, List.getElem?_eq_getElem (by have := hs.1; omega)⟩
      have h1 := (hs.2 i kk hkk).1
      rw [← HT8.out.1] at h1
      have h1 : sq = (pk t.i.x.l kk).seq := h1
      have h2 := dueI_ltL hkk
      have h3 := (H.out.1.up H.out.2.1).win.seqs kk h2
      have h4 := (H.out.1.up H.out.2.1).last
      have h5 : kk < t.i.x.l.length := h2
      omega
     have hlay := layL_len se bo ac ls (l8.take i)
     rw [List.length_take] at hlay
     have hs3 := HR.out.2.2.2.1.size
     have hs9 := kr9.size
     have CL := lay_any hll9 ⟨3, se, bo, sq, ac, bd⟩ aB cB ⟨by show (-9223372036854775808 ≤ (se : Int)) ∧ ((se : Int) ≤ 9223372036854775807); have := H.out.1.se; have := HN.out.2.2.2.1; omega, by show (-9223372036854775808 ≤ (bo : Int)) ∧ ((bo : Int) ≤ 9223372036854775807); have := H.out.1.bo; have := HN.out.2.2.2.2; omega, by show (-9223372036854775808 ≤ (sq : Int)) ∧ ((sq : Int) ≤ 9223372036854775807); omega, by show (-9223372036854775808 ≤ (ac : Int)) ∧ ((ac : Int) ≤ 9223372036854775807); omega⟩ hrB9 (by show bd.length ≤ cB; rw [← HT8.out.2]; exact hcB) (by omega) (by have := H.out.2.2.2.2; omega) hrB9.len
     dsimp only [frA] at CL
     rw [← HT8.out.2] at CL
     have CL := Lib.hid CL
     have H9 := Lib.hid (And.intro hll9 (And.intro hnF (And.intro hoT9 (And.intro kr9 (And.intro a9 hfbN)))))
     clear hfr hll9 hnF hoT9 hrB9 hsqb hlay hs3 hs9 kr9 a9 k9 hcB
     go_wp2_with fail
     go_at_call 113
     refine CL.out.mono ?_
     rintro e w10 ⟨v10, vs10, rfl, hll10, hob10, k10⟩
     have hnF10 : ∀ g, (Value.slice oa ol oc).ownBlock = some g → B ≤ g ∧ (g < N ∨ w3.heap.size ≤ g) := fun g hg => ⟨H9.out.1.ge g hg, HR.out.2.1 g hg⟩
     obtain ⟨a10, c10, e10, _⟩ := hll10.form
     obtain ⟨n10, hn10⟩ : ∃ n, n = (layP (layL se bo ac ls (l8.take i)) ⟨3, se, bo, sq, ac, bd⟩).length := ⟨_, rfl⟩
     rw [← hn10] at e10
     subst e10
     have H10 := Lib.hid (And.intro hll10 (And.intro hob10 (And.intro k10 hnF10)))
     clear hn10 hll10 hob10 k10 hnF10 CL f0 f1 f2 f3 f4 f5
     go_wp2_with fail
     go_roundw
     case rel =>
      have k3r := HR.out.2.2.2.1
      have h39 := k3r.size
      have h99 := H9.out.2.2.2.1.size
      refine ⟨i + 1, vs10, sq, .slice aB nb cB, by omega, by go_num, ?_, fun g hg => ?_, H10.out.2.2.1.at H9.out.2.2.2.2.1 (fun e => H9.out.2.1 _ e rfl), ⟨_, _, _, rfl⟩, ?_⟩
      · have e : layL se bo ac ls (l8.take (i + 1)) = layP (layL se bo ac ls (l8.take i)) ⟨3, se, bo, sq, ac, bd⟩ := by
         rw [take_snoc l8 default i hil]
         unfold layL
         rw [List.foldl_append]
         have e2 : l8.getD i default = ⟨sq, .slice aB nb cB, bd⟩ := HT8.out.1.symm
         rw [e2]; rfl
        rw [e]; exact H10.out.1
      · rcases H10.out.2.1 g hg with e | e
        · exact (H10.out.2.2.2 g e).2
        · right; omega
      · refine ((k3r.then H9.out.2.2.2.1 (fun k _ e => ?_)).then H10.out.2.2.1 (fun k hk3 e => ?_))
        · have e : k = fb := e
          omega
        · have := H10.out.2.2.2 k e
          omega
     case measure => simp [intOf]; omega
   · obtain rfl : i = K := by omega
     have htk : l8.take i = l8 := by rw [H3.out.2.2.2.2.2.1, List.take_length]
     have hk : Kp (fun k => B ≤ k ∧ k < N) w3 wr := hk
     have htr : TkC wr o { t with i := { t.i with x := dueW (atW t.i.x now) } } ext (I + 1) := H3.out.2.2.1.kp hk (fun k hm e => by have := H3.out.2.2.2.2.2.2.2.1 k hm; omega)
     have c6 : wr.cell? ⟨o, 6, none⟩ = some (.bool t.owed) := htr.c.2.2.2.2.2.2
     have g6 := htr.hat.frozen 6
     have r1 : wr.cell? ⟨o, 1, none⟩ = some (.int .i64 (se : Nat)) := by rw [HN.out.2.2.2.1]; exact htr.c.2.1
     have r2 : wr.cell? ⟨o, 2, none⟩ = some (.int .i64 (bo : Nat)) := by rw [HN.out.2.2.2.2]; exact htr.c.2.2.1
     have r4 : wr.cell? ⟨fb, 4, none⟩ = some (.int .i64 (ac : Nat)) := hfr.cell 4
     have kWr : Kp (fun k => Me o t k ∨ B ≤ k) W wr := ((H2.out.2.2.mono (fun _ _ h => h.elim)).trans (H3.out.2.2.2.2.2.2.1.mono (fun k _ e => .inl (.inr ⟨H.out.2.1, .inl e⟩)))).then hk (fun k _ e => .inr e.1)
     have hll2 := hll
     have HE := Lib.hid (And.intro htr (And.intro kWr (And.intro hll htk)))
     have hrs := hk.size
     clear hol hll hob hfr hk hoT htr kWr hll2
     have hfin : ¬ (l8.length = 0 ∧ t.owed = true) → dueL t ls l8 = layL se bo ac ls (l8.take i) := fun hno => by
      unfold dueL
      rw [if_neg hno, HE.out.2.2.2, HN.out.2.2.1, HN.out.2.1, HN.out.2.2.2.1, HN.out.2.2.2.2]
     by_cases h0 : i = 0
     · subst h0
       cases how : t.owed
       · rw [how] at c6
         have hdl := hfin (by rw [how]; simp)
         have hdl := Lib.hid hdl
         clear how hfin r1 r2 r4
         go_wp2_with fail
         go_ret
         refine ⟨.slice oa ol oc, rfl, vs', l8, H3.out.2.1, ?_, HE.out.1.owe false, ?_⟩
         · rw [hdl.out]
           exact HE.out.2.2.1.kpB (Kp.setCell (S := fun k => k = o) (Kp.refl _ wr) (p := ⟨o, 6, none⟩) (fun _ => rfl) _) (fun k e => by have e : k = o := e; have := H.out.2.2.2.1 o (.inl rfl); omega)
         · exact Kp.setCell (S := fun k => Me o t k ∨ B ≤ k) HE.out.2.1 (p := ⟨o, 6, none⟩) (fun _ => .inl (.inl rfl)) _
       · rw [how] at c6
         have hl0 : l8.length = 0 := H3.out.2.2.2.2.2.1.symm
         have hdl : dueL t ls l8 = layP (layL se bo ac ls (l8.take 0)) ⟨4, se, bo, 0, ac, []⟩ := by
          unfold dueL
          rw [if_pos ⟨hl0, how⟩, HN.out.2.2.1, HN.out.2.1, HN.out.2.2.2.1, HN.out.2.2.2.2]
          rfl
         have HDL := Lib.hid hdl
         have CL := fun w' (k : Kp (fun _ => False) wr w') => lay_any (HE.out.2.2.1.kp0 k) ⟨4, se, bo, 0, ac, []⟩ none 0 ⟨by show (-9223372036854775808 ≤ (se : Int)) ∧ ((se : Int) ≤ 9223372036854775807); have := H.out.1.se; have := HN.out.2.2.2.1; omega, by show (-9223372036854775808 ≤ (bo : Int)) ∧ ((bo : Int) ≤ 9223372036854775807); have := H.out.1.bo; have := HN.out.2.2.2.2; omega, by show (-9223372036854775808 ≤ (0 : Int)) ∧ ((0 : Int) ≤ 9223372036854775807); omega, by show (-9223372036854775808 ≤ (ac : Int)) ∧ ((ac : Int) ≤ 9223372036854775807); omega⟩ (RdB.nil w' none) (Nat.le_refl 0) (by have := k.size; omega) (by have h1 := layL_len se bo ac ls (l8.take 0); rw [List.length_take] at h1; have := H.out.2.2.2.2; omega) (by show 0 ≤ _; omega)
         have CL := Lib.hid CL
         have CL := CL.out
         dsimp only [frA, List.length_nil] at CL
         have CL := Lib.hid CL
         clear how hfin hdl hl0
         go_upto_region 12 with fail
         refine region_L (S := fun w' => Kp (fun _ => False) wr w') [11] rfl ?_
         have hSd : ∀ (w' : World) (n' : Nat), Kp (fun _ => False) wr w' → Kp (fun _ => False) wr (w'.drewN n') := fun w' n' h => h.drewN n'
         have hS0 : Kp (fun _ => False) wr wr.drew := (Kp.refl _ wr).drew
         refine anyL_world (fun w' => Kp (fun _ => False) wr w') hS0 ?_
         clear hS0
         intro z0 kz0
         refine tF 0 61 (.slice oa ol oc) rfl rfl hSd (fun _ => kz0) ?_
         try simp only [sC]
         refine tF 1 62 (.pointer (some ⟨o, 0, none⟩)) rfl rfl hSd (fun _ => kz0) ?_
         try simp only [sC]
         refine tF 2 63 (.pointer (some ⟨o, 0, none⟩)) rfl rfl hSd (fun _ => kz0) ?_
         try simp only [sC]
         refine tF 3 64 (.pointer (some ⟨o, 1, none⟩)) rfl rfl hSd (fun _ => kz0) ?_
         try simp only [sC]
         refine tD 4 65 (.int .i64 (se : Nat)) rfl rfl hSd (.inl (.inl ⟨rfl, fun w' hS => by have h := hS.cell r1 (fun h => h); go_simp⟩)) kz0 ?_
         try simp only [sC]
         refine tF 5 66 (.pointer (some ⟨o, 0, none⟩)) rfl rfl hSd (fun _ => kz0) ?_
         try simp only [sC]
         refine tF 6 67 (.pointer (some ⟨o, 0, none⟩)) rfl rfl hSd (fun _ => kz0) ?_
         try simp only [sC]
         refine tF 7 68 (.pointer (some ⟨o, 2, none⟩)) rfl rfl hSd (fun _ => kz0) ?_
         try simp only [sC]
         refine tD 8 69 (.int .i64 (bo : Nat)) rfl rfl hSd (.inl (.inl ⟨rfl, fun w' hS => by have h := hS.cell r2 (fun h => h); go_simp⟩)) kz0 ?_
         try simp only [sC]
         refine tF 9 70 (.pointer (some ⟨fb, 4, none⟩)) rfl rfl hSd (fun _ => kz0) ?_
         try simp only [sC]
         refine tD 10 71 (.int .i64 (ac : Nat)) rfl rfl hSd (.inl (.inl ⟨rfl, fun w' hS => by have h := hS.cell r4 (fun h => h); go_simp⟩)) kz0 ?_
         try simp only [sC]
         refine tA 11 ?_
         intro n10
         refine wpOp_of rfl rfl ?_
         go_simp
         try dsimp only
         try refine ⟨fun h => Bool.noConfusion (show false = true from h), ?_⟩
         try simp only [sC]
         refine tA 12 ?_
         intro n11
         have kzz := (kz0.drewN n10).drewN n11
         generalize (z0.drewN n10).drewN n11 = zz at *
         refine wpOp_of rfl rfl ?_
         go_simp
         refine Calls.mono (CL.out zz kzz) ?_
         rintro e w5p ⟨v5, vs5, rfl, hll5, _, k5⟩
         have kk5 : Kp (fun k => (Value.slice oa ol oc).ownBlock = some k) wr w5p := (kzz.mono (fun _ _ h => h.elim)).trans k5
         clear k5
         try dsimp only
         refine ⟨fun h => Bool.noConfusion (show false = true from h), ?_⟩
         try simp only [sC]
         refine tF 13 1 v5 rfl rfl hSd (fun h => Bool.noConfusion (show false = true from h)) ?_
         try simp only [sC]
         refine anyL_done (by kernel_rfl) (fun nn => ?_) _
         have kw5 : Kp (fun _ => False) w5p (w5p.drewN nn) := (Kp.refl _ w5p).drewN nn
         generalize w5p.drewN nn = w5 at *
         have hll5 := hll5.kp0 kw5
         clear hSd kz0 kzz
         obtain ⟨a5, c5, e5, _⟩ := hll5.form
         obtain ⟨n5, hn5⟩ : ∃ n, n = (layP (layL se bo ac ls (l8.take 0)) ⟨4, se, bo, 0, ac, []⟩).length := ⟨_, rfl⟩
         rw [← hn5] at e5
         subst e5
         have kw5 : Kp (fun k => (Value.slice oa ol oc).ownBlock = some k) wr w5 := kk5.trans (kw5.mono (fun _ _ h => h.elim))
         have ht5 := HE.out.1.kp kw5 (fun k hm e => by have h1 := HE.out.2.2.1.ge k e; have h2 := H3.out.2.2.2.2.2.2.2.1 k hm; omega)
         clear c6 g6
         have c6 : w5.cell? ⟨o, 6, none⟩ = some (.bool t.owed) := ht5.c.2.2.2.2.2.2
         have g6 := ht5.hat.frozen 6
         have H5 := Lib.hid (And.intro ht5 (And.intro hll5 (HE.out.2.1.then kw5 (fun k _ e => .inr (HE.out.2.2.1.ge k e)))))
         clear hn5 ht5 hll5 kk5 kw5 r1 r2 r4
         go_wp2_with fail
         go_ret
         refine ⟨.slice a5 n5 c5, rfl, vs5, l8, H3.out.2.1, ?_, H5.out.1.owe false, ?_⟩
         · rw [HDL.out]
           exact H5.out.2.1.kpB (Kp.setCell (S := fun k => k = o) (Kp.refl _ w5) (p := ⟨o, 6, none⟩) (fun _ => rfl) _) (fun k e => by have e : k = o := e; have := H.out.2.2.2.1 o (.inl rfl); omega)
         · exact Kp.setCell (S := fun k => Me o t k ∨ B ≤ k) H5.out.2.2 (p := ⟨o, 6, none⟩) (fun _ => .inl (.inl rfl)) _
     · have hdl := hfin (fun e => h0 (by rw [H3.out.2.2.2.2.2.1, e.1]))
       have hdl := Lib.hid hdl
       have i0 : ¬ (i : Int) = 0 := by omega
       have i0b : ((i : Int) == 0) = false := by simpa using i0
       clear hfin r1 r2 r4
       go_wp2_with fail
       go_ret
       refine ⟨.slice oa ol oc, rfl, vs', l8, H3.out.2.1, ?_, HE.out.1.owe false, ?_⟩
       · rw [hdl.out]
         exact HE.out.2.2.1.kpB (Kp.setCell (S := fun k => k = o) (Kp.refl _ wr) (p := ⟨o, 6, none⟩) (fun _ => rfl) _) (fun k e => by have e : k = o := e; have := H.out.2.2.2.1 o (.inl rfl); omega)
       · exact Kp.setCell (S := fun k => Me o t k ∨ B ≤ k) HE.out.2.1 (p := ⟨o, 6, none⟩) (fun _ => .inl (.inl rfl)) _
def agX (sent : Bool) (a : Nat) : List Value := [.bool sent, .int .i64 (a : Nat)]
theorem frame_box (f : Fr) (a : Option Addr) (c : Nat) (W : World) : ∃ bx w1, bx = W.heap.size ∧ w1 = W.alloc (.cells (frA f a c) 34) ∧ Kp (fun _ => False) W w1 ∧ At w1 bx [.int .i64 f.ty, .int .i64 f.se, .int .i64 f.bo, .int .i64 f.sq, .int .i64 f.ac, .slice a f.bd.length c] :=
 ⟨_, _, rfl, rfl, (Kp.refl _ W).alloc _, At.new W _ _⟩
theorem TkC.drewN0 {W : World} {o I : Nat} {t : Tk} {ext : List Value} (h : TkC W o t ext I) (n : Nat) : TkC (W.drewN n) o t ext I := h.kp0 ((Kp.refl _ W).drewN n)
theorem ahears_any {W : World} {o I : Nat} {t : Tk} {ext : List Value} (h : TkC W o t ext I) (f : Fr) (a : Option Addr) (c : Nat) :
 Calls Tryz.prog 154 #[.pointer (some ⟨o, 0, none⟩), .agg (frA f a c)] W fun e w' => e = .returned (.int .i64 (if f.se = t.se then 0 else 6)) ∧ Kp (fun _ => False) W w' := by
 obtain ⟨bx, w1, hbx, hw1, k1, ab⟩ := frame_box f a c W
 have c1 : w1.cell? ⟨o, 1, none⟩ = some (.int .i64 t.se) := k1.cell h.c.2.1 (fun h => h)
 have b1 : w1.cell? ⟨bx, 1, none⟩ = some (.int .i64 f.se) := ab.cell 1
 have K1 := Lib.hid k1
 obtain ⟨ty, se, bo, sq, ac, bd⟩ := f
 dsimp only [frA] at *
 generalize bd.length = nb at *
 obtain ⟨s, hs⟩ : ∃ s, s = t.se := ⟨_, rfl⟩
 rw [← hs] at c1 ⊢
 clear h k1 ab hs
 by_cases he : se = (s : Int)
 · rw [if_pos he]
   subst he
   have heb : ((s : Int) != (s : Int)) = false := by simp
   go_enter Tryz.func154, Tryz.ntmps154
   go_upto_region 1 with fail
   rw [← hbx, ← hw1]
   clear hbx hw1
   go_wp2_with fail
   go_quiet (fail)
   go_wp2_with fail
   go_ret
   exact ⟨rfl, by first | exact K1.out | exact K1.out.drew | exact K1.out.drewN _⟩
 · rw [if_neg he]
   have heb : (se != (s : Int)) = true := by simp [he]
   go_enter Tryz.func154, Tryz.ntmps154
   go_upto_region 1 with fail
   rw [← hbx, ← hw1]
   clear hbx hw1
   go_wp2_with fail
   go_quiet (fail)
   go_wp2_with fail
   go_ret
   exact ⟨rfl, by first | exact K1.out | exact K1.out.drew | exact K1.out.drewN _⟩
theorem areset_any {W : World} {o I : Nat} {t : Tk} {ext : List Value} (h : TkC W o t ext I) (f : Fr) (a : Option Addr) (c : Nat) (now : Int) :
 Calls Tryz.prog 160 #[.pointer (some ⟨o, 0, none⟩), .agg (frA f a c), .int .i64 now] W fun e w' => e = .returned (.tuple #[.slice none 0 0, .int .i64 0]) ∧ TkC w' o { t with st := 3 } ext I ∧ Kp (fun k => k = o) W w' := by
 obtain ⟨bx, w1, hbx, hw1, k1, ab⟩ := frame_box f a c W
 have h1 := h.kp0 k1
 have c0 := h1.c.1
 have f0 := h1.hat.frozen 0
 have H := Lib.hid (And.intro h1 k1)
 obtain ⟨ty, se, bo, sq, ac, bd⟩ := f
 dsimp only [frA] at *
 generalize bd.length = nb at *
 clear h h1 k1 ab
 go_enter Tryz.func160, Tryz.ntmps160
 go_upto_region 1 with fail
 rw [← hw1]
 clear hbx hw1
 go_wp2_with fail
 go_ret2
 have k := Kp.setCell (S := fun k => k = o) (H.out.2.mono (fun _ _ h => h.elim)) (p := ⟨o, 0, none⟩) (fun _ => rfl) (.int .i64 3)
 exact ⟨rfl, ⟨H.out.1.hat.set 0 (.int .i64 3), fun e => absurd (show (3 : Nat) = 2 from e) (by decide), H.out.1.se, H.out.1.bo, H.out.1.sz⟩, k⟩
theorem asyn_any (o : Nat) (W : World) (f : Fr) (a : Option Addr) (c : Nat) (now : Int) :
 Calls Tryz.prog 157 #[.pointer (some ⟨o, 0, none⟩), .agg (frA f a c), .int .i64 now] W fun e w' => e = .returned (.tuple #[.slice none 0 0, .int .i64 6]) ∧ Kp (fun _ => False) W w' := by
 obtain ⟨ty, se, bo, sq, ac, bd⟩ := f
 dsimp only [frA] at *
 generalize bd.length = nb at *
 go_enter Tryz.func157, Tryz.ntmps157
 go_wp2_with fail
 go_ret2
 exact ⟨rfl, (Kp.refl _ W).alloc _⟩
theorem TkC.set2 {W : World} {o I : Nat} {t : Tk} {ext : List Value} (h : TkC W o t ext I) (b : Nat) (hb : b ≤ 2147483647) : TkC (W.setCell ⟨o, 2, none⟩ (.int .i64 (b : Nat))) o { t with bo := b } ext I := by
 have k : Kp (fun k => k = o) W (W.setCell ⟨o, 2, none⟩ (.int .i64 (b : Nat))) := Kp.setCell (S := fun k => k = o) (Kp.refl _ W) (p := ⟨o, 2, none⟩) (fun _ => rfl) _
 refine { h with hat := h.hat.set 2 (.int .i64 (b : Nat)), bo := hb, up := fun e => ?_ }
 have hu := h.up e
 exact { hu.kp k (fun j hj e => hu.oW (by have e : j = o := e; exact e ▸ hj)) (fun j hj e => hu.oX (by have e : j = o := e; exact e ▸ hj)) with }
set_option maxHeartbeats 1000000 in
theorem awelcome_open {W : World} {o I : Nat} {t : Tk} {ext : List Value} (h : TkC W o t ext I) (hst : t.st = 1) (f : Fr) (b : Nat) (hfb : f.bo = (b : Nat)) (hb : b ≤ 2147483647) (a : Option Addr) (c : Nat) (now : Int) :
 Calls Tryz.prog 158 #[.pointer (some ⟨o, 0, none⟩), .agg (frA f a c), .int .i64 now] W fun e w' => e = .returned (.tuple #[.slice none 0 0, .int .i64 0]) ∧ ∃ g x, TkC w' o (upT { t with bo := b } g x) ext I ∧ W.heap.size ≤ g ∧ W.heap.size ≤ x ∧ (∀ k, Me o (upT { t with bo := b } g x) k → k = o ∨ k = g ∨ k = x) ∧ Kp (fun k => k = o) W w' := by
 obtain ⟨bx, w1, hbx, hw1, k1, ab⟩ := frame_box f a c W
 rw [hfb] at ab
 have h1 := h.kp0 k1
 have c0 : w1.cell? ⟨o, 0, none⟩ = some (.int .i64 1) := by rw [h1.c.1, hst]; rfl
 have c2 := h1.c.2.2.1
 have f2 := h1.hat.frozen 2
 have b2 : w1.cell? ⟨bx, 2, none⟩ = some (.int .i64 (b : Nat)) := ab.cell 2
 have H := Lib.hid (And.intro h1 k1)
 obtain ⟨ty, se, bo, sq, ac, bd⟩ := f
 dsimp only [frA] at *
 subst hfb
 generalize bd.length = nb at *
 clear h h1 k1 ab hst
 go_enter Tryz.func158, Tryz.ntmps158
 go_upto_region 1 with fail
 rw [← hbx, ← hw1]
 clear hbx hw1
 go_upto_region 3 with fail
 have h2 := H.out.1.set2 b hb
 have k2 := Kp.setCell (S := fun k => k = o) (H.out.2.mono (fun _ _ h => h.elim)) (p := ⟨o, 2, none⟩) (fun _ => rfl) (.int .i64 (b : Nat))
 obtain ⟨w2, hw2⟩ : ∃ w2, w2 = w1.setCell ⟨o, 2, none⟩ (.int .i64 (b : Nat)) := ⟨_, rfl⟩
 rw [← hw2] at h2 k2 ⊢
 have CU := Lib.hid (up_any h2)
 have K2 := Lib.hid k2
 clear hw2 h2 k2 c0 c2 f2 b2
 go_wp2_with fail
 go_at_call 109
 refine CU.out.mono ?_
 rintro e w3 ⟨rfl, g, x, h3, hg, hx, hm, k3⟩
 have hs := K2.out.size
 have H3 := Lib.hid (And.intro h3 (And.intro (show W.heap.size ≤ g by omega) (And.intro (show W.heap.size ≤ x by omega) (And.intro hm (K2.out.trans k3)))))
 clear h3 hg hx hm k3 CU
 go_wp2_with fail
 go_ret2
 exact ⟨rfl, g, x, H3.out⟩
theorem awelcome_up {W : World} {o I : Nat} {t : Tk} {ext : List Value} (h : TkC W o t ext I) (hst : t.st ≠ 1) (f : Fr) (a : Option Addr) (c : Nat) (now : Int) :
 Calls Tryz.prog 158 #[.pointer (some ⟨o, 0, none⟩), .agg (frA f a c), .int .i64 now] W fun e w' => e = .returned (.tuple #[.slice none 0 0, .int .i64 (if f.bo = t.bo then 0 else 6)]) ∧ Kp (fun _ => False) W w' := by
 obtain ⟨bx, w1, hbx, hw1, k1, ab⟩ := frame_box f a c W
 have h1 := h.kp0 k1
 have c0 := h1.c.1
 have c2 := h1.c.2.2.1
 have b2 : w1.cell? ⟨bx, 2, none⟩ = some (.int .i64 f.bo) := ab.cell 2
 have hs1 : ¬ (t.st : Int) = 1 := by omega
 have hs2 : ((t.st : Int) == 1) = false := by simpa using hs1
 have K1 := Lib.hid k1
 obtain ⟨ty, se, bo, sq, ac, bd⟩ := f
 dsimp only [frA] at *
 generalize bd.length = nb at *
 obtain ⟨s, hs⟩ : ∃ s, s = t.st := ⟨_, rfl⟩
 obtain ⟨b, hb⟩ : ∃ b, b = t.bo := ⟨_, rfl⟩
 rw [← hs] at c0 hs1 hs2
 rw [← hb] at c2 ⊢
 clear h h1 k1 ab hst hs hb
 by_cases he : bo = (b : Int)
 · rw [if_pos he]
   subst he
   have heb : ((b : Int) != (b : Int)) = false := by simp
   go_enter Tryz.func158, Tryz.ntmps158
   go_upto_region 1 with fail
   rw [← hbx, ← hw1]
   clear hbx hw1
   go_wp2_with fail
   go_quiet (fail)
   go_wp2_with fail
   go_ret2
   exact ⟨rfl, by first | exact K1.out | exact K1.out.drew | exact K1.out.drewN _⟩
 · rw [if_neg he]
   have heb : (bo != (b : Int)) = true := by simp [he]
   go_enter Tryz.func158, Tryz.ntmps158
   go_upto_region 1 with fail
   rw [← hbx, ← hw1]
   clear hbx hw1
   go_wp2_with fail
   go_quiet (fail)
   go_wp2_with fail
   go_ret2
   exact ⟨rfl, by first | exact K1.out | exact K1.out.drew | exact K1.out.drewN _⟩
theorem anews_no {W : World} {o I : Nat} {t : Tk} {ext : List Value} (h : TkC W o t ext I) (f : Fr) (a : Option Addr) (c : Nat) (now : Int) (hno : t.st ≠ 2 ∨ f.bo ≠ t.bo) :
 Calls Tryz.prog 159 #[.pointer (some ⟨o, 0, none⟩), .agg (frA f a c), .int .i64 now] W fun e w' => e = .returned (.tuple #[.slice none 0 0, .int .i64 6]) ∧ Kp (fun _ => False) W w' := by
 obtain ⟨bx, w1, hbx, hw1, k1, ab⟩ := frame_box f a c W
 have h1 := h.kp0 k1
 have c2 := h1.c.2.2.1
 have b2 : w1.cell? ⟨bx, 2, none⟩ = some (.int .i64 f.bo) := ab.cell 2
 have K1 := Lib.hid k1
 by_cases hst : t.st = 2
 · have hb := hno.resolve_left (fun e => e hst)
   have C := fun n => Calls.quiet_of_same (n := n) (Calls.turn (tis_any o t.st (w1.drewN n) (h1.drewN0 n).c.1))
   rw [decide_eq_true hst] at C
   have heb : (f.bo != (t.bo : Int)) = true := by simp [hb]
   obtain ⟨ty, se, bo, sq, ac, bd⟩ := f
   dsimp only [frA] at *
   generalize bd.length = nb at *
   clear h h1 k1 ab hst
   go_enter Tryz.func159, Tryz.ntmps159
   go_upto_region 1 with fail
   rw [← hbx, ← hw1]
   clear hbx hw1
   go_wp2_with fail
   go_quiet (exact C _)
   go_wp2_with fail
   go_ret2
   exact ⟨rfl, by first | exact K1.out | exact K1.out.drew | exact K1.out.drewN _⟩
 · have C := fun n => Calls.quiet_of_same (n := n) (Calls.turn (tis_any o t.st (w1.drewN n) (h1.drewN0 n).c.1))
   rw [decide_eq_false hst] at C
   obtain ⟨ty, se, bo, sq, ac, bd⟩ := f
   dsimp only [frA] at *
   generalize bd.length = nb at *
   clear h h1 k1 ab hst
   go_enter Tryz.func159, Tryz.ntmps159
   go_upto_region 1 with fail
   rw [← hbx, ← hw1]
   clear hbx hw1
   go_wp2_with fail
   go_quiet (exact C _)
   go_wp2_with fail
   go_ret2
   exact ⟨rfl, by first | exact K1.out | exact K1.out.drew | exact K1.out.drewN _⟩
end Go.Proofs.YtokembhfebnjpaaGreat
