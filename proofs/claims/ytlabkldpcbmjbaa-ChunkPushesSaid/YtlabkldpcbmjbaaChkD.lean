/- ChunkEdits: the plain law; the law's own tails; copies joined. (Written by wip/chkedits.py.) -/
import Derived.Test.YtlabkldpcbmjbaaChkL
import Derived.Test.YtlabkldpcbmjbaaPcs
import Derived.Test.YtlabkldpcbmjbaaChunkAlone
namespace Go.Proofs.Ytlabkldpcbmjbaa
open Go.RowKit
set_option linter.unusedVariables false
set_option linter.unusedSimpArgs false
theorem chs_head : ∀ (r cur : List Int) (x : List Int) (xs : List (List Int)) (s : List Int), chs cur r = (x :: xs, s) → cur.length < x.length
  | [], cur, x, xs, s, h => by simp [chs] at h
  | c :: r, cur, x, xs, s, h => by
    by_cases he : ends (cur ++ [c]) = true
    · rw [chs_hit he] at h
      simp only [Prod.mk.injEq, List.cons.injEq] at h
      rw [← h.1.1]; simp
    · rw [chs_miss (by simpa using he)] at h
      have := chs_head r (cur ++ [c]) x xs s h
      simp at this; omega
theorem chunks_two (h r : List Int) : chunks (h ++ r) = (chs [] h).1 ++ ((chs (chs [] h).2 r).1 ++ if (chs (chs [] h).2 r).2 = [] then [] else [(chs (chs [] h).2 r).2]) := by
  unfold chunks
  rw [chs_more, List.append_assoc]
theorem early (h r : List Int) (i : Nat) (hi : i < (chunks (h ++ r)).length) (hu : upto (h ++ r) (i + 1) < h.length) : i < (chs [] h).1.length := by
  rcases Nat.lt_or_ge i (chs [] h).1.length with hh | hh
  · exact hh
  · exfalso
    have hj := chs_join h []
    rw [List.nil_append] at hj
    have hjl := congrArg List.length hj
    rw [List.length_append] at hjl
    unfold upto at hu
    rw [chunks_two] at hi hu
    have hM : ∃ x M, ((chs (chs [] h).2 r).1 ++ if (chs (chs [] h).2 r).2 = [] then [] else [(chs (chs [] h).2 r).2]) = x :: M ∧ (chs [] h).2.length ≤ x.length := by
      rcases hc : chs (chs [] h).2 r with ⟨_ | ⟨x, xs⟩, s⟩
      · rw [hc] at hi
        have hs := chs_join r (chs [] h).2
        rw [hc] at hs
        simp only [List.flatten_nil, List.nil_append] at hs
        by_cases h0 : s = []
        · simp only [if_pos h0, List.append_nil, List.nil_append] at hi
          omega
        · refine ⟨s, [], by simp only [if_neg h0, List.nil_append], ?_⟩
          rw [hs, List.length_append]; omega
      · exact ⟨x, _, rfl, Nat.le_of_lt (chs_head r _ x xs s hc)⟩
    obtain ⟨x, M, e, hx⟩ := hM
    rw [e] at hu
    rw [List.take_append, List.take_of_length_le (by omega), show i + 1 - (chs [] h).1.length = (i - (chs [] h).1.length) + 1 by omega, List.take_succ_cons, List.flatten_append, List.flatten_cons, List.length_append, List.length_append] at hu
    omega
theorem same_early (h r s : List Int) (i : Nat) (hi : i < (chunks (h ++ r)).length) (hu : upto (h ++ r) (i + 1) < h.length) : i < (chunks (h ++ s)).length ∧ (lens (chunks (h ++ s))).getD i 0 = (lens (chunks (h ++ r))).getD i 0 := by
  have hh := early h r i hi hu
  refine ⟨by rw [chunks_two, List.length_append]; omega, ?_⟩
  rw [lens_getD, lens_getD, chunks_two h s, chunks_two h r, getD_app_lt _ _ _ _ hh, getD_app_lt _ _ _ _ hh]
/-- How many bytes stand behind each cut that has at most so many behind it. -/
def tls (most : Nat) : List (List Int) → List Nat
  | [] => []
  | x :: r => if r.flatten.length ≤ most then r.flatten.length :: tls most r else tls most r
theorem tls_cons (most : Nat) (x : List Int) (r : List (List Int)) : tls most (x :: r) = if r.flatten.length ≤ most then r.flatten.length :: tls most r else tls most r := rfl
theorem tls_at (most : Nat) : ∀ (ls : List (List Int)) (i : Nat), i < (tls most ls).length → ∃ pre r, ls = pre ++ r ∧ r.flatten.length = (tls most ls).getD i 0 ∧ r.flatten.length ≤ most ∧ (tls most ls).drop i = r.flatten.length :: tls most r
  | [], i, h => by simp [tls] at h
  | x :: r, i, h => by
    rw [tls_cons] at h ⊢
    by_cases hc : r.flatten.length ≤ most
    · rw [if_pos hc] at h ⊢
      cases i with
      | zero => exact ⟨[x], r, rfl, rfl, hc, rfl⟩
      | succ i =>
        obtain ⟨pre, s, h1, h2, h3, h4⟩ := tls_at most r i (by simpa using h)
        exact ⟨x :: pre, s, by rw [h1]; rfl, by rw [h2]; rfl, h3, h4⟩
    · rw [if_neg hc] at h ⊢
      obtain ⟨pre, s, h1, h2, h3, h4⟩ := tls_at most r i h
      exact ⟨x :: pre, s, by rw [h1]; rfl, h2, h3, h4⟩
theorem tls_len (most : Nat) : ∀ ls : List (List Int), (tls most ls).length ≤ ls.length
  | [] => by simp [tls]
  | x :: r => by
    have := tls_len most r
    unfold tls
    split <;> simp <;> omega
theorem last_of (u beh : List Int) (t d : Nat) (ht : t ≤ (u ++ beh).length) (hd : ((u ++ beh).drop t).length = d) (hb : d ≤ beh.length) : (u ++ beh).drop t = beh.drop (beh.length - d) := by
  rw [List.length_drop, List.length_append] at hd
  rw [List.length_append] at ht
  rw [List.drop_append, List.drop_of_length_le (by omega), List.nil_append]
  congr 1
  omega
theorem tails_same (u v beh : List Int) (i k : Nat) (hi : i < (tls beh.length (chunks (u ++ beh))).length) (hk : k < (tls beh.length (chunks (v ++ beh))).length)
    (he : (tls beh.length (chunks (u ++ beh))).getD i 0 = (tls beh.length (chunks (v ++ beh))).getD k 0) : (tls beh.length (chunks (u ++ beh))).drop i = (tls beh.length (chunks (v ++ beh))).drop k := by
  have one : ∀ (u : List Int) (i : Nat), i < (tls beh.length (chunks (u ++ beh))).length → (tls beh.length (chunks (u ++ beh))).drop i = (tls beh.length (chunks (u ++ beh))).getD i 0 :: tls beh.length (chunks (beh.drop (beh.length - (tls beh.length (chunks (u ++ beh))).getD i 0))) := fun u i hi => by
    obtain ⟨pre, r, h1, h2, h3, h4⟩ := tls_at _ _ i hi
    have hr : r = chunks ((u ++ beh).drop (upto (u ++ beh) pre.length)) := by
      rw [← chunks_drop, h1, List.drop_left]
    have hf : r.flatten = (u ++ beh).drop (upto (u ++ beh) pre.length) := by rw [hr, chunks_join]
    have hl := last_of u beh _ r.flatten.length (upto_le _ _) (by rw [← hf]) h3
    have hr2 : r = chunks (beh.drop (beh.length - r.flatten.length)) := hr.trans (by rw [hl])
    rw [h4, ← h2]
    exact congrArg (fun q => r.flatten.length :: tls _ q) hr2
  rw [one u i hi, one v k hk, he]
theorem ints_drop (l : List Nat) (k : Nat) : (ints l).drop k = ints (l.drop k) := by rw [ints, ints, List.map_drop]
theorem ints_len (l : List Nat) : (ints l).length = l.length := by simp [ints]
theorem copy_own (a : Option Addr) (n cap : Nat) (l : List Int) (hn : n = l.length) (w : World) (h : RdB w a l) (hl : l.length ≤ 1000000000) :
    Calls Try.prog 29 #[.slice a n cap] w fun e w' => ∃ v, e = .returned v ∧ OwnB w' v l ∧ (∀ g, v.ownBlock = some g → w.heap.size ≤ g) ∧ Kp (fun _ => False) w w' := by
  subst hn
  have hka := (Kp.refl (fun _ => False) w).alloc (.cells #[] 5)
  obtain ⟨v1, w1, hr1, ho1, hk1, hat1⟩ := run_append_b (P := Try.prog) (t := 22) (tx := 22) (ty := 22) (w.alloc (.cells #[] 5)) Try.underlying22 elem_u8 Try.underlying22 (ownb_new w _) (a := a) (c := cap) (m := l) (h.kp hka (fun _ _ h => h)) (by simpa using hl)
  rw [List.nil_append] at ho1
  have Hr := Lib.hid hr1
  have hfin : Hid (OwnB w1 v1 l ∧ (∀ g, v1.ownBlock = some g → w.heap.size ≤ g) ∧ Kp (fun _ => False) w w1) := ⟨ho1, fun g hg => by
    rcases hat1 with e | e
    · rw [e] at hg; simp [Value.ownBlock] at hg; omega
    · rw [e] at hg; simp at hg; omega, hka.then hk1 (fun i hi e => by simp [Value.ownBlock] at e; omega)⟩
  clear hr1 ho1 hk1 hat1 hka h
  go_enter Try.func29, Try.ntmps29
  go_wp2_with (at_builtin; refine wpList_append_run _ Hr.out rfl rfl rfl rfl ?_)
  go_ret
  exact ⟨_, rfl, hfin.out⟩
/-- A copy, and behind it what two others read. -/
theorem join3 {w w2 : World} {v2 : Value} {x y z : List Int} (ho : OwnB w2 v2 x) (hg : ∀ g, v2.ownBlock = some g → w.heap.size ≤ g) (k : Kp (fun _ => False) w w2) {a1 a3 : Option Addr} {n1 n3 c1 c3 : Nat} (h1 : RdB w a1 y) (h3 : RdB w a3 z) (e1 : n1 = y.length) (e3 : n3 = z.length) (hl : x.length + y.length + z.length ≤ 1000000) (L : Nat) (hL : L = (x ++ y ++ z).length) :
    ∃ v3 w3 A c w4, (Builtin.append_ #[22, 22] 22 #[v2, .slice a1 n1 c1]).run Try.prog w2 = .ok v3 w3 ∧ (Builtin.append_ #[22, 22] 22 #[v3, .slice a3 n3 c3]).run Try.prog w3 = .ok (.slice A L c) w4 ∧ RdB w4 A (x ++ y ++ z) ∧ L ≤ c ∧ c ≤ maxLen ∧ Kp (fun _ => False) w w4 := by
  subst e1; subst e3
  obtain ⟨v3, w3, r3, o3, k3, b3⟩ := run_append_b (P := Try.prog) (t := 22) (tx := 22) (ty := 22) w2 Try.underlying22 elem_u8 Try.underlying22 ho (a := a1) (c := c1) (m := y) (h1.kp0 k (fun _ _ h => h)) (by omega)
  have kw3 : Kp (fun _ => False) w w3 := k.then k3 (fun i hi e => by have := hg i e; omega)
  have hsz := k.size
  have hg3 : ∀ g, v3.ownBlock = some g → w.heap.size ≤ g := fun g hg' => by
    rcases b3 with e | e
    · exact hg g (e ▸ hg')
    · rw [e] at hg'; cases hg'; exact hsz
  obtain ⟨v4, w4, r4, o4, k4, b4⟩ := run_append_b (P := Try.prog) (t := 22) (tx := 22) (ty := 22) w3 Try.underlying22 elem_u8 Try.underlying22 o3 (a := a3) (c := c3) (m := z) (h3.kp0 kw3 (fun _ _ h => h)) (by rw [List.length_append]; omega)
  obtain ⟨A, c, e4, hr, hc⟩ := o4.form
  have hcm : c ≤ maxLen := by
    obtain ⟨A', c', e5, _, hm⟩ := o4.own.form
    rw [e4] at e5; simp only [Value.slice.injEq] at e5
    rw [e5.2.2]; exact hm
  subst hL
  rw [e4] at r4
  exact ⟨v3, w3, A, c, w4, r3, r4, hr, hc, hcm, kw3.then k4 (fun i hi e => by have := hg3 i e; omega)⟩
theorem cut_n (a : Option Addr) (cap : Nat) (l : List Int) (n N : Nat) (hn : n = l.length) (hN : N = (chunks l).length) (w : World) (h : RdB w a l) (hl : n ≤ 100000) (hcap : n ≤ cap) (hcm : cap ≤ maxLen) :
    Calls Try.prog 13 #[.slice a n cap] w fun e w' => ∃ A C, e = .returned (.slice A N C) ∧ Rd w' A (ints (lens (chunks l))) ∧ Kp (fun _ => False) w w' := by
  subst hn; subst hN
  refine (cut_any a cap l w h hl hcap hcm).mono ?_
  rintro e w' ⟨v, rfl, ho, _, k⟩
  obtain ⟨A, C, rfl, _, _⟩ := ho.form
  exact ⟨A, C, rfl, ho.rd, k⟩
set_option maxHeartbeats 2000000 in
theorem tails_any (a : Option Addr) (N c : Nat) (ls : List (List Int)) (z most : Nat) (w : World) (h : Rd w a (ints (lens ls))) (hN : N = ls.length) (hz : z = ls.flatten.length) (hb : z ≤ 1000000) (hm : most ≤ 1000000) (hb2 : N ≤ 1000000) :
    Calls Try.prog 30 #[.slice a N c, .int .i64 z, .int .i64 most] w fun e w' => ∃ A C, e = .returned (.slice A (tls most ls).length C) ∧ (tls most ls).length ≤ C ∧ Rd w' A (ints (tls most ls)) ∧ Kp (fun _ => False) w w' := by
  have H := Lib.hid (And.intro h (And.intro hN hz))
  clear h hN hz
  go_enter Try.func30, Try.ntmps30
  go_wp2
  go_loopw [1, 7, 8] (fun sv ov iv wr => ∃ (k s : Nat) (D : List Nat) (A : Option Addr) (C : Nat), k ≤ N ∧ sv = .int .i64 s ∧ s = (ls.drop k).flatten.length ∧ s ≤ 1000000 ∧ ov = .slice A D.length C ∧ iv = .int .i64 k ∧ Own wr (.slice A D.length C) D.length 1 (ints D) ∧ D.length ≤ k ∧ D ++ tls most (ls.drop k) = tls most ls ∧ (∀ g, (Value.slice A D.length C).ownBlock = some g → w.heap.size ≤ g) ∧ Kp (fun _ => False) w wr) (fun _ _ iv _ => N - (intOf iv).toNat)
  case atStart => exact ⟨0, z, [], none, 0, by omega, rfl, H.out.2.2, hb, rfl, rfl, Own.nil _ _, by simp, rfl, fun g hg => by simp [Value.ownBlock] at hg, Kp.refl _ _⟩
  case round =>
    obtain ⟨k, s, D, A, C, hk, rfl, hs, hsb, rfl, rfl, ho, hDk, hD, hg, hkp⟩ := hrel
    by_cases hlt : k < N
    · have j1 : (k : Int) < N := by omega
      obtain ⟨b1, o1, rfl, hc⟩ := H.out.1 k (by rw [ints_len, lens_len, ← H.out.2.1]; exact hlt)
      have e1 : (ints (lens ls)).getD k undef = .int .i64 (((lens ls).getD k 0 : Nat) : Int) := by
        have : k < (lens ls).length := by rw [lens_len, ← H.out.2.1]; exact hlt
        simp [ints, List.getD_eq_getElem?_getD, this]
      rw [e1, lens_getD] at hc
      have hc2 := hkp.cell hc (fun h => h)
      have hdr : ls.drop k = ls.getD k [] :: ls.drop (k + 1) := by
        rw [List.getD_eq_getElem?_getD, List.getElem?_eq_getElem (by rw [← H.out.2.1]; exact hlt)]
        exact List.drop_eq_getElem_cons _
      rw [hdr] at hs hD
      rw [List.flatten_cons, List.length_append] at hs
      generalize (ls.getD k []) = x at *
      generalize hy : (ls.drop (k + 1)).flatten.length = y at *
      generalize x.length = m at *
      have ey : (s : Int) - (m : Int) = (y : Int) := by omega
      have hE := Lib.hid ey
      have hms : m ≤ s := by omega
      have hka := (Kp.refl (fun _ => False) wr).alloc (.cells #[.int .i64 ((s : Int) - (m : Int))] 3)
      obtain ⟨v', w', h1, h2, h3, h4, _⟩ := run_append_at (P := Try.prog) (t := 26) (tx := 26) (ty := 26) (wr.alloc (.cells #[.int .i64 ((s : Int) - (m : Int))] 3)) Try.underlying26 elem_int Try.underlying26 (ho.kp hka (fun _ _ h => h)) (a := some ⟨wr.heap.size, 0, none⟩) (m := 1) (c := 1) (news := [.int .i64 ((s : Int) - (m : Int))]) (by simp)
        (fun i hi => by simp at hi; subst hi; exact ⟨_, _, rfl, by rw [(At.new wr [.int .i64 ((s : Int) - (m : Int))] 3).cell]; rfl⟩) (by simp [Value.oneCell']) (by unfold maxLen; omega) (by omega)
      obtain ⟨A', C', e2, _, _⟩ := h2.form
      subst e2
      have HR := Lib.hid h1
      have HW := Lib.hid (And.intro h2 (And.intro h3 h4))
      have HO := Lib.hid (And.intro ho (And.intro hg hkp))
      have HD := Lib.hid (And.intro hD (And.intro hy hs))
      clear h1 h2 h3 h4 ho hg hkp hc hdr e1 hs hy hD hka
      by_cases hle : y ≤ most
      · have j2 : (s : Int) - (m : Int) ≤ (most : Int) := by omega
        clear ey
        go_wp2_with (at_builtin; refine wpList_append_run _ HR.out rfl rfl rfl rfl ?_)
        go_roundw
        case rel =>
          have h1 := HD.out.1
          rw [tls_cons] at h1
          rw [if_pos (by rw [HD.out.2.1]; exact hle), HD.out.2.1] at h1
          have e3 : (D ++ [y]).length = D.length + 1 := by simp
          have hw := HW.out.1
          rw [hE.out] at hw
          refine ⟨k + 1, y, D ++ [y], A', C', by omega, by rw [hE.out], HD.out.2.1.symm, by have := HD.out.2.2; omega, by rw [e3], by go_num, ?_, by rw [e3]; omega, ?_, fun g hg' => ?_, ?_⟩
          · rw [e3, ints_snoc]; exact hw
          · rw [List.append_assoc]; exact h1
          · rw [e3] at hg'
            have hsz := HO.out.2.2.size
            rcases HW.out.2.2 with e | e
            · exact HO.out.2.1 g (e ▸ hg')
            · rw [e] at hg'; cases hg'; rw [World.size_alloc]; omega
          · exact (HO.out.2.2.alloc _).then HW.out.2.1 (fun i hi e => by have := HO.out.2.1 i e; omega)
        case measure => simp [intOf]; omega
      · have j2 : ¬ (s : Int) - (m : Int) ≤ (most : Int) := by omega
        clear ey
        go_wp2_with fail
        go_roundw
        case rel =>
          have h1 := HD.out.1
          rw [tls_cons] at h1
          rw [if_neg (by rw [HD.out.2.1]; exact hle)] at h1
          exact ⟨k + 1, y, D, A, C, by omega, by rw [hE.out], HD.out.2.1.symm, by have := HD.out.2.2; omega, rfl, by go_num, HO.out.1, by omega, h1, HO.out.2.1, HO.out.2.2⟩
        case measure => simp [intOf]; omega
    · obtain rfl : k = N := by omega
      rw [List.drop_of_length_le (by rw [← H.out.2.1]; exact Nat.le_refl _)] at hD
      have hD' : D = tls most ls := by simpa [tls] using hD
      subst hD'
      obtain ⟨A1, C1, e1, hcc, _⟩ := ho.form
      simp only [Value.slice.injEq] at e1
      go_wp2
      go_ret
      exact ⟨_, _, rfl, by rw [e1.2.2]; exact hcc, ho.rd, hkp⟩
end Go.Proofs.Ytlabkldpcbmjbaa
