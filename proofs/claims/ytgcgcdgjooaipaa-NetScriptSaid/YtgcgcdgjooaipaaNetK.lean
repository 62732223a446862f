/- Chapter 12's examples: one, begun, is, awake. (Written by wip/netk.py.) -/
import Derived.Test.YtgcgcdgjooaipaaNetG
namespace Go.Proofs.Ytgcgcdgjooaipaa
open Go.RowKit Go.Maps
set_option linter.unusedVariables false
set_option linter.unusedSimpArgs false
theorem one_any (fr to x : Int) (hx : 0 ≤ x ∧ x ≤ 255) (w : World) :
    Calls Try.prog 19 #[.int .i64 fr, .int .i64 to, .int .u8 x] w fun e w' => ∃ B, e = .returned (.agg #[.int .i64 fr, .int .i64 to, B]) ∧ OwnB w' B [x] ∧ (∀ b, B.ownBlock = some b → w.heap.size ≤ b) ∧ Kp (fun _ => False) w w' := by
  go_enter Try.func19, Try.ntmps19
  go_wp2
  have h0 := (At.new w (dgC fr to (.slice (some ⟨w.heap.size + 1, 0, none⟩) 1 1)) 28).alloc (.cells #[.int .u8 x] 5)
  have h1 := At.new (w.alloc (.cells #[.int .i64 fr, .int .i64 to, .slice (some ⟨w.heap.size + 1, 0, none⟩) 1 1] 28)) [.int .u8 x] 5
  rw [World.size_alloc] at h1
  obtain ⟨T, hT⟩ := h0
  refine bodyPost_ret (results_cell_row rfl _ _ w.heap.size T _ (0, 0) _ rfl hT Try.underlying28 rfl dg_info) rfl ⟨_, rfl, ⟨⟨rfl, .inr ⟨w.heap.size + 1, 1, [], rfl, h1, rfl, by simp, by unfold maxLen; omega⟩⟩, fun g hg => ?_, fun y hy => ?_, by simp⟩, fun b hb => ?_, ((Kp.refl _ w).alloc _).alloc _⟩
  · simp only [Value.ownBlock, Option.some.injEq] at hg
    subst hg
    exact ⟨_, h1, fun u hu => by simp at hu; subst hu; exact ⟨x, rfl, hx⟩⟩
  · simp at hy; subst hy; exact hx
  · simp only [Value.ownBlock, Option.some.injEq] at hb
    omega
/-- A net of the call's own, made since w0. -/
structure St (w0 w : World) (nb mb : Nat) (nds : List Nd) (lost : Int) (N : Nat) (f : Value → Bool) : Prop where
  n : NetW w nb mb nds lost N f
  ge : ∀ b, (Mine nb nds b ∨ b = mb) → w0.heap.size ≤ b
  k : Kp (fun _ => False) w0 w
section
variable {w0 w w' : World} {nb mb N : Nat} {nds : List Nd} {lost : Int} {f : Value → Bool}
theorem St.kp0 (h : St w0 w nb mb nds lost N f) (k : Kp (fun _ => False) w w') : St w0 w' nb mb nds lost N f := ⟨h.n.kp0 k, h.ge, h.k.trans k⟩
theorem St.step (h : St w0 w nb mb nds lost N f) {nds' : List Nd} {lost' : Int} {N' : Nat} {f' : Value → Bool} (hs : Stp nb mb nds w nds' w') (hn : NetW w' nb mb nds' lost' N' f') : St w0 w' nb mb nds' lost' N' f' :=
  ⟨hn, fun b hb => by
    have hk := h.k.size
    rcases hb with hb | hb
    · rcases hs.2 b hb with hb | hb
      · exact h.ge b (.inl hb)
      · omega
    · exact h.ge b (.inr hb), h.k.then hs.1 (fun i hi hm => by have := h.ge i hm; omega)⟩
theorem sendS_ok {K : List (Int × Int × List Int)} {fr to : Int} {l : List Int} (h1 : isEnd fr = true) (h2 : isEnd to = true) (hl : l.length ≤ 1500) (hf : f (pairV fr to) = false) (hk : K.length < 2000) : sendS f K lost fr to l = (0, K ++ [(fr, to, l)], lost) := by
  unfold sendS
  rw [if_pos (by rw [h1, h2]; rfl), if_neg (by omega), if_neg (by rw [hf]; simp), if_neg (by omega)]
theorem st_send (h : St w0 w nb mb nds lost N f) (hlo : 0 ≤ lost ∧ lost ≤ 10000) (fr to : Int) (a : Option Addr) (n cap : Nat) (l : List Int) (hln : l.length = n) (hb : RdB w a l) (h1 : isEnd fr = true) (h2 : isEnd to = true) (hl : l.length ≤ 1500) (hf : f (pairV fr to) = false) (hk : nds.length < 2000) :
    Calls Try.prog 11 #[.pointer (some ⟨nb, 0, none⟩), .agg #[.int .i64 fr, .int .i64 to, .slice a n cap]] w fun e w' => e = .returned (.int .i64 0) ∧ ∃ nds', St w0 w' nb mb nds' lost N f ∧ nds'.map dkey = nds.map dkey ++ [(fr, to, l)] := by
  subst hln
  refine (send_w h.n hlo fr to a cap l hb).mono ?_
  rintro e w' ⟨nds', lost', r, rfl, hn, hs, he⟩
  rw [sendS_ok h1 h2 hl hf (by simpa using hk)] at he
  simp only [Prod.mk.injEq] at he
  obtain ⟨rfl, e2, rfl⟩ := he
  exact ⟨rfl, nds', h.step hs hn, e2⟩
def firstK : List (Int × Int × List Int) → Int → Int → Int
  | [], _, _ => -1
  | d :: r, to, k => if d.2.1 = to then k else firstK r to (k + 1)
theorem firstOf_key : ∀ (nds : List Nd) (to k : Int), firstOf nds to k = firstK (nds.map dkey) to k
  | [], _, _ => rfl
  | d :: r, to, k => by
    rw [List.map_cons]
    unfold firstOf firstK
    rw [firstOf_key r]; rfl
theorem st_first (h : St w0 w nb mb nds lost N f) (to : Int) :
    Calls Try.prog 14 #[.pointer (some ⟨nb, 0, none⟩), .int .i64 to] w fun e w' => e = .returned (.int .i64 (firstK (nds.map dkey) to 0)) ∧ Kp (fun _ => False) w w' := by
  rw [← firstOf_key]
  exact first_any nb mb nds _ lost to w h.n.c (by have := h.n.len; omega)
end
theorem st_new (w : World) : Calls Try.prog 10 #[] w fun e w' => ∃ nb mb, e = .returned (.pointer (some ⟨nb, 0, none⟩)) ∧ St w w' nb mb [] 0 0 (fun _ => false) := by
  refine (new_any w).mono ?_
  rintro e w' ⟨nb, mb, rfl, hN, hS, g1, g2, k⟩
  refine ⟨nb, mb, rfl, ⟨hN, hS, by simp, fun i hi => absurd hi (Nat.not_lt_zero _)⟩, fun b hb => ?_, k⟩
  rcases hb with (rfl | ⟨i, hi, _⟩) | rfl
  · exact g1
  · exact absurd hi (Nat.not_lt_zero _)
  · exact g2
theorem st_copy0 {w0 w : World} {nb mb N : Nat} {nds : List Nd} {lost : Int} {f : Value → Bool} (h : St w0 w nb mb nds lost N f) (h0 : 0 < nds.length) (h1 : nds.length < 2000) :
    Calls Try.prog 29 #[.pointer (some ⟨nb, 0, none⟩), .int .i64 0] w fun e w' => e = .returned (.int .i64 0) ∧ ∃ nds', St w0 w' nb mb nds' lost N f ∧ nds'.map dkey = nds.map dkey ++ [dkey (nd nds 0)] := by
  refine (copy_w h.n 0).mono ?_
  rintro e w' ⟨nds', hn, hs, (⟨ht, _⟩ | ⟨k, _, _, ht, _⟩ | ⟨k, d, hk, _, _, rfl, hd, rfl⟩)⟩
  · have := there_no ht; omega
  · omega
  · obtain rfl : k = 0 := by omega
    exact ⟨rfl, _, h.step hs hn, by rw [List.map_append, List.map_singleton, hd]⟩
theorem st_turn0 {w0 w : World} {nb mb N : Nat} {nds : List Nd} {lost : Int} {f : Value → Bool} (h : St w0 w nb mb nds lost N f) (h0 : 0 < nds.length) (h1 : 0 < (nd nds 0).l.length) :
    Calls Try.prog 17 #[.pointer (some ⟨nb, 0, none⟩), .int .i64 0, .int .i64 1] w fun e w' => e = .returned (.int .i64 0) ∧ ∃ nds', St w0 w' nb mb nds' lost N f ∧ nds'.map dkey = (nds.map dkey).set 0 ((nd nds 0).fr, (nd nds 0).to, turnB (nd nds 0).l 1) := by
  refine (turn_w h.n 0 1 (by omega)).mono ?_
  rintro e w' ⟨nds', hn, hs, (⟨ht, _⟩ | ⟨k, hk, _, ht, _⟩ | ⟨k, q, hk, hq, _, _, rfl, rfl⟩)⟩
  · have := there_no ht; omega
  · obtain rfl : k = 0 := by omega
    omega
  · obtain rfl : k = 0 := by omega
    obtain rfl : q = 1 := by omega
    exact ⟨rfl, _, h.step hs hn, by rw [List.map_set]; rfl⟩
theorem nd_key {nds : List Nd} {i : Nat} {k : Int × Int × List Int} (h : (nds.map dkey)[i]? = some k) : i < nds.length ∧ (nd nds i).fr = k.1 ∧ (nd nds i).to = k.2.1 ∧ (nd nds i).l = k.2.2 := by
  rw [List.getElem?_map, Option.map_eq_some_iff] at h
  obtain ⟨d, h1, rfl⟩ := h
  have hi := (List.getElem?_eq_some_iff.1 h1).1
  unfold nd
  rw [List.getD_eq_getElem?_getD, h1]
  exact ⟨hi, rfl, rfl, rfl⟩
def K3 : List (Int × Int × List Int) := [(0, 1, [7]), (0, 2, [6]), (0, 1, [5])]
theorem key5 {n3 n5 : List Nd} (h : n3.map dkey = [(0, 1, [5])]) (h' : n5.map dkey = n3.map dkey ++ [(0, 2, [6])]) : n5.map dkey = [(0, 1, [5]), (0, 2, [6])] := by rw [h', h]; rfl
theorem key7 {n5 n7 : List Nd} (h : n5.map dkey = [(0, 1, [5]), (0, 2, [6])]) (h' : n7.map dkey = n5.map dkey ++ [dkey (nd n5 0)]) : n7.map dkey = [(0, 1, [5]), (0, 2, [6]), (0, 1, [5])] := by
  obtain ⟨_, e1, e2, e3⟩ := nd_key (nds := n5) (i := 0) (k := (0, 1, [5])) (by rw [h]; rfl)
  rw [h', h]
  unfold dkey
  rw [e1, e2, e3]; rfl
theorem key8 {n7 n8 : List Nd} (h : n7.map dkey = [(0, 1, [5]), (0, 2, [6]), (0, 1, [5])]) (h' : n8.map dkey = (n7.map dkey).set 0 ((nd n7 0).fr, (nd n7 0).to, turnB (nd n7 0).l 1)) : n8.map dkey = K3 := by
  obtain ⟨_, e1, e2, e3⟩ := nd_key (nds := n7) (i := 0) (k := (0, 1, [5])) (by rw [h]; rfl)
  rw [h', h, e1, e2, e3]
  decide +kernel
set_option maxHeartbeats 2000000 in
set_option maxRecDepth 20000 in
theorem begun_any (w : World) : Calls Try.prog 21 #[] w fun e w' => ∃ nb mb nds, e = .returned (.pointer (some ⟨nb, 0, none⟩)) ∧ St w w' nb mb nds 0 0 (fun _ => false) ∧ nds.map dkey = K3 := by
  have CN := Lib.hid (st_new w)
  have C1 := Lib.hid (fun w' => one_any 0 1 5 (by omega) w')
  have C2 := Lib.hid (fun w' => one_any 0 2 6 (by omega) w')
  have CS1 := Lib.hid (fun w' nb mb nds a c (h : St w w' nb mb nds 0 0 (fun _ => false)) (hk : nds.map dkey = []) (hb : RdB w' a [5]) => st_send h (by omega) 0 1 a 1 c [5] rfl hb rfl rfl (by simp) rfl (by have := congrArg List.length hk; rw [List.length_map] at this; have h0 : nds.length = 0 := this; omega))
  have CS2 := Lib.hid (fun w' nb mb nds a c (h : St w w' nb mb nds 0 0 (fun _ => false)) (hk : nds.map dkey = [(0, 1, [5])]) (hb : RdB w' a [6]) => st_send h (by omega) 0 2 a 1 c [6] rfl hb rfl rfl (by simp) rfl (by have := congrArg List.length hk; simp at this; omega))
  have CF := Lib.hid (fun w' nb mb nds (h : St w w' nb mb nds 0 0 (fun _ => false)) (hk : nds.map dkey = [(0, 1, [5]), (0, 2, [6])]) => (by have := st_first h 2; rw [hk] at this; exact this : Calls Try.prog 14 #[.pointer (some ⟨nb, 0, none⟩), .int .i64 2] w' fun e w'' => e = .returned (.int .i64 1) ∧ Kp (fun _ => False) w' w''))
  have CC := Lib.hid (fun w' nb mb nds (h : St w w' nb mb nds 0 0 (fun _ => false)) (hk : nds.map dkey = [(0, 1, [5]), (0, 2, [6])]) => st_copy0 h (by have := congrArg List.length hk; simp at this; omega) (by have := congrArg List.length hk; simp at this; omega))
  have CT := Lib.hid (fun w' nb mb nds (h : St w w' nb mb nds 0 0 (fun _ => false)) (hk : nds.map dkey = [(0, 1, [5]), (0, 2, [6]), (0, 1, [5])]) => st_turn0 h (nd_key (i := 0) (by rw [hk]; rfl)).1 (by rw [(nd_key (nds := nds) (i := 0) (k := (0, 1, [5])) (by rw [hk]; rfl)).2.2.2]; simp))
  go_enter Try.func21, Try.ntmps21
  go_wp2_with (first | (go_at_call 10; (with_reducible refine CN.out.mono ?_); rintro e w1 ⟨nb, mb, rfl, hS⟩; have S1 := Lib.hid hS; clear hS) | (go_at_call 19; (with_reducible refine (C1.out _).mono ?_); rintro e v1 ⟨B1, rfl, hB1, g1, k1⟩; obtain ⟨A1, c1, rfl, rr1, _⟩ := hB1.form; have H1 := Lib.hid (And.intro hB1 (And.intro g1 (And.intro k1 rr1))); clear hB1 g1 k1 rr1) | (go_at_call 11; (with_reducible refine (CS1.out _ _ _ _ _ _ (S1.out.kp0 H1.out.2.2.1) rfl H1.out.2.2.2).mono ?_); rintro e w3 ⟨rfl, n3, hS, hk⟩; have S3 := Lib.hid (And.intro hS (show n3.map dkey = [(0, 1, [5])] from hk)); clear hS hk) | (go_at_call 19; (with_reducible refine (C2.out _).mono ?_); rintro e v2 ⟨B2, rfl, hB2, g2, k2⟩; obtain ⟨A2, c2, rfl, rr2, _⟩ := hB2.form; have H2 := Lib.hid (And.intro hB2 (And.intro g2 (And.intro k2 rr2))); clear hB2 g2 k2 rr2) | (go_at_call 11; (with_reducible refine (CS2.out _ _ _ _ _ _ (S3.out.1.kp0 H2.out.2.2.1) S3.out.2 H2.out.2.2.2).mono ?_); rintro e w5 ⟨rfl, n5, hS, hk⟩; have S5 := Lib.hid (And.intro hS (key5 S3.out.2 hk)); clear hS hk) | (go_at_call 14; (with_reducible refine (CF.out _ _ _ _ S5.out.1 S5.out.2).mono ?_); rintro e w6 ⟨rfl, k6⟩; have S6 := Lib.hid (S5.out.1.kp0 k6); clear k6) | (go_at_call 29; (with_reducible refine (CC.out _ _ _ _ S6.out S5.out.2).mono ?_); rintro e w7 ⟨rfl, n7, hS, hk⟩; have S7 := Lib.hid (And.intro hS hk); clear hS hk) | (go_at_call 17; (with_reducible refine (CT.out _ _ _ _ S7.out.1 (key7 S5.out.2 S7.out.2)).mono ?_); rintro e w8 ⟨rfl, n8, hS, hk⟩; have S8 := Lib.hid (And.intro hS hk); clear hS hk))
  go_ret
  exact ⟨nb, mb, n8, rfl, S8.out.1, key8 (key7 S5.out.2 S7.out.2) S8.out.2⟩
theorem RdD.one {w : World} {b : Nat} {fr to : Int} {a : Option Addr} {n c : Nat} {l : List Int} (h : At w b (dgC fr to (.slice a n c))) (hr : RdB w a l) (hn : l.length = n) (hc : n ≤ c) : RdD w (some ⟨b, 0, none⟩) [⟨0, fr, to, .slice a n c, l⟩] := fun i hi => by
  obtain rfl : i = 0 := by simpa using hi
  obtain ⟨h0, h1, h2, _⟩ := dg_cells h
  subst hn
  exact ⟨b, 0, a, c, rfl, h0, h1, h2, hr, hc⟩
theorem samedg_n (a b : Option Addr) (n m ca cb : Nat) (ds es : List Nd) (w : World) (h : RdD w a ds) (h' : RdD w b es) (hk : ds.map dkey = es.map dkey) (hn : ds.length ≤ 100000) (e1 : ds.length = n) (e2 : es.length = m) :
    Calls Try.prog 12 #[.slice a n ca, .slice b m cb] w fun e w' => e = .returned (.bool true) ∧ Kp (fun _ => False) w w' := by
  subst e1; subst e2; exact samedg_eq a b ca cb ds es w h h' hk hn
theorem At.new2 (w : World) (o : Obj) (cs : List Value) (T : TypeId) : At ((w.alloc o).alloc (.cells cs.toArray T)) (w.heap.size + 1) cs := by
  have := At.new (w.alloc o) cs T; rwa [World.size_alloc] at this
theorem At.new3 (w : World) (o o' : Obj) (cs : List Value) (T : TypeId) : At (((w.alloc o).alloc o').alloc (.cells cs.toArray T)) (w.heap.size + 1 + 1) cs := by
  have := At.new ((w.alloc o).alloc o') cs T; rwa [World.size_alloc, World.size_alloc] at this
theorem is_case {w : World} {nb : Nat} {nds nds' : List Nd} {fr to : Int} {l : List Int} {K : List (Int × Int × List Int)} {e : Ending} {Z : Prop} (hk : nds.map dkey = (fr, to, l) :: K)
    (hh : (there (nds.map dkey) 0 = false ∧ nds' = nds ∧ e = .returned (.tuple #[.agg #[.int .i64 0, .int .i64 0, .slice none 0 0], .int .i64 6]) ∧ Z) ∨
       (∃ k, (0 : Int) = (k : Nat) ∧ k < nds.length ∧ nds' = nds.eraseIdx k ∧ e = .returned (.tuple #[.agg #[.int .i64 (nd nds k).fr, .int .i64 (nd nds k).to, (nd nds k).B], .int .i64 0]) ∧ OwnB w (nd nds k).B (nd nds k).l ∧ ∀ b, (nd nds k).B.ownBlock = some b → ¬ Mine nb nds' b)) :
    ∃ A c, RdB w A l ∧ l.length ≤ c ∧ nds'.map dkey = K ∧ e = .returned (.tuple #[.agg #[.int .i64 fr, .int .i64 to, .slice A l.length c], .int .i64 0]) := by
  have hl := congrArg List.length hk
  rw [List.length_map] at hl
  have hl : nds.length = K.length + 1 := hl
  rcases hh with ⟨ht, _⟩ | ⟨k, hk0, hk1, rfl, rfl, hO, _⟩
  · have := there_no ht; omega
  · obtain rfl : k = 0 := by omega
    obtain ⟨_, e1, e2, e3⟩ := nd_key (nds := nds) (i := 0) (k := (fr, to, l)) (by rw [hk]; rfl)
    obtain ⟨A, c, e, hR, hc⟩ := hO.form
    simp only at e1 e2 e3
    rw [e3] at e hR hc
    refine ⟨A, c, hR, hc, ?_, by rw [e, e1, e2]⟩
    cases nds with
    | nil => simp at hk1
    | cons d r => simpa using (List.cons.inj hk).2
set_option maxHeartbeats 2000000 in
set_option maxRecDepth 20000 in
theorem is_first {w0 w : World} {nb mb N : Nat} {nds : List Nd} {lost : Int} {f : Value → Bool} (h : St w0 w nb mb nds lost N f) {fr to : Int} {l : List Int} {K : List (Int × Int × List Int)} (hk : nds.map dkey = (fr, to, l) :: K) (a : Option Addr) (n c : Nat) (hb : RdB w a l) (hoff : Off (fun j => Mine nb nds j ∨ j = mb) a) (hn : l.length = n) (hc : n ≤ c) (hl : n ≤ 100000) :
    Calls Try.prog 22 #[.pointer (some ⟨nb, 0, none⟩), .int .i64 0, .agg #[.int .i64 fr, .int .i64 to, .slice a n c]] w fun e w' => e = .returned (.bool true) ∧ ∃ nds', St w0 w' nb mb nds' lost N f ∧ nds'.map dkey = K := by
  have CT := Lib.hid (fun w' (k : Kp (fun _ => False) w w') => take_w (h.kp0 k).n 0)
  have hB := Lib.hid (fun w' (k : Kp (fun _ => False) w w') => hb.kp0 k (fun _ _ h => h))
  have HK := Lib.hid (And.intro hk (And.intro hn h))
  have HK2 := Lib.hid (fun w' nds' (hs : Stp nb mb nds (w.alloc (.cells #[.int .i64 fr, .int .i64 to, .slice a n c] 28)) nds' w') => hb.kp ((((Kp.refl (fun _ => False) w).alloc (.cells #[.int .i64 fr, .int .i64 to, .slice a n c] 28)).mono (S' := fun j => Mine nb nds j ∨ j = mb) (fun _ _ h => h.elim)).trans hs.1) hoff)
  clear hk hb hn h hoff
  go_enter Try.func22, Try.ntmps22
  have CSD := Lib.hid (fun A1 m1 c1 bx by' w' (h1 : At w' bx (dgC fr to (.slice A1 m1 c1))) (h2 : At w' by' (dgC fr to (.slice a n c))) (r1 : RdB w' A1 l) (r2 : RdB w' a l) (e : l.length = m1) (e' : m1 ≤ c1) =>
    samedg_n (some ⟨bx, 0, none⟩) (some ⟨by', 0, none⟩) 1 1 1 1 [⟨0, fr, to, .slice A1 m1 c1, l⟩] [⟨0, fr, to, .slice a n c, l⟩] w' (RdD.one h1 r1 e e') (RdD.one h2 r2 HK.out.2.1 hc) rfl (by simp) rfl rfl)
  go_wp2_with (first | (go_at_call 24; (with_reducible refine (CT.out _ ((Kp.refl _ w).alloc _)).mono ?_); rintro e w1 ⟨nds', hn1, hs1, hh⟩; obtain ⟨A1, c1, hB1, hO1, hk1, rfl⟩ := is_case HK.out.1 hh; have hbx := hs1.1.at (At.new w (dgC fr to (.slice a n c)) 28) (fun hm => Nat.lt_irrefl _ (HK.out.2.2.n.lt hm)); have hl1 : w.heap.size < w1.heap.size := hbx.lt; obtain ⟨x0, x1, x2, _⟩ := dg_cells hbx; have hra := HK2.out _ _ hs1; have H1 := Lib.hid (And.intro hn1 (And.intro hs1 (And.intro hO1 (And.intro hB1 (And.intro hk1 hra))))); clear hn1 hs1 hh hB1 hO1 hk1 hbx hra) | (go_at_call 12; (with_reducible refine (CSD.out A1 l.length c1 _ _ _ ?_ ?_ ?_ ?_ rfl H1.out.2.2.1).mono ?_); exact (At.new2 w1 _ (dgC fr to (.slice A1 l.length c1)) _).alloc _; exact At.new3 w1 _ _ (dgC fr to (.slice a n c)) _; exact H1.out.2.2.2.1.kp0 (((Kp.refl (fun _ => False) w1).alloc _).alloc _ |>.alloc _) (fun _ _ h => h); exact H1.out.2.2.2.2.2.kp0 (((Kp.refl (fun _ => False) w1).alloc _).alloc _ |>.alloc _) (fun _ _ h => h); rintro e w5 ⟨rfl, k5⟩; have K5 := Lib.hid ((((Kp.refl (fun _ => False) w1).alloc _).alloc _ |>.alloc _).trans k5); clear k5))
  go_ret
  exact ⟨rfl, nds', ((HK.out.2.2.kp0 ((Kp.refl _ w).alloc _)).step H1.out.2.1 H1.out.1).kp0 K5.out, H1.out.2.2.2.2.1⟩
theorem off_of {S : Nat → Prop} {a : Option Addr} {n c : Nat} (h : ∀ b, (Value.slice a n c).ownBlock = some b → ¬ S b) : Off S a := fun y hy => h y.block (by rw [hy]; rfl)
theorem off_new {w0 w : World} {nb mb N : Nat} {nds : List Nd} {lost : Int} {f : Value → Bool} {a : Option Addr} {n c : Nat} (h : St w0 w nb mb nds lost N f) (hg : ∀ b, (Value.slice a n c).ownBlock = some b → w.heap.size ≤ b) : Off (fun j => Mine nb nds j ∨ j = mb) a :=
  off_of (n := n) (c := c) (fun b hb hm => by have := h.n.lt hm; have := hg b hb; omega)
theorem RdD.two {w : World} {b : Nat} {fr to fr' to' : Int} {a a' : Option Addr} {n c n' c' : Nat} {l l' : List Int} (h : At w b (dgC fr to (.slice a n c) ++ dgC fr' to' (.slice a' n' c'))) (hr : RdB w a l) (hn : l.length = n) (hc : n ≤ c) (hr' : RdB w a' l') (hn' : l'.length = n') (hc' : n' ≤ c') :
    RdD w (some ⟨b, 0, none⟩) [⟨0, fr, to, .slice a n c, l⟩, ⟨0, fr', to', .slice a' n' c', l'⟩] := fun i hi => by
  subst hn; subst hn'
  have hi : i = 0 ∨ i = 1 := by simp at hi; omega
  rcases hi with rfl | rfl
  · exact ⟨b, 0, a, c, rfl, (h.cell 0).trans rfl, (h.cell 1).trans rfl, (h.cell 2).trans rfl, hr, hc⟩
  · exact ⟨b, 0, a', c', rfl, (h.cell 3).trans rfl, (h.cell 4).trans rfl, (h.cell 5).trans rfl, hr', hc'⟩
theorem st_waiting {w0 w : World} {nb mb N : Nat} {nds : List Nd} {lost : Int} {f : Value → Bool} (h : St w0 w nb mb nds lost N f) :
    Calls Try.prog 13 #[.pointer (some ⟨nb, 0, none⟩)] w fun e w' => ∃ a c es, e = .returned (.slice a nds.length c) ∧ DgL w.heap.size w' (.slice a nds.length c) es ∧ RdD w' a es ∧ es.map dkey = nds.map dkey ∧ nds.length ≤ c ∧ Kp (fun _ => False) w w' := by
  refine (waiting_any nb mb nds _ lost w h.n.c (by have := h.n.len; omega) (fun i hi => by have := h.n.lens i hi; omega)).mono ?_
  rintro e w' ⟨v, es, rfl, hd, hk, k⟩
  obtain ⟨a, c, rfl, hc, hr⟩ := hd.rdd
  have hl := (key_at hk).1
  rw [hl] at hd hc ⊢
  exact ⟨a, c, es, rfl, hd, hr, hk, hc, k⟩
set_option maxHeartbeats 2000000 in
set_option maxRecDepth 20000 in
theorem awake_any (w : World) : Calls Try.prog 9 #[] w fun e w' => e = .returned (.bool true) ∧ Kp (fun _ => False) w w' := by
  have CB := Lib.hid (begun_any w)
  have C1 := Lib.hid (fun w' => one_any 0 1 7 (by omega) w')
  have C2 := Lib.hid (fun w' => one_any 0 2 6 (by omega) w')
  have C3 := Lib.hid (fun w' => one_any 0 1 5 (by omega) w')
  have CI := Lib.hid (fun w' nb mb nds a c (h : St w w' nb mb nds 0 0 (fun _ => false)) (hk : nds.map dkey = K3) (hb : RdB w' a [7]) (ho : Off (fun j => Mine nb nds j ∨ j = mb) a) (hc : 1 ≤ c) => is_first h hk a 1 c hb ho rfl hc (by omega))
  have CW := Lib.hid (fun w' nb mb nds (h : St w w' nb mb nds 0 0 (fun _ => false)) (hk : nds.map dkey = [(0, 2, [6]), (0, 1, [5])]) => (by have h2 := st_waiting h; have e : nds.length = 2 := (by have := congrArg List.length hk; rw [List.length_map] at this; exact this); rw [e, hk] at h2; exact h2 :
    Calls Try.prog 13 #[.pointer (some ⟨nb, 0, none⟩)] w' fun e w'' => ∃ a c es, e = .returned (.slice a 2 c) ∧ DgL w'.heap.size w'' (.slice a 2 c) es ∧ RdD w'' a es ∧ es.map dkey = [(0, 2, [6]), (0, 1, [5])] ∧ 2 ≤ c ∧ Kp (fun _ => False) w' w''))
  have CSD := Lib.hid (fun A c bx A2 c2 A3 c3 es w' (h1 : RdD w' A es) (hk : es.map dkey = [(0, 2, [6]), (0, 1, [5])]) (h2 : At w' bx (dgC 0 2 (.slice A2 1 c2) ++ dgC 0 1 (.slice A3 1 c3))) (r2 : RdB w' A2 [6]) (e2 : 1 ≤ c2) (r3 : RdB w' A3 [5]) (e3 : 1 ≤ c3) =>
    samedg_n A (some ⟨bx, 0, none⟩) 2 2 c 2 es [⟨0, 0, 2, .slice A2 1 c2, [6]⟩, ⟨0, 0, 1, .slice A3 1 c3, [5]⟩] w' h1 (RdD.two h2 r2 rfl e2 r3 rfl e3) (by rw [hk]; rfl) (by rw [(key_at (es := [⟨0, 0, 2, .slice A2 1 c2, [6]⟩, ⟨0, 0, 1, .slice A3 1 c3, [5]⟩]) (by rw [hk]; rfl)).1]; simp) (by rw [(key_at (es := [⟨0, 0, 2, .slice A2 1 c2, [6]⟩, ⟨0, 0, 1, .slice A3 1 c3, [5]⟩]) (by rw [hk]; rfl)).1]; rfl) rfl)
  go_enter Try.func9, Try.ntmps9
  go_wp2_with (first | (go_at_call 21; (with_reducible refine CB.out.mono ?_); rintro e w1 ⟨nb, mb, n1, rfl, hS, hk⟩; have S1 := Lib.hid (And.intro hS hk); clear hS hk) | (go_at_call 19; (with_reducible refine (C1.out _).mono ?_); rintro e v1 ⟨B1, rfl, hB1, g1, k1⟩; obtain ⟨A1, c1, rfl, rr1, cc1⟩ := hB1.form; have H1 := Lib.hid (And.intro hB1 (And.intro g1 (And.intro k1 (And.intro rr1 (show 1 ≤ c1 from cc1))))); clear hB1 g1 k1 rr1 cc1) | (go_at_call 22; (with_reducible refine (CI.out _ _ _ _ _ _ (S1.out.1.kp0 H1.out.2.2.1) S1.out.2 H1.out.2.2.2.1 (off_new S1.out.1 H1.out.2.1) H1.out.2.2.2.2).mono ?_); rintro e w5 ⟨rfl, n5, hS, hk⟩; have S5 := Lib.hid hS; have S5k := Lib.hid (show n5.map dkey = [(0, 2, [6]), (0, 1, [5])] from hk); clear hS hk) | (go_at_call 13; (with_reducible refine (CW.out _ _ _ _ S5.out S5k.out).mono ?_); rintro e w6 ⟨A6, c6, es, rfl, hd, hr, hk, hc, k⟩; have H6 := Lib.hid (And.intro hr (And.intro hk (And.intro hc k))); clear hd hr hk hc k) | (go_at_call 19; (with_reducible refine (C2.out _).mono ?_); rintro e v2 ⟨B2, rfl, hB2, g2, k2⟩; obtain ⟨A2, c2, rfl, rr2, cc2⟩ := hB2.form; have H2 := Lib.hid (And.intro hB2 (And.intro g2 (And.intro k2 (And.intro rr2 (show 1 ≤ c2 from cc2))))); clear hB2 g2 k2 rr2 cc2) | (go_at_call 19; (with_reducible refine (C3.out _).mono ?_); rintro e v3 ⟨B3, rfl, hB3, g3, k3⟩; obtain ⟨A3, c3, rfl, rr3, cc3⟩ := hB3.form; have H3 := Lib.hid (And.intro hB3 (And.intro g3 (And.intro k3 (And.intro rr3 (show 1 ≤ c3 from cc3))))); clear hB3 g3 k3 rr3 cc3) | (go_at_call 12; (with_reducible refine (CSD.out A6 c6 _ A2 c2 A3 c3 es _ ?_ H6.out.2.1 ?_ ?_ H2.out.2.2.2.2 ?_ H3.out.2.2.2.2).mono ?_); exact H6.out.1.kp0 ((H2.out.2.2.1.trans H3.out.2.2.1).trans ((Kp.refl _ _).alloc _)) (fun _ _ h => h); exact At.new v3 (dgC 0 2 (.slice A2 1 c2) ++ dgC 0 1 (.slice A3 1 c3)) _; exact H2.out.2.2.2.1.kp0 (H3.out.2.2.1.trans ((Kp.refl _ _).alloc _)) (fun _ _ h => h); exact H3.out.2.2.2.1.kp0 ((Kp.refl _ _).alloc _) (fun _ _ h => h); rintro e w9 ⟨rfl, k9⟩; have K9 := Lib.hid (((Kp.refl (fun _ => False) v3).alloc (.cells #[.int .i64 0, .int .i64 2, .slice A2 1 c2, .int .i64 0, .int .i64 1, .slice A3 1 c3] 28)).trans k9); clear k9))
  go_ret
  exact ⟨rfl, (S5.out.k.trans H6.out.2.2.2).trans ((H2.out.2.2.1.trans H3.out.2.2.1).trans K9.out)⟩
end Go.Proofs.Ytgcgcdgjooaipaa
