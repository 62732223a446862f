/- Package chunk: the iterator over the places behind which chunks end. -/
import Derived.Test.YtlabkldpcbmjbaaChkE
import Derived.Test.YtlabkldpcbmjbaaRng
import Derived.Test.YtlabkldpcbmjbaaRegL
namespace Go.Proofs.Ytlabkldpcbmjbaa
open Go.RowKit
set_option linter.unusedVariables false
set_option linter.unusedSimpArgs false
attribute [local go_sem] Oper.semAt_some
theorem EdgeAt.tail {w : World} {b : Nat} {c c' : List Int} {T T' : List Value} (h : EdgeAt w b c T) (h' : EdgeAt w b c' T') : T = T' := by
  obtain ⟨r, n, s, h, i⟩ := h
  obtain ⟨r', n', s', h', i'⟩ := h'
  have e := h.inj h'
  obtain ⟨_, e2⟩ := List.append_inj e (by rw [rollT_len i.len, rollT_len i'.len])
  simp only [List.cons.injEq] at e2
  exact e2.2
/-- How the iterator may turn the world: the edge alone, and not what lies behind it. -/
def WrE (eb : Nat) (A A' : World) : Prop := Kp (· = eb) A A' ∧ ∀ cur T, EdgeAt A eb cur T → ∃ cur', EdgeAt A' eb cur' T
theorem WrE.of {eb : Nat} {A A' : World} {c c' : List Int} {T : List Value} (h : EdgeAt A eb c T) (h' : EdgeAt A' eb c' T) (k : Kp (· = eb) A A') : WrE eb A A' :=
  ⟨k, fun c1 T1 h1 => ⟨c', by rw [h1.tail h]; exact h'⟩⟩
/-- The iterator's memory. -/
def TI (eb bB bE : Nat) (a : Option Addr) (cap : Nat) (l cur : List Int) (W : World) : Prop :=
  (∃ T, EdgeAt W eb cur T) ∧ W.cell? ⟨bB, 0, none⟩ = some (.slice a l.length cap) ∧ W.cell? ⟨bE, 0, none⟩ = some (.pointer (some ⟨eb, 0, none⟩)) ∧ RdB W a l
theorem TI.step {eb bB bE : Nat} {a : Option Addr} {cap : Nat} {l cur cur' : List Int} {W W' : World} {T : List Value} (h : TI eb bB bE a cap l cur W) (h' : EdgeAt W' eb cur' T) (k : Kp (· = eb) W W') (h1 : bB ≠ eb) (h2 : bE ≠ eb) (h3 : l ≠ [] → ∀ y, a = some y → y.block ≠ eb) :
    TI eb bB bE a cap l cur' W' := ⟨⟨T, h'⟩, k.cell h.2.1 h1, k.cell h.2.2.1 h2, by
    by_cases hl : l = []
    · subst hl; exact RdB.nil _ _
    · exact h.2.2.2.kp k (fun y hy e => h3 hl y hy e)⟩
set_option maxHeartbeats 4000000 in
set_option maxRecDepth 20000 in
theorem cuts_gives (n : Nat) (hn : 1 ≤ n) (eb bB bE : Nat) (a : Option Addr) (cap : Nat) (l cur0 : List Int) (h1 : bB ≠ eb) (h2 : bE ≠ eb) (h3 : l ≠ [] → ∀ y, a = some y → y.block ≠ eb) (hl : l.length ≤ 1000000000) (h0c : Open cur0) :
    Gives Fence.wide n Try.prog 39 #[.pointer (some ⟨bB, 0, none⟩), .pointer (some ⟨bE, 0, none⟩)] (fun k : Nat => #[.int .i64 k]) (cutsAt cur0 l 0) (WrE eb)
      (fun pre => TI eb bB bE a cap l (if pre = [] then cur0 else [])) (TI eb bB bE a cap l (chs cur0 l).2) := by
  intro yl J Jx W hJ hJx hY h0 hT
  rw [if_pos rfl] at hT
  have hT0 := hT
  obtain ⟨_, hB, hE, _⟩ := hT
  refine callsIn_of_wp Try.func39 rfl trivial ?_ rfl
  simp only [Try.ntmps39, List.size_toArray, List.length_cons, List.length_nil, Nat.reduceAdd, Nat.reduceSub, Array.replicate_succ, Array.replicate_zero, List.push_toArray, List.append_toArray, List.nil_append, List.cons_append]
  gi_wp2
  gi_loopw [8] (fun i wr => ∃ (k : Nat) (cur : List Int) (pre : List Nat), k ≤ l.length ∧ i = .int .i64 k ∧ cutsAt cur0 l 0 = pre ++ cutsAt cur (l.drop k) k ∧ Open cur ∧ (chs cur0 l).2 = (chs cur (l.drop k)).2 ∧ TI eb bB bE a cap l cur wr ∧ J pre wr) (fun i _ => l.length - (intOf i).toNat)
  case atStart => exact ⟨0, cur0, [], by omega, rfl, by simp, h0c, by simp, hT0, h0⟩
  case round =>
    clear hT0 hB hE h0
    obtain ⟨k, cur, pre, hk, rfl, hx, ho, hr, ht, hj⟩ := hrel
    by_cases hlt : k < l.length
    · obtain ⟨⟨T, hed⟩, hB, hE, hR⟩ := ht
      obtain ⟨b1, o1, rfl, hc⟩ := hR.cell k hlt
      have hb := hR.bd.getD k
      have i1 : (k : Int) < l.length := by omega
      rw [drop_cons l k hlt] at hx hr
      have HX := Lib.hid (And.intro hx (And.intro hr ho))
      have C := Lib.hid (callsIn_wide (n := n - 1) |>.2 (ends_at eb cur T (l.getD k 0) wr hed ⟨by omega, by omega⟩ (by have := ho.lt; omega)))
      have HT := Lib.hid (show TI eb bB bE (some ⟨b1, o1, none⟩) cap l cur wr from ⟨⟨T, hed⟩, hB, hE, hR⟩)
      have HD := Lib.hid (And.intro hed hj)
      clear hx hr hR hed hj
      generalize l.getD k 0 = c at *
      cases hends : ends (cur ++ [c])
      · rw [hends] at C
        gi_wp2_with (refine ⟨trivial, ?_⟩; gi_at_call 40; refine C.out.mono ?_; rintro e w1 ⟨rfl, he1, k1⟩; have hE1 := k1.cell hE h2; have H1 := Lib.hid (And.intro he1 k1); clear he1 k1)
        go_roundw
        case rel =>
          have h5 := HT.out.step H1.out.1 H1.out.2 h1 h2 h3
          exact ⟨k + 1, cur ++ [c], pre, by omega, by go_num, by rw [HX.out.1, cutsAt_miss hends], HX.out.2.2.snoc hends, by rw [HX.out.2.1, chs_miss hends], h5, hJ _ _ _ HD.out.2 (WrE.of HD.out.1 H1.out.1 H1.out.2)⟩
        case measure => simp [intOf]; omega
      · rw [hends] at C
        have HE := Lib.hid hends
        clear hends
        have hi : (Try.prog.info? 54).map (·.size) = some freshC.toArray.size := by kernel_rfl
        have h1c : freshC.toArray.all (·.oneCell') = true := by simp [freshC, rollC, Value.oneCell']
        obtain ⟨A, hA⟩ : ∃ A, A = freshC.toArray := ⟨_, rfl⟩
        have HF := Lib.hid fresh_any
        rw [← hA] at hi h1c HF
        have HA := Lib.hid hA
        have HI := Lib.hid hi
        have HO := Lib.hid h1c
        clear hA hi h1c
        gi_wp2_with (refine ⟨trivial, ?_⟩; gi_at_call 40; refine C.out.mono ?_; rintro e w1 ⟨rfl, he1, k1⟩; have hE1 := k1.cell hE h2; have H1 := Lib.hid (And.intro he1 k1); clear he1 k1)
        refine wpIn_wide.2 ?_
        refine region_L (S := fun w' => w'.cell? ⟨bE, 0, none⟩ = some (.pointer (some ⟨eb, 0, none⟩)) ∧ Kp (fun _ => False) w1 w') [3] rfl ?_
        have hSd : ∀ w' n, (w'.cell? ⟨bE, 0, none⟩ = some (.pointer (some ⟨eb, 0, none⟩)) ∧ Kp (fun _ => False) w1 w') → ((w'.drewN n).cell? ⟨bE, 0, none⟩ = some (.pointer (some ⟨eb, 0, none⟩)) ∧ Kp (fun _ => False) w1 (w'.drewN n)) := fun w' n h => ⟨h.1, h.2.drewN n⟩
        refine anyL_takeD (i := 0) (d := 17) (v := .pointer (some ⟨eb, 0, none⟩)) rfl rfl (by kernel_rfl) (by kernel_rfl) (by kernel_rfl) (fun _ _ _ h => h) hSd (by kernel_rfl) (.inl (.inl ⟨rfl, fun w' hS => by have hc := hS.1; go_simp⟩)) ⟨hE1, (Kp.refl _ w1).drew⟩ ?_
        simp only [List.setIfInBounds_toArray, List.set_cons_succ, List.set_cons_zero]
        refine anyL_all (rs := [1]) (by kernel_rfl) (by simp) ?_
        intro n1 i hi
        simp only [List.mem_cons, List.not_mem_nil, or_false] at hi
        obtain rfl := hi
        refine wpOp_of rfl rfl ?_
        go_simp
        refine (HF.out _).mono ?_
        rintro e w2 ⟨rfl, k2⟩
        have k12 := ((Kp.refl (fun _ => False) w1).drewN (1 + n1)).trans k2
        have hS2 : w2.cell? ⟨bE, 0, none⟩ = some (.pointer (some ⟨eb, 0, none⟩)) ∧ Kp (fun _ => False) w1 w2 := ⟨k12.cell hE1 (fun h => h), k12⟩
        dsimp only
        refine ⟨fun _ => hS2, ?_⟩
        try simp only [List.setIfInBounds_toArray, List.set_cons_succ, List.set_cons_zero]
        refine anyL_takeD (i := 2) (d := 19) (v := .pointer (some ⟨eb, 0, none⟩)) rfl rfl (by kernel_rfl) (by kernel_rfl) (by kernel_rfl) (fun _ _ _ h => h) hSd (by kernel_rfl) (.inl (.inl ⟨rfl, fun w' hS => by go_simp⟩)) hS2 ?_
        simp only [List.setIfInBounds_toArray, List.set_cons_succ, List.set_cons_zero]
        refine anyL_all (rs := [3]) (by kernel_rfl) (by simp) ?_
        intro n2 i hi
        simp only [List.mem_cons, List.not_mem_nil, or_false] at hi
        obtain rfl := hi
        have h2e : EdgeAt (w2.drewN n2) eb (cur ++ [c]) T := (H1.out.1.kp k12 (fun h => h)).kp ((Kp.refl (fun _ => False) w2).drewN n2) (fun h => h)
        have hst := h2e.store
        have kst : Kp (· = eb) wr ((w2.drewN n2).setCells eb 0 freshC) := ((H1.out.2.then (k12.drewN n2) (fun _ _ h => h.elim)).then hst.2 (fun _ _ h => h))
        refine wpOp_of rfl rfl ?_
        refine wp_store_mid 54 (.tmp 19) (.tmp 18) rfl eb 0 A rfl rfl (by rw [HA.out]; exact h2e.there) HI.out HO.out ?_
        refine ⟨fun h => Bool.noConfusion (show false = true from h), anyL_done (by kernel_rfl) (fun nn => ?_) _⟩
        have HW : Hid (EdgeAt (((w2.drewN n2).setCells eb 0 A.toList).drewN nn) eb [] T ∧ Kp (· = eb) wr (((w2.drewN n2).setCells eb 0 A.toList).drewN nn)) := by
          rw [HA.out]
          exact ⟨hst.1.kp ((Kp.refl (fun _ => False) _).drewN nn) (fun h => h), kst.drewN nn⟩
        generalize ((w2.drewN n2).setCells eb 0 A.toList).drewN nn = w3 at HW ⊢
        clear hst kst h2e hS2 k12 k2 hSd hE1
        have h5 := HT.out.step HW.out.1 HW.out.2 h1 h2 h3
        have hpre : pre ++ [k + 1] <+: cutsAt cur0 l 0 := ⟨cutsAt [] (l.drop (k + 1)) (k + 1), by rw [HX.out.1, cutsAt_hit HE.out]; simp⟩
        obtain ⟨fn, tmps, assign, body, hy, hR⟩ := hY pre (k + 1) w3 hpre (hJ _ _ _ HD.out.2 (WrE.of HD.out.1 HW.out.1 HW.out.2)) (by rw [if_neg (by simp)]; exact h5)
        rw [if_neg (by simp)] at hR
        rw [show ((k + 1 : Nat) : Int) = (k : Int) + 1 by omega] at hy
        have i2 : (k : Int) + 1 ≤ 1000000000 := by omega
        have HP := Lib.hid hpre
        clear h5 hpre hY
        gi_wp2
        refine hR.mono ?_
        rintro e w4 (⟨rfl, hj4, ht4⟩ | ⟨rfl, hjx4⟩)
        · gi_wp2
          go_roundw
          case rel => exact ⟨k + 1, [], pre ++ [k + 1], by omega, by go_num, by rw [HX.out.1, cutsAt_hit HE.out]; simp, Open.nil, by rw [HX.out.2.1, chs_hit HE.out], ht4, hj4⟩
          case measure => simp [intOf]; omega
        · gi_wp2
          refine bodyPost_ret (results_none rfl _ _ _) rfl ?_
          exact ⟨⟨_, rfl⟩, .inr ⟨pre ++ [k + 1], HP.out, hjx4⟩⟩
    · obtain rfl : k = l.length := by omega
      rw [List.drop_length] at hx hr
      have hxx : cutsAt cur0 l 0 = pre := by rw [hx]; simp [cutsAt]
      have hrr : (chs cur0 l).2 = cur := by rw [hr]; simp [chs]
      have HX := Lib.hid (And.intro hxx hrr)
      clear hx hr hxx hrr hY
      gi_wp2
      go_end0
      exact ⟨⟨_, rfl⟩, .inl ⟨by rw [HX.out.1]; exact hj, by rw [HX.out.2]; exact ht⟩⟩
end Go.Proofs.Ytlabkldpcbmjbaa
