/- Package slices at []byte: Grow of nil, Concat, Equal, Clone. -/
import Derived.Test.YtokembhfebnjpaaGreatQBaseM
import Derived.Test.YtokembhfebnjpaaGreatQMemM
import Derived.Test.YtokembhfebnjpaaGreatQKt0M
import Derived.Lib.AppendZeros
import Derived.Outline
namespace Go.Proofs.YtokembhfebnjpaaGreat
set_option maxRecDepth 20000
open Go.RowKit
set_option linter.unusedVariables false
theorem OwnB.nil (w : World) : OwnB w (.slice none 0 0) [] := ⟨Own.nil w 1, fun g hg => by simp [Value.ownBlock] at hg, fun x hx => by simp at hx, by simp⟩
theorem grow_nil (n : Nat) (w : World) (hn : n ≤ 1000000000) :
 Calls Tryz.prog 87 #[.slice none 0 0, .int .i64 n] w fun e w' => ∃ v, e = .returned v ∧ OwnB w' v [] ∧ (∀ g, v.ownBlock = some g → w.heap.size ≤ g) ∧ Kp (fun _ => False) w w' := by
 by_cases h0 : n = 0
 · subst h0
   go_enter Tryz.func87, Tryz.ntmps87
   go_wp2
   go_ret
   exact ⟨_, rfl, OwnB.nil w, fun g hg => by simp [Value.ownBlock] at hg, Kp.refl _ _⟩
 · obtain ⟨_, _, _, i, hi, hz, hs, hb⟩ := elem_u8
   have hr := fun ty => Lib.run_append_nil_zeros (P := Tryz.prog) w 32 3 ty 5 i (.int .u8 0) .i64 .i64 Tryz.underlying32 Tryz.underlying3 hi hz n (by omega) (by rw [hs]; omega) (by omega) (by rw [hb]; omega)
   have hc : n ≤ grownCap w n 0 5 := by have := grownCap_ge w n 0 5; omega
   have hm : grownCap w n 0 5 ≤ maxLen := grownCap_le_maxLen w n 0 _ (by unfold maxLen; omega)
   obtain ⟨zs, hzs⟩ : ∃ zs, zs = Builtin.zeroCells (Value.int .u8 0).cells n ++ Builtin.zeroCells (Value.int .u8 0).cells (grownCap w n 0 5 - n) := ⟨_, rfl⟩
   simp only [← hzs] at hr
   have hzl : zs.toList.length = grownCap w n 0 5 := by
    rw [hzs, Array.toList_append, List.length_append]
    have e1 := zeros_length (Value.int .u8 0) n
    have e2 := zeros_length (Value.int .u8 0) (grownCap w n 0 5 - n)
    have e3 : (Value.int .u8 0).cells.size = 1 := rfl
    rw [e3] at e1 e2
    unfold zeros at e1 e2
    omega
   have hzb : ∀ u ∈ zs.toList, isB u := by
    rw [hzs, Array.toList_append]
    intro u hu
    rcases List.mem_append.1 hu with hu | hu
    · exact isB_zero u (zeros_mem (.int .u8 0) n u hu)
    · exact isB_zero u (zeros_mem (.int .u8 0) _ u hu)
   clear hzs hi hz hs hb
   generalize grownCap w n 0 5 = c at *
   have hat : At (w.drew.alloc (.cells zs 5)) w.heap.size zs.toList := At.new w.drew zs.toList 5
   have hfin : Hid (OwnB (w.drew.alloc (.cells zs 5)) (.slice (some ⟨w.heap.size, 0, none⟩) 0 c) [] ∧ Kp (fun _ => False) w (w.drew.alloc (.cells zs 5))) :=
    ⟨⟨⟨by simp, .inr ⟨w.heap.size, c, zs.toList, rfl, by simpa using hat, by rw [hzl]; simp, by simp, hm⟩⟩, fun g hg => ⟨zs.toList, by simp [Value.ownBlock] at hg; subst hg; exact hat, hzb⟩, fun x hx => by simp at hx, by simp⟩, ((Kp.refl _ w).drew).alloc _⟩
   have Hr := Lib.hid (hr 32)
   have i1 : (0 : Int) < n := by omega
   have i2 : (n : Int) ≤ 1000000000 := by omega
   clear hr hat hzl hzb hm
   go_enter Tryz.func87, Tryz.ntmps87
   go_wp2_with (at_builtin; refine wpList_append_run _ Hr.out rfl rfl rfl rfl ?_)
   go_ret
   exact ⟨_, rfl, hfin.out.1, fun g hg => by simp [Value.ownBlock] at hg; omega, hfin.out.2⟩
theorem equal_any (a b : Option Addr) (ca cb : Nat) (l m : List Int) (w : World) (h : RdB w a l) (h' : RdB w b m) :
 Calls Tryz.prog 72 #[.slice a l.length ca, .slice b m.length cb] w fun e w' => e = .returned (.bool (decide (l = m))) ∧ Kp (fun _ => False) w w' := by
 have hla := h.len
 by_cases hl : l.length = m.length
 · have h1 : ((l.length : Int) == m.length) = true := by simp [hl]
   have h2 : ((l.length : Int) != m.length) = false := by simp [hl]
   have HL := Lib.hid hl
   clear hl
   go_enter Tryz.func72, Tryz.ntmps72
   go_wp2_with fail
   go_loopw [13] (fun i wr => ∃ k : Nat, k ≤ l.length ∧ i = .int .i64 k ∧ l.take k = m.take k ∧ Kp (fun _ => False) w wr) (fun i _ => l.length - (intOf i).toNat)
   case atStart => exact ⟨0, by omega, rfl, rfl, Kp.refl _ _⟩
   case round =>
    obtain ⟨k, hkl, rfl, hk, hkp⟩ := hrel
    by_cases hlt : k < l.length
    · obtain ⟨b1, o1, rfl, q1⟩ := (h.kp0 hkp (fun _ _ h => h)).cell k hlt
      obtain ⟨b2, o2, rfl, q2⟩ := (h'.kp0 hkp (fun _ _ h => h)).cell k (by rw [← HL.out]; exact hlt)
      have HT := Lib.hid (take_eq_iff l m 0 k hlt HL.out hk)
      have i1 : (k : Int) < l.length := by omega
      have i2 : (k : Int) < m.length := by have := HL.out; omega
      have Hk := Lib.hid hk
      clear hk h1 h2
      generalize l.getD k 0 = x at *
      generalize m.getD k 0 = y at *
      by_cases hxy : x = y
      · have HX := Lib.hid (HT.out.2 hxy)
        have e1 : (x != y) = false := by simp [hxy]
        clear hxy
        go_wp2_with fail
        go_quiet (fail)
        go_wp2_with fail
        go_roundw
        case rel => exact ⟨k + 1, by omega, by go_num, HX.out, hkp.drewN _⟩
        case measure => simp [intOf]; omega
      · have hne : decide (l = m) = false := by
         simp only [decide_eq_false_iff_not]
         intro e'
         exact hxy (HT.out.1 (by rw [e']))
        have e1 : (x != y) = true := by simp [hxy]
        have HNE := Lib.hid hne
        clear hxy hne
        go_wp2_with fail
        go_quiet (fail)
        go_wp2
        go_ret
        exact ⟨ret_bool HNE.out.symm, hkp.drewN _⟩
    · obtain rfl : k = l.length := by omega
      have he : decide (l = m) = true := by
       rw [decide_eq_true_eq, ← List.take_length (l := l), hk, HL.out, List.take_length]
      have HE := Lib.hid he
      clear he hk
      go_wp2
      go_ret
      exact ⟨ret_bool HE.out.symm, hkp⟩
 · have h1 : ((l.length : Int) == m.length) = false := by simp; omega
   have h2 : ((l.length : Int) != m.length) = true := by simp; omega
   have he : decide (l = m) = false := by
    simp only [decide_eq_false_iff_not]; intro e; exact hl (by rw [e])
   rw [he]
   clear hl he
   go_enter Tryz.func72, Tryz.ntmps72
   go_wp2
   go_ret
   exact ⟨rfl, Kp.refl _ _⟩
theorem clone_some (x : Addr) (cap : Nat) (l : List Int) (w : World) (h : RdB w (some x) l) (hl : l.length ≤ 1000000000) :
 Calls Tryz.prog 74 #[.slice (some x) l.length cap] w fun e w' => ∃ v, e = .returned v ∧ OwnB w' v l ∧ (∀ g, v.ownBlock = some g → w.heap.size ≤ g) ∧ Kp (fun _ => False) w w' := by
 have hka := (Kp.refl (fun _ => False) w).alloc (.cells #[] 5)
 have hown : OwnB (w.alloc (.cells #[] 5)) (.slice (some ⟨w.heap.size, 0, none⟩) 0 0) [] :=
  ⟨⟨by simp, .inr ⟨w.heap.size, 0, [], rfl, At.new w [] 5, by simp, by simp, by simp⟩⟩, fun g hg => ⟨[], by simp [Value.ownBlock] at hg; subst hg; exact At.new w [] 5, by simp⟩, fun x hx => by simp at hx, by simp⟩
 obtain ⟨v', w', hr1, ho, hk, hat⟩ := run_append_b (P := Tryz.prog) (t := 32) (tx := 32) (ty := 32) (w.alloc (.cells #[] 5)) Tryz.underlying32 elem_u8 Tryz.underlying32 hown (a := some x) (c := cap) (m := l) (h.kp hka (fun _ _ h => h)) (by simpa using hl)
 rw [List.nil_append] at ho
 have Hr := Lib.hid hr1
 have hfin : Hid (OwnB w' v' l ∧ (∀ g, v'.ownBlock = some g → w.heap.size ≤ g) ∧ Kp (fun _ => False) w w') := ⟨ho, fun g hg => by
  rcases hat with e | e
  · rw [e] at hg; simp [Value.ownBlock] at hg; omega
  · rw [e] at hg; simp at hg; omega, hka.then hk (fun i hi e => by simp [Value.ownBlock] at e; omega)⟩
 clear hr1 ho hk hat hown hka h
 have hnil := Lib.run_eql_slice_nil (P := Tryz.prog) w
 go_enter Tryz.func74, Tryz.ntmps74
 go_wp2_with (at_builtin; refine wpList_append_run _ Hr.out rfl rfl rfl rfl ?_)
 go_ret
 exact ⟨_, rfl, hfin.out⟩
def tlen : List (List Int) → Nat
 | [] => 0
 | x :: r => x.length + tlen r
theorem tlen_flatten : ∀ l : List (List Int), l.flatten.length = tlen l
 | [] => rfl
 | x :: r => by rw [List.flatten_cons, List.length_append, tlen_flatten r, tlen]
theorem tlen_append (a b : List (List Int)) : tlen (a ++ b) = tlen a + tlen b := by
 induction a with
 | nil => simp [tlen]
 | cons x r ih => rw [List.cons_append, tlen, tlen, ih]; omega
theorem tlen_le (l : List (List Int)) (k : Nat) : tlen (l.take k) ≤ tlen l := by
 have := tlen_append (l.take k) (l.drop k)
 rw [List.take_append_drop] at this; omega
set_option maxHeartbeats 1000000 in
theorem concat_any (a : Option Addr) (c : Nat) (ls : List (List Int)) (w : World) (h : RdL w a ls) (hn : ls.length ≤ 1000000000) (hl : tlen ls ≤ 1000000000) :
 Calls Tryz.prog 81 #[.slice a ls.length c] w fun e w' => ∃ v, e = .returned v ∧ OwnB w' v ls.flatten ∧ (∀ g, v.ownBlock = some g → w.heap.size ≤ g) ∧ Kp (fun _ => False) w w' := by
 go_enter Tryz.func81, Tryz.ntmps81
 go_wp2_with fail
 go_loop [3, 11] (fun s i => ∃ k : Nat, k ≤ ls.length ∧ i = .int .i64 k ∧ s = .int .i64 ((tlen (ls.take k) : Nat) : Int)) (fun _ i => ls.length - (intOf i).toNat)
 case atStart => exact ⟨0, by omega, rfl, rfl⟩
 case round =>
  obtain ⟨k, hk, rfl, rfl⟩ := hrel
  have ht := tlen_le ls k
  by_cases hlt : k < ls.length
  · obtain ⟨b, off, ai, ci, rfl, q1, q2, q3⟩ := h k hlt
    have hs := take_snoc ls [] k hlt
    have ht1 := tlen_le ls (k + 1)
    have HS : Hid (tlen (ls.take (k + 1)) = tlen (ls.take k) + (ls.getD k []).length) := by
     show _ = _
     rw [hs, tlen_append, tlen, tlen]; omega
    rw [HS.out] at ht1
    have i1 : (k : Int) < ls.length := by omega
    clear hs
    generalize ls.getD k [] = x at *
    generalize tlen (ls.take k) = t at *
    go_wp2_with fail
    go_round
    case rel => exact ⟨k + 1, by omega, by go_num, by rw [HS.out]; go_num⟩
    case measure => simp [intOf]; omega
  · obtain rfl : k = ls.length := by omega
    rw [List.take_length] at *
    have C := Lib.hid (fun w => grow_nil (tlen ls) w hl)
    have HL := Lib.hid (tlen_flatten ls)
    have Hl := Lib.hid hl
    generalize htl : tlen ls = t at *
    clear htl hl ht
    go_wp2_with fail
    refine (C.out _).mono ?_
    rintro e w1 ⟨v, rfl, hv, hvg, hk1⟩
    have H1 := Lib.hid (And.intro hv (And.intro hvg hk1))
    clear hv hvg hk1 C
    go_wp2_with fail
    go_loopw [6, 27] (fun v i wr => ∃ k : Nat, k ≤ ls.length ∧ i = .int .i64 k ∧ OwnB wr v (ls.take k).flatten ∧ (∀ g, v.ownBlock = some g → w.heap.size ≤ g) ∧ Kp (fun _ => False) w wr) (fun _ i _ => ls.length - (intOf i).toNat)
    case atStart => exact ⟨0, by omega, rfl, by simpa using H1.out.1, H1.out.2.1, H1.out.2.2⟩
    case round =>
     clear H1
     obtain ⟨k, hk, rfl, hv, hvg, hkp⟩ := hrel
     by_cases hlt : k < ls.length
     · obtain ⟨b, off, ai, ci, rfl, q1, q2, q3⟩ := h.kp0 hkp (fun _ _ h => h) k hlt
       have hs := take_snoc ls [] k hlt
       have HS : Hid ((ls.take (k + 1)).flatten = (ls.take k).flatten ++ ls.getD k []) := by
        show _ = _
        rw [hs, List.flatten_append]; simp
       have hlen : (ls.take k).flatten.length + (ls.getD k []).length ≤ 1000000000 := by
        have e := congrArg List.length HS.out
        rw [tlen_flatten, List.length_append] at e
        have h2 := tlen_le ls (k + 1)
        have h3 := tlen_flatten ls
        have h4 := HL.out
        have h5 := Hl.out
        omega
       have i1 : (k : Int) < ls.length := by omega
       clear hs
       generalize ls.getD k [] = x at *
       generalize (ls.take k).flatten = t at *
       obtain ⟨v', w', hr1, ho, hk1, hat⟩ := run_append_b (P := Tryz.prog) (t := 32) (tx := 32) (ty := 32) wr Tryz.underlying32 elem_u8 Tryz.underlying32 hv (a := ai) (c := ci) (m := x) q2 hlen
       obtain ⟨va, vc, rfl, _, _⟩ := hv.form
       obtain ⟨va', vc', e', _, _⟩ := ho.form
       rw [List.length_append] at e'
       subst e'
       have Hr := Lib.hid hr1
       have hfin : Hid (OwnB w' (.slice va' (t.length + x.length) vc') (t ++ x) ∧ (∀ g, (Value.slice va' (t.length + x.length) vc').ownBlock = some g → w.heap.size ≤ g) ∧ Kp (fun _ => False) w w') :=
        ⟨ho, fun g hg => by
         rcases hat with e | e
         · rw [e] at hg; exact hvg g hg
         · rw [e] at hg; obtain rfl := Option.some.inj hg; exact hkp.size, hkp.then hk1 (fun i hi e => by have := hvg i e; omega)⟩
       clear hr1 ho hk1 hat hv hvg hkp hlen
       go_wp2_with (at_builtin; refine wpList_append_run _ Hr.out rfl rfl rfl rfl ?_)
       go_roundw
       case rel => exact ⟨k + 1, by omega, by go_num, by rw [HS.out]; exact hfin.out.1, hfin.out.2.1, hfin.out.2.2⟩
       case measure => simp [intOf]; omega
     · obtain rfl : k = ls.length := by omega
       rw [List.take_length] at *
       have HF := Lib.hid (And.intro hv (And.intro hvg hkp))
       clear hv hvg hkp
       go_wp2_with fail
       go_ret
       exact ⟨_, rfl, HF.out⟩
end Go.Proofs.YtokembhfebnjpaaGreat
