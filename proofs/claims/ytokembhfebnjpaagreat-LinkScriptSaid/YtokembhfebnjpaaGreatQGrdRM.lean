/- The document's guard (satchelref04): Sum, Put, Check. -/
import Derived.Test.YtokembhfebnjpaaGreatQKt0M
import Derived.Test.YtokembhfebnjpaaGreatQGrdPM
import Derived.Deep.RegionWith
namespace Go.Proofs.YtokembhfebnjpaaGreat
set_option maxRecDepth 20000
open Go.RowKit
set_option linter.unusedVariables false
theorem u32_bitodd (x : Nat) (h : x < M32) : bits .xor .u32 ((x : Int) / 2) 3988292384 = ((x / 2 ^^^ P32 : Nat) : Int) :=
 u32_xor_nat (x / 2) P32 (by unfold M32 at h; omega) (by decide)
set_option maxRecDepth 100000 in
theorem rsum_any (a : Option Addr) (cap : Nat) (l : List Int) (w : World) (h : RdB w a l) (hl : l.length ≤ 1000000000) :
 Calls Tryz.prog 53 #[.slice a l.length cap] w fun e w' => e = .returned (.int .u32 ((sum4 l : Nat) : Int)) ∧ w = w' := by
 have HM := Lib.hid (show neg (reg 4294967295 l) = sum4 l from rfl)
 go_enter Tryz.func53, Tryz.ntmps53
 go_wp2_with fail
 go_loop [3, 4] (fun n i => ∃ k : Nat, k ≤ l.length ∧ i = .int .i64 k ∧ n = .int .u32 ((reg 4294967295 (l.take k) : Nat) : Int)) (fun _ i => l.length - (intOf i).toNat)
 case atStart => exact ⟨0, by omega, rfl, rfl⟩
 case round =>
  obtain ⟨k, hk, rfl, rfl⟩ := hrel
  have hx : reg 4294967295 (l.take k) < M32 := reg_lt (h.bd.take k) (by decide)
  by_cases hlt : k < l.length
  · obtain ⟨b, off, rfl, hcell⟩ := h.cell k hlt
    have hb := h.bd.getD k
    have HN : Hid (reg 4294967295 (l.take (k + 1)) = byt (reg 4294967295 (l.take k)) (l.getD k 0).toNat) := by
     show _ = _
     rw [take_snoc l 0 k hlt, reg_snoc]
    generalize l.getD k 0 = c at *
    obtain ⟨c, rfl⟩ := Int.eq_ofNat_of_zero_le hb.1
    generalize reg 4294967295 (l.take k) = x at *
    rw [Int.toNat_natCast] at HN
    have i1 : (k : Int) < l.length := by omega
    have hc8 : c < 256 := by omega
    go_wp2_with fail
    go_loop [3, 5] (fun n j => ∃ m : Nat, m ≤ 8 ∧ j = .int .i64 m ∧ n = .int .u32 ((bits8 c m x : Nat) : Int)) (fun _ j => 8 - (intOf j).toNat)
    case atStart => exact ⟨0, by omega, rfl, rfl⟩
    case round =>
     obtain ⟨m, hm, rfl, rfl⟩ := hrel
     have hz : bits8 c m x < M32 := bits8_lt c x hx m
     by_cases hm8 : m < 8
     · have HB := Lib.hid (show bits8 c (m + 1) x = (bits8 c m x) / 2 ^^^ (if (bits8 c m x) % 2 = (c / 2 ^ m) % 2 then 0 else P32) from rfl)
       generalize bits8 c m x = z at *
       have i2 : (m : Int) < 8 := by omega
       have z0 : (0 : Int) ≤ (z : Int) := by omega
       have z1 : (z : Int) < 4294967296 := by unfold M32 at hz; omega
       obtain ⟨d, hd⟩ : ∃ d, d = c / 2 ^ m := ⟨_, rfl⟩
       have ed : (c : Int) / 2 ^ m = (d : Int) := by rw [hd]; simp
       have hd8 : d ≤ c := by rw [hd]; exact Nat.div_le_self _ _
       rw [← hd] at HB
       have d0 : (0 : Int) ≤ (d : Int) := by omega
       have d1 : (d : Int) ≤ 255 := by omega
       clear hd hd8 hx
       by_cases hq : z % 2 = d % 2
       · have e1 : ((z : Int) % 2 != (d : Int) % 2) = false := by simp; omega
         rw [if_pos hq, Nat.xor_zero] at HB
         clear hq hz hc8
         have HB' : Hid (((bits8 c (m + 1) x : Nat) : Int) = (z : Int) / 2) := by show _ = _; rw [HB.out]; rfl
         go_wp2_with fail
         exact ⟨⟨m + 1, by omega, by go_num, by rw [HB'.out]⟩, by simp [intOf]; omega⟩
       · have e1 : ((z : Int) % 2 != (d : Int) % 2) = true := by simp; omega
         rw [if_neg hq] at HB
         have e2 := u32_bitodd z hz
         rw [← HB.out] at e2
         clear hq hz hc8
         go_wp2_with fail
         exact ⟨⟨m + 1, by omega, by go_num, rfl⟩, by simp [intOf]; omega⟩
     · obtain rfl : m = 8 := by omega
       have HB := Lib.hid (bits8_byt c x hc8)
       rw [HB.out]
       rw [← HN.out]
       clear hz hx hc8
       go_wp2_with fail
       exact ⟨⟨k + 1, by omega, by go_num, rfl⟩, by simp [intOf]; omega⟩
  · obtain rfl : k = l.length := by omega
    rw [List.take_length] at *
    have e := u32_not _ hx
    rw [HM.out] at e
    generalize reg 4294967295 l = x at *
    clear hx
    go_wp2_with fail
    go_ret
    exact ⟨rfl, rfl⟩
theorem ownb_new (w : World) : OwnB (w.alloc (.cells #[] 5)) (.slice (some ⟨w.heap.size, 0, none⟩) 0 0) [] :=
 ⟨⟨by simp, .inr ⟨w.heap.size, 0, [], rfl, At.new w [] 5, by simp, by simp, by simp⟩⟩, fun g hg => ⟨[], by simp [Value.ownBlock] at hg; subst hg; exact At.new w [] 5, by simp⟩, fun x hx => by simp at hx, by simp⟩
theorem rput_any (a : Option Addr) (cap : Nat) (l : List Int) (w : World) (h : RdB w a l) (hl : l.length ≤ 100000000) :
 Calls Tryz.prog 41 #[.slice a l.length cap] w fun e w' => ∃ v, e = .returned v ∧ OwnB w' v (put4 l) ∧ (∀ g, v.ownBlock = some g → w.heap.size ≤ g) ∧ Kp (fun _ => False) w w' := by
 have C := Lib.hid (rsum_any a cap l w h (by omega))
 have hs := more_lt 0 l
 have HP := Lib.hid (show put4 l = l ++ four (sum4 l) from rfl)
 rw [show more 0 l = sum4 l from rfl] at hs
 generalize sum4 l = s at *
 have s0 : (0 : Int) ≤ (s : Int) := by omega
 have s1 : (s : Int) < 4294967296 := by unfold M32 at hs; omega
 have hka := (Kp.refl (fun _ => False) w).alloc (.cells #[] 5)
 obtain ⟨v1, w1, hr1, ho1, hk1, hat1⟩ := run_append_b (P := Tryz.prog) (t := 32) (tx := 32) (ty := 32) (w.alloc (.cells #[] 5)) Tryz.underlying32 elem_u8 Tryz.underlying32 (ownb_new w) (a := a) (c := cap) (m := l) (h.kp hka (fun _ _ h => h)) (by simp; omega)
 rw [List.nil_append] at ho1
 have hv1 : ∀ g, v1.ownBlock = some g → w.heap.size ≤ g := fun g hg => by
  rcases hat1 with e | e
  · rw [e] at hg; simp [Value.ownBlock] at hg; omega
  · rw [e] at hg; simp at hg; omega
 have hk01 : Kp (fun _ => False) w w1 := hka.then hk1 (fun i hi e => by simp [Value.ownBlock] at e; omega)
 have hkb := (Kp.refl (fun _ => False) w1).alloc (.cells ((four s).map (Value.int .u8)).toArray 5)
 obtain ⟨v2, w2, hr2, ho2, hk2, hat2⟩ := run_append_b (P := Tryz.prog) (t := 32) (tx := 32) (ty := 32) (w1.alloc (.cells ((four s).map (Value.int .u8)).toArray 5)) Tryz.underlying32 elem_u8 Tryz.underlying32 (ho1.kp hkb (fun _ _ h => h)) (a := some ⟨w1.heap.size, 0, none⟩) (c := 4) (m := four s) (rdb_new w1 (four s) (byt_four s) (by simp [four]) 5 (0, 0)) (by simp [four]; omega)
 obtain ⟨v1a, v1c, rfl, _, _⟩ := ho1.form
 have hfin : Hid (OwnB w2 v2 (put4 l) ∧ (∀ g, v2.ownBlock = some g → w.heap.size ≤ g) ∧ Kp (fun _ => False) w w2) := ⟨by rw [HP.out]; exact ho2, fun g hg => by
  rcases hat2 with e | e
  · rw [e] at hg; exact hv1 g hg
  · rw [e] at hg; have := hk01.size; simp at hg; omega, hk01.then ((hkb.mono (S' := fun k => (Value.slice v1a l.length v1c).ownBlock = some k) (fun _ _ h => h.elim)).then hk2 (fun _ _ e => e)) (fun i hi e => by have := hv1 i e; omega)⟩
 have e4 : (four s).length = 4 := rfl
 rw [← four_cells s hs, e4] at hr2
 have Hr1 := Lib.hid hr1
 have Hr2 := Lib.hid hr2
 clear hr1 hr2 hs ho1 ho2 hk1 hk2 hat1 hat2 hv1 hk01 hkb hka e4 h
 go_enter Tryz.func41, Tryz.ntmps41
 go_wp2_with fail
 refine C.out.mono ?_
 rintro e w' ⟨rfl, rfl⟩
 have tok1 : True := trivial
 go_wp2_with (first | (at_builtin; have _t := tok1; refine wpList_append_run _ Hr1.out rfl rfl rfl rfl ?_; clear tok1) | (at_builtin; refine wpList_append_run _ Hr2.out rfl rfl rfl rfl ?_))
 go_ret
 exact ⟨_, rfl, hfin.out⟩
theorem rcheck_short (a : Option Addr) (cap : Nat) (l : List Int) (w : World) (hl : l.length < 4) :
 Calls Tryz.prog 62 #[.slice a l.length cap] w fun e w' => e = .returned (.tuple #[.slice none 0 0, .int .i64 4]) ∧ w = w' := by
 have h1 : (l.length : Int) < 4 := by omega
 go_enter Tryz.func62, Tryz.ntmps62
 go_wp2
 go_ret2
 exact ⟨rfl, rfl⟩
theorem rcheck_any (a : Option Addr) (cap : Nat) (l : List Int) (w : World) (h : RdB w a l) (hl : l.length ≤ 100000000) (hcap : l.length ≤ cap) (hcm : cap ≤ maxLen) (h4 : 4 ≤ l.length) :
 Calls Tryz.prog 62 #[.slice a l.length cap] w fun e w' => ∃ v k, e = .returned (.tuple #[v, .int .i64 k]) ∧ Kp (fun _ => False) w w' ∧ (∀ g, v.ownBlock = some g → w.heap.size ≤ g) ∧
  ((ok4 l = true ∧ k = 0 ∧ OwnB w' v (l.take (l.length - 4))) ∨ (ok4 l = false ∧ k = 4 ∧ v = .slice none 0 0)) := by
 obtain ⟨m, hm⟩ : ∃ m, m = l.length - 4 := ⟨_, rfl⟩
 rw [← hm]
 have hml : (l.take m).length = m := by simp; omega
 have hpre := h.pre m
 have hok : ok4 l = decide (put4 (l.take m) = l) := by unfold ok4; rw [← hm]; simp [h4]
 rw [hok]
 have hka := (Kp.refl (fun _ => False) w).alloc (.cells #[] 5)
 obtain ⟨v1, w1, hr1, ho1, hk1, hat1⟩ := run_append_b (P := Tryz.prog) (t := 32) (tx := 32) (ty := 32) (w.alloc (.cells #[] 5)) Tryz.underlying32 elem_u8 Tryz.underlying32 (ownb_new w) (a := a) (c := cap) (m := l.take m) (hpre.kp hka (fun _ _ h => h)) (by simp; omega)
 rw [List.nil_append] at ho1
 rw [hml] at hr1
 have hv1 : ∀ g, v1.ownBlock = some g → w.heap.size ≤ g := fun g hg => by
  rcases hat1 with e | e
  · rw [e] at hg; simp [Value.ownBlock] at hg; omega
  · rw [e] at hg; simp at hg; omega
 have hk01 : Kp (fun _ => False) w w1 := hka.then hk1 (fun i hi e => by simp [Value.ownBlock] at e; omega)
 obtain ⟨v1a, v1c, e, hvr, hvc⟩ := ho1.form
 rw [hml] at e
 subst e
 have hd1 := (Kp.refl (fun _ => False) w1).drew
 have C := rput_any v1a v1c (l.take m) w1.drew (hvr.kp hd1 (fun _ _ h => h)) (by omega)
 rw [hml] at C
 have C' := Lib.hid C
 obtain ⟨b, off, rfl, _⟩ := h.cell 0 (by omega)
 have e0 := fun w' (hk : Kp (fun _ => False) w w') => run_bytes_str (P := Tryz.prog) (src := 32) (dst := 9) w' Tryz.underlying32 Tryz.underlying5 Tryz.underlying9 (h.kp0 hk (fun _ _ h => h)) cap
 have E0 := Lib.hid e0
 have Hr1 := Lib.hid hr1
 have H1 := Lib.hid (And.intro ho1 (And.intro hv1 hk01))
 have e1 : IntKind.i64.wrap ((l.length : Int) - 4) = (m : Int) := (IntWalk.i64_in _ (by omega)).trans (by omega)
 have i1 : (m : Int) ≤ cap := by omega
 have i4 : ¬ (l.length : Int) < 4 := by omega
 have hpl := Lib.hid (show (put4 (l.take m)).length = m + 4 by rw [put4_len, hml])
 have hpb := Lib.hid (byt_put4 (h.bd.take m))
 have hbd := Lib.hid h.bd
 clear hm hpre hok hr1 ho1 hv1 hk01 hk1 hat1 hka C e0 hvr hd1
 go_enter Tryz.func62, Tryz.ntmps62
 go_wp2_with (at_builtin; refine wpList_append_run _ Hr1.out rfl rfl rfl rfl ?_)
 have q0 := E0.out w1 H1.out.2.2
 have q1 := E0.out w1.drew H1.out.2.2.drew
 go_region_with ((go_at_call 41; refine C'.out.mono ?_; rintro e w2 ⟨v2, rfl, hv2, hvg2, kq⟩; obtain ⟨v2a, v2c, e', hvr2, _⟩ := hv2.form; have hcv := run_bytes_str (P := Tryz.prog) (src := 32) (dst := 9) w2 Tryz.underlying32 Tryz.underlying5 Tryz.underlying9 hvr2 v2c; rw [hpl.out] at e' hcv; subst e'; have q2 := E0.out w2 (H1.out.2.2.drew.trans kq)))
 all_goals clear q0 q1 q2
 all_goals
  have hk12 : Kp (fun _ => False) w1 w2 := ((Kp.refl _ w1).drew).trans kq
  have HF : Hid (Kp (fun _ => False) w w2 ∧ (∀ g, (Value.slice v1a m v1c).ownBlock = some g → w.heap.size ≤ g) ∧ OwnB w2 (.slice v1a m v1c) (l.take m)) := ⟨H1.out.2.2.trans hk12, H1.out.2.1, H1.out.1.kp hk12 (fun _ _ h => h)⟩
  have hsb := same_beq hpb.out hbd.out
  clear hv2 hvg2 kq hcv hvr2 hk12 hvc hml
  by_cases hq : put4 (l.take m) = l
  · have hd : decide (put4 (l.take m) = l) = true := by simpa using hq
    rw [hd] at hsb
    rw [hsb]
    have HD := Lib.hid hd
    clear hq hd hpl hsb
    go_wp2_with fail
    go_ret2
    exact ⟨_, 0, rfl, HF.out.1, HF.out.2.1, .inl ⟨HD.out, rfl, HF.out.2.2⟩⟩
  · have hd : decide (put4 (l.take m) = l) = false := by simpa using hq
    rw [hd] at hsb
    rw [hsb]
    have HD := Lib.hid hd
    clear hq hd hpl hsb
    go_wp2_with fail
    go_ret2
    exact ⟨_, 4, rfl, HF.out.1, fun g hg => by simp [Value.ownBlock] at hg, .inr ⟨HD.out, rfl, rfl⟩⟩
theorem rcheck (a : Option Addr) (cap : Nat) (l : List Int) (w : World) (h : RdB w a l) (hl : l.length ≤ 100000000) (hcap : l.length ≤ cap) (hcm : cap ≤ maxLen) :
 Calls Tryz.prog 62 #[.slice a l.length cap] w fun e w' => ∃ v, e = .returned (.tuple #[v, .int .i64 (ck l)]) ∧ OwnB w' v (chk l) ∧ (∀ g, v.ownBlock = some g → w.heap.size ≤ g) ∧ Kp (fun _ => False) w w' := by
 by_cases h4 : 4 ≤ l.length
 · refine (rcheck_any a cap l w h hl hcap hcm h4).mono ?_
   rintro e w' ⟨v, k, rfl, hk, hg, ⟨h1, rfl, h2⟩ | ⟨h1, rfl, rfl⟩⟩
   · exact ⟨v, by rw [ck, h1]; rfl, by rw [chk, h1]; exact h2, hg, hk⟩
   · exact ⟨_, by rw [ck, h1]; rfl, by rw [chk, h1]; exact OwnB.nil w', hg, hk⟩
 · have h1 := ok4_short (l := l) (by omega)
   refine (rcheck_short a cap l w (by omega)).mono ?_
   rintro e w' ⟨rfl, rfl⟩
   exact ⟨_, by rw [ck, h1]; rfl, by rw [chk, h1]; exact OwnB.nil w, fun g hg => by simp [Value.ownBlock] at hg, Kp.refl _ _⟩
end Go.Proofs.YtokembhfebnjpaaGreat
