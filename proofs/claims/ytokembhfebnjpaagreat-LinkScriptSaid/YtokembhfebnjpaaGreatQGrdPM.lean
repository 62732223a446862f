/- Package guard: Put, Check. -/
import Derived.Test.YtokembhfebnjpaaGreatQSlc
import Derived.Test.YtokembhfebnjpaaGreatQGrdS
namespace Go.Proofs.YtokembhfebnjpaaGreat
set_option maxRecDepth 20000
open Go.RowKit
set_option linter.unusedVariables false
theorem four_cells (s : Nat) (h : s < M32) : [Value.int .u8 ((s : Int) % 256), .int .u8 ((s : Int) / 256 % 256), .int .u8 ((s : Int) / 65536 % 256), .int .u8 ((s : Int) / 16777216)] = (four s).map (Value.int .u8) := by
 unfold M32 at h
 simp only [four, List.map_cons, List.map_nil, List.cons.injEq, Value.int.injEq, true_and, and_true]
 omega
theorem rdb_new (w : World) (l : List Int) (hl : Byt l) (hlen : l.length ≤ 4611686018427387904) (T : TypeId) (m : Nat × Nat) : RdB (w.alloc (.cells (l.map (Value.int .u8)).toArray T m)) (some ⟨w.heap.size, 0, none⟩) l :=
 ⟨fun i hi => ⟨_, _, rfl, by
  have e := heap_alloc_new w (.cells (l.map (Value.int .u8)).toArray T m)
  simp only [World.cell?]
  rw [e]
  simp [List.getD_eq_getElem?_getD, hi]⟩, hl, hlen⟩
theorem rdl_pair (w : World) (a : Option Addr) (cap : Nat) (l m : List Int) (h : RdB w a l) (hcap : l.length ≤ cap) (hm : Byt m) (hml : m.length ≤ 1000000000) (T T' : TypeId) :
 RdL ((w.alloc (.cells (m.map (Value.int .u8)).toArray T)).alloc (.cells #[.slice a l.length cap, .slice (some ⟨w.heap.size, 0, none⟩) m.length m.length] T')) (some ⟨w.heap.size + 1, 0, none⟩) [l, m] := by
 have h1 := rdb_new w m hm (by omega) T (0, 0)
 have hk := (Kp.refl (fun _ => False) w).alloc (.cells (m.map (Value.int .u8)).toArray T)
 have hk2 := (Kp.refl (fun _ => False) (w.alloc (.cells (m.map (Value.int .u8)).toArray T))).alloc (.cells #[.slice a l.length cap, .slice (some ⟨w.heap.size, 0, none⟩) m.length m.length] T')
 have ha := At.new (w.alloc (.cells (m.map (Value.int .u8)).toArray T)) [.slice a l.length cap, .slice (some ⟨w.heap.size, 0, none⟩) m.length m.length] T'
 have hs : (w.alloc (.cells (m.map (Value.int .u8)).toArray T)).heap.size = w.heap.size + 1 := by simp
 rw [hs] at ha
 intro i hi
 match i, hi with
 | 0, _ => exact ⟨w.heap.size + 1, 0, a, cap, rfl, by rw [ha.cell]; rfl, (h.kp hk (fun _ _ h => h)).kp hk2 (fun _ _ h => h), hcap⟩
 | 1, _ => exact ⟨w.heap.size + 1, 0, some ⟨w.heap.size, 0, none⟩, m.length, rfl, by rw [ha.cell]; rfl, h1.kp hk2 (fun _ _ h => h), Nat.le_refl _⟩
theorem put_any (a : Option Addr) (cap : Nat) (l : List Int) (w : World) (h : RdB w a l) (hl : l.length ≤ 100000000) (hcap : l.length ≤ cap) :
 Calls Tryz.prog 73 #[.slice a l.length cap] w fun e w' => ∃ v, e = .returned v ∧ OwnB w' v (put4 l) ∧ (∀ g, v.ownBlock = some g → w.heap.size ≤ g) ∧ Kp (fun _ => False) w w' := by
 have C := Lib.hid (sum_any a cap l w h (by omega))
 have hs := more_lt 0 l
 have HP := Lib.hid (show put4 l = l ++ four (sum4 l) from rfl)
 rw [show more 0 l = sum4 l from rfl] at hs
 generalize sum4 l = s at *
 have s0 : (0 : Int) ≤ (s : Int) := by omega
 have s1 : (s : Int) < 4294967296 := by unfold M32 at hs; omega
 have HS := Lib.hid hs
 clear hs
 go_enter Tryz.func73, Tryz.ntmps73
 go_wp2_with fail
 refine C.out.mono ?_
 rintro e w1 ⟨rfl, hk1⟩
 have H1 := Lib.hid hk1
 clear hk1
 have hrl := rdl_pair w1 a cap l (four s) (h.kp0 H1.out (fun _ _ h => h)) hcap (byt_four s) (by simp [four]) 5 32
 have e4 : (four s).length = 4 := rfl
 rw [← four_cells s HS.out, e4] at hrl
 have C2 := Lib.hid (concat_any (some ⟨w1.heap.size + 1, 0, none⟩) 2 [l, four s] _ hrl (by simp) (by simp [tlen, four]; omega))
 clear hrl
 go_wp2_with fail
 refine C2.out.mono ?_
 rintro e w2 ⟨v, rfl, hv, hvg, hk2⟩
 have hfin : Hid (OwnB w2 v (put4 l) ∧ (∀ g, v.ownBlock = some g → w.heap.size ≤ g) ∧ Kp (fun _ => False) w w2) :=
  ⟨by rw [HP.out]; simpa using hv, fun g hg => by have := hvg g hg; have := H1.out.size; simp at *; omega, ((H1.out.alloc _).alloc _).trans hk2⟩
 clear hv hvg hk2 C C2
 go_wp2_with fail
 go_ret
 exact ⟨_, rfl, hfin.out⟩
theorem check_short (a : Option Addr) (cap : Nat) (l : List Int) (w : World) (hl : l.length < 4) :
 Calls Tryz.prog 58 #[.slice a l.length cap] w fun e w' => e = .returned (.tuple #[.slice none 0 0, .int .i64 4]) ∧ w = w' := by
 have h1 : (l.length : Int) - 4 < 0 := by omega
 go_enter Tryz.func58, Tryz.ntmps58
 go_wp2
 go_ret2
 exact ⟨rfl, rfl⟩
theorem RdB.pre {w : World} {a : Option Addr} {l : List Int} (h : RdB w a l) (k : Nat) : RdB w a (l.take k) :=
 ⟨fun i hi => by
  have hi' : i < k ∧ i < l.length := by simp at hi; omega
  obtain ⟨b, off, ha, hc⟩ := h.cell i hi'.2
  exact ⟨b, off, ha, by rw [hc]; simp [List.getD_eq_getElem?_getD, hi'.1]⟩, h.bd.take k, by have := h.len; simp; omega⟩
theorem check_any (a : Option Addr) (cap : Nat) (l : List Int) (w : World) (h : RdB w a l) (hl : l.length ≤ 100000000) (hcap : l.length ≤ cap) (hcm : cap ≤ maxLen) (h4 : 4 ≤ l.length) :
 Calls Tryz.prog 58 #[.slice a l.length cap] w fun e w' => ∃ v k, e = .returned (.tuple #[v, .int .i64 k]) ∧ Kp (fun _ => False) w w' ∧ (∀ g, v.ownBlock = some g → w.heap.size ≤ g) ∧
  ((ok4 l = true ∧ k = 0 ∧ OwnB w' v (l.take (l.length - 4))) ∨ (ok4 l = false ∧ k = 4 ∧ v = .slice none 0 0)) := by
 obtain ⟨m, hm⟩ : ∃ m, m = l.length - 4 := ⟨_, rfl⟩
 rw [← hm]
 have hml : (l.take m).length = m := by simp; omega
 have hpre := h.pre m
 have hok : ok4 l = decide (put4 (l.take m) = l) := by unfold ok4; rw [← hm]; simp [h4]
 rw [hok]
 have C1 := put_any a cap (l.take m) w hpre (by omega) (by omega)
 rw [hml] at C1
 obtain ⟨b, off, rfl, _⟩ := h.cell 0 (by omega)
 have C3 := fun w' (hk : Kp (fun _ => False) w w') => clone_some ⟨b, off, none⟩ cap (l.take m) w' (hpre.kp0 hk (fun _ _ h => h)) (by omega)
 rw [hml] at C3
 have C1' := Lib.hid C1
 have C3' := Lib.hid C3
 have e1 : IntKind.i64.wrap ((l.length : Int) - 4) = (m : Int) := (IntWalk.i64_in _ (by omega)).trans (by omega)
 have e2 : (l.length : Int) - 4 = (m : Int) := by omega
 have i1 : (m : Int) ≤ cap := by omega
 have hb := h
 have HL := Lib.hid (And.intro hl hm)
 have HE := Lib.hid e2
 clear C1 C3 hpre hok e2 hm
 go_enter Tryz.func58, Tryz.ntmps58
 go_wp2_with fail
 refine C1'.out.mono ?_
 rintro e w1 ⟨v, rfl, hv, hvg, hk1⟩
 obtain ⟨va, vc, rfl, hvr, hvc⟩ := hv.form
 have C2 := equal_any va (some ⟨b, off, none⟩) vc cap (put4 (l.take m)) l w1 hvr (h.kp0 hk1 (fun _ _ h => h))
 have hpl : (put4 (l.take m)).length = m + 4 := by rw [put4_len, hml]
 rw [hpl] at C2
 have H1 := Lib.hid (And.intro hv (And.intro hvg hk1))
 by_cases hq : put4 (l.take m) = l
 · have C2' := Lib.hid C2
   have hd : decide (put4 (l.take m) = l) = true := by simpa using hq
   rw [hd] at C2'
   have HD := Lib.hid hd
   clear C2 hd hq hv hvg hk1 hvr hvc
   rw [hpl]
   clear hpl
   go_wp2_with fail
   refine C2'.out.mono ?_
   rintro e w2 ⟨rfl, hk2⟩
   have HK2 := Lib.hid (H1.out.2.2.trans hk2)
   clear hk2 C2'
   have C3 := Lib.hid (C3'.out _ HK2.out)
   go_wp2_with fail
   refine C3.out.mono ?_
   rintro e w3 ⟨v3, rfl, hv3, hvg3, hk3⟩
   have HF : Hid (Kp (fun _ => False) w w3 ∧ (∀ g, v3.ownBlock = some g → w.heap.size ≤ g) ∧ OwnB w3 v3 (l.take m)) := ⟨HK2.out.trans hk3, fun g hg => Nat.le_trans HK2.out.size (hvg3 g hg), hv3⟩
   clear hv3 hvg3 hk3 C3
   go_wp2_with fail
   go_ret2
   exact ⟨v3, 0, rfl, HF.out.1, HF.out.2.1, .inl ⟨HD.out, rfl, HF.out.2.2⟩⟩
 · have C2' := Lib.hid C2
   have hd : decide (put4 (l.take m) = l) = false := by simpa using hq
   rw [hd] at C2'
   have HD := Lib.hid hd
   clear C2 hd hq hv hvg hk1 hvr hvc
   rw [hpl]
   clear hpl
   go_wp2_with fail
   refine C2'.out.mono ?_
   rintro e w2 ⟨rfl, hk2⟩
   have HK2 := Lib.hid (H1.out.2.2.trans hk2)
   clear hk2 C2'
   go_wp2_with fail
   go_ret2
   exact ⟨_, 4, rfl, HK2.out, fun g hg => by simp [Value.ownBlock] at hg, .inr ⟨HD.out, rfl, rfl⟩⟩
def chk (l : List Int) : List Int := if ok4 l then l.take (l.length - 4) else []
def ck (l : List Int) : Int := if ok4 l then 0 else 4
theorem ok4_short {l : List Int} (h : l.length < 4) : ok4 l = false := by
 unfold ok4; simp; omega
theorem gcheck (a : Option Addr) (cap : Nat) (l : List Int) (w : World) (h : RdB w a l) (hl : l.length ≤ 100000000) (hcap : l.length ≤ cap) (hcm : cap ≤ maxLen) :
 Calls Tryz.prog 58 #[.slice a l.length cap] w fun e w' => ∃ v, e = .returned (.tuple #[v, .int .i64 (ck l)]) ∧ OwnB w' v (chk l) ∧ (∀ g, v.ownBlock = some g → w.heap.size ≤ g) ∧ Kp (fun _ => False) w w' := by
 by_cases h4 : 4 ≤ l.length
 · refine (check_any a cap l w h hl hcap hcm h4).mono ?_
   rintro e w' ⟨v, k, rfl, hk, hg, ⟨h1, rfl, h2⟩ | ⟨h1, rfl, rfl⟩⟩
   · exact ⟨v, by rw [ck, h1]; rfl, by rw [chk, h1]; exact h2, hg, hk⟩
   · exact ⟨_, by rw [ck, h1]; rfl, by rw [chk, h1]; exact OwnB.nil w', hg, hk⟩
 · have h1 := ok4_short (l := l) (by omega)
   refine (check_short a cap l w (by omega)).mono ?_
   rintro e w' ⟨rfl, rfl⟩
   exact ⟨_, by rw [ck, h1]; rfl, by rw [chk, h1]; exact OwnB.nil w, fun g hg => by simp [Value.ownBlock] at hg, Kp.refl _ _⟩
end Go.Proofs.YtokembhfebnjpaaGreat
