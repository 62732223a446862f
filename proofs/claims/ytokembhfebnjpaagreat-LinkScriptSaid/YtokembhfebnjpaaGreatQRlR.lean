/- The document's link: reset. -/
import Derived.Test.YtokembhfebnjpaaGreatQLnXM
namespace Go.Proofs.YtokembhfebnjpaaGreat
set_option maxRecDepth 20000
open Go.RowKit Flt
set_option linter.unusedVariables false
set_option linter.unusedSimpArgs false
theorem one_ints (l : List Nat) : ∀ u ∈ intsV l, u.oneCell' = true := fun u hu => by
 simp only [intsV, List.mem_map] at hu
 obtain ⟨k, _, rfl⟩ := hu
 rfl
theorem first_at {l : List Nat} {s : Nat} (h : s ∈ l) : ∃ m, m < l.length ∧ l.getD m 0 = s ∧ ∀ j, j < m → l.getD j 0 ≠ s := by
 induction l with
 | nil => cases h
 | cons x l ih =>
  by_cases e : x = s
  · exact ⟨0, by simp, e, fun j hj => absurd hj (Nat.not_lt_zero _)⟩
  · have h' : s ∈ l := by rcases List.mem_cons.1 h with h | h; exact absurd h.symm e; exact h
    obtain ⟨m, h1, h2, h3⟩ := ih h'
    refine ⟨m + 1, by simp; omega, h2, fun j hj => ?_⟩
    match j with
    | 0 => exact e
    | j + 1 => exact h3 j (by omega)
section
variable {W : World} {r : Nat} {t : Tk} {e : Dl}
set_option maxHeartbeats 2000000 in
theorem rlreset_any (h : RlC W r t e) (s : Nat) :
 Calls Tryz.prog 70 #[.pointer (some ⟨r, 0, none⟩), .int .i64 (s : Nat)] W fun e1 w' => e1 = .returned (.tuple #[]) ∧ ∃ rv', RlC w' r t { e with rv := rv', rs := refL e.rs s } ∧ (∀ g, rv'.ownBlock = some g → e.rv.ownBlock = some g ∨ W.heap.size ≤ g) ∧ Kp (· = r) W w' := by
 obtain ⟨ra, rc, hrv, hrc, _⟩ := h.res.form
 have c9 : W.cell? ⟨r, 9, none⟩ = some e.rv := h.hat.cell 9
 have f9 := h.hat.frozen 9
 have hlen := h.rl
 have hrd : Rd W ra (intsV e.rs) := by have := h.res; rw [hrv] at this; exact this.rd
 rw [hrv] at c9
 obtain ⟨n, hn⟩ : ∃ n, n = e.rs.length := ⟨_, rfl⟩
 rw [← hn] at c9 hlen hrv
 have H := Lib.hid (And.intro h (And.intro hrv hn))
 have hkl' := Lib.hid (fun (k : Nat) (hk : k < n) => show k < e.rs.length by omega)
 by_cases hm : s ∈ e.rs
 · have hR : refL e.rs s = e.rs := by unfold refL; rw [if_neg (fun e => e.1 hm)]
   rw [hR]
   obtain ⟨m, hm1, hm2, hm3⟩ := first_at hm
   have HM := Lib.hid (And.intro hm2 hm3)
   have hmn : m < n := by omega
   have HRD := Lib.hid hrd
   clear h hrv hm hR hm2 hm3 hrd hm1 hn
   go_enter Tryz.func70, Tryz.ntmps70
   go_wp2_with fail
   go_loop [4] (fun i => ∃ k : Nat, k ≤ m ∧ i = .int .i64 k) (fun i => n - (intOf i).toNat)
   case atStart => exact ⟨0, by omega, rfl⟩
   case round =>
    obtain ⟨k, hk, rfl⟩ := hrel
    have hlt : k < n := by omega
    have i1 : (k : Int) < n := by omega
    have hkl : k < e.rs.length := hkl'.out k hlt
    have hsum : IntKind.i64.wrap ((k : Int) + 1) = ((k + 1 : Nat) : Int) := by rw [IntWalk.i64_in _ (by omega)]; omega
    obtain ⟨b, off, rfl, hcell⟩ := HRD.out k (by rw [show (intsV e.rs).length = e.rs.length by simp [intsV]]; exact hkl)
    rw [List.getD_eq_getElem?_getD, intsV_at hkl, Option.getD_some] at hcell
    have HCE := Lib.hid (show ((e.rs.getD k 0 : Nat) : Int) = (e.rs.getD k 0 : Nat) from rfl)
    by_cases hlm : k = m
    · have hne : (((e.rs.getD k 0 : Nat) : Int) == (s : Int)) = true := by rw [hlm, HM.out.1]; simp
      clear hlm
      generalize ((e.rs.getD k 0 : Nat) : Int) = x at *
      clear HCE
      go_wp2
      first | go_end0 | (simp only [Exit.inBlock, Exit.then]; refine bodyPost_ret (results_none rfl _ _ _) rfl ?_) | refine bodyPost_ret (results_none rfl _ _ _) rfl ?_
      exact ⟨rfl, e.rv, H.out.1, fun g hg => .inl hg, Kp.refl _ _⟩
    · have hne : (((e.rs.getD k 0 : Nat) : Int) == (s : Int)) = false := by
       have := HM.out.2 k (by omega)
       simp only [beq_eq_false_iff_ne]; omega
      generalize ((e.rs.getD k 0 : Nat) : Int) = x at *
      clear HCE
      go_wp2
      go_round
      case rel => exact ⟨k + 1, by omega, by go_num⟩
      case measure => simp [intOf]; omega
 · have HM := Lib.hid hm
   have HRD := Lib.hid hrd
   by_cases hf : n < 8
   · have j1 : (n : Int) < 8 := by omega
     have hR : refL e.rs s = e.rs ++ [s] := by unfold refL; rw [if_pos ⟨hm, by omega⟩]
     rw [hR]
     obtain ⟨w1, hw1⟩ : ∃ w1, w1 = W.alloc (.cells #[] 3) := ⟨_, rfl⟩
     have k1 : Kp (fun _ => False) W w1 := by rw [hw1]; exact (Kp.refl _ W).alloc _
     have hat1 : At w1 W.heap.size [] := by rw [hw1]; exact At.new W [] _
     obtain ⟨v2, w2, hr2, ho2, k2, hb2, _⟩ := run_append_at (P := Tryz.prog) (t := 46) (tx := 46) (ty := 46) w1 Tryz.underlying46 elem_i64 Tryz.underlying46 (own0 1 hat1) (a := ra) (m := n) (c := rc) (news := intsV e.rs) (by rw [hn]; simp [intsV]) (hrd.kp k1 (fun _ _ h => h)) (one_ints _) (by unfold maxLen; omega) (by omega)
     rw [Nat.zero_add, List.nil_append] at ho2
     obtain ⟨a2, c2, e2, _, _⟩ := ho2.form
     subst e2
     rw [hw1] at hr2
     obtain ⟨w3, hw3⟩ : ∃ w3, w3 = w2.alloc (.cells #[.int .i64 (s : Nat)] 3) := ⟨_, rfl⟩
     have k3 : Kp (fun _ => False) w2 w3 := by rw [hw3]; exact (Kp.refl _ w2).alloc _
     have hat3 : At w3 w2.heap.size [.int .i64 (s : Nat)] := by rw [hw3]; exact At.new w2 [.int .i64 (s : Nat)] _
     obtain ⟨v4, w4, hr4, ho4, k4, hb4, _⟩ := run_append_at (P := Tryz.prog) (t := 46) (tx := 46) (ty := 46) w3 Tryz.underlying46 elem_i64 Tryz.underlying46 (ho2.kp k3 (fun _ _ h => h)) (a := some ⟨w2.heap.size, 0, none⟩) (m := 1) (c := 1) (news := [.int .i64 (s : Nat)]) (by simp) (fun i hi => by simp at hi; subst hi; exact ⟨_, _, rfl, by rw [hat3.cell]; rfl⟩) (fun u hu => by simp at hu; subst hu; rfl) (by unfold maxLen; omega) (by omega)
     obtain ⟨a4, c4, e4, _, _⟩ := ho4.form
     subst e4
     rw [hw3] at hr4
     have hl1 : ∀ g, (Value.slice a2 n c2).ownBlock = some g → W.heap.size ≤ g := fun g hg => by
      have := k1.size
      rcases hb2 with e | e
      · rw [hg] at e; have e : g = W.heap.size := Option.some.inj e; omega
      · rw [hg] at e; have e := Option.some.inj e; omega
     have hl4 : ∀ g, (Value.slice a4 (n + 1) c4).ownBlock = some g → W.heap.size ≤ g := fun g hg => by
      have := k1.size
      have := k2.size
      have := k3.size
      rcases hb4 with e | e
      · exact hl1 g (e ▸ hg)
      · rw [hg] at e; have e := Option.some.inj e; omega
     have k12 : Kp (fun _ => False) W w2 := k1.then k2 (fun i hi e => by have e : W.heap.size = i := Option.some.inj e; omega)
     have k14 : Kp (fun _ => False) W w4 := (k12.trans k3).then k4 (fun i hi e => by have := hl1 i e; omega)
     have hoat := k14.at h.hat (fun h => h)
     have f9' := hoat.frozen 9
     have d9 : w4.cell? ⟨r, 9, none⟩ = some e.rv := hoat.cell 9
     have c9b : (W.alloc (.cells #[] 3)).cell? ⟨r, 9, none⟩ = some (.slice ra n rc) := by rw [← hw1]; exact k1.cell c9 (fun h => h)
     have HR2 := Lib.hid hr2
     have HR4 := Lib.hid hr4
     have H2 := Lib.hid (And.intro ho4 (And.intro k14 (And.intro hl4 hoat)))
     clear h hrv hrd hm hR hw1 k1 hat1 hr2 ho2 k2 hb2 hw3 k3 hat3 hr4 ho4 k4 hb4 hl1 hl4 k12 k14 hoat hf hn
     go_enter Tryz.func70, Tryz.ntmps70
     go_wp2_with fail
     go_loop [4] (fun i => ∃ k : Nat, k ≤ n ∧ i = .int .i64 k) (fun i => n - (intOf i).toNat)
     case atStart => exact ⟨0, by omega, rfl⟩
     case round =>
      obtain ⟨k, hk, rfl⟩ := hrel
      by_cases hlt : k < n
      · have i1 : (k : Int) < n := by omega
        have hkl : k < e.rs.length := hkl'.out k hlt
        have hsum : IntKind.i64.wrap ((k : Int) + 1) = ((k + 1 : Nat) : Int) := by rw [IntWalk.i64_in _ (by omega)]; omega
        obtain ⟨b, off, rfl, hcell⟩ := HRD.out k (by rw [show (intsV e.rs).length = e.rs.length by simp [intsV]]; exact hkl)
        rw [List.getD_eq_getElem?_getD, intsV_at hkl, Option.getD_some] at hcell
        have hne : (((e.rs.getD k 0 : Nat) : Int) == (s : Int)) = false := by
         have h1 : e.rs.getD k 0 ≠ s := fun ee => HM.out (by rw [← ee, List.getD_eq_getElem?_getD, List.getElem?_eq_getElem hkl]; exact List.getElem_mem hkl)
         simp only [beq_eq_false_iff_ne]; omega
        generalize ((e.rs.getD k 0 : Nat) : Int) = x at *
        go_wp2
        go_round
        case rel => exact ⟨k + 1, by omega, by go_num⟩
        case measure => simp [intOf]; omega
      · have i1 : ¬ (k : Int) < n := by omega
        go_wp2_with (at_builtin; first | refine wpList_append_run _ HR2.out rfl rfl rfl rfl ?_ | refine wpList_append_run _ HR4.out rfl rfl rfl rfl ?_)
        go_end0
        obtain ⟨ho4, k14, hl4, hoat⟩ := H2.out
        have h := H.out.1
        have hrl := h.hat.lt
        have k5 := Kp.setCell (S := fun k => k = r) (Kp.refl _ w4) (p := ⟨r, 9, none⟩) (fun _ => rfl) (Value.slice a4 (n + 1) c4)
        have k05 := (k14.mono (fun _ _ h => h.elim)).trans k5
        refine ⟨rfl, .slice a4 (n + 1) c4, ⟨hoat.set 9 (.slice a4 (n + 1) c4), fun u => ?_, ?_, fun eg => by have := hl4 r eg; omega, ?_⟩, fun g hg => .inr (hl4 g hg), k05⟩
        · have hu := h.up u
          exact { hu with win := hu.win.kp k05 (fun g hg eg => hu.oW (by have eg : g = r := eg; exact eg ▸ hg)), inb := hu.inb.kp k05 (fun g hg eg => hu.oX (by have eg : g = r := eg; exact eg ▸ hg)), rW := fun g hg => ⟨fun hk => by have := hl4 g hg; have := hu.win.lt g hk; omega, fun hk => by have := hl4 g hg; have := hu.inb.lt g hk; omega⟩ }
        · show Own _ (Value.slice a4 (n + 1) c4) (e.rs ++ [s]).length 1 (intsV (e.rs ++ [s]))
          rw [List.length_append, List.length_singleton, ← H.out.2.2, show intsV (e.rs ++ [s]) = intsV e.rs ++ [.int .i64 (s : Nat)] by simp [intsV]]
          exact ho4.kp k5 (fun g hg eg => by have := hl4 g hg; have eg : g = r := eg; omega)
        · show (e.rs ++ [s]).length ≤ 8
          rw [List.length_append, List.length_singleton, ← H.out.2.2]; omega
   · have j1 : ¬ (n : Int) < 8 := by omega
     have hR : refL e.rs s = e.rs := by unfold refL; rw [if_neg (fun e => by omega)]
     rw [hR]
     clear h hrv hm hR hrd hf hn
     go_enter Tryz.func70, Tryz.ntmps70
     go_wp2_with fail
     go_loop [4] (fun i => ∃ k : Nat, k ≤ n ∧ i = .int .i64 k) (fun i => n - (intOf i).toNat)
     case atStart => exact ⟨0, by omega, rfl⟩
     case round =>
      obtain ⟨k, hk, rfl⟩ := hrel
      by_cases hlt : k < n
      · have i1 : (k : Int) < n := by omega
        have hkl : k < e.rs.length := hkl'.out k hlt
        have hsum : IntKind.i64.wrap ((k : Int) + 1) = ((k + 1 : Nat) : Int) := by rw [IntWalk.i64_in _ (by omega)]; omega
        obtain ⟨b, off, rfl, hcell⟩ := HRD.out k (by rw [show (intsV e.rs).length = e.rs.length by simp [intsV]]; exact hkl)
        rw [List.getD_eq_getElem?_getD, intsV_at hkl, Option.getD_some] at hcell
        have hne : (((e.rs.getD k 0 : Nat) : Int) == (s : Int)) = false := by
         have h1 : e.rs.getD k 0 ≠ s := fun ee => HM.out (by rw [← ee, List.getD_eq_getElem?_getD, List.getElem?_eq_getElem hkl]; exact List.getElem_mem hkl)
         simp only [beq_eq_false_iff_ne]; omega
        generalize ((e.rs.getD k 0 : Nat) : Int) = x at *
        go_wp2
        go_round
        case rel => exact ⟨k + 1, by omega, by go_num⟩
        case measure => simp [intOf]; omega
      · have i1 : ¬ (k : Int) < n := by omega
        go_wp2
        go_end0
        exact ⟨rfl, e.rv, H.out.1, fun g hg => .inl hg, Kp.refl _ _⟩
end
end Go.Proofs.YtokembhfebnjpaaGreat
