/- IDs among others; lists that are the same. (Written by wip/ref20b.py.) -/
import Derived.Test.YtaibdkdmilhloaaQIdA
import Derived.Test.YtaibdkdmilhloaaQRunL
import Derived.Deep.DeepCutAuto
import Derived.Outline
namespace Go.Proofs.Ytaibdkdmilhloaa
open Go.RowKit
set_option linter.unusedVariables false
set_option linter.unusedSimpArgs false
def idB (x : Id) : Array Value := (idW x).toArray
theorem idV_B (x : Id) : idV x = .agg (idB x) := rfl
theorem VB_list {x : Id} {VB : Array Value} (h : idV x = .agg VB) : idW x = VB.toList := by
  simp only [idV, Value.agg.injEq] at h
  rw [← h]
set_option maxHeartbeats 1000000 in
set_option maxRecDepth 20000 in
theorem in_any (a : Option Addr) (n c : Nat) (l : List Id) (hn : n = l.length) (x : Id) (hx : x.length = 16) (w : World) (h : RdI w a l) (hb : n ≤ 1000000) :
    Calls Try.prog 46 #[.slice a n c, idV x] w fun e w' => e = .returned (.bool (decide (x ∈ l))) ∧ Kp (fun _ => False) w w' := by
  have H := Lib.hid (And.intro h (And.intro hn hx))
  rw [idV_B]
  have HEB := Lib.hid (idV_B x)
  generalize idB x = VB at *
  clear h hn hx
  go_enter Try.func46, Try.ntmps46
  go_upto_region 1 with fail
  refine wp_world (fun wx => At wx w.heap.size VB.toList ∧ Kp (fun _ => False) w wx) ⟨⟨_, heap_alloc_new w _⟩, (Kp.refl _ w).alloc _⟩ ?_
  rintro w2 ⟨hb2, k2⟩
  obtain ⟨bx, hbx⟩ : ∃ bx, bx = w.heap.size := ⟨_, rfl⟩
  rw [← hbx] at hb2 ⊢
  clear hbx
  have H2 := Lib.hid (And.intro hb2 k2)
  clear hb2 k2
  go_wp2
  go_loopw [5] (fun iv wr => ∃ k : Nat, k ≤ n ∧ iv = .int .i64 k ∧ x ∉ l.take k ∧ Kp (fun _ => False) w2 wr) (fun iv _ => n - (intOf iv).toNat)
  case atStart => exact ⟨0, by omega, rfl, by simp, Kp.refl _ _⟩
  case round =>
    obtain ⟨k, hk, rfl, hno, hkp⟩ := hrel
    have HP := Lib.hid (And.intro hno hkp)
    clear hno hkp
    by_cases hlt : k < n
    · have j1 : (k : Int) < n := by omega
      have hki : k < l.length := by rw [← H.out.2.1]; exact hlt
      obtain ⟨b, off, rfl, hr⟩ := (H.out.1.kp0 (H2.out.2.trans HP.out.2)).at' k hki
      obtain ⟨y, hy⟩ : ∃ y, y = idn l k := ⟨_, rfl⟩
      rw [← hy] at hr
      have hy16 : y.length = 16 := by rw [hy]; exact H.out.1.ids.idn hki
      have hv := idV_B y
      obtain ⟨VA, hVA⟩ : ∃ VA, VA = idB y := ⟨_, rfl⟩
      rw [← hVA] at hv
      have HL := Lib.hid (fun w' (kk : Kp (fun _ => False) wr w') => (by have := load_id (rangeAt_kp hr kk (fun h => h)) hy16; rw [hv] at this; exact this : (Instr.loadAt 41 (.pointer (some ⟨b, off + k * 16, none⟩))).run Try.prog w' = .ok (.agg VA) w'))
      have HX := Lib.hid (fun w' (kk : Kp (fun _ => False) wr w') => (by
        have hr2 : w'.rangeAt bx 0 (idW x) := rangeAt_kp (at_range (pre := []) (post := []) (by have := (HP.out.2.trans kk).at H2.out.1 (fun h => h); simpa [← VB_list HEB.out] using this)) (Kp.refl (fun _ => False) w') (fun h => h)
        have := load_id hr2 H.out.2.2; rw [HEB.out] at this; exact this : (Instr.loadAt 41 (.pointer (some ⟨bx, 0, none⟩))).run Try.prog w' = .ok (.agg VB) w'))
      have HQ := Lib.hid (fun w' => (by have := run_eq_id w' hy16 H.out.2.2; rw [hv, HEB.out] at this; exact this : (Op.equalIn 10000 41 (.agg VA) (.agg VB)).run Try.prog w' = .ok (y == x) w'))
      have HY := Lib.hid (And.intro hki hy)
      clear hr hv hVA hy16 hki hy
      go_upto_region 4 with fail
      refine region_L (S := fun w' => Kp (fun _ => False) wr w') [] rfl ?_
      have hSd : ∀ (w' : World) (n' : Nat), Kp (fun _ => False) wr w' → Kp (fun _ => False) wr (w'.drewN n') := fun w' n' h => h.drewN n'
      have hS1 : Kp (fun _ => False) wr wr.drew := (Kp.refl _ wr).drew
      refine anyL_takeF (i := 0) (d := 12) (v := (.slice (some ⟨b, off, none⟩) n c)) rfl rfl (by kernel_rfl) (by kernel_rfl) (by kernel_rfl) (fun _ _ _ h => h) hSd (by kernel_rfl) (.inl (.inl ⟨rfl, fun w' hS => rfl⟩)) (fun _ => hS1) ?_
      try simp only [List.setIfInBounds_toArray, List.set_cons_succ, List.set_cons_zero]
      refine anyL_takeF (i := 1) (d := 13) (v := (.int .i64 (k : Nat))) rfl rfl (by kernel_rfl) (by kernel_rfl) (by kernel_rfl) (fun _ _ _ h => h) hSd (by kernel_rfl) (.inl (.inl ⟨rfl, fun w' hS => rfl⟩)) (fun _ => hS1) ?_
      try simp only [List.setIfInBounds_toArray, List.set_cons_succ, List.set_cons_zero]
      refine anyL_takeF (i := 2) (d := 14) (v := (.pointer (some ⟨b, off + k * 16, none⟩))) rfl rfl (by kernel_rfl) (by kernel_rfl) (by kernel_rfl) (fun _ _ _ h => h) hSd (by kernel_rfl) (.inl (.inl ⟨rfl, fun w' hS => by go_simp⟩)) (fun _ => hS1) ?_
      try simp only [List.setIfInBounds_toArray, List.set_cons_succ, List.set_cons_zero]
      refine anyL_takeD (i := 3) (d := 15) (v := (.agg VA)) rfl rfl (by kernel_rfl) (by kernel_rfl) (by kernel_rfl) (fun _ _ _ h => h) hSd (by kernel_rfl) (.inl (.inl ⟨rfl, fun w' hS => exec_load rfl rfl (HL.out _ hS)⟩)) hS1 ?_
      try simp only [List.setIfInBounds_toArray, List.set_cons_succ, List.set_cons_zero]
      refine anyL_takeD (i := 4) (d := 16) (v := (.agg VB)) rfl rfl (by kernel_rfl) (by kernel_rfl) (by kernel_rfl) (fun _ _ _ h => h) hSd (by kernel_rfl) (.inl (.inl ⟨rfl, fun w' hS => exec_load rfl rfl (HX.out _ hS)⟩)) hS1 ?_
      try simp only [List.setIfInBounds_toArray, List.set_cons_succ, List.set_cons_zero]
      refine anyL_takeF (i := 5) (d := 17) (v := (.bool (y == x))) rfl rfl (by kernel_rfl) (by kernel_rfl) (by kernel_rfl) (fun _ _ _ h => h) hSd (by kernel_rfl) (.inl (.inl ⟨rfl, fun w' hS => by have hc := HQ.out; go_simp⟩)) (fun _ => hS1) ?_
      try simp only [List.setIfInBounds_toArray, List.set_cons_succ, List.set_cons_zero]
      refine anyL_done (by kernel_rfl) (fun nn => ?_) _
      have K2 := Lib.hid (((Kp.refl (fun _ => False) wr).drew).drewN nn)
      generalize wr.drew.drewN nn = w6 at *
      clear hSd hS1 HL HX HQ
      cases hb : (y == x)
      · have HE := Lib.hid (show y ≠ x by simpa using hb)
        clear hb
        go_wp2
        go_roundw
        case rel =>
          refine ⟨k + 1, by omega, by go_num, ?_, HP.out.2.trans K2.out⟩
          rw [take_snoc l [] k HY.out.1, List.mem_append, List.mem_singleton]
          intro h
          rcases h with h | h
          · exact HP.out.1 h
          · exact HE.out (by rw [HY.out.2, h]; rfl)
        case measure => simp [intOf]; omega
      · have HE := Lib.hid (show y = x by simpa using hb)
        clear hb
        go_wp2
        go_ret
        refine ⟨ret_bool ?_, (H2.out.2.trans HP.out.2).trans K2.out⟩
        have hm : x ∈ l := by
          rw [← HE.out, HY.out.2]
          unfold idn
          rw [List.getD_eq_getElem?_getD, List.getElem?_eq_getElem HY.out.1]
          exact List.getElem_mem _
        simp [hm]
    · obtain rfl : k = n := by omega
      clear hlt
      go_wp2
      go_ret
      refine ⟨ret_bool ?_, H2.out.2.trans HP.out.2⟩
      have hno := HP.out.1
      rw [H.out.2.1, List.take_length] at hno
      simp [hno]
set_option maxHeartbeats 1000000 in
set_option maxRecDepth 20000 in
theorem among_any (a : Option Addr) (n c : Nat) (l : List Id) (hn : n = l.length) (x : Id) (hx : x.length = 16) (w : World) (h : RdI w a l) (hb : n ≤ 1000000) :
    Calls Try.prog 19 #[.slice a n c, idV x] w fun e w' => e = .returned (.bool (decide (x ∈ l))) ∧ Kp (fun _ => False) w w' := by
  have H := Lib.hid (And.intro h (And.intro hn hx))
  rw [idV_B]
  have HEB := Lib.hid (idV_B x)
  generalize idB x = VB at *
  clear h hn hx
  go_enter Try.func19, Try.ntmps19
  go_upto_region 1 with fail
  refine wp_world (fun wx => At wx w.heap.size VB.toList ∧ Kp (fun _ => False) w wx) ⟨⟨_, heap_alloc_new w _⟩, (Kp.refl _ w).alloc _⟩ ?_
  rintro w2 ⟨hb2, k2⟩
  obtain ⟨bx, hbx⟩ : ∃ bx, bx = w.heap.size := ⟨_, rfl⟩
  rw [← hbx] at hb2 ⊢
  clear hbx
  have H2 := Lib.hid (And.intro hb2 k2)
  clear hb2 k2
  go_wp2
  go_loopw [5] (fun iv wr => ∃ k : Nat, k ≤ n ∧ iv = .int .i64 k ∧ x ∉ l.take k ∧ Kp (fun _ => False) w2 wr) (fun iv _ => n - (intOf iv).toNat)
  case atStart => exact ⟨0, by omega, rfl, by simp, Kp.refl _ _⟩
  case round =>
    obtain ⟨k, hk, rfl, hno, hkp⟩ := hrel
    have HP := Lib.hid (And.intro hno hkp)
    clear hno hkp
    by_cases hlt : k < n
    · have j1 : (k : Int) < n := by omega
      have hki : k < l.length := by rw [← H.out.2.1]; exact hlt
      obtain ⟨b, off, rfl, hr⟩ := (H.out.1.kp0 (H2.out.2.trans HP.out.2)).at' k hki
      obtain ⟨y, hy⟩ : ∃ y, y = idn l k := ⟨_, rfl⟩
      rw [← hy] at hr
      have hy16 : y.length = 16 := by rw [hy]; exact H.out.1.ids.idn hki
      have hv := idV_B y
      obtain ⟨VA, hVA⟩ : ∃ VA, VA = idB y := ⟨_, rfl⟩
      rw [← hVA] at hv
      have HL := Lib.hid (fun w' (kk : Kp (fun _ => False) wr w') => (by have := load_id (rangeAt_kp hr kk (fun h => h)) hy16; rw [hv] at this; exact this : (Instr.loadAt 41 (.pointer (some ⟨b, off + k * 16, none⟩))).run Try.prog w' = .ok (.agg VA) w'))
      have HX := Lib.hid (fun w' (kk : Kp (fun _ => False) wr w') => (by
        have hr2 : w'.rangeAt bx 0 (idW x) := rangeAt_kp (at_range (pre := []) (post := []) (by have := (HP.out.2.trans kk).at H2.out.1 (fun h => h); simpa [← VB_list HEB.out] using this)) (Kp.refl (fun _ => False) w') (fun h => h)
        have := load_id hr2 H.out.2.2; rw [HEB.out] at this; exact this : (Instr.loadAt 41 (.pointer (some ⟨bx, 0, none⟩))).run Try.prog w' = .ok (.agg VB) w'))
      have HQ := Lib.hid (fun w' => (by have := run_eq_id w' hy16 H.out.2.2; rw [hv, HEB.out] at this; exact this : (Op.equalIn 10000 41 (.agg VA) (.agg VB)).run Try.prog w' = .ok (y == x) w'))
      have HY := Lib.hid (And.intro hki hy)
      clear hr hv hVA hy16 hki hy
      go_upto_region 4 with fail
      refine region_L (S := fun w' => Kp (fun _ => False) wr w') [] rfl ?_
      have hSd : ∀ (w' : World) (n' : Nat), Kp (fun _ => False) wr w' → Kp (fun _ => False) wr (w'.drewN n') := fun w' n' h => h.drewN n'
      have hS1 : Kp (fun _ => False) wr wr.drew := (Kp.refl _ wr).drew
      refine anyL_takeF (i := 0) (d := 12) (v := (.slice (some ⟨b, off, none⟩) n c)) rfl rfl (by kernel_rfl) (by kernel_rfl) (by kernel_rfl) (fun _ _ _ h => h) hSd (by kernel_rfl) (.inl (.inl ⟨rfl, fun w' hS => rfl⟩)) (fun _ => hS1) ?_
      try simp only [List.setIfInBounds_toArray, List.set_cons_succ, List.set_cons_zero]
      refine anyL_takeF (i := 1) (d := 13) (v := (.int .i64 (k : Nat))) rfl rfl (by kernel_rfl) (by kernel_rfl) (by kernel_rfl) (fun _ _ _ h => h) hSd (by kernel_rfl) (.inl (.inl ⟨rfl, fun w' hS => rfl⟩)) (fun _ => hS1) ?_
      try simp only [List.setIfInBounds_toArray, List.set_cons_succ, List.set_cons_zero]
      refine anyL_takeF (i := 2) (d := 14) (v := (.pointer (some ⟨b, off + k * 16, none⟩))) rfl rfl (by kernel_rfl) (by kernel_rfl) (by kernel_rfl) (fun _ _ _ h => h) hSd (by kernel_rfl) (.inl (.inl ⟨rfl, fun w' hS => by go_simp⟩)) (fun _ => hS1) ?_
      try simp only [List.setIfInBounds_toArray, List.set_cons_succ, List.set_cons_zero]
      refine anyL_takeD (i := 3) (d := 15) (v := (.agg VA)) rfl rfl (by kernel_rfl) (by kernel_rfl) (by kernel_rfl) (fun _ _ _ h => h) hSd (by kernel_rfl) (.inl (.inl ⟨rfl, fun w' hS => exec_load rfl rfl (HL.out _ hS)⟩)) hS1 ?_
      try simp only [List.setIfInBounds_toArray, List.set_cons_succ, List.set_cons_zero]
      refine anyL_takeD (i := 4) (d := 16) (v := (.agg VB)) rfl rfl (by kernel_rfl) (by kernel_rfl) (by kernel_rfl) (fun _ _ _ h => h) hSd (by kernel_rfl) (.inl (.inl ⟨rfl, fun w' hS => exec_load rfl rfl (HX.out _ hS)⟩)) hS1 ?_
      try simp only [List.setIfInBounds_toArray, List.set_cons_succ, List.set_cons_zero]
      refine anyL_takeF (i := 5) (d := 17) (v := (.bool (y == x))) rfl rfl (by kernel_rfl) (by kernel_rfl) (by kernel_rfl) (fun _ _ _ h => h) hSd (by kernel_rfl) (.inl (.inl ⟨rfl, fun w' hS => by have hc := HQ.out; go_simp⟩)) (fun _ => hS1) ?_
      try simp only [List.setIfInBounds_toArray, List.set_cons_succ, List.set_cons_zero]
      refine anyL_done (by kernel_rfl) (fun nn => ?_) _
      have K2 := Lib.hid (((Kp.refl (fun _ => False) wr).drew).drewN nn)
      generalize wr.drew.drewN nn = w6 at *
      clear hSd hS1 HL HX HQ
      cases hb : (y == x)
      · have HE := Lib.hid (show y ≠ x by simpa using hb)
        clear hb
        go_wp2
        go_roundw
        case rel =>
          refine ⟨k + 1, by omega, by go_num, ?_, HP.out.2.trans K2.out⟩
          rw [take_snoc l [] k HY.out.1, List.mem_append, List.mem_singleton]
          intro h
          rcases h with h | h
          · exact HP.out.1 h
          · exact HE.out (by rw [HY.out.2, h]; rfl)
        case measure => simp [intOf]; omega
      · have HE := Lib.hid (show y = x by simpa using hb)
        clear hb
        go_wp2
        go_ret
        refine ⟨ret_bool ?_, (H2.out.2.trans HP.out.2).trans K2.out⟩
        have hm : x ∈ l := by
          rw [← HE.out, HY.out.2]
          unfold idn
          rw [List.getD_eq_getElem?_getD, List.getElem?_eq_getElem HY.out.1]
          exact List.getElem_mem _
        simp [hm]
    · obtain rfl : k = n := by omega
      clear hlt
      go_wp2
      go_ret
      refine ⟨ret_bool ?_, H2.out.2.trans HP.out.2⟩
      have hno := HP.out.1
      rw [H.out.2.1, List.take_length] at hno
      simp [hno]
set_option maxHeartbeats 1000000 in
set_option maxRecDepth 20000 in
theorem sameids_eq (a a' : Option Addr) (n c c' : Nat) (l : List Id) (hn : n = l.length) (w : World) (h : RdI w a l) (h' : RdI w a' l) (hb : n ≤ 1000000) :
    Calls Try.prog 26 #[.slice a n c, .slice a' n c'] w fun e w' => e = .returned (.bool true) ∧ Kp (fun _ => False) w w' := by
  have H := Lib.hid (And.intro h (And.intro h' hn))
  clear h h' hn
  go_enter Try.func26, Try.ntmps26
  go_wp2
  go_loopw [5] (fun iv wr => ∃ k : Nat, k ≤ n ∧ iv = .int .i64 k ∧ Kp (fun _ => False) w wr) (fun iv _ => n - (intOf iv).toNat)
  case atStart => exact ⟨0, by omega, rfl, Kp.refl _ _⟩
  case round =>
    obtain ⟨k, hk, rfl, hkp⟩ := hrel
    have HP := Lib.hid hkp
    clear hkp
    by_cases hlt : k < n
    · have j1 : (k : Int) < n := by omega
      have hki : k < l.length := by rw [← H.out.2.2]; exact hlt
      obtain ⟨b, off, rfl, hr⟩ := (H.out.1.kp0 HP.out).at' k hki
      obtain ⟨b', off', rfl, hr'⟩ := (H.out.2.1.kp0 HP.out).at' k hki
      have hy16 : (idn l k).length = 16 := H.out.1.ids.idn hki
      have hv := idV_B (idn l k)
      obtain ⟨VA, hVA⟩ : ∃ VA, VA = idB (idn l k) := ⟨_, rfl⟩
      rw [← hVA] at hv
      have HL := Lib.hid (fun w' (kk : Kp (fun _ => False) wr w') => (by have := load_id (rangeAt_kp hr kk (fun h => h)) hy16; rw [hv] at this; exact this : (Instr.loadAt 41 (.pointer (some ⟨b, off + k * 16, none⟩))).run Try.prog w' = .ok (.agg VA) w'))
      have HX := Lib.hid (fun w' (kk : Kp (fun _ => False) wr w') => (by have := load_id (rangeAt_kp hr' kk (fun h => h)) hy16; rw [hv] at this; exact this : (Instr.loadAt 41 (.pointer (some ⟨b', off' + k * 16, none⟩))).run Try.prog w' = .ok (.agg VA) w'))
      have HQ := Lib.hid (fun w' => (by have := run_eq_id w' hy16 hy16; rw [hv] at this; simpa using this : (Op.equalIn 10000 41 (.agg VA) (.agg VA)).run Try.prog w' = .ok true w'))
      clear hr hr' hv hVA hy16 hki
      go_upto_region 6 with fail
      refine region_L (S := fun w' => Kp (fun _ => False) wr w') [] rfl ?_
      have hSd : ∀ (w' : World) (n' : Nat), Kp (fun _ => False) wr w' → Kp (fun _ => False) wr (w'.drewN n') := fun w' n' h => h.drewN n'
      have hS1 : Kp (fun _ => False) wr wr.drew := (Kp.refl _ wr).drew
      refine anyL_takeF (i := 0) (d := 17) (v := (.slice (some ⟨b, off, none⟩) n c)) rfl rfl (by kernel_rfl) (by kernel_rfl) (by kernel_rfl) (fun _ _ _ h => h) hSd (by kernel_rfl) (.inl (.inl ⟨rfl, fun w' hS => rfl⟩)) (fun _ => hS1) ?_
      try simp only [List.setIfInBounds_toArray, List.set_cons_succ, List.set_cons_zero]
      refine anyL_takeF (i := 1) (d := 18) (v := (.int .i64 (k : Nat))) rfl rfl (by kernel_rfl) (by kernel_rfl) (by kernel_rfl) (fun _ _ _ h => h) hSd (by kernel_rfl) (.inl (.inl ⟨rfl, fun w' hS => rfl⟩)) (fun _ => hS1) ?_
      try simp only [List.setIfInBounds_toArray, List.set_cons_succ, List.set_cons_zero]
      refine anyL_takeF (i := 2) (d := 19) (v := (.pointer (some ⟨b, off + k * 16, none⟩))) rfl rfl (by kernel_rfl) (by kernel_rfl) (by kernel_rfl) (fun _ _ _ h => h) hSd (by kernel_rfl) (.inl (.inl ⟨rfl, fun w' hS => by go_simp⟩)) (fun _ => hS1) ?_
      try simp only [List.setIfInBounds_toArray, List.set_cons_succ, List.set_cons_zero]
      refine anyL_takeD (i := 3) (d := 20) (v := (.agg VA)) rfl rfl (by kernel_rfl) (by kernel_rfl) (by kernel_rfl) (fun _ _ _ h => h) hSd (by kernel_rfl) (.inl (.inl ⟨rfl, fun w' hS => exec_load rfl rfl (HL.out _ hS)⟩)) hS1 ?_
      try simp only [List.setIfInBounds_toArray, List.set_cons_succ, List.set_cons_zero]
      refine anyL_takeF (i := 4) (d := 21) (v := (.slice (some ⟨b', off', none⟩) n c')) rfl rfl (by kernel_rfl) (by kernel_rfl) (by kernel_rfl) (fun _ _ _ h => h) hSd (by kernel_rfl) (.inl (.inl ⟨rfl, fun w' hS => rfl⟩)) (fun _ => hS1) ?_
      try simp only [List.setIfInBounds_toArray, List.set_cons_succ, List.set_cons_zero]
      refine anyL_takeF (i := 5) (d := 22) (v := (.int .i64 (k : Nat))) rfl rfl (by kernel_rfl) (by kernel_rfl) (by kernel_rfl) (fun _ _ _ h => h) hSd (by kernel_rfl) (.inl (.inl ⟨rfl, fun w' hS => rfl⟩)) (fun _ => hS1) ?_
      try simp only [List.setIfInBounds_toArray, List.set_cons_succ, List.set_cons_zero]
      refine anyL_takeF (i := 6) (d := 23) (v := (.pointer (some ⟨b', off' + k * 16, none⟩))) rfl rfl (by kernel_rfl) (by kernel_rfl) (by kernel_rfl) (fun _ _ _ h => h) hSd (by kernel_rfl) (.inl (.inl ⟨rfl, fun w' hS => by go_simp⟩)) (fun _ => hS1) ?_
      try simp only [List.setIfInBounds_toArray, List.set_cons_succ, List.set_cons_zero]
      refine anyL_takeD (i := 7) (d := 24) (v := (.agg VA)) rfl rfl (by kernel_rfl) (by kernel_rfl) (by kernel_rfl) (fun _ _ _ h => h) hSd (by kernel_rfl) (.inl (.inl ⟨rfl, fun w' hS => exec_load rfl rfl (HX.out _ hS)⟩)) hS1 ?_
      try simp only [List.setIfInBounds_toArray, List.set_cons_succ, List.set_cons_zero]
      refine anyL_takeF (i := 8) (d := 25) (v := (.bool false)) rfl rfl (by kernel_rfl) (by kernel_rfl) (by kernel_rfl) (fun _ _ _ h => h) hSd (by kernel_rfl) (.inl (.inl ⟨rfl, fun w' hS => by have hc := HQ.out; go_simp⟩)) (fun _ => hS1) ?_
      try simp only [List.setIfInBounds_toArray, List.set_cons_succ, List.set_cons_zero]
      refine anyL_done (by kernel_rfl) (fun nn => ?_) _
      have K2 := Lib.hid (((Kp.refl (fun _ => False) wr).drew).drewN nn)
      generalize wr.drew.drewN nn = w6 at *
      clear hSd hS1 HL HX HQ
      go_wp2
      go_roundw
      case rel => exact ⟨k + 1, by omega, by go_num, HP.out.trans K2.out⟩
      case measure => simp [intOf]; omega
    · obtain rfl : k = n := by omega
      clear hlt
      go_wp2
      go_ret
      exact ⟨rfl, HP.out⟩
end Go.Proofs.Ytaibdkdmilhloaa
