/- find and chosen of chapter 20's statements. -/
import Derived.Test.YtaibdkdmilhloaaPkO
import Derived.Laws.Tables
namespace Go.Proofs.Ytaibdkdmilhloaa
open Go.RowKit Flt
set_option linter.unusedVariables false
set_option linter.unusedSimpArgs false
theorem results_ct_row {P : Program} {fn : Func} {p u : Tmp} {ty : TypeId} (h : fn.results = #[.cell p ty, .tmp u]) (tmps : Array Value) (w : World) (g : Nat) (t : TypeId) (cs : Array Value) (fr : Nat × Nat) (d : TypeDesc)
    (hp : tmps.getD p undef = .pointer (some ⟨g, 0, none⟩)) (hg : w.heap[g]? = some (.cells cs t fr))
    (hu : P.underlying ty = some d) (hd : (match d with | .struct _ | .array _ _ => true | _ => false) = true) (hi : (P.info? ty).map (·.size) = some cs.size) :
    (results fn tmps).run P w = .ok (.tuple #[.agg cs, tmps.getD u undef]) w := by
  rw [results_cell_tmp h, hp]
  simp [asAddr, Result.andThen, run_loadVar_row w g t ty cs fr d hg hu hd hi]
theorem pk_info : (Try.prog.info? 27).map (·.size) = some 3 := by kernel_rfl
theorem chosen_any (a : Option Addr) (n c : Nat) (l : List Int) (hn : n = l.length) (x : Int) (w : World) (h : Rd w a (intsZ l)) (hb : n ≤ 1000000) :
    Calls Try.prog 22 #[.slice a n c, .int .i64 x] w fun e w' => e = .returned (.bool (decide (x ∈ l))) ∧ Kp (fun _ => False) w w' := by
  have H := Lib.hid (And.intro h hn)
  clear h hn
  go_enter Try.func22, Try.ntmps22
  go_wp2
  go_loop [5] (fun iv => ∃ k : Nat, k ≤ n ∧ iv = .int .i64 k ∧ x ∉ l.take k) (fun iv => n - (intOf iv).toNat)
  case atStart => exact ⟨0, by omega, rfl, by simp⟩
  case round =>
    obtain ⟨k, hk, rfl, hno⟩ := hrel
    have HP := Lib.hid hno
    clear hno
    by_cases hlt : k < n
    · have j1 : (k : Int) < n := by omega
      have hki : k < l.length := by rw [← H.out.2]; exact hlt
      obtain ⟨b, off, rfl, hr⟩ := H.out.1 k (by unfold intsZ; rw [List.length_map]; exact hki)
      have ht := take_snoc l 0 k hki
      have e0 : (intsZ l).getD k undef = .int .i64 (l.getD k 0) := by
        unfold intsZ
        rw [List.getD_eq_getElem?_getD, List.getElem?_map, List.getD_eq_getElem?_getD, List.getElem?_eq_getElem hki]; rfl
      rw [e0] at hr
      have hm : l.getD k 0 ∈ l := by rw [List.getD_eq_getElem?_getD, List.getElem?_eq_getElem hki]; exact List.getElem_mem _
      obtain ⟨y, hy⟩ : ∃ y, y = l.getD k 0 := ⟨_, rfl⟩
      rw [← hy] at hr ht hm
      have HT := Lib.hid ht
      have HM := Lib.hid hm
      clear ht hy hki e0 hm
      by_cases hq : y = x
      · have HQ := Lib.hid hq
        have q1 : (y == x) = true := by simpa using hq
        clear hq
        go_wp2
        go_ret
        exact ⟨ret_bool (by rw [decide_eq_true]; rw [← HQ.out]; exact HM.out), Kp.refl _ _⟩
      · have HQ := Lib.hid hq
        have q1 : (y == x) = false := by simpa using hq
        clear hq
        go_wp2
        go_round
        case rel =>
          refine ⟨k + 1, by omega, by go_num, ?_⟩
          rw [HT.out, List.mem_append, List.mem_singleton]
          intro h
          rcases h with h | h
          · exact HP.out h
          · exact HQ.out h.symm
        case measure => simp [intOf]; omega
    · obtain rfl : k = n := by omega
      clear hlt
      go_wp2
      go_ret
      refine ⟨ret_bool ?_, Kp.refl _ _⟩
      have hno := HP.out
      rw [H.out.2, List.take_length] at hno
      simp [hno]
set_option maxHeartbeats 1000000 in
theorem find_yes (a : Option Addr) (n c : Nat) (l : List Pk) (hn : n = l.length) (x : Nat) (hx : x < n) (m : Int) (hm : (pkn l x).num = m) (hu : ∀ j, j < x → (pkn l j).num ≠ m) (w : World) (h : RdP w a l) (hb : n ≤ 1000) :
    Calls Try.prog 21 #[.slice a n c, .int .i64 m] w fun e w' => e = .returned (.tuple #[.agg #[.int .i64 (pkn l x).num, .int .i64 (pkn l x).bytes, .int .i64 (pkn l x).dead], .bool true]) ∧ Kp (fun _ => False) w w' := by
  obtain ⟨p, hp⟩ : ∃ p, p = pkn l x := ⟨_, rfl⟩
  rw [← hp] at hm ⊢
  have H := Lib.hid (And.intro h (And.intro hn (And.intro hm (And.intro hu hp))))
  clear h hn hm hu hp
  go_enter Try.func21, Try.ntmps21
  go_upto_region 1 with fail
  refine wp_world (fun wx => At wx w.heap.size [.int .i64 0, .int .i64 0, .int .i64 0] ∧ Kp (fun _ => False) w wx) ⟨⟨_, heap_alloc_new w _⟩, (Kp.refl _ w).alloc _⟩ ?_
  rintro w2 ⟨hb2, k2⟩
  have H2 := Lib.hid (And.intro hb2 k2)
  clear hb2 k2
  obtain ⟨bx, hbx⟩ : ∃ bx, bx = w.heap.size := ⟨_, rfl⟩
  rw [← hbx] at H2 ⊢
  have HBX := Lib.hid hbx
  clear hbx
  go_wp2
  go_loop [6] (fun iv => ∃ k : Nat, k ≤ x ∧ iv = .int .i64 k) (fun iv => n - (intOf iv).toNat)
  case atStart => exact ⟨0, by omega, rfl⟩
  case round =>
    obtain ⟨k, hk, rfl⟩ := hrel
    have hlt : k < n := by omega
    have j1 : (k : Int) < n := by omega
    obtain ⟨b, off, e1, x0, x1, x2⟩ := (H.out.1.kp0 H2.out.2) k (by rw [← H.out.2.1]; exact hlt)
    subst e1
    by_cases hq : k = x
    · subst hq
      rw [← H.out.2.2.2.2] at x0 x1 x2
      have q1 : (p.num == m) = true := by simpa using H.out.2.2.1
      have z0 := (H2.out.1.cell 0).trans (show _ = some (.int .i64 0) from rfl)
      have z1 := (H2.out.1.cell 1).trans (show _ = some (.int .i64 0) from rfl)
      have z2 := (H2.out.1.cell 2).trans (show _ = some (.int .i64 0) from rfl)
      have f0 := H2.out.1.frozen 0
      have f1 := H2.out.1.frozen 1
      have f2 := H2.out.1.frozen 2
      go_wp2
      obtain ⟨T, hT⟩ : At (((w2.setCell ⟨bx, 0, none⟩ (.int .i64 p.num)).setCell ⟨bx, 1, none⟩ (.int .i64 p.bytes)).setCell ⟨bx, 2, none⟩ (.int .i64 p.dead)) bx [.int .i64 p.num, .int .i64 p.bytes, .int .i64 p.dead] := ((H2.out.1.set 0 _).set 1 _).set 2 _
      refine bodyPost_ret (results_ct_row rfl _ _ bx T _ (0, 0) _ rfl hT Try.underlying27 rfl pk_info) rfl ⟨rfl, ?_⟩
      have hne : bx < w.heap.size → False := fun h => by have := HBX.out; omega
      exact ((H2.out.2.setCell (p := ⟨bx, 0, none⟩) hne _).setCell (p := ⟨bx, 1, none⟩) hne _).setCell (p := ⟨bx, 2, none⟩) hne _
    · have hne := H.out.2.2.2.1 k (by omega)
      obtain ⟨y, hy⟩ : ∃ y, y = (pkn l k).num := ⟨_, rfl⟩
      rw [← hy] at x0 hne
      have q1 : (y == m) = false := by simpa using hne
      clear hy hne x1 x2
      go_wp2
      go_round
      case rel => exact ⟨k + 1, by omega, by go_num⟩
      case measure => simp [intOf]; omega
end Go.Proofs.Ytaibdkdmilhloaa
