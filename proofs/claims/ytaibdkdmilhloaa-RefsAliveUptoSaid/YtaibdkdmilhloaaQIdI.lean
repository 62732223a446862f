/- Package refs: iterators over IDs; all. (Written by wip/ref20c.py.) -/
import Derived.Test.YtaibdkdmilhloaaQIdE
import Derived.Test.YtaibdkdmilhloaaQRng
import Derived.Deep.WholeRow
import Derived.Great.BuildSlice
namespace Go.Proofs.Ytaibdkdmilhloaa
open Go.RowKit
set_option linter.unusedVariables false
set_option linter.unusedSimpArgs false
attribute [local go_sem] Oper.semAt_some
/-- What an iterator over IDs is, made in wc. -/
def Itr (wc : World) (v : Value) (l : List Id) : Prop := Ids l ∧ ∃ (gf : FuncId) (lb : Array Value), v = .func (.func gf) #[] lb ∧ (∀ args w, (callFunc gf args).run Try.prog w = .ok (.enter gf args) w) ∧
  ∀ m, 1 ≤ m → Gives Fence.wide m Try.prog gf lb (fun x => #[idV x]) l (Kp (fun _ => False)) (fun _ => Kp (fun i => wc.heap.size ≤ i) wc) (fun _ => True)
theorem id_zero : ∃ ZA : Array Value, ZA.size = 16 ∧ ∀ w : World, (zeroValue 41).run Try.prog w = .ok (.agg ZA) w := by
  have h : (Try.prog.info? 41).map (fun i => (i.zero, i.size)) = some (some (.agg (List.replicate 16 (.int .u8 0)).toArray), 16) := by kernel_rfl
  exact ⟨_, by simp, (zero_of_info h).1⟩
theorem idB_size (x : Id) : (idB x).size = x.length := by simp [idB, idW]
theorem idB_one (x : Id) : (idB x).all (·.oneCell') = true := all_oneCell_toArray (idW_one x)
/-- A new variable of an ID: its zero value written over. -/
theorem store_new {x : Id} (hx : x.length = 16) {ZA : Array Value} (hz : ZA.size = 16) (w : World) : (Instr.storeAt 41 (.pointer (some ⟨w.heap.size, 0, none⟩)) (idV x)).run Try.prog (w.alloc (.cells ZA 41)) = .ok () (w.alloc (.cells (idB x) 41)) :=
  run_storeAt_new w 41 ZA (idB x) (by rw [idB_size, hx]; exact id_size) (by rw [hz, idB_size, hx]) (idB_one x)
theorem load_new {x : Id} (hx : x.length = 16) (w : World) : (Instr.loadAt 41 (.pointer (some ⟨w.heap.size, 0, none⟩))).run Try.prog (w.alloc (.cells (idB x) 41)) = .ok (idV x) (w.alloc (.cells (idB x) 41)) :=
  run_loadAt_new w 41 (idB x) 16 5 id_und (by rw [idB_size, hx]; exact id_size)
/-- A slice of one ID. -/
theorem bs_one {x : Id} (hx : x.length = 16) (w : World) : (Instr.buildSlice 34 1 #[(0, idV x)]).run Try.prog w = .ok (.slice (some ⟨w.heap.size, 0, none⟩) 1 1) (w.alloc (.cells (idB x) 41)) := by
  have h : (Try.prog.info? 41).map (fun i => (i.zero, i.size)) = some (some (.agg (List.replicate 16 (.int .u8 0)).toArray), 16) := by kernel_rfl
  cases hq : Try.prog.info? 41 with
  | none => rw [hq] at h; cases h
  | some ie =>
    rw [hq] at h
    simp only [Option.map_some, Option.some.injEq, Prod.mk.injEq] at h
    refine run_buildSlice w 34 41 1 _ (idB x) ie _ Try.underlying34 hq h.1 (by rw [h.2]; omega) (by rw [h.2]; omega) ?_
    rw [h.2]
    have hz : (idV x).cells.size = 16 := by simpa [idV, idW, Value.cells] using hx
    obtain ⟨r, hr, hsz, hk⟩ := Great.fill_dense (s := 16) (by omega) [idV x] 0 ((Array.range (1 * 16)).map ((Value.agg (List.replicate 16 (.int .u8 0)).toArray).cells[· % (Value.agg (List.replicate 16 (.int .u8 0)).toArray).cells.size]!)) (by intro v hv; rw [List.mem_singleton.1 hv]; exact hz) (by simp)
    have hb : (idB x).size = 16 := by simpa [idB, idW] using hx
    have hrs : r.size = 16 := by rw [hsz]; simp
    refine hr.trans (congrArg some (Array.ext_getElem? fun i => ?_))
    rw [hk i]
    by_cases hi : i < 16
    · rw [if_pos (by simpa using hi)]
      have e1 : i / 16 - 0 = 0 := by omega
      have e2 : i % 16 = i := by omega
      rw [e1, e2]
      rfl
    · rw [if_neg (by simpa using hi)]
      rw [Array.getElem?_eq_none (by simpa using Nat.le_of_not_lt hi), Array.getElem?_eq_none (by rw [hb]; omega)]
theorem ge_kp {wc w w' : World} {S : Nat → Prop} (h : Kp (fun i => wc.heap.size ≤ i) wc w) (k : Kp S w w') (hs : ∀ i, S i → wc.heap.size ≤ i) : Kp (fun i => wc.heap.size ≤ i) wc w' := h.then k (fun i _ e => hs i e)
theorem ge_kp0 {wc w w' : World} (h : Kp (fun i => wc.heap.size ≤ i) wc w) (k : Kp (fun _ => False) w w') : Kp (fun i => wc.heap.size ≤ i) wc w' := ge_kp h k (fun _ h => h.elim)
theorem RdI.ge {wc w : World} {a : Option Addr} {l : List Id} (h : RdI wc a l) (k : Kp (fun i => wc.heap.size ≤ i) wc w) : RdI w a l := RdI.kpge h h k (fun _ h => h)
set_option maxHeartbeats 1000000 in
theorem all_gives (m : Nat) (hm : 1 ≤ m) (wc : World) (bN n c : Nat) (a : Option Addr) (l : List Id) (hn : n = l.length) (hnb : n ≤ 1000000) (h : RdI wc a l) (hc : wc.cell? ⟨bN, 0, none⟩ = some (.slice a n c)) :
    Gives Fence.wide m Try.prog 52 #[.pointer (some ⟨bN, 0, none⟩)] (fun x => #[idV x]) l (Kp (fun _ => False)) (fun _ => Kp (fun i => wc.heap.size ≤ i) wc) (fun _ => True) := by
  intro yl J Jx W hJ hJx hY h0 hT
  obtain ⟨ZA, hz16, hZ⟩ := id_zero
  have H := Lib.hid (And.intro h (And.intro hn (And.intro hc (And.intro hz16 (World.block_lt_of_cell? wc _ hc)))))
  clear h hn hc hz16
  refine callsIn_of_wp Try.func52 rfl trivial ?_ rfl
  simp only [Try.ntmps52, List.size_toArray, List.length_cons, List.length_nil, Nat.reduceAdd, Nat.reduceSub, Array.replicate_succ, Array.replicate_zero, List.push_toArray, List.append_toArray, List.nil_append, List.cons_append]
  have cN := hT.cell H.out.2.2.1 (fun e => absurd e (Nat.not_le.2 H.out.2.2.2.2))
  gi_wp2
  gi_loopw [7] (fun iv wr => ∃ k : Nat, k ≤ n ∧ iv = .int .i64 k ∧ Kp (fun i => wc.heap.size ≤ i) wc wr ∧ J (l.take k) wr) (fun iv _ => n - (intOf iv).toNat)
  case atStart => exact ⟨0, by omega, rfl, hT, by rw [List.take_zero]; exact h0⟩
  case round =>
    clear hT cN h0
    obtain ⟨k, hk, rfl, ht, hj⟩ := hrel
    by_cases hlt : k < n
    · have j1 : (k : Int) < n := by omega
      have hki : k < l.length := by rw [← H.out.2.1]; exact hlt
      obtain ⟨b, off, rfl, hr⟩ := (H.out.1.ge ht).at' k hki
      have hx16 := H.out.1.ids.idn hki
      have htk : l.take (k + 1) = l.take k ++ [idn l k] := take_snoc l [] k hki
      have hpre : l.take k ++ [idn l k] <+: l := by rw [← htk]; exact List.take_prefix _ _
      obtain ⟨x, hx⟩ : ∃ x, x = idn l k := ⟨_, rfl⟩
      rw [← hx] at hr hx16 htk hpre
      have HL1 := Lib.hid (load_id hr hx16)
      have HS2 := Lib.hid (store_new hx16 H.out.2.2.2.1 wr)
      have HL3 := Lib.hid (load_new hx16 wr)
      have ka := (Kp.refl (fun _ => False) wr).alloc (.cells (idB x) 41)
      obtain ⟨fn, tmps, assign, body, hy, hR⟩ := hY (l.take k) x _ hpre (hJ _ _ _ hj ka) (ge_kp0 ht ka)
      have hv := idV_B x
      rw [hv] at HL1 HS2 HL3 hy
      have HP := Lib.hid (And.intro hpre htk)
      generalize idB x = VA at *
      clear hY hpre htk ht hj hr hx16 hki hx ka hv
      gi_wp2_with (first | (refine wpListIn_load_run HL1.out rfl rfl rfl ?_) | (refine wpListIn_store_run HS2.out rfl rfl rfl rfl ?_) | (refine wpListIn_load_run HL3.out rfl rfl rfl ?_))
      refine hR.mono ?_
      rintro e w4 (⟨rfl, hj4, ht4⟩ | ⟨rfl, hjx4⟩)
      · have H4 := Lib.hid (And.intro ht4 hj4)
        clear ht4 hj4 hy
        gi_wp2
        go_roundw
        case rel => exact ⟨k + 1, by omega, by go_num, H4.out.1, by rw [HP.out.2]; exact H4.out.2⟩
        case measure => simp [intOf]; omega
      · gi_wp2
        refine bodyPost_ret (results_none rfl _ _ _) rfl ?_
        exact ⟨⟨_, rfl⟩, .inr ⟨_, HP.out.1, hjx4⟩⟩
    · obtain rfl : k = n := by omega
      gi_wp2
      go_end0
      exact ⟨⟨_, rfl⟩, .inl ⟨by rw [H.out.2.1, List.take_length] at hj; exact hj, trivial⟩⟩
theorem all_any (a : Option Addr) (n c : Nat) (l : List Id) (hn : n = l.length) (hb : n ≤ 1000000) (w : World) (h : RdI w a l) :
    Calls Try.prog 44 #[.slice a n c] w fun e w' => ∃ v, e = .returned v ∧ Itr w' v l ∧ Kp (fun _ => False) w w' := by
  have ka := (Kp.refl (fun _ => False) w).alloc (.cells #[.slice a n c] 34)
  have HI := Lib.hid (show Itr (w.alloc (.cells #[.slice a n c] 34)) (.func (.func 52) #[] #[.pointer (some ⟨w.heap.size, 0, none⟩)]) l from
    ⟨h.ids, _, _, rfl, enters_of Try.func52 (by kernel_rfl) rfl, fun m hm => all_gives m hm _ _ n c a l hn hb (h.kp0 ka) (((At.new w [.slice a n c] 34).cell 0).trans rfl)⟩)
  have HK := Lib.hid ka
  clear h hn ka
  go_enter Try.func44, Try.ntmps44
  go_wp2
  go_ret
  exact ⟨_, rfl, HI.out, HK.out⟩
end Go.Proofs.Ytaibdkdmilhloaa
