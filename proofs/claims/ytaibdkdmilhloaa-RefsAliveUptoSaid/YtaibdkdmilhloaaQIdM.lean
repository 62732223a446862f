/- Manifests in memory; the iterator over all chunks that they name. (Written by wip/ref20d.py.) -/
import Derived.Test.YtaibdkdmilhloaaQIdI
namespace Go.Proofs.Ytaibdkdmilhloaa
open Go.RowKit
set_option linter.unusedVariables false
set_option linter.unusedSimpArgs false
attribute [local go_sem] Oper.semAt_some
theorem cell_ge {wc w : World} {p : Addr} {v : Value} (h : wc.cell? p = some v) (k : Kp (fun i => wc.heap.size ≤ i) wc w) : w.cell? p = some v := k.cell h (fun e => absurd e (Nat.not_le.2 (World.block_lt_of_cell? wc p h)))
def itn (its : List (List Id)) (i : Nat) : List Id := its.getD i []
def mn (ms : List (List (List Id))) (i : Nat) : List (List Id) := ms.getD i []
/-- The slice reads as items with these chunks. -/
def RdT (w : World) (a : Option Addr) (its : List (List Id)) : Prop :=
  ∀ i, i < its.length → ∃ b off p kd md sz t ac cc, a = some ⟨b, off, none⟩ ∧ w.cell? ⟨b, off + i * 6, none⟩ = some (.string p) ∧ w.cell? ⟨b, off + i * 6 + 1, none⟩ = some (.int .i64 kd) ∧ w.cell? ⟨b, off + i * 6 + 2, none⟩ = some (.int .i64 md) ∧ w.cell? ⟨b, off + i * 6 + 3, none⟩ = some (.int .i64 sz) ∧
    w.cell? ⟨b, off + i * 6 + 4, none⟩ = some (.string t) ∧ w.cell? ⟨b, off + i * 6 + 5, none⟩ = some (.slice ac (itn its i).length cc) ∧ RdI w ac (itn its i) ∧ (itn its i).length ≤ cc ∧ (itn its i).length ≤ 2000000
theorem RdT.ge {wc w : World} {a : Option Addr} {its : List (List Id)} (h : RdT wc a its) (k : Kp (fun i => wc.heap.size ≤ i) wc w) : RdT w a its := fun i hi => by
  obtain ⟨b, off, p, kd, md, sz, t, ac, cc, e, h0, h1, h2, h3, h4, h5, h6, h7⟩ := h i hi
  exact ⟨b, off, p, kd, md, sz, t, ac, cc, e, cell_ge h0 k, cell_ge h1 k, cell_ge h2 k, cell_ge h3 k, cell_ge h4 k, cell_ge h5 k, h6.ge k, h7⟩
/-- The slice reads as manifests with these items. -/
def RdM (w : World) (a : Option Addr) (ms : List (List (List Id))) : Prop :=
  ∀ i, i < ms.length → ∃ b off x0 x1 x2 x3 ai ci, a = some ⟨b, off, none⟩ ∧ w.cell? ⟨b, off + i * 5, none⟩ = some (.int .i64 x0) ∧ w.cell? ⟨b, off + i * 5 + 1, none⟩ = some (.int .i64 x1) ∧ w.cell? ⟨b, off + i * 5 + 2, none⟩ = some (.int .i64 x2) ∧ w.cell? ⟨b, off + i * 5 + 3, none⟩ = some (.int .i64 x3) ∧
    w.cell? ⟨b, off + i * 5 + 4, none⟩ = some (.slice ai (mn ms i).length ci) ∧ RdT w ai (mn ms i) ∧ (mn ms i).length ≤ ci ∧ (mn ms i).length ≤ 2000000
theorem RdM.ge {wc w : World} {a : Option Addr} {ms : List (List (List Id))} (h : RdM wc a ms) (k : Kp (fun i => wc.heap.size ≤ i) wc w) : RdM w a ms := fun i hi => by
  obtain ⟨b, off, x0, x1, x2, x3, ai, ci, e, h0, h1, h2, h3, h4, h5, h6⟩ := h i hi
  exact ⟨b, off, x0, x1, x2, x3, ai, ci, e, cell_ge h0 k, cell_ge h1 k, cell_ge h2 k, cell_ge h3 k, cell_ge h4 k, h5.ge k, h6⟩
theorem RdM.kp0 {w w' : World} {a : Option Addr} {ms : List (List (List Id))} (h : RdM w a ms) (k : Kp (fun _ => False) w w') : RdM w' a ms := h.ge (k.mono (fun _ _ h => h.elim))
/-- All chunks that are named, in order, as often as they are. -/
def allI (ms : List (List (List Id))) : List Id := (ms.map List.flatten).flatten
theorem allI_app (a b : List (List (List Id))) : allI (a ++ b) = allI a ++ allI b := by simp [allI]
theorem allI_one (m : List (List Id)) : allI [m] = m.flatten := by simp [allI]
theorem Ids.of_mem {ms : List (List (List Id))} (h : ∀ i, i < ms.length → ∀ j, j < (mn ms i).length → Ids (itn (mn ms i) j)) : Ids (allI ms) := fun x hx => by
  unfold allI at hx
  simp only [List.mem_flatten, List.mem_map] at hx
  obtain ⟨_, ⟨m, hm, rfl⟩, hx⟩ := hx
  obtain ⟨it, hit, hx⟩ := List.mem_flatten.1 hx
  obtain ⟨i, hi, e1⟩ := List.getElem_of_mem hm
  have e2 : mn ms i = m := by unfold mn; rw [List.getD_eq_getElem?_getD, List.getElem?_eq_getElem hi]; exact e1
  obtain ⟨j, hj, e3⟩ := List.getElem_of_mem hit
  have e4 : itn m j = it := by unfold itn; rw [List.getD_eq_getElem?_getD, List.getElem?_eq_getElem hj]; exact e3
  have := h i hi j (by rw [e2]; exact hj)
  rw [e2, e4] at this
  exact this x hx
theorem RdM.ids {w : World} {a : Option Addr} {ms : List (List (List Id))} (h : RdM w a ms) : Ids (allI ms) := Ids.of_mem fun i hi j hj => by
  obtain ⟨b, off, x0, x1, x2, x3, ai, ci, e, h0, h1, h2, h3, h4, h5, h6⟩ := h i hi
  obtain ⟨b', off', p, kd, md, sz, t, ac, cc, e', g0, g1, g2, g3, g4, g5, g6, g7⟩ := h5 j hj
  exact g6.ids
/-- What has come behind so many manifests, items and chunks. -/
def sofar (ms : List (List (List Id))) (i j k : Nat) : List Id := allI (ms.take i) ++ ((mn ms i).take j).flatten ++ (itn (mn ms i) j).take k
theorem sofar_000 (ms : List (List (List Id))) (i : Nat) : sofar ms i 0 0 = allI (ms.take i) := by simp [sofar]
theorem sofar_next {ms : List (List (List Id))} {i j k : Nat} (hk : k < (itn (mn ms i) j).length) : sofar ms i j (k + 1) = sofar ms i j k ++ [idn (itn (mn ms i) j) k] := by
  unfold sofar
  rw [take_snoc (itn (mn ms i) j) [] k hk, ← List.append_assoc]; rfl
theorem sofar_item {ms : List (List (List Id))} {i j : Nat} (hj : j < (mn ms i).length) : sofar ms i j (itn (mn ms i) j).length = sofar ms i (j + 1) 0 := by
  unfold sofar
  rw [List.take_length, take_snoc (mn ms i) [] j hj, List.flatten_append, List.take_zero, List.append_nil, List.append_assoc]
  simp [itn]
theorem sofar_man {ms : List (List (List Id))} {i : Nat} (hi : i < ms.length) : sofar ms i (mn ms i).length 0 = allI (ms.take (i + 1)) := by
  unfold sofar
  rw [List.take_length, take_snoc ms [] i hi, allI_app, allI_one, List.take_zero, List.append_nil]; rfl
theorem sofar_pre {ms : List (List (List Id))} {i j k : Nat} (hi : i < ms.length) (hj : j < (mn ms i).length) : sofar ms i j k <+: allI ms := by
  have h1 : sofar ms i j k <+: sofar ms i j (itn (mn ms i) j).length := by
    unfold sofar
    exact (List.prefix_append_right_inj _).2 (by rw [List.take_length]; exact List.take_prefix _ _)
  rw [sofar_item hj] at h1
  have h2 : sofar ms i (j + 1) 0 <+: sofar ms i (mn ms i).length 0 := by
    unfold sofar
    rw [List.take_zero, List.take_zero, List.append_nil, List.append_nil]
    refine (List.prefix_append_right_inj _).2 ⟨((mn ms i).drop (j + 1)).flatten, ?_⟩
    rw [← List.flatten_append, List.take_length, List.take_append_drop]
  rw [sofar_man hi] at h2
  have h3 : allI (ms.take (i + 1)) <+: allI ms := ⟨allI (ms.drop (i + 1)), by rw [← allI_app, List.take_append_drop]⟩
  exact (h1.trans h2).trans h3
/-- What an iterator over manifests needs: what it reads lies as it did, and its own variable too. -/
def TN (w0 : World) (bN : Nat) (v : Value) (W : World) : Prop := Kp (fun i => w0.heap.size ≤ i) w0 W ∧ W.cell? ⟨bN, 0, none⟩ = some v
theorem TN.kp0 {w0 W W' : World} {bN : Nat} {v : Value} (h : TN w0 bN v W) (k : Kp (fun _ => False) W W') : TN w0 bN v W' := ⟨ge_kp0 h.1 k, k.cell h.2 (fun h => h)⟩
/-- An iterator that needs less serves where more holds. -/
theorem Gives.weak {gf m : Nat} {lb : Array Value} {l : List Id} {T T' : World → Prop} (h4 : Gives Fence.wide m Try.prog gf lb (fun x => #[idV x]) l (Kp (fun _ => False)) (fun _ => T) (fun _ => True)) (hTT : ∀ W, T' W → T W) (hk : ∀ A A', T' A → Kp (fun _ => False) A A' → T' A') :
    Gives Fence.wide m Try.prog gf lb (fun x => #[idV x]) l (Kp (fun _ => False)) (fun _ => T') (fun _ => True) := by
  intro yl J Jx W hJ hJx hY h0 hT
  refine (h4 yl (fun pre A => J pre A ∧ T' A) Jx W (fun s A A' h k => ⟨hJ s A A' h.1 k, hk A A' h.2 k⟩) hJx (fun pre x W1 hp hj ht => ?_) ⟨h0, hT⟩ (hTT W hT)).mono ?_
  · obtain ⟨fn, tmps, assign, body, hy, hR⟩ := hY pre x W1 hp hj.1 hj.2
    refine ⟨fn, tmps, assign, body, hy, hR.mono ?_⟩
    rintro e W' (⟨rfl, h1, h2⟩ | h1)
    · exact .inl ⟨rfl, ⟨h1, h2⟩, hTT W' h2⟩
    · exact .inr h1
  · rintro e W' ⟨h1, (⟨h2, h3⟩ | h2)⟩
    · exact ⟨h1, .inl ⟨h2.1, h3⟩⟩
    · exact ⟨h1, .inr h2⟩
set_option maxHeartbeats 2000000 in
set_option maxRecDepth 20000 in
theorem named_gives' (m : Nat) (hm : 1 ≤ m) (wc : World) (bN n c : Nat) (a : Option Addr) (ms : List (List (List Id))) (hn : n = ms.length) (hnb : n ≤ 1000000) (h : RdM wc a ms) :
    Gives Fence.wide m Try.prog 51 #[.pointer (some ⟨bN, 0, none⟩)] (fun x => #[idV x]) (allI ms) (Kp (fun _ => False)) (fun _ => TN wc bN (.slice a n c)) (fun _ => True) := by
  obtain ⟨sl, hsl⟩ : ∃ sl, sl = Value.slice a n c := ⟨_, rfl⟩
  rw [← hsl]
  intro yl J Jx W hJ hJx hY h0 hT
  obtain ⟨ZA, hz16, hZ⟩ := id_zero
  have H := Lib.hid (And.intro h (And.intro hn (And.intro trivial (And.intro hz16 trivial))))
  have HJ := Lib.hid (And.intro hJ hY)
  clear h hn hz16 hJ hJx hY
  refine callsIn_of_wp Try.func51 rfl trivial ?_ rfl
  simp only [Try.ntmps51, List.size_toArray, List.length_cons, List.length_nil, Nat.reduceAdd, Nat.reduceSub, Array.replicate_succ, Array.replicate_zero, List.push_toArray, List.append_toArray, List.nil_append, List.cons_append]
  have cN := hT.2
  rw [hsl] at cN
  clear hsl
  gi_wp2
  gi_loopw [11] (fun iv wr => ∃ i : Nat, i ≤ n ∧ iv = .int .i64 i ∧ TN wc bN sl wr ∧ J (allI (ms.take i)) wr) (fun iv _ => n - (intOf iv).toNat)
  case atStart => exact ⟨0, by omega, rfl, hT, by simpa [allI] using h0⟩
  case round =>
    clear hT cN h0
    obtain ⟨i, hi, rfl, ht, hj⟩ := hrel
    by_cases hlt : i < n
    · have j1 : (i : Int) < n := by omega
      have hii : i < ms.length := by rw [← H.out.2.1]; exact hlt
      obtain ⟨b, off, x0, x1, x2, x3, ai, ci, rfl, f0, f1, f2, f3, f4, _, hq, hq6⟩ := H.out.1.ge ht.1 i hii
      obtain ⟨_, _, _, _, _, _, ai', _, e', _, _, _, _, f4', hT0, _, _⟩ := H.out.1 i hii
      cases e'
      have f4'' := cell_ge f4' ht.1
      rw [f4] at f4''
      simp only [Option.some.injEq, Value.slice.injEq] at f4''
      obtain ⟨rfl, _, _⟩ := f4''
      rename_i q1 q2
      clear q1 q2
      obtain ⟨L, hL⟩ : ∃ L, L = (mn ms i).length := ⟨_, rfl⟩
      rw [← hL] at f4 f4' hq hq6
      have HI := Lib.hid (And.intro hii (And.intro hL (And.intro ht (And.intro hj hT0))))
      clear hii hL ht hj hT0 f4'
      gi_wp2
      gi_loopw [18] (fun jv wr => ∃ j : Nat, j ≤ L ∧ jv = .int .i64 j ∧ TN wc bN sl wr ∧ J (sofar ms i j 0) wr) (fun jv _ => L - (intOf jv).toNat)
      case atStart =>
        have ka := (Kp.refl (fun _ => False) wr).alloc (.cells #[.int .i64 x0, .int .i64 x1, .int .i64 x2, .int .i64 x3, .slice ai L ci] 54)
        exact ⟨0, by omega, rfl, HI.out.2.2.1.kp0 ka, by rw [sofar_000]; exact HJ.out.1 _ _ _ HI.out.2.2.2.1 ka⟩
      case round =>
        obtain ⟨j, hj, rfl, ht, hjj⟩ := hrel
        clear f0 f1 f2 f3 f4
        by_cases hlj : j < L
        · have j2 : (j : Int) < L := by omega
          have hji : j < (mn ms i).length := by rw [← HI.out.2.1]; exact hlj
          obtain ⟨bb, oo, p, kd, md, sz, tt, ac, cc, rfl, g0, g1, g2, g3, g4, g5, hI0, hq1, hq2⟩ := HI.out.2.2.2.2 j hji
          obtain ⟨ch, hch⟩ : ∃ ch, ch = itn (mn ms i) j := ⟨_, rfl⟩
          obtain ⟨C, hC⟩ : ∃ C, C = (itn (mn ms i) j).length := ⟨_, rfl⟩
          rw [← hC] at g5 hq1 hq2
          have HC := Lib.hid (And.intro hji (And.intro hC (And.intro ht (And.intro hjj hI0))))
          replace g0 := cell_ge g0 ht.1
          replace g1 := cell_ge g1 ht.1
          replace g2 := cell_ge g2 ht.1
          replace g3 := cell_ge g3 ht.1
          replace g4 := cell_ge g4 ht.1
          replace g5 := cell_ge g5 ht.1
          clear hji hC ht hjj hI0 hch
          gi_wp2
          gi_loopw [25] (fun kv wr => ∃ k : Nat, k ≤ C ∧ kv = .int .i64 k ∧ TN wc bN sl wr ∧ J (sofar ms i j k) wr) (fun kv _ => C - (intOf kv).toNat)
          case atStart =>
            have ka := (Kp.refl (fun _ => False) wr).alloc (.cells #[.string p, .int .i64 kd, .int .i64 md, .int .i64 sz, .string tt, .slice ac C cc] 56)
            exact ⟨0, by omega, rfl, HC.out.2.2.1.kp0 ka, HJ.out.1 _ _ _ HC.out.2.2.2.1 ka⟩
          case round =>
            obtain ⟨k, hk, rfl, ht, hjk⟩ := hrel
            clear g0 g1 g2 g3 g4 g5
            by_cases hlk : k < C
            · have j3 : (k : Int) < C := by omega
              have hki : k < (itn (mn ms i) j).length := by rw [← HC.out.2.1]; exact hlk
              obtain ⟨b3, o3, rfl, hr⟩ := (HC.out.2.2.2.2.ge ht.1).at' k hki
              have hx16 := HC.out.2.2.2.2.ids.idn hki
              have hnx := sofar_next hki
              have hpre : sofar ms i j k ++ [idn (itn (mn ms i) j) k] <+: allI ms := by rw [← hnx]; exact sofar_pre HI.out.1 HC.out.1
              obtain ⟨x, hx⟩ : ∃ x, x = idn (itn (mn ms i) j) k := ⟨_, rfl⟩
              rw [← hx] at hr hx16 hnx hpre
              have HL1 := Lib.hid (load_id hr hx16)
              have HS2 := Lib.hid (store_new hx16 H.out.2.2.2.1 wr)
              have HL3 := Lib.hid (load_new hx16 wr)
              have ka := (Kp.refl (fun _ => False) wr).alloc (.cells (idB x) 41)
              obtain ⟨fn, tmps, assign, body, hy, hR⟩ := HJ.out.2 _ x _ hpre (HJ.out.1 _ _ _ hjk ka) (ht.kp0 ka)
              have hv := idV_B x
              rw [hv] at HL1 HS2 HL3 hy
              have HP := Lib.hid (And.intro hpre hnx)
              generalize idB x = VA at *
              clear hpre hnx ht hjk hr hx16 hki hx ka hv
              gi_wp2_with (first | (refine wpListIn_load_run HL1.out rfl rfl rfl ?_) | (refine wpListIn_store_run HS2.out rfl rfl rfl rfl ?_) | (refine wpListIn_load_run HL3.out rfl rfl rfl ?_))
              refine hR.mono ?_
              rintro e w4 (⟨rfl, hj4, ht4⟩ | ⟨rfl, hjx4⟩)
              · have H4 := Lib.hid (And.intro ht4 hj4)
                clear ht4 hj4 hy
                gi_wp2
                go_roundw
                case rel => exact ⟨k + 1, by omega, by go_num, H4.out.1, by rw [HP.out.2]; exact H4.out.2⟩
                case measure => simp [intOf]; omega
              · gi_wp2
                refine bodyPost_ret (results_none rfl _ _ _) rfl ?_
                exact ⟨⟨_, rfl⟩, .inr ⟨_, HP.out.1, hjx4⟩⟩
            · obtain rfl : k = C := by omega
              have HK := Lib.hid (And.intro ht hjk)
              clear ht hjk hlk
              gi_wp2
              go_roundw
              case rel => exact ⟨j + 1, by omega, by go_num, HK.out.1, by rw [← sofar_item HC.out.1, ← HC.out.2.1]; exact HK.out.2⟩
              case measure => simp [intOf]; omega
        · obtain rfl : j = L := by omega
          have HK := Lib.hid (And.intro ht hjj)
          clear ht hjj hlj
          gi_wp2
          go_roundw
          case rel => exact ⟨i + 1, by omega, by go_num, HK.out.1, by rw [← sofar_man HI.out.1, ← HI.out.2.1]; exact HK.out.2⟩
          case measure => simp [intOf]; omega
    · obtain rfl : i = n := by omega
      gi_wp2
      go_end0
      exact ⟨⟨_, rfl⟩, .inl ⟨by rw [H.out.2.1, List.take_length] at hj; exact hj, trivial⟩⟩
theorem named_gives (m : Nat) (hm : 1 ≤ m) (wc : World) (bN n c : Nat) (a : Option Addr) (ms : List (List (List Id))) (hn : n = ms.length) (hnb : n ≤ 1000000) (h : RdM wc a ms) (hc : wc.cell? ⟨bN, 0, none⟩ = some (.slice a n c)) :
    Gives Fence.wide m Try.prog 51 #[.pointer (some ⟨bN, 0, none⟩)] (fun x => #[idV x]) (allI ms) (Kp (fun _ => False)) (fun _ => Kp (fun i => wc.heap.size ≤ i) wc) (fun _ => True) :=
  Gives.weak (named_gives' m hm wc bN n c a ms hn hnb h) (fun W k => ⟨k, cell_ge hc k⟩) (fun A A' h k => ge_kp0 h k)
theorem named_any (a : Option Addr) (n c : Nat) (ms : List (List (List Id))) (hn : n = ms.length) (hb : n ≤ 1000000) (w : World) (h : RdM w a ms) :
    Calls Try.prog 42 #[.slice a n c] w fun e w' => ∃ v, e = .returned v ∧ Itr w' v (allI ms) ∧ Kp (fun _ => False) w w' := by
  have ka := (Kp.refl (fun _ => False) w).alloc (.cells #[.slice a n c] 33)
  have HI := Lib.hid (show Itr (w.alloc (.cells #[.slice a n c] 33)) (.func (.func 51) #[] #[.pointer (some ⟨w.heap.size, 0, none⟩)]) (allI ms) from
    ⟨h.ids, _, _, rfl, enters_of Try.func51 (by kernel_rfl) rfl, fun m hm => named_gives m hm _ _ n c a ms hn hb (h.kp0 ka) (((At.new w [.slice a n c] 33).cell 0).trans rfl)⟩)
  have HK := Lib.hid ka
  clear h hn ka
  go_enter Try.func42, Try.ntmps42
  go_wp2
  go_ret
  exact ⟨_, rfl, HI.out, HK.out⟩
/-- The same, told for worlds in which what was made ahead of the iterator may turn. -/
theorem named_any' (w0 : World) (a : Option Addr) (n c : Nat) (ms : List (List (List Id))) (hn : n = ms.length) (hb : n ≤ 1000000) (w : World) (h : RdM w0 a ms) :
    Calls Try.prog 42 #[.slice a n c] w fun e w' => ∃ gf lb, e = .returned (.func (.func gf) #[] lb) ∧ (∀ args w, (callFunc gf args).run Try.prog w = .ok (.enter gf args) w) ∧
      (∀ m, 1 ≤ m → Gives Fence.wide m Try.prog gf lb (fun x => #[idV x]) (allI ms) (Kp (fun _ => False)) (fun _ => TN w0 w.heap.size (.slice a n c)) (fun _ => True)) ∧ At w' w.heap.size [.slice a n c] ∧ Kp (fun _ => False) w w' := by
  have ka := (Kp.refl (fun _ => False) w).alloc (.cells #[.slice a n c] 33)
  have HI := Lib.hid (And.intro (enters_of Try.func51 (by kernel_rfl) rfl) (And.intro (fun m (hm : 1 ≤ m) => named_gives' m hm w0 w.heap.size n c a ms hn hb h) (And.intro (At.new w [.slice a n c] 33) ka)))
  clear h hn ka
  go_enter Try.func42, Try.ntmps42
  go_wp2
  go_ret
  exact ⟨_, _, rfl, HI.out.1, HI.out.2.1, HI.out.2.2.1, HI.out.2.2.2⟩
/-- An iterator serves in later worlds. -/
theorem Itr.later {w w' : World} {v : Value} {l : List Id} (h : Itr w v l) (k : Kp (fun i => w.heap.size ≤ i) w w') : Itr w' v l := by
  obtain ⟨h1, gf, lb, h2, h3, h4⟩ := h
  have hs := k.size
  refine ⟨h1, gf, lb, h2, h3, fun m hm yl J Jx W hJ hJx hY h0 hT => ?_⟩
  refine (h4 m hm yl (fun pre A => J pre A ∧ Kp (fun i => w'.heap.size ≤ i) w' A) Jx W (fun s A A' h k => ⟨hJ s A A' h.1 k, h.2.trans (k.mono (fun _ _ h => h.elim))⟩) hJx (fun pre x W1 hp hj ht => ?_) ⟨h0, hT⟩ (k.trans (hT.mono (fun i _ e => Nat.le_trans hs e)))).mono ?_
  · obtain ⟨fn, tmps, assign, body, hy, hR⟩ := hY pre x W1 hp hj.1 hj.2
    refine ⟨fn, tmps, assign, body, hy, hR.mono ?_⟩
    rintro e W' (⟨rfl, h1, h2⟩ | h1)
    · exact .inl ⟨rfl, ⟨h1, h2⟩, k.trans (h2.mono (fun i _ e => Nat.le_trans hs e))⟩
    · exact .inr h1
  · rintro e W' ⟨h1, (⟨h2, h3⟩ | h2)⟩
    · exact ⟨h1, .inl ⟨h2.1, h3⟩⟩
    · exact ⟨h1, .inr h2⟩
end Go.Proofs.Ytaibdkdmilhloaa
