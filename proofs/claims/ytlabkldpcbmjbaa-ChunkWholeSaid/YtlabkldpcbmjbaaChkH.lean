/- What the chunks of bytes are (plain), and the law's own together. No condition. (Written by wip/chkwhole.py.) -/
import Derived.Test.YtlabkldpcbmjbaaChkL
namespace Go.Proofs.Ytlabkldpcbmjbaa
open Go.RowKit
set_option linter.unusedVariables false
set_option linter.unusedSimpArgs false
theorem open_sm {x : List Int} (h : Open x) (j : Nat) (h1 : 64 ≤ j) (h2 : j ≤ x.length) : sm (last16 (x.take j)) / 16777216 ≠ 0 := fun e => by
  have := h j (by omega) h2
  have hl := h.lt
  unfold ends at this
  rw [List.length_take, Nat.min_eq_left h2, decide_eq_false (show ¬ j = 1024 by omega), decide_eq_true h1, decide_eq_true e] at this
  cases this
theorem chunk_law (l : List Int) (k : Nat) (hk : k < (chunks l).length) :
    1 ≤ ((chunks l).getD k []).length ∧ ((chunks l).getD k []).length ≤ 1024 ∧ (k + 1 < (chunks l).length → 64 ≤ ((chunks l).getD k []).length ∧ (((chunks l).getD k []).length < 1024 → sm (last16 ((chunks l).getD k [])) / 16777216 = 0)) ∧
      ∀ j, 64 ≤ j → j < ((chunks l).getD k []).length → sm (last16 (((chunks l).getD k []).take j)) / 16777216 ≠ 0 := by
  by_cases hf : k < (chs [] l).1.length
  · have e : (chunks l).getD k [] = (chs [] l).1[k] := by
      unfold chunks
      rw [List.getD_eq_getElem?_getD, List.getElem?_append_left hf, List.getElem?_eq_getElem hf]; rfl
    obtain ⟨h1, h2, h3⟩ := chs_each l [] Open.nil _ (List.getElem_mem hf)
    rw [e]
    generalize (chs [] l).1[k] = x at *
    have hx : 1 ≤ x.length := by cases x with | nil => exact absurd rfl h3 | cons => simp
    have hlt := h2.lt
    rw [List.length_take] at hlt
    refine ⟨hx, by omega, fun _ => ?_, fun j j1 j2 => ?_⟩
    · unfold ends at h1
      simp only [Bool.or_eq_true, Bool.and_eq_true, decide_eq_true_eq] at h1
      rcases h1 with h1 | ⟨h1, h4⟩
      · exact ⟨by omega, fun hh => by omega⟩
      · exact ⟨h1, fun _ => h4⟩
    · have := open_sm h2 j j1 (by rw [List.length_take]; omega)
      rwa [List.take_take, Nat.min_eq_left (by omega)] at this
  · have hk2 := hk
    unfold chunks at hk2
    rw [List.length_append] at hk2
    by_cases h0 : (chs [] l).2 = []
    · rw [if_pos h0] at hk2; simp at hk2; omega
    · rw [if_neg h0] at hk2
      have hke : k = (chs [] l).1.length := by simp at hk2; omega
      have e : (chunks l).getD k [] = (chs [] l).2 := by
        unfold chunks
        rw [if_neg h0, hke, List.getD_eq_getElem?_getD, List.getElem?_append_right (Nat.le_refl _), Nat.sub_self]; rfl
      have hlen : (chunks l).length = k + 1 := by unfold chunks; rw [if_neg h0, List.length_append, hke]; rfl
      have ho := chs_open l [] Open.nil
      have hlt := ho.lt
      rw [e]
      generalize (chs [] l).2 = x at *
      have hx : 1 ≤ x.length := by cases x with | nil => exact absurd rfl h0 | cons => simp
      exact ⟨hx, by omega, fun h => by omega, fun j j1 j2 => open_sm ho j j1 (by omega)⟩
theorem facts (x : List Int) (m q k N : Nat) (hm : m = x.length) (h48 : 48 ≤ q) (hq : q + 16 ≤ m) (hc : k + 1 < N → 64 ≤ m ∧ (m < 1024 → sm (last16 x) / 16777216 = 0)) (hn : ∀ j, 64 ≤ j → j < m → sm (last16 (x.take j)) / 16777216 ≠ 0) :
    ∃ S, S = sm (last16 (x.take (q + 16))) ∧ (q + 16 < m → (S / 16777216 == 0) = false) ∧ (q + 16 = m → k + 1 < N → m < 1024 → (S / 16777216 == 0) = true) := by
  refine ⟨_, rfl, fun h => ?_, fun h1 h2 h3 => ?_⟩
  · have := hn (q + 16) (by omega) h
    simpa using this
  · have e : x.take (q + 16) = x := by rw [h1, hm, List.take_length]
    rw [e]
    simpa using (hc h2).2 h3
theorem int3 {q m c : Nat} (h1 : q + 16 ≤ m) (h2 : m ≤ c) : (q : Int) + 16 ≤ (c : Int) ∧ q < c ∧ c ≠ q := by omega
theorem facts_sum (x : List Int) (m q c b o : Nat) (w : World) (S : Int) (hm : m = x.length) (hq : q + 16 ≤ m) (hS : S = sm (last16 (x.take (q + 16)))) (h : RdB w (some ⟨b, o, none⟩) x) :
    Calls Try.prog 32 #[.slice (some ⟨b, o + q, none⟩) 16 (c - q)] w fun e w' => w' = w ∧ e = .returned (.int .u32 S) := by
  have hsl := h.slice q 16
  have hla : last16 (x.take (q + 16)) = (x.drop q).take 16 := by
    unfold last16
    rw [List.length_take, Nat.min_eq_left (by omega), Nat.add_sub_cancel, List.drop_take]
    congr 1
    omega
  have hl16 : (last16 (x.take (q + 16))).length = 16 := by rw [hla, List.length_take, List.length_drop]; omega
  rw [← hla] at hsl
  rw [hS]
  refine (sum_n (some ⟨b, o + q, none⟩) 16 (c - q) (last16 (x.take (q + 16))) w hsl hl16).mono ?_
  rintro e w' ⟨h1, h2⟩
  exact ⟨h2.symm, h1⟩
set_option maxHeartbeats 4000000 in
theorem together_any (a : Option Addr) (N c : Nat) (ls : List (List Int)) (w : World) (h : RdL w a ls) (hN : ls.length = N) (hl : ls.flatten.length ≤ 1000000) (hNN : N ≤ 1000000) :
    Calls Try.prog 31 #[.slice a N c] w fun e w' => ∃ v, e = .returned v ∧ OwnB w' v ls.flatten ∧ (∀ g, v.ownBlock = some g → w.heap.size ≤ g) ∧ Kp (fun _ => False) w w' := by
  have HN := Lib.hid hN
  have HR := Lib.hid h
  clear hN h
  go_enter Try.func31, Try.ntmps31
  go_wp2
  go_loopw [4, 3] (fun i v wr => ∃ k : Nat, k ≤ N ∧ i = .int .i64 k ∧ OwnB wr v (ls.take k).flatten ∧ (∀ g, v.ownBlock = some g → w.heap.size ≤ g) ∧ Kp (fun _ => False) w wr) (fun i _ _ => N - (intOf i).toNat)
  case atStart => exact ⟨0, by omega, rfl, OwnB.nil' _, fun g hg => by simp [Value.ownBlock] at hg, Kp.refl _ _⟩
  case round =>
    obtain ⟨k, hk, rfl, ho, hvb, hkp⟩ := hrel
    by_cases hlt : k < N
    · have i1 : (k : Int) < N := by omega
      obtain ⟨b, o, ai, ci, rfl, hc, hr, _⟩ := HR.out k (by rw [HN.out]; exact hlt)
      have hc2 := hkp.cell hc (fun h => h)
      have hsn := take_snoc ls [] k (by rw [HN.out]; exact hlt)
      have hfl : (ls.take (k + 1)).flatten = (ls.take k).flatten ++ ls.getD k [] := by rw [hsn, List.flatten_append]; simp
      have hle : (ls.take (k + 1)).flatten.length ≤ ls.flatten.length := by
        have := congrArg (fun x => x.flatten.length) (List.take_append_drop (k + 1) ls)
        simp only [List.flatten_append, List.length_append] at this
        omega
      rw [hfl, List.length_append] at hle
      obtain ⟨v', w', h1, h2, h3, h4⟩ := run_append_b (P := Try.prog) (t := 22) (tx := 22) (ty := 22) wr Try.underlying22 elem_u8 Try.underlying22 ho (a := ai) (c := ci) (m := ls.getD k []) (hr.kp0 hkp (fun _ _ h => h)) (by omega)
      rw [← hfl] at h2
      have HA := Lib.hid h1
      obtain ⟨A', c', e', _, _⟩ := h2.form
      obtain ⟨m', hm'⟩ : ∃ m', m' = (ls.take (k + 1)).flatten.length := ⟨_, rfl⟩
      rw [← hm'] at e'
      subst e'
      clear hm'
      have HF := Lib.hid (And.intro h2 (And.intro (show ∀ g, (Value.slice A' m' c').ownBlock = some g → w.heap.size ≤ g from fun g hg => by
        rcases h4 with e | e
        · exact hvb g (e ▸ hg)
        · rw [e] at hg; simp at hg; have := hkp.size; omega) (hkp.then h3 (fun i hi e => by have := hvb i e; omega))))
      obtain ⟨va, vc, rfl, _, _⟩ := ho.form
      clear ho hvb hkp h1 h2 h3 h4 hc hr hsn hfl hle
      generalize (ls.getD k []).length = y at *
      go_wp2_with (at_builtin; refine wpList_append_run _ HA.out rfl rfl rfl rfl ?_)
      go_roundw
      case rel => exact ⟨k + 1, by omega, by go_num, HF.out.1, HF.out.2.1, HF.out.2.2⟩
      case measure => simp [intOf]; omega
    · obtain rfl : k = N := by omega
      rw [List.take_of_length_le (by rw [HN.out]; exact Nat.le_refl _)] at ho
      go_wp2
      go_ret
      exact ⟨_, rfl, ho, hvb, hkp⟩
end Go.Proofs.Ytlabkldpcbmjbaa
