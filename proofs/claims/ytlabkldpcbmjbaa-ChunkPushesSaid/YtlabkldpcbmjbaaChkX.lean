/- Package chunk: Cut. -/
import Derived.Test.YtlabkldpcbmjbaaChkW
namespace Go.Proofs.Ytlabkldpcbmjbaa
open Go.RowKit
set_option linter.unusedVariables false
set_option linter.unusedSimpArgs false
def ints (l : List Nat) : List Value := l.map fun n => .int .i64 (n : Nat)
theorem ints_snoc (l : List Nat) (n : Nat) : ints (l ++ [n]) = ints l ++ [.int .i64 (n : Nat)] := by simp [ints]
def lens (ls : List (List Int)) : List Nat := ls.map List.length
theorem lens_len (ls : List (List Int)) : (lens ls).length = ls.length := by simp [lens]
theorem lens_getD (ls : List (List Int)) (i : Nat) : (lens ls).getD i 0 = (ls.getD i []).length := by
  rw [List.getD_eq_getElem?_getD, List.getD_eq_getElem?_getD, lens, List.getElem?_map]
  cases ls[i]? <;> rfl
theorem chunks_len (l : List Int) : (chunks l).length ≤ l.length + 1 := by
  have := chs_len_le l []
  unfold chunks
  rw [List.length_append]
  split <;> simp <;> omega
set_option maxHeartbeats 4000000 in
theorem cut_any (a : Option Addr) (cap : Nat) (l : List Int) (w : World) (h : RdB w a l) (hl : l.length ≤ 100000) (hcap : l.length ≤ cap) (hcm : cap ≤ maxLen) :
    Calls Try.prog 13 #[.slice a l.length cap] w fun e w' => ∃ v, e = .returned v ∧ Own w' v (chunks l).length 1 (ints (lens (chunks l))) ∧ (∀ g, v.ownBlock = some g → w.heap.size ≤ g) ∧ Kp (fun _ => False) w w' := by
  have C := Lib.hid (split_any a cap l w h hl hcap hcm)
  have hcl := chunks_len l
  generalize hls : chunks l = ls at *
  generalize l.length = n at *
  clear hls h
  go_enter Try.func13, Try.ntmps13
  go_upto_region 3 with (go_at_call 12; (with_reducible refine C.out.mono ?_); rintro e w1 ⟨v, vs, rfl, hv, k1⟩; obtain ⟨A, cv, rfl, _, _⟩ := hv.own.form; have H1 := Lib.hid (And.intro hv k1); clear hv k1)
  generalize hN : ls.length = N at *
  have HN := Lib.hid hN
  clear hN
  go_loopw [9, 3] (fun i v wr => ∃ k : Nat, k ≤ N ∧ i = .int .i64 k ∧ Own wr v k 1 (ints ((lens ls).take k)) ∧ (∀ g, v.ownBlock = some g → w1.heap.size ≤ g) ∧ Kp (fun _ => False) w1 wr) (fun i _ _ => N - (intOf i).toNat)
  case atStart => exact ⟨0, by omega, rfl, Own.nil _ 1, fun g hg => by simp [Value.ownBlock] at hg, Kp.refl _ _⟩
  case round =>
    obtain ⟨k, hk, rfl, ho, hvb, hkp⟩ := hrel
    by_cases hlt : k < N
    · have i1 : (k : Int) < N := by omega
      have hvl := H1.out.1.len
      have how := H1.out.1.own
      rw [HN.out] at how
      obtain ⟨b, off, rfl, hc⟩ := how.rd k (show k < vs.length by have := HN.out; omega)
      obtain ⟨ai, ci, e, _, _⟩ := (H1.out.1.each k (by have := HN.out; omega)).form
      have e2 : vs.getD k (Value.int .i64 0) = vs.getD k undef := by
        rw [List.getD_eq_getElem?_getD, List.getD_eq_getElem?_getD, List.getElem?_eq_getElem (show k < vs.length by have := HN.out; omega)]; rfl
      have hc2 : wr.cell? ⟨b, off + k, none⟩ = some (.slice ai (ls.getD k []).length ci) := hkp.cell (by rw [← e]; exact hc) (fun h => h)
      have HL := Lib.hid ((take_snoc (lens ls) 0 k (by rw [lens_len]; have := HN.out; omega)).trans (by rw [lens_getD]))
      generalize (ls.getD k []).length = m at *
      have hka := (Kp.refl (fun _ => False) wr).alloc (.cells #[.int .i64 (m : Nat)] 3)
      have hat : At (wr.alloc (.cells #[.int .i64 (m : Nat)] 3)) wr.heap.size [.int .i64 (m : Nat)] := At.new wr [.int .i64 (m : Nat)] _
      obtain ⟨v', w', h1, h2, h3, h4, _⟩ := run_append_at (P := Try.prog) (t := 26) (tx := 26) (ty := 26) (wr.alloc (.cells #[.int .i64 (m : Nat)] 3)) Try.underlying26 elem_int Try.underlying26 (ho.kp hka (fun _ _ h => h)) (a := some ⟨wr.heap.size, 0, none⟩) (m := 1) (c := 1) (news := [.int .i64 (m : Nat)]) (by simp)
        (fun i hi => by simp at hi; subst hi; exact ⟨_, _, rfl, by rw [hat.cell]; rfl⟩) (by simp [Value.oneCell']) (by unfold maxLen; omega) (by omega)
      have HR4 := Lib.hid h1
      obtain ⟨A', c', e2, _, _⟩ := h2.form
      subst e2
      have HF := Lib.hid (And.intro h2 (And.intro (show ∀ x, (Value.slice A' (k + 1) c').ownBlock = some x → w1.heap.size ≤ x from fun x hx => by
        rcases h4 with e | e
        · exact hvb x (e ▸ hx)
        · rw [hx] at e; have := hka.size; have := hkp.size; simp only [Option.some.injEq] at e; omega) ((hkp.trans hka).then h3 (fun i hi e => by have := hvb i e; omega))))
      clear ho hvb hkp hka h1 h2 h3 h4 hat hc e
      go_wp2_with (at_builtin; refine wpList_append_run _ HR4.out rfl rfl rfl rfl ?_)
      go_roundw
      case rel => exact ⟨k + 1, by omega, by go_num, by rw [HL.out, ints_snoc]; exact HF.out.1, HF.out.2.1, HF.out.2.2⟩
      case measure => simp [intOf]; omega
    · obtain rfl : k = N := by omega
      go_wp2
      go_ret
      rw [List.take_of_length_le (by rw [lens_len]; have := HN.out; omega)] at ho
      exact ⟨_, rfl, by rw [HN.out]; exact ho, fun g hg => by have := hvb g hg; have := H1.out.2.size; omega, H1.out.2.trans hkp⟩
end Go.Proofs.Ytlabkldpcbmjbaa
