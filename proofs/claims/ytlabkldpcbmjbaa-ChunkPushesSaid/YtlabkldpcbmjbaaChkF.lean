/- Chapter 06: the document's answer: ends, Next. -/
import Derived.Test.YtlabkldpcbmjbaaChkY
import Derived.Test.YtlabkldpcbmjbaaMid
namespace Go.Proofs.Ytlabkldpcbmjbaa
open Go.RowKit
set_option linter.unusedVariables false
set_option linter.unusedSimpArgs false
theorem RdB.pre {w : World} {a : Option Addr} {l : List Int} (h : RdB w a l) (k : Nat) : RdB w a (l.take k) :=
  ⟨fun i hi => by
    have hi' : i < k ∧ i < l.length := by simp at hi; omega
    obtain ⟨b, off, ha, hc⟩ := h.cell i hi'.2
    exact ⟨b, off, ha, by rw [hc]; simp [List.getD_eq_getElem?_getD, hi'.1]⟩, h.bd.take k, by have := h.len; simp; omega⟩
theorem rends_any (a : Option Addr) (cap : Nat) (l : List Int) (w : World) (h : RdB w a l) (hl : l.length ≤ 1000000) (hcap : l.length ≤ cap) :
    Calls Try.prog 41 #[.slice a l.length cap] w fun e w' => e = .returned (.bool (ends l)) ∧ w = w' := by
  have HE : Hid (ends l = (decide (l.length = 1024) || (decide (64 ≤ l.length) && decide (sm (last16 l) / 16777216 = 0)))) := rfl
  by_cases h64 : 64 ≤ l.length
  · obtain ⟨b, o, rfl, _⟩ := h.cell 0 (by omega)
    have hr := h.slice (l.length - 16) 16
    have hd : (l.drop (l.length - 16)).take 16 = last16 l := by rw [List.take_of_length_le (by simp; omega)]; rfl
    rw [hd] at hr
    have hll : (last16 l).length = 16 := by simp [last16]; omega
    have CS := Lib.hid (rsum_n (some ⟨b, o + (l.length - 16), none⟩) 16 (cap - (l.length - 16)) (last16 l) w hr hll)
    have hs := sm_bd (last16 l)
    generalize sm (last16 l) = S at *
    obtain ⟨n, hn⟩ : ∃ n, n = l.length := ⟨_, rfl⟩
    rw [← hn] at HE CS h64 hl hcap ⊢
    clear hn h hr hd hll
    obtain ⟨m, hm⟩ : ∃ m, n = m + 16 := ⟨n - 16, by omega⟩
    subst hm
    rw [Nat.add_sub_cancel] at CS
    have i2 : (S / 16777216 == 0) = decide (S / 16777216 = 0) := by rw [Bool.eq_iff_iff]; simp
    have i4 : (m : Int) ≤ cap := by omega
    have i5 : m < cap := by omega
    have i6 : cap ≠ m := by omega
    have i7 : (64 : Int) ≤ (m : Int) + 16 := by omega
    have i8 : wrap64 (m : Int) = (m : Int) := IntWalk.wrap64_in _ (by omega)
    by_cases h1 : m + 16 = 1024
    · have e1 : (((m : Int) + 16) == 1024) = true := by simp; omega
      go_enter Try.func41, Try.ntmps41
      go_wp2
      go_ret
      exact ⟨by rw [HE.out, decide_eq_true h1]; rfl, rfl⟩
    · have e1 : (((m : Int) + 16) == 1024) = false := by simp; omega
      go_enter Try.func41, Try.ntmps41
      go_wp2_with (go_at_call 43; (with_reducible refine CS.out.mono ?_); rintro e w' ⟨rfl, rfl⟩)
      go_ret
      exact ⟨by rw [HE.out, decide_eq_false h1, decide_eq_true h64]; simp [i2], rfl⟩
  · have h1 : l.length ≠ 1024 := by omega
    obtain ⟨n, hn⟩ : ∃ n, n = l.length := ⟨_, rfl⟩
    rw [← hn] at HE h64 hl hcap h1 ⊢
    clear hn h
    have e1 : ((n : Int) == 1024) = false := by simp; omega
    have i7 : ¬ (64 : Int) ≤ (n : Int) := by omega
    go_enter Try.func41, Try.ntmps41
    go_wp2
    go_ret
    exact ⟨by rw [HE.out, decide_eq_false h1, decide_eq_false h64]; rfl, rfl⟩
/-- What the first chunk is. -/
def nxtP (l : List Int) (n : Nat) (b : Bool) : Prop :=
  (b = true ∧ 1 ≤ n ∧ n ≤ l.length ∧ (∀ k, 1 ≤ k → k < n → ends (l.take k) = false) ∧ ends (l.take n) = true) ∨ (b = false ∧ n = l.length ∧ Open l)
theorem nxtP.chs {l : List Int} {n : Nat} {b : Bool} (h : nxtP l n b) : chs [] l = if b then (l.take n :: (chs [] (l.drop n)).1, (chs [] (l.drop n)).2) else ([], l) := by
  rcases h with ⟨rfl, h1, h2, h3, h4⟩ | ⟨rfl, rfl, h⟩
  · exact chs_first l n h1 h2 h3 h4
  · exact chs_whole l h
theorem nxtP.chunks {l : List Int} {n : Nat} {b : Bool} (h : nxtP l n b) (h0 : l ≠ []) : 1 ≤ n ∧ n ≤ l.length ∧ chunks l = l.take n :: chunks (l.drop n) := by
  have hc := h.chs
  rcases h with ⟨rfl, h1, h2, h3, h4⟩ | ⟨rfl, rfl, h⟩
  · refine ⟨h1, h2, ?_⟩
    unfold Go.Proofs.Ytlabkldpcbmjbaa.chunks
    rw [hc]; simp
  · refine ⟨by cases l with | nil => exact absurd rfl h0 | cons => simp, Nat.le_refl _, ?_⟩
    rw [List.take_length, List.drop_length]
    unfold Go.Proofs.Ytlabkldpcbmjbaa.chunks
    rw [hc]; simp [h0, Go.Proofs.Ytlabkldpcbmjbaa.chs]
def NxtOut (l : List Int) (w : World) (e : Ending) (w' : World) : Prop := ∃ n b, e = .returned (.tuple #[.int .i64 (n : Nat), .bool b]) ∧ nxtP l n b ∧ w = w'
theorem rnext_any (a : Option Addr) (cap : Nat) (l : List Int) (w : World) (h : RdB w a l) (hl : l.length ≤ 1000000) (hcap : l.length ≤ cap) :
    Calls Try.prog 35 #[.slice a l.length cap] w (NxtOut l w) := by
  obtain ⟨N, hN⟩ : ∃ N, N = l.length := ⟨_, rfl⟩
  rw [← hN] at hl hcap ⊢
  have HN := Lib.hid hN
  have HR := Lib.hid h
  clear hN h
  go_enter Try.func35, Try.ntmps35
  go_wp2
  go_loopw [4] (fun i wr => ∃ k : Nat, 1 ≤ k ∧ k ≤ N + 1 ∧ i = .int .i64 k ∧ (∀ j, 1 ≤ j → j < k → ends (l.take j) = false) ∧ w = wr) (fun i _ => N + 1 - (intOf i).toNat)
  case atStart => exact ⟨1, by omega, by omega, rfl, fun j h1 h2 => by omega, rfl⟩
  case round =>
    obtain ⟨k, hk1, hk, rfl, ho, rfl⟩ := hrel
    by_cases hlt : k ≤ N
    · have i1 : (k : Int) ≤ N := by omega
      have i2 : (k : Int) ≤ cap := by omega
      have htl : (l.take k).length = k := by rw [List.length_take]; have := HN.out; omega
      have C := rends_any a cap (l.take k) w (HR.out.pre k) (by omega) (by omega)
      rw [htl] at C
      have CE := Lib.hid C
      have HO := Lib.hid ho
      clear C ho htl
      cases he : ends (l.take k)
      · rw [he] at CE
        have HE := Lib.hid he
        clear he
        go_wp2_with (go_at_call 41; (with_reducible refine CE.out.mono ?_); rintro e w' ⟨rfl, rfl⟩)
        go_roundw
        case rel => exact ⟨k + 1, by omega, by omega, by go_num, fun j h1 h2 => by
          by_cases hj : j = k
          · subst hj; exact HE.out
          · exact HO.out j h1 (by omega), by first | rfl | trivial⟩
        case measure => simp [intOf]; omega
      · rw [he] at CE
        have HE := Lib.hid he
        clear he
        go_wp2_with (go_at_call 41; (with_reducible refine CE.out.mono ?_); rintro e w' ⟨rfl, rfl⟩)
        go_ret2
        exact ⟨k, true, rfl, .inl ⟨rfl, hk1, by rw [← HN.out]; exact hlt, HO.out, HE.out⟩, rfl⟩
    · have i1 : ¬ (k : Int) ≤ N := by omega
      have HO := Lib.hid ho
      clear ho
      go_wp2
      go_ret2
      exact ⟨N, false, rfl, .inr ⟨rfl, HN.out, fun j h1 h2 => HO.out j h1 (by have := HN.out; omega)⟩, rfl⟩
end Go.Proofs.Ytlabkldpcbmjbaa
