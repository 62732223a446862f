/- The document's inbox (satchelref14): New, at, Has. -/
import Derived.Test.YtnigdgopmmccgaaRfI
import Derived.Test.YtnigdgopmmccgaaKit
namespace Go.Proofs.Ytnigdgopmmccgaa
open Go.RowKit
set_option linter.unusedVariables false
theorem rnew_bad (s : Int) (w : World) (h : s < 1 ∨ 64 < s) :
    Calls Try.prog 11 #[.int .i64 s] w fun e w' => e = .returned (.tuple #[.pointer none, .int .i64 2]) ∧ w = w' := by
  by_cases h1 : s < 1
  · go_enter Try.func11, Try.ntmps11
    go_wp2
    go_ret2
    exact ⟨rfl, rfl⟩
  · have h2 : 64 < s := by omega
    go_enter Try.func11, Try.ntmps11
    go_wp2
    go_ret2
    exact ⟨rfl, rfl⟩
theorem rnew_ok (s : Nat) (w : World) (hs : 1 ≤ s ∧ s ≤ 64) :
    Calls Try.prog 11 #[.int .i64 s] w fun e w' => e = .returned (.tuple #[.pointer (some ⟨w.heap.size, 0, none⟩), .int .i64 0]) ∧ RefC w' w.heap.size (.slice none 0 0) s 1 [] (fun _ => none) (· = w.heap.size) ∧ Kp (fun _ => False) w w' := by
  have h1 : ¬ (s : Int) < 1 := by omega
  have h2 : ¬ (64 : Int) < s := by omega
  have HR := Lib.hid (RefC.fresh s hs (At.new w [.int .i64 (s : Int), .int .i64 1, .slice none 0 0] 43))
  clear hs
  go_enter Try.func11, Try.ntmps11
  go_wp2
  go_ret2
  exact ⟨rfl, HR.out, (Kp.refl _ w).alloc _⟩
theorem at_no (r : Nat) (a : Option Addr) (c : Nat) (L : List (Nat × Value)) (w : World) (h2 : w.cell? ⟨r, 2, none⟩ = some (.slice a L.length c)) (hrd : Rd w a (hc L)) (seq : Int) (hno : ∀ j, j < L.length → ((L.getD j (0, undef)).1 : Int) ≠ seq) (hL : L.length ≤ 1000000000) :
    Calls Try.prog 29 #[.pointer (some ⟨r, 0, none⟩), .int .i64 seq] w fun e w' => e = .returned (.int .i64 (-1)) ∧ w = w' := by
  go_enter Try.func29, Try.ntmps29
  go_wp2_with fail
  go_loop [5] (fun i => ∃ k : Nat, k ≤ L.length ∧ i = .int .i64 k) (fun i => L.length - (intOf i).toNat)
  case atStart => exact ⟨0, by omega, rfl⟩
  case round =>
    obtain ⟨k, hk, rfl⟩ := hrel
    by_cases hlt : k < L.length
    · obtain ⟨b, off, rfl, hcell⟩ := hrd (k * 2) (by rw [hc_len]; omega)
      rw [(hc_get L k hlt).1] at hcell
      have hne : (((L.getD k (0, undef)).1 : Int) == seq) = false := by simpa using hno k hlt
      have i1 : (k : Int) < L.length := by omega
      generalize ((L.getD k (0, undef)).1 : Int) = x at *
      go_wp2
      go_round
      case rel => exact ⟨k + 1, by omega, by go_num⟩
      case measure => simp [intOf]; omega
    · have i1 : ¬ (k : Int) < L.length := by omega
      go_wp2
      go_ret
      exact ⟨rfl, rfl⟩
theorem at_yes (r : Nat) (a : Option Addr) (c : Nat) (L : List (Nat × Value)) (w : World) (h2 : w.cell? ⟨r, 2, none⟩ = some (.slice a L.length c)) (hrd : Rd w a (hc L)) (seq : Int) (m : Nat) (hm : m < L.length) (he : ((L.getD m (0, undef)).1 : Int) = seq) (hno : ∀ j, j < L.length → ((L.getD j (0, undef)).1 : Int) = seq → j = m) (hL : L.length ≤ 1000000000) :
    Calls Try.prog 29 #[.pointer (some ⟨r, 0, none⟩), .int .i64 seq] w fun e w' => e = .returned (.int .i64 m) ∧ w = w' := by
  go_enter Try.func29, Try.ntmps29
  have he := Lib.hid he
  go_wp2_with fail
  go_loop [5] (fun i => ∃ k : Nat, k ≤ m ∧ i = .int .i64 k) (fun i => L.length - (intOf i).toNat)
  case atStart => exact ⟨0, by omega, rfl⟩
  case round =>
    obtain ⟨k, hk, rfl⟩ := hrel
    have hlt : k < L.length := by omega
    obtain ⟨b, off, rfl, hcell⟩ := hrd (k * 2) (by rw [hc_len]; omega)
    rw [(hc_get L k hlt).1] at hcell
    have i1 : (k : Int) < L.length := by omega
    by_cases hlm : k = m
    · have hne : (((L.getD k (0, undef)).1 : Int) == seq) = true := by rw [hlm]; simpa using he.out
      have HE : Hid (k = m) := hlm
      clear hlm
      generalize ((L.getD k (0, undef)).1 : Int) = x at *
      go_wp2
      go_ret
      exact ⟨ret_int (by rw [HE.out]), rfl⟩
    · have hne : (((L.getD k (0, undef)).1 : Int) == seq) = false := by
        simp only [beq_eq_false_iff_ne]
        intro e; exact hlm (hno k hlt e)
      generalize ((L.getD k (0, undef)).1 : Int) = x at *
      go_wp2
      go_round
      case rel => exact ⟨k + 1, by omega, by go_num⟩
      case measure => simp [intOf]; omega
theorem RefC.form {w : World} {r : Nat} {v : Value} {size n : Nat} {L : List (Nat × Value)} {f : Bodies} {G : Nat → Prop} (h : RefC w r v size n L f G) :
    ∃ a c, v = .slice a L.length c ∧ L.length ≤ c ∧ c ≤ maxLen ∧ Rd w a (hc L) ∧ w.cell? ⟨r, 0, none⟩ = some (.int .i64 size) ∧ w.cell? ⟨r, 1, none⟩ = some (.int .i64 n) ∧ w.cell? ⟨r, 2, none⟩ = some (.slice a L.length c) ∧ ∀ i, w.frozen? ⟨r, i, none⟩ = false := by
  obtain ⟨a, c, rfl, h1, h2⟩ := h.own.form
  exact ⟨a, c, rfl, h1, h2, h.own.rd, by rw [h.at_.cell]; rfl, by rw [h.at_.cell]; rfl, by rw [h.at_.cell]; rfl, fun i => h.at_.frozen i⟩
/-- at at any number from the awaited one on, or at none of these. -/
theorem RefC.at_ok {w : World} {r : Nat} {v : Value} {size n : Nat} {L : List (Nat × Value)} {f : Bodies} {G : Nat → Prop} (h : RefC w r v size n L f G) (seq : Int) :
    ∃ x : Int, Calls Try.prog 29 #[.pointer (some ⟨r, 0, none⟩), .int .i64 seq] w (fun e w' => e = .returned (.int .i64 x) ∧ w = w') ∧ -1 ≤ x ∧ x ≤ 64 ∧
      decide (0 ≤ x) = (decide ((n : Int) ≤ seq) && (f seq.toNat).isSome) := by
  obtain ⟨a, c, rfl, h1, h2, hrd, c0, c1, c2, hfz⟩ := h.form
  have hlen := h.len
  by_cases hq : (n : Int) ≤ seq ∧ f seq.toNat ≠ none
  · obtain ⟨q, rfl⟩ := Int.eq_ofNat_of_zero_le (show 0 ≤ seq by omega)
    obtain ⟨i, hi, he, hu⟩ := h.find (k := q) (by omega) hq.2
    refine ⟨i, at_yes r a c L w c2 hrd q i hi (by rw [he]) (fun j hj e => hu j hj (by omega)) (by omega), by omega, by omega, ?_⟩
    have h5 : (f q).isSome = true := by
      rw [Option.isSome_iff_ne_none]; exact hq.2
    simp only [Int.toNat_natCast, h5, Bool.and_true]
    simp; omega
  · refine ⟨-1, at_no r a c L w c2 hrd seq (h.not (fun k e hk => ?_)) (by omega), by omega, by omega, ?_⟩
    · cases hf : f k with
      | none => rfl
      | some l => exact absurd ⟨by omega, by rw [e]; simp [hf]⟩ hq
    · by_cases h6 : (n : Int) ≤ seq
      · have : f seq.toNat = none := by
          cases hf : f seq.toNat with
          | none => rfl
          | some l => exact absurd ⟨h6, by simp [hf]⟩ hq
        simp [this]
      · simp [h6]
theorem RefC.has {w : World} {r : Nat} {v : Value} {size n : Nat} {L : List (Nat × Value)} {f : Bodies} {G : Nat → Prop} (h : RefC w r v size n L f G) (seq : Int) (hs : -9223372036854775808 ≤ seq ∧ seq ≤ 9223372036854775807) :
    Calls Try.prog 20 #[.pointer (some ⟨r, 0, none⟩), .int .i64 seq] w fun e w' => e = .returned (.bool (hasI f seq)) ∧ w = w' := by
  obtain ⟨x, C, hx0, hx1, hx⟩ := h.at_ok seq
  obtain ⟨a, c, rfl, h1, h2, hrd, c0, c1, c2, hfz⟩ := h.form
  have hn := h.n_bd
  have C' := Lib.hid C
  by_cases h3 : 1 ≤ seq
  · by_cases h4 : seq < n
    · have e : hasI f seq = true := by
        have := h.low seq.toNat (by omega) (by omega)
        simp [hasI, Option.isSome_iff_ne_none, this]; omega
      rw [e]
      have HH := Lib.hid h
      clear C h hx e hrd h2
      go_enter Try.func20, Try.ntmps20
      go_wp2
      go_ret
      exact ⟨rfl, rfl⟩
    · have e : hasI f seq = decide (0 ≤ x) := by
        rw [hx]; simp [hasI, show (n : Int) ≤ seq by omega, show 0 ≤ seq by omega]
      have HE := Lib.hid e
      have h4' : decide (seq < n) = false := by simpa using h4
      clear C h hx e hrd h2 
      go_enter Try.func20, Try.ntmps20
      go_wp2_with (go_at_call 29; refine C'.out.mono ?_; rintro e w' ⟨rfl, rfl⟩)
      go_ret
      exact ⟨ret_bool (by rw [HE.out]), rfl⟩
  · have e : hasI f seq = decide (0 ≤ x) := by
      rw [hx]
      have hz := h.zero
      by_cases h5 : seq = 0
      · subst h5; simp [hasI, hz]
      · simp [hasI, show ¬ (n : Int) ≤ seq by omega, show ¬ 0 ≤ seq by omega]
    have HE := Lib.hid e
    have h3' : decide (1 ≤ seq) = false := by simpa using h3
    clear C h hx e hrd h2 
    go_enter Try.func20, Try.ntmps20
    go_wp2_with (go_at_call 29; refine C'.out.mono ?_; rintro e w' ⟨rfl, rfl⟩)
    go_ret
    exact ⟨ret_bool (by rw [HE.out]), rfl⟩
end Go.Proofs.Ytnigdgopmmccgaa
