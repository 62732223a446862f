/- What calls make of a net of one's own. -/
import Derived.Test.YtgcgcdgjooaipaaNetK
namespace Go.Proofs.Ytgcgcdgjooaipaa
open Go.RowKit Go.Maps
set_option linter.unusedVariables false
set_option linter.unusedSimpArgs false
section
variable {w0 w : World} {nb mb N : Nat} {nds : List Nd} {lost : Int} {f : Value → Bool}
theorem st_lost (h : St w0 w nb mb nds lost N f) : Calls Try.prog 20 #[.pointer (some ⟨nb, 0, none⟩)] w fun e w' => e = .returned (.int .i64 lost) ∧ w = w' :=
  lost_any nb lost w h.n.c0 h.n.c7
theorem st_drop0 (h : St w0 w nb mb nds lost N f) (hlo : 0 ≤ lost ∧ lost ≤ 10000) {k : Int × Int × List Int} {K : List (Int × Int × List Int)} (hk : nds.map dkey = k :: K) :
    Calls Try.prog 23 #[.pointer (some ⟨nb, 0, none⟩), .int .i64 0] w fun e w' => e = .returned (.int .i64 0) ∧ ∃ nds', St w0 w' nb mb nds' (lost + 1) N f ∧ nds'.map dkey = K := by
  refine (drop_w h.n hlo 0).mono ?_
  have hl := congrArg List.length hk
  rw [List.length_map] at hl
  have hl : nds.length = K.length + 1 := hl
  rintro e w' ⟨nds', lost', hn, hs, (⟨ht, _⟩ | ⟨q, hq, hq2, rfl, rfl, rfl⟩)⟩
  · have := there_no ht; omega
  · obtain rfl : q = 0 := by omega
    refine ⟨rfl, _, h.step hs hn, ?_⟩
    cases nds with
    | nil => simp at hq2
    | cons d r => simpa using (List.cons.inj hk).2
theorem st_take_no (h : St w0 w nb mb nds lost N f) (i : Int) (hi : i < 0 ∨ (nds.length : Int) ≤ i) :
    Calls Try.prog 24 #[.pointer (some ⟨nb, 0, none⟩), .int .i64 i] w fun e w' => e = .returned (.tuple #[.agg #[.int .i64 0, .int .i64 0, .slice none 0 0], .int .i64 6]) ∧ Kp (fun _ => False) w w' :=
  take_no nb mb nds lost i w h.n.c (by have := h.n.len; omega) hi
theorem st_cut (h : St w0 w nb mb nds lost N f) (hN : N ≤ 10000) (a b : Int) (is : Bool) (h1 : isEnd a = true) (h2 : isEnd b = true) :
    Calls Try.prog 18 #[.pointer (some ⟨nb, 0, none⟩), .int .i64 a, .int .i64 b, .bool is] w fun e w' => e = .returned (.int .i64 0) ∧ ∃ f', St w0 w' nb mb nds lost (N + 1) f' ∧ f' (pairV a b) = is ∧ (∀ u, u ≠ pairV a b → f' u = f u) := by
  refine (cut_w h.n hN a b is).mono ?_
  rintro e w' ⟨f', hn, hs, (⟨ht, _⟩ | ⟨_, e1, e2, rfl⟩)⟩
  · rw [h1, h2] at ht; cases ht
  · exact ⟨rfl, f', h.step hs hn, e1, e2⟩
theorem st_cut_arg (h : St w0 w nb mb nds lost N f) (a b : Int) (is : Bool) (h1 : isEnd a = false ∨ isEnd b = false) :
    Calls Try.prog 18 #[.pointer (some ⟨nb, 0, none⟩), .int .i64 a, .int .i64 b, .bool is] w fun e w' => e = .returned (.int .i64 2) ∧ w = w' := cut_arg nb a b is w h.n.c0 h1
theorem st_send_cut (h : St w0 w nb mb nds lost N f) (hlo : 0 ≤ lost ∧ lost ≤ 10000) (fr to : Int) (a : Option Addr) (n cap : Nat) (l : List Int) (hln : l.length = n) (hb : RdB w a l) (h1 : isEnd fr = true) (h2 : isEnd to = true) (hl : l.length ≤ 1500) (hf : f (pairV fr to) = true) :
    Calls Try.prog 11 #[.pointer (some ⟨nb, 0, none⟩), .agg #[.int .i64 fr, .int .i64 to, .slice a n cap]] w fun e w' => e = .returned (.int .i64 0) ∧ ∃ nds', St w0 w' nb mb nds' (lost + 1) N f ∧ nds'.map dkey = nds.map dkey := by
  subst hln
  refine (send_w h.n hlo fr to a cap l hb).mono ?_
  rintro e w' ⟨nds', lost', r, rfl, hn, hs, he⟩
  have e0 : sendS f (nds.map dkey) lost fr to l = (0, nds.map dkey, lost + 1) := by
    unfold sendS
    rw [if_pos (by rw [h1, h2]; rfl), if_neg (by omega), if_pos hf]
  rw [e0] at he
  simp only [Prod.mk.injEq] at he
  obtain ⟨rfl, e2, rfl⟩ := he
  exact ⟨rfl, nds', h.step hs hn, e2⟩
theorem st_send_arg (h : St w0 w nb mb nds lost N f) (fr to : Int) (B : Value) (h1 : isEnd fr = false ∨ isEnd to = false) (hB : ∃ a m c, B = .slice a m c) :
    Calls Try.prog 11 #[.pointer (some ⟨nb, 0, none⟩), .agg #[.int .i64 fr, .int .i64 to, B]] w fun e w' => e = .returned (.int .i64 2) ∧ Kp (fun _ => False) w w' := send_arg nb fr to B w h.n.c0 h1 hB
theorem st_turn_range (h : St w0 w nb mb nds lost N f) (i : Nat) (hi : i < nds.length) (bit : Int) (hw : -9223372036854775808 ≤ bit ∧ bit ≤ 9223372036854775807) (hb : bit < 0 ∨ 8 * ((nd nds i).l.length : Int) ≤ bit) :
    Calls Try.prog 17 #[.pointer (some ⟨nb, 0, none⟩), .int .i64 i, .int .i64 bit] w fun e w' => e = .returned (.int .i64 5) ∧ Kp (fun _ => False) w w' :=
  turn_range nb mb nds lost i bit w h.n.c (by have := h.n.len; omega) hi hw hb
theorem keys_len {K : List (Int × Int × List Int)} (hk : nds.map dkey = K) : nds.length = K.length := by rw [← hk, List.length_map]
end
end Go.Proofs.Ytgcgcdgjooaipaa
