/- Package inbox: Has, Next, Held over what an inbox means; New. -/
import Derived.Test.YtnigdgopmmccgaaInb
import Derived.Test.YtnigdgopmmccgaaInbM
namespace Go.Proofs.Ytnigdgopmmccgaa
open Go.RowKit
set_option linter.unusedVariables false
section
theorem InbC.hasSpec {w : World} {b : Nat} {c : Nat → Value} {size : Nat} {f : Bodies} {n hd : Nat} {F : Nat → Prop} (h : InbC w b c size f n hd F) (hn : f n = none) (seq : Int) (hs : -9223372036854775808 ≤ seq ∧ seq ≤ 9223372036854775807) :
    Calls Try.prog 19 #[.pointer (some ⟨b, 0, none⟩), .int .i64 seq] w fun e w' => e = .returned (.bool (hasI f seq)) ∧ ∃ m, w' = w.drewN m := by
  have h0 := h.at_.is (i := 0) (by omega) h.sz
  have h1 := h.at_.is (i := 1) (by omega) h.nx
  have hsb := h.size_bd
  have hnb := h.n_bd
  have hne : ((size : Int) == 0) = false := by simp; omega
  by_cases hneg : seq < 1
  · have e : hasI f seq = false := by
      unfold hasI
      by_cases h00 : seq = 0
      · subst h00; simp [h.zero]
      · rw [decide_eq_false (by omega)]; rfl
    rw [e]
    exact has_neg b size seq w h0 hne hneg
  · obtain ⟨k, rfl⟩ := Int.eq_ofNat_of_zero_le (show 0 ≤ seq by omega)
    have ek : hasI f k = (f k).isSome := by simp [hasI]
    rw [ek]
    by_cases hlt : k < n
    · have e : (f k).isSome = true := by
        have := h.low k (by omega) hlt
        cases hf : f k with
        | none => exact absurd hf this
        | some _ => rfl
      rw [e]
      exact has_old b size n k w h0 h1 hne (by omega) (by omega)
    · by_cases hfar : n + size ≤ k
      · have e : (f k).isSome = false := by rw [h.high k hfar]; rfl
        rw [e]
        exact has_far b size n k w h0 h1 hne (by omega) (by omega) (by omega) hs.2
      · have hc := h.at_.is (i := fl k) (sl_lt k).2 (h.flag k (by omega) (by omega))
        exact has_in b size n k _ w h0 h1 hne (by omega) (by omega) (by omega) hs.2 hc
theorem InbC.next {w : World} {b : Nat} {c : Nat → Value} {size : Nat} {f : Bodies} {n hd : Nat} {F : Nat → Prop} (h : InbC w b c size f n hd F) :
    Calls Try.prog 17 #[.pointer (some ⟨b, 0, none⟩)] w fun e w' => e = .returned (.int .i64 n) ∧ w = w' :=
  next_at b size n w (h.at_.is (i := 0) (by omega) h.sz) (h.at_.is (i := 1) (by omega) h.nx) (by have := h.size_bd; simp; omega)
theorem InbC.held {w : World} {b : Nat} {c : Nat → Value} {size : Nat} {f : Bodies} {n hd : Nat} {F : Nat → Prop} (h : InbC w b c size f n hd F) :
    Calls Try.prog 18 #[.pointer (some ⟨b, 0, none⟩)] w fun e w' => e = .returned (.int .i64 hd) ∧ w = w' :=
  held_at b size hd w (h.at_.is (i := 0) (by omega) h.sz) (h.at_.is (i := 2) (by omega) h.hl) (by have := h.size_bd; simp; omega)
end
theorem cn_empty (n : Nat) : ∀ m, cn (fun _ => none) n m = 0
  | 0 => rfl
  | m + 1 => by rw [cn, cn_empty n m]; rfl
theorem inew_bad (s : Int) (w : World) (h : s < 1 ∨ 64 < s) :
    Calls Try.prog 10 #[.int .i64 s] w fun e w' => e = .returned (.tuple #[.pointer none, .int .i64 2]) ∧ w = w' := by
  by_cases h1 : s < 1
  all_goals
    go_enter Try.func10, Try.ntmps10
    go_wp2
    go_ret2
    exact ⟨rfl, rfl⟩
theorem flat2 (x y : Value) : ∀ (n j : Nat), j < n → ((List.replicate n [x, y]).flatten)[2 * j + 1]? = some y
  | 0, j, h => by omega
  | n + 1, 0, h => by simp [List.replicate_succ]
  | n + 1, j + 1, h => by
    rw [List.replicate_succ, List.flatten_cons, List.getElem?_append_right (by simp; omega)]
    simp only [List.length_cons, List.length_nil]
    rw [show 2 * (j + 1) + 1 - (0 + 1 + 1) = 2 * j + 1 by omega]
    exact flat2 x y n j (by omega)
def ibox (s : Int) : List Value := [.int .i64 s, .int .i64 1, .int .i64 0] ++ (List.replicate 64 [.slice none 0 0, .bool false]).flatten
theorem ibox_flag (s : Int) (k : Nat) : (ibox s).getD (fl k) undef = .bool false := by
  unfold ibox fl
  rw [List.getD_eq_getElem?_getD, List.getElem?_append_right (by simp; omega)]
  simp only [List.length_cons, List.length_nil]
  rw [show 4 + 2 * (k % 64) - (0 + 1 + 1 + 1) = 2 * (k % 64) + 1 by omega, flat2 _ _ 64 (k % 64) (by omega)]
  rfl
theorem InbAt.fresh {w : World} {b : Nat} (s : Nat) (h : 1 ≤ s ∧ s ≤ 64) (hat : At w b (ibox s)) : InbAt w b s (fun _ => none) 1 0 (· = b) := by
  have hlt := hat.lt
  refine ⟨⟨_, AtF.of_list hat, rfl, rfl, rfl, h, ⟨by omega, by omega⟩, fun k h1 h2 => by omega, rfl, fun _ _ => rfl, fun _ _ => rfl, (cn_empty 1 s).symm, fun k h1 h2 => ibox_flag s k, ?_, ?_, rfl, fun k hk => by rw [hk]; exact hlt⟩, rfl⟩
  · intro k l _ _ h; cases h
  · intro k k' g _ _ _ _ h; exact absurd rfl h
def zbox : List Value := [.int .i64 0, .int .i64 0, .int .i64 0] ++ (List.replicate 64 [.slice none 0 0, .bool false]).flatten
theorem zero_box (w : World) : (zeroValue 51).run Try.prog w = .ok (.agg zbox.toArray) w := by kernel_rfl
theorem zbox_size : zbox.toArray.size = 131 := by simp [zbox]
theorem zbox_ne : ¬ zbox.toArray = #[] := fun h => by have := zbox_size; rw [h] at this; cases this
theorem zbox_lt : ¬ zbox.toArray.size < 2 := by rw [zbox_size]; omega
theorem zbox_set (s : Int) : (zbox.set 0 (.int .i64 s)).set 1 (.int .i64 1) = ibox s := by
  simp [zbox, ibox]
set_option maxRecDepth 100000 in
theorem inew_ok (s : Nat) (w : World) (hs : 1 ≤ s ∧ s ≤ 64) :
    Calls Try.prog 10 #[.int .i64 s] w fun e w' => e = .returned (.tuple #[.pointer (some ⟨w.heap.size, 0, none⟩), .int .i64 0]) ∧
      InbAt w' w.heap.size s (fun _ => none) 1 0 (· = w.heap.size) ∧ Kp (fun _ => False) w w' := by
  have h1 : 1 ≤ (s : Int) := by omega
  have h2 : (s : Int) ≤ 64 := by omega
  have hz := zero_box
  have z1 := zbox_ne
  have z2 := zbox_lt
  go_enter Try.func10, Try.ntmps10
  go_wp2
  go_ret2
  rw [zbox_set]
  exact ⟨rfl, InbAt.fresh s hs (At.new w (ibox s) _), (Kp.refl _ w).alloc _⟩
end Go.Proofs.Ytnigdgopmmccgaa
