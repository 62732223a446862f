/- Package inbox: the contracts of its small methods. -/
import Derived.Test.YtokembhfebnjpaaQBsM
import Derived.Deep.RegionLaw
import Derived.BigRegion
import Derived.Deep.LoopGhost
namespace Go.Proofs.Ytokembhfebnjpaa
set_option maxRecDepth 20000
open Go.RowKit
set_option linter.unusedVariables false

theorem inone_nil (w : World) : Calls Try.prog 43 #[.pointer none] w fun e w' => e = .returned (.bool true) ∧ w = w' := by
  go_enter Try.func43, Try.ntmps43
  go_wp2
  go_ret
  exact ⟨rfl, rfl⟩
theorem inone_at (b : Nat) (s : Int) (w : World) (h : w.cell? ⟨b, 0, none⟩ = some (.int .i64 s)) :
    Calls Try.prog 43 #[.pointer (some ⟨b, 0, none⟩)] w fun e w' => e = .returned (.bool (s == 0)) ∧ w = w' := by
  go_enter Try.func43, Try.ntmps43
  go_wp2
  go_ret
  exact ⟨rfl, rfl⟩
theorem next_un (b : Nat) (w : World) (h0 : w.cell? ⟨b, 0, none⟩ = some (.int .i64 0)) : Calls Try.prog 33 #[.pointer (some ⟨b, 0, none⟩)] w fun e w' => e = .returned (.int .i64 0) ∧ w = w' := by
  go_enter Try.func33, Try.ntmps33
  go_wp2_with (go_at_call 43; refine (inone_at b 0 _ h0).mono ?_; rintro e w' ⟨rfl, rfl⟩)
  go_ret
  exact ⟨rfl, rfl⟩
theorem has_un (b : Nat) (seq : Int) (w : World) (h0 : w.cell? ⟨b, 0, none⟩ = some (.int .i64 0)) : Calls Try.prog 87 #[.pointer (some ⟨b, 0, none⟩), .int .i64 seq] w fun e w' => e = .returned (.bool false) ∧ w = w' := by
  go_enter Try.func87, Try.ntmps87
  go_wp2_with (go_at_call 43; refine (inone_at b 0 _ h0).mono ?_; rintro e w' ⟨rfl, rfl⟩)
  go_ret
  exact ⟨rfl, rfl⟩
theorem next_nil (w : World) : Calls Try.prog 33 #[.pointer none] w fun e w' => e = .returned (.int .i64 0) ∧ w = w' := by
  go_enter Try.func33, Try.ntmps33
  go_wp2_with (go_at_call 43; refine (inone_nil _).mono ?_; rintro e w' ⟨rfl, rfl⟩)
  go_ret
  exact ⟨rfl, rfl⟩
theorem has_nil (seq : Int) (w : World) : Calls Try.prog 87 #[.pointer none, .int .i64 seq] w fun e w' => e = .returned (.bool false) ∧ w = w' := by
  go_enter Try.func87, Try.ntmps87
  go_wp2_with (go_at_call 43; refine (inone_nil _).mono ?_; rintro e w' ⟨rfl, rfl⟩)
  go_ret
  exact ⟨rfl, rfl⟩
theorem next_at (b : Nat) (s n : Int) (w : World) (h0 : w.cell? ⟨b, 0, none⟩ = some (.int .i64 s)) (h1 : w.cell? ⟨b, 1, none⟩ = some (.int .i64 n)) (hs : (s == 0) = false) : Calls Try.prog 33 #[.pointer (some ⟨b, 0, none⟩)] w fun e w' => e = .returned (.int .i64 n) ∧ w = w' := by
  go_enter Try.func33, Try.ntmps33
  go_wp2_with (go_at_call 43; refine (inone_at b s _ h0).mono ?_; rintro e w' ⟨rfl, rfl⟩)
  go_ret
  exact ⟨rfl, rfl⟩
theorem ahead_lt (b : Nat) (n seq : Int) (w : World) (h1 : w.cell? ⟨b, 1, none⟩ = some (.int .i64 n)) (hlt : seq < n) : Calls Try.prog 88 #[.pointer (some ⟨b, 0, none⟩), .int .i64 seq] w fun e w' => e = .returned (.bool false) ∧ ∃ m, w' = w.drewN m := by
  have hd : decide (n ≤ seq) = false := by simp; omega
  go_enter Try.func88, Try.ntmps88
  go_wp2_with fail
  go_quiet (fail)
  go_wp2
  go_ret
  exact ⟨rfl, _, rfl⟩
theorem ahead_ge (b : Nat) (s n seq : Int) (w : World) (h0 : w.cell? ⟨b, 0, none⟩ = some (.int .i64 s)) (h1 : w.cell? ⟨b, 1, none⟩ = some (.int .i64 n)) (hge : n ≤ seq) (hn : 0 ≤ n) (hseq : seq ≤ 9223372036854775807) : Calls Try.prog 88 #[.pointer (some ⟨b, 0, none⟩), .int .i64 seq] w fun e w' => e = .returned (.bool (decide (seq - n < s))) ∧ ∃ m, w' = w.drewN m := by
  have hd : IntKind.i64.wrap (seq - n) = seq - n := IntWalk.i64_in _ (by omega)
  go_enter Try.func88, Try.ntmps88
  go_wp2_with fail
  go_quiet (fail)
  go_wp2
  go_ret
  exact ⟨rfl, _, rfl⟩
theorem has_neg (b : Nat) (s seq : Int) (w : World) (h0 : w.cell? ⟨b, 0, none⟩ = some (.int .i64 s)) (hs : (s == 0) = false) (h : seq < 1) : Calls Try.prog 87 #[.pointer (some ⟨b, 0, none⟩), .int .i64 seq] w fun e w' => e = .returned (.bool false) ∧ ∃ m, w' = w.drewN m := by
  go_enter Try.func87, Try.ntmps87
  go_wp2_with (go_at_call 43; refine (inone_at b s _ h0).mono ?_; rintro e w' ⟨rfl, rfl⟩)
  go_ret
  exact ⟨rfl, 0, rfl⟩
theorem has_old (b : Nat) (s n seq : Int) (w : World) (h0 : w.cell? ⟨b, 0, none⟩ = some (.int .i64 s)) (h1 : w.cell? ⟨b, 1, none⟩ = some (.int .i64 n)) (hs : (s == 0) = false) (h : 1 ≤ seq) (h' : seq < n) : Calls Try.prog 87 #[.pointer (some ⟨b, 0, none⟩), .int .i64 seq] w fun e w' => e = .returned (.bool true) ∧ ∃ m, w' = w.drewN m := by
  have hd : decide (seq < n) = true := by simpa using h'
  go_enter Try.func87, Try.ntmps87
  go_wp2_with (go_at_call 43; refine (inone_at b s _ h0).mono ?_; rintro e w' ⟨rfl, rfl⟩)
  go_ret
  exact ⟨rfl, 0, rfl⟩
theorem has_far (b : Nat) (s n seq : Int) (w : World) (h0 : w.cell? ⟨b, 0, none⟩ = some (.int .i64 s)) (h1 : w.cell? ⟨b, 1, none⟩ = some (.int .i64 n)) (hs : (s == 0) = false) (hn : 1 ≤ n) (h : n ≤ seq) (h' : s ≤ seq - n) (hseq : seq ≤ 9223372036854775807) : Calls Try.prog 87 #[.pointer (some ⟨b, 0, none⟩), .int .i64 seq] w fun e w' => e = .returned (.bool false) ∧ ∃ m, w' = w.drewN m := by
  have hd : decide (seq - n < s) = false := by simp; omega
  have C := ahead_ge b s n seq w h0 h1 h (by omega) hseq
  rw [hd] at C
  have C' := Lib.hid C
  have hd' : decide (seq < n) = false := by simp; omega
  clear C hd
  go_enter Try.func87, Try.ntmps87
  go_wp2_with (first | (go_at_call 43; refine (inone_at b s _ h0).mono ?_; rintro e w' ⟨rfl, rfl⟩) | (go_at_call 88; refine C'.out.mono ?_; rintro e w' ⟨rfl, m, rfl⟩))
  go_ret
  exact ⟨rfl, _, rfl⟩
theorem has_in (b : Nat) (s n : Int) (k : Nat) (t : Bool) (w : World) (h0 : w.cell? ⟨b, 0, none⟩ = some (.int .i64 s)) (h1 : w.cell? ⟨b, 1, none⟩ = some (.int .i64 n)) (hs : (s == 0) = false) (hn : 1 ≤ n) (h : n ≤ k) (h' : (k : Int) - n < s) (hseq : (k : Int) ≤ 9223372036854775807) (hc : w.cell? ⟨b, 4 + 2 * (k % 64), none⟩ = some (.bool t)) :
    Calls Try.prog 87 #[.pointer (some ⟨b, 0, none⟩), .int .i64 k] w fun e w' => e = .returned (.bool t) ∧ ∃ m, w' = w.drewN m := by
  have hd : decide ((k : Int) - n < s) = true := by simp; omega
  have C := ahead_ge b s n k w h0 h1 h (by omega) hseq
  rw [hd] at C
  have C' := Lib.hid C
  have hd' : decide ((k : Int) < n) = false := by simp; omega
  have e0 : 0 ≤ (k : Int) % 64 := by omega
  have e1 : (k : Int) % 64 < 64 := by omega
  have e2 : ((k : Int) % 64).toNat = k % 64 := by omega
  rw [show 4 + 2 * (k % 64) = 3 + k % 64 * 2 + 1 by omega] at hc
  clear C hd
  go_enter Try.func87, Try.ntmps87
  go_wp2_with (first | (go_at_call 43; refine (inone_at b s _ h0).mono ?_; rintro e w' ⟨rfl, rfl⟩) | (go_at_call 88; refine C'.out.mono ?_; rintro e w' ⟨rfl, m, rfl⟩))
  go_ret
  exact ⟨rfl, m, rfl⟩
end Go.Proofs.Ytokembhfebnjpaa
/- An inbox's object and what it means: which bodies came, which number is awaited. No program in sight. -/
namespace Go.Proofs.Ytokembhfebnjpaa
set_option maxRecDepth 20000
open Go.RowKit
set_option linter.unusedVariables false

abbrev Bodies := Nat → Option (List Int)
/-- How many of the numbers n, n+1 .. (m of them) are there. -/
def cn (f : Bodies) (n : Nat) : Nat → Nat
  | 0 => 0
  | m + 1 => cn f n m + if (f (n + m)).isSome then 1 else 0
theorem cn_front (f : Bodies) (n : Nat) : ∀ m, cn f n (m + 1) = (if (f n).isSome then 1 else 0) + cn f (n + 1) m
  | 0 => by simp [cn]
  | m + 1 => by
    rw [cn, cn_front f n m, cn, Nat.add_assoc, show n + (m + 1) = n + 1 + m by omega]
theorem cn_le (f : Bodies) (n : Nat) : ∀ m, cn f n m ≤ m
  | 0 => Nat.le_refl _
  | m + 1 => by have := cn_le f n m; rw [cn]; split <;> omega
/-- f, and a body more. -/
def put (f : Bodies) (q : Nat) (b : List Int) : Bodies := fun k => if k = q then some b else f k
theorem put_same (f : Bodies) (q : Nat) (b : List Int) : put f q b q = some b := by simp [put]
theorem put_ne (f : Bodies) {q k : Nat} (b : List Int) (h : k ≠ q) : put f q b k = f k := by simp [put, h]
theorem cn_put (f : Bodies) (q : Nat) (b : List Int) (n : Nat) (h : f q = none) : ∀ m, n ≤ q → q < n + m → cn (put f q b) n m = cn f n m + 1
  | 0, h1, h2 => by omega
  | m + 1, h1, h2 => by
    rw [cn, cn]
    by_cases hq : q = n + m
    · subst hq
      rw [put_same, h]
      have : ∀ j, j ≤ m → cn (put f (n + m) b) n j = cn f n j := by
        intro j
        induction j with
        | zero => intro _; rfl
        | succ j ih => intro hj; rw [cn, cn, ih (by omega), put_ne _ _ (by omega)]
      simp [this m (Nat.le_refl _)]
    · rw [cn_put f q b n h m h1 (by omega), put_ne _ _ (by omega)]; omega

def sl (k : Nat) : Nat := 3 + 2 * (k % 64)
def fl (k : Nat) : Nat := 4 + 2 * (k % 64)
theorem sl_lt (k : Nat) : sl k < 131 ∧ fl k < 131 := by unfold sl fl; omega

structure InbC (w : World) (b : Nat) (c : Nat → Value) (size : Nat) (f : Bodies) (n hd : Nat) (F : Nat → Prop) : Prop where
  at_ : AtF w b 131 c
  sz : c 0 = .int .i64 size
  nx : c 1 = .int .i64 n
  hl : c 2 = .int .i64 hd
  size_bd : 1 ≤ size ∧ size ≤ 64
  n_bd : 1 ≤ n ∧ n ≤ 2147483647
  low : ∀ k, 1 ≤ k → k < n → f k ≠ none
  zero : f 0 = none
  high : ∀ k, n + size ≤ k → f k = none
  top : ∀ k, 2147483647 ≤ k → f k = none
  cnt : hd = cn f n size
  flag : ∀ k, n ≤ k → k < n + 64 → c (fl k) = .bool (f k).isSome
  body : ∀ k l, n ≤ k → k < n + 64 → f k = some l → OwnB w (c (sl k)) l ∧ ∀ g, (c (sl k)).ownBlock = some g → F g ∧ g ≠ b
  dist : ∀ k k' g, n ≤ k → k < n + 64 → n ≤ k' → k' < n + 64 → f k ≠ none → f k' ≠ none → (c (sl k)).ownBlock = some g → (c (sl k')).ownBlock = some g → k = k'
  base : F b
  lt : ∀ k, F k → k < w.heap.size

theorem InbC.kp {S : Nat → Prop} {w w' : World} {b : Nat} {c : Nat → Value} {size : Nat} {f : Bodies} {n hd : Nat} {F : Nat → Prop} (h : InbC w b c size f n hd F) (hk : Kp S w w') (hS : ∀ k, F k → ¬ S k) : InbC w' b c size f n hd F :=
  { h with
    at_ := hk.atF h.at_ (hS b h.base)
    body := fun k l h1 h2 h3 => by
      obtain ⟨a1, a4⟩ := h.body k l h1 h2 h3
      exact ⟨a1.kp hk (fun g hg => hS g (a4 g hg).1), a4⟩
    lt := fun k hk' => Nat.lt_of_lt_of_le (h.lt k hk') hk.size }

/-- An inbox: who of size size was given the bodies f, and awaits n; no body of n came. -/
def InbAt (w : World) (b size : Nat) (f : Bodies) (n hd : Nat) (F : Nat → Prop) : Prop := (∃ c, InbC w b c size f n hd F) ∧ f n = none
theorem InbAt.kp {S : Nat → Prop} {w w' : World} {b size : Nat} {f : Bodies} {n hd : Nat} {F : Nat → Prop} (h : InbAt w b size f n hd F) (hk : Kp S w w') (hS : ∀ k, F k → ¬ S k) : InbAt w' b size f n hd F :=
  ⟨h.1.elim fun c hc => ⟨c, hc.kp hk hS⟩, h.2⟩

/-- What an inbox has. -/
def hasI (f : Bodies) (q : Int) : Bool := decide (0 ≤ q) && (f q.toNat).isSome

/-- The step of a drain: the awaited body is told. -/
theorem InbC.step {w w' : World} {b : Nat} {c : Nat → Value} {size : Nat} {f : Bodies} {n hd : Nat} {F : Nat → Prop} (h : InbC w b c size f n hd F) {l : List Int} (hl : f n = some l)
    {S : Nat → Prop} (hk : Kp S w w') (hS : ∀ k, F k → ¬ S k) :
    InbC ((((w'.setCell ⟨b, sl n, none⟩ (.slice none 0 0)).setCell ⟨b, fl n, none⟩ (.bool false)).setCell ⟨b, 1, none⟩ (.int .i64 (n + 1 : Nat))).setCell ⟨b, 2, none⟩ (.int .i64 (hd - 1 : Nat))) b
      (upd (upd (upd (upd c (sl n) (.slice none 0 0)) (fl n) (.bool false)) 1 (.int .i64 (n + 1 : Nat))) 2 (.int .i64 (hd - 1 : Nat))) size f (n + 1) (hd - 1) (fun k => F k ∧ (c (sl n)).ownBlock ≠ some k) := by
  have hlt : n < 2147483647 := by
    rcases Nat.lt_or_ge n 2147483647 with h' | h'
    · exact h'
    · rw [h.top n h'] at hl; cases hl
  have hK : Kp (· = b) w' ((((w'.setCell ⟨b, sl n, none⟩ (.slice none 0 0)).setCell ⟨b, fl n, none⟩ (.bool false)).setCell ⟨b, 1, none⟩ (.int .i64 (n + 1 : Nat))).setCell ⟨b, 2, none⟩ (.int .i64 (hd - 1 : Nat))) :=
    ((((Kp.refl (· = b) w').setCell (p := ⟨b, sl n, none⟩) (fun _ => rfl) _).setCell (p := ⟨b, fl n, none⟩) (fun _ => rfl) _).setCell (p := ⟨b, 1, none⟩) (fun _ => rfl) _).setCell (p := ⟨b, 2, none⟩) (fun _ => rfl) _
  have hat := hk.atF h.at_ (hS b h.base)
  have e1 : sl n ≠ 0 ∧ sl n ≠ 1 ∧ sl n ≠ 2 ∧ fl n ≠ 0 ∧ fl n ≠ 1 ∧ fl n ≠ 2 := by unfold sl fl; omega
  have key : ∀ k, n < k → k < n + 64 → sl k ≠ sl n ∧ sl k ≠ fl n ∧ fl k ≠ sl n ∧ fl k ≠ fl n ∧ sl k ≠ 1 ∧ sl k ≠ 2 ∧ fl k ≠ 1 ∧ fl k ≠ 2 := fun k h1 h2 => by unfold sl fl; omega
  have keep : ∀ k, n < k → k < n + 64 → (upd (upd (upd (upd c (sl n) (.slice none 0 0)) (fl n) (.bool false)) 1 (.int .i64 (n + 1 : Nat))) 2 (.int .i64 (hd - 1 : Nat))) (sl k) = c (sl k) ∧
      (upd (upd (upd (upd c (sl n) (.slice none 0 0)) (fl n) (.bool false)) 1 (.int .i64 (n + 1 : Nat))) 2 (.int .i64 (hd - 1 : Nat))) (fl k) = c (fl k) := fun k h1 h2 => by
    obtain ⟨a1, a2, a3, a4, a5, a6, a7, a8⟩ := key k h1 h2
    exact ⟨by rw [upd_ne _ _ a6, upd_ne _ _ a5, upd_ne _ _ a2, upd_ne _ _ a1], by rw [upd_ne _ _ a8, upd_ne _ _ a7, upd_ne _ _ a4, upd_ne _ _ a3]⟩
  have hnone : ∀ k, n + 1 + size ≤ k → f k = none := fun k hk => h.high k (by omega)
  have hend : f (n + 64) = none := h.high _ (by have := h.size_bd; omega)
  have some_lt : ∀ k, n + 1 ≤ k → k < n + 1 + 64 → f k ≠ none → n < k ∧ k < n + 64 := fun k h1 h2 h3 => by
    refine ⟨by omega, ?_⟩
    rcases Nat.lt_or_ge k (n + 64) with h' | h'
    · exact h'
    · exact absurd (show f k = none by rw [show k = n + 64 by omega]; exact hend) h3
  refine ⟨?_, ?_, ?_, ?_, h.size_bd, ⟨by omega, by omega⟩, ?_, h.zero, hnone, h.top, ?_, ?_, ?_, ?_, ?_, ?_⟩
  · exact (((hat.set _ _).set _ _).set _ _).set _ _
  · rw [upd_ne _ _ (by omega), upd_ne _ _ (by omega), upd_ne _ _ e1.2.2.2.1.symm, upd_ne _ _ e1.1.symm]; exact h.sz
  · rw [upd_ne _ _ (by omega), upd_same]
  · rw [upd_same]
  · intro k h1 h2
    by_cases hkn : k = n
    · subst hkn; rw [hl]; simp
    · exact h.low k h1 (by omega)
  · rw [h.cnt]
    have hc := cn_front f n size
    rw [cn, h.high (n + size) (Nat.le_refl _), hl] at hc
    simp at hc
    omega
  · intro k h1 h2
    by_cases hk64 : k = n + 64
    · subst hk64
      rw [show fl (n + 64) = fl n by unfold fl; omega, upd_ne _ _ e1.2.2.2.2.2, upd_ne _ _ e1.2.2.2.2.1, upd_same, hend]; rfl
    · rw [(keep k (by omega) (by omega)).2]
      exact h.flag k (by omega) (by omega)
  · intro k l' h1 h2 h3
    obtain ⟨h1', h2'⟩ := some_lt k h1 h2 (by rw [h3]; simp)
    rw [(keep k h1' h2').1]
    obtain ⟨a1, a4⟩ := h.body k l' (by omega) h2' h3
    refine ⟨(a1.kp hk (fun g hg => hS g (a4 g hg).1)).kp hK (fun g hg => (a4 g hg).2), fun g hg => ⟨⟨(a4 g hg).1, fun e => ?_⟩, (a4 g hg).2⟩⟩
    have := h.dist n k g (by omega) (by omega) (by omega) h2' (by rw [hl]; simp) (by rw [h3]; simp) e hg
    omega
  · intro k k' g h1 h2 h3 h4 h5 h6 h7 h8
    obtain ⟨h1', h2'⟩ := some_lt k h1 h2 h5
    obtain ⟨h3', h4'⟩ := some_lt k' h3 h4 h6
    rw [(keep k h1' h2').1] at h7
    rw [(keep k' h3' h4').1] at h8
    exact h.dist k k' g (by omega) h2' (by omega) h4' h5 h6 h7 h8
  · refine ⟨h.base, fun e => ?_⟩
    obtain ⟨_, a4⟩ := h.body n l (Nat.le_refl _) (by omega) hl
    exact (a4 b e).2 rfl
  · intro k hk'
    exact Nat.lt_of_lt_of_le (h.lt k hk'.1) (Nat.le_trans hk.size hK.size)

/-- A body more is held. -/
theorem InbC.put {w w' : World} {b : Nat} {c : Nat → Value} {size : Nat} {f : Bodies} {n hd : Nat} {F : Nat → Prop} (h : InbC w b c size f n hd F) {q : Nat} {l : List Int} {v : Value}
    (hq : n ≤ q) (hq2 : q < n + size) (hq3 : q < 2147483647) (hf : f q = none) {S : Nat → Prop} (hk : Kp S w w') (hS : ∀ k, F k → ¬ S k)
    (ho : OwnB w' v l) (hv : ∀ g, v.ownBlock = some g → w.heap.size ≤ g) :
    InbC (((w'.setCell ⟨b, sl q, none⟩ v).setCell ⟨b, fl q, none⟩ (.bool true)).setCell ⟨b, 2, none⟩ (.int .i64 (hd + 1 : Nat))) b
      (upd (upd (upd c (sl q) v) (fl q) (.bool true)) 2 (.int .i64 (hd + 1 : Nat))) size (put f q l) n (hd + 1) (fun k => F k ∨ v.ownBlock = some k) := by
  have hsb := h.size_bd
  have hK : Kp (· = b) w' (((w'.setCell ⟨b, sl q, none⟩ v).setCell ⟨b, fl q, none⟩ (.bool true)).setCell ⟨b, 2, none⟩ (.int .i64 (hd + 1 : Nat))) :=
    (((Kp.refl (· = b) w').setCell (p := ⟨b, sl q, none⟩) (fun _ => rfl) _).setCell (p := ⟨b, fl q, none⟩) (fun _ => rfl) _).setCell (p := ⟨b, 2, none⟩) (fun _ => rfl) _
  have hat := hk.atF h.at_ (hS b h.base)
  have hbw := h.at_.lt
  have e1 : sl q ≠ 0 ∧ sl q ≠ 1 ∧ sl q ≠ 2 ∧ fl q ≠ 0 ∧ fl q ≠ 1 ∧ fl q ≠ 2 ∧ sl q ≠ fl q := by unfold sl fl; omega
  have keep : ∀ k, n ≤ k → k < n + 64 → k ≠ q → (upd (upd (upd c (sl q) v) (fl q) (.bool true)) 2 (.int .i64 (hd + 1 : Nat))) (sl k) = c (sl k) ∧
      (upd (upd (upd c (sl q) v) (fl q) (.bool true)) 2 (.int .i64 (hd + 1 : Nat))) (fl k) = c (fl k) := fun k h1 h2 h3 => by
    have a : sl k ≠ sl q ∧ sl k ≠ fl q ∧ fl k ≠ sl q ∧ fl k ≠ fl q ∧ sl k ≠ 2 ∧ fl k ≠ 2 := by unfold sl fl; omega
    exact ⟨by rw [upd_ne _ _ a.2.2.2.2.1, upd_ne _ _ a.2.1, upd_ne _ _ a.1], by rw [upd_ne _ _ a.2.2.2.2.2, upd_ne _ _ a.2.2.2.1, upd_ne _ _ a.2.2.1]⟩
  have here : (upd (upd (upd c (sl q) v) (fl q) (.bool true)) 2 (.int .i64 (hd + 1 : Nat))) (sl q) = v ∧ (upd (upd (upd c (sl q) v) (fl q) (.bool true)) 2 (.int .i64 (hd + 1 : Nat))) (fl q) = .bool true :=
    ⟨by rw [upd_ne _ _ e1.2.2.1, upd_ne _ _ e1.2.2.2.2.2.2, upd_same], by rw [upd_ne _ _ e1.2.2.2.2.2.1, upd_same]⟩
  refine ⟨?_, ?_, ?_, ?_, h.size_bd, h.n_bd, ?_, ?_, ?_, ?_, ?_, ?_, ?_, ?_, .inl h.base, ?_⟩
  · exact ((hat.set _ _).set _ _).set _ _
  · rw [upd_ne _ _ (by omega), upd_ne _ _ e1.2.2.2.1.symm, upd_ne _ _ e1.1.symm]; exact h.sz
  · rw [upd_ne _ _ (by omega), upd_ne _ _ e1.2.2.2.2.1.symm, upd_ne _ _ e1.2.1.symm]; exact h.nx
  · rw [upd_same]
  · intro k h1 h2
    rw [put_ne _ _ (by omega)]; exact h.low k h1 h2
  · have := h.n_bd; rw [put_ne _ _ (by omega)]; exact h.zero
  · intro k hk'; rw [put_ne _ _ (by omega)]; exact h.high k hk'
  · intro k hk'; rw [put_ne _ _ (by omega)]; exact h.top k hk'
  · rw [cn_put f q l n hf size hq hq2, ← h.cnt]
  · intro k h1 h2
    by_cases hkq : k = q
    · subst hkq; rw [here.2, put_same]; rfl
    · rw [(keep k h1 h2 hkq).2, put_ne _ _ hkq]; exact h.flag k h1 h2
  · intro k l' h1 h2 h3
    by_cases hkq : k = q
    · subst hkq
      rw [put_same] at h3
      obtain rfl : l = l' := Option.some.inj h3
      rw [here.1]
      exact ⟨ho.kp hK (fun g hg e => by have := hv g hg; omega), fun g hg => ⟨.inr hg, by have := hv g hg; omega⟩⟩
    · rw [put_ne _ _ hkq] at h3
      rw [(keep k h1 h2 hkq).1]
      obtain ⟨a1, a4⟩ := h.body k l' h1 h2 h3
      exact ⟨(a1.kp hk (fun g hg => hS g (a4 g hg).1)).kp hK (fun g hg => (a4 g hg).2), fun g hg => ⟨.inl (a4 g hg).1, (a4 g hg).2⟩⟩
  · intro k k' g h1 h2 h3 h4 h5 h6 h7 h8
    by_cases hkq : k = q
    · by_cases hkq' : k' = q
      · omega
      · exfalso
        subst hkq
        rw [here.1] at h7
        rw [(keep k' h3 h4 hkq').1] at h8
        rw [put_ne _ _ hkq'] at h6
        obtain ⟨l', hl'⟩ := Option.ne_none_iff_exists'.1 h6
        obtain ⟨a1, a4⟩ := h.body k' l' h3 h4 hl'
        have := a1.lt g h8
        have := hv g h7
        omega
    · by_cases hkq' : k' = q
      · exfalso
        subst hkq'
        rw [here.1] at h8
        rw [(keep k h1 h2 hkq).1] at h7
        rw [put_ne _ _ hkq] at h5
        obtain ⟨l', hl'⟩ := Option.ne_none_iff_exists'.1 h5
        obtain ⟨a1, a4⟩ := h.body k l' h1 h2 hl'
        have := a1.lt g h7
        have := hv g h8
        omega
      · rw [(keep k h1 h2 hkq).1] at h7
        rw [(keep k' h3 h4 hkq').1] at h8
        rw [put_ne _ _ hkq] at h5
        rw [put_ne _ _ hkq'] at h6
        exact h.dist k k' g h1 h2 h3 h4 h5 h6 h7 h8
  · intro k hk'
    rcases hk' with hk' | hk'
    · exact Nat.lt_of_lt_of_le (h.lt k hk') (Nat.le_trans hk.size hK.size)
    · exact Nat.lt_of_lt_of_le (ho.lt k hk') hK.size
end Go.Proofs.Ytokembhfebnjpaa
/- Package inbox: Has, Next, Held over what an inbox means; New. -/
namespace Go.Proofs.Ytokembhfebnjpaa
set_option maxRecDepth 20000
open Go.RowKit
set_option linter.unusedVariables false
section
theorem InbC.hasSpec {w : World} {b : Nat} {c : Nat → Value} {size : Nat} {f : Bodies} {n hd : Nat} {F : Nat → Prop} (h : InbC w b c size f n hd F) (hn : f n = none) (seq : Int) (hs : -9223372036854775808 ≤ seq ∧ seq ≤ 9223372036854775807) :
    Calls Try.prog 87 #[.pointer (some ⟨b, 0, none⟩), .int .i64 seq] w fun e w' => e = .returned (.bool (hasI f seq)) ∧ ∃ m, w' = w.drewN m := by
  have h0 := h.at_.is (i := 0) (by omega) h.sz
  have h1 := h.at_.is (i := 1) (by omega) h.nx
  have hsb := h.size_bd
  have hnb := h.n_bd
  have hne : ((size : Int) == 0) = false := by simp; omega
  by_cases hneg : seq < 1
  · have e : hasI f seq = false := by
      unfold hasI
      by_cases h00 : seq = 0
      · subst h00; simp [h.zero]
      · rw [decide_eq_false (by omega)]; rfl
    rw [e]
    exact has_neg b size seq w h0 hne hneg
  · obtain ⟨k, rfl⟩ := Int.eq_ofNat_of_zero_le (show 0 ≤ seq by omega)
    have ek : hasI f k = (f k).isSome := by simp [hasI]
    rw [ek]
    by_cases hlt : k < n
    · have e : (f k).isSome = true := by
        have := h.low k (by omega) hlt
        cases hf : f k with
        | none => exact absurd hf this
        | some _ => rfl
      rw [e]
      exact has_old b size n k w h0 h1 hne (by omega) (by omega)
    · by_cases hfar : n + size ≤ k
      · have e : (f k).isSome = false := by rw [h.high k hfar]; rfl
        rw [e]
        exact has_far b size n k w h0 h1 hne (by omega) (by omega) (by omega) hs.2
      · have hc := h.at_.is (i := fl k) (sl_lt k).2 (h.flag k (by omega) (by omega))
        exact has_in b size n k _ w h0 h1 hne (by omega) (by omega) (by omega) hs.2 hc
theorem InbC.next {w : World} {b : Nat} {c : Nat → Value} {size : Nat} {f : Bodies} {n hd : Nat} {F : Nat → Prop} (h : InbC w b c size f n hd F) :
    Calls Try.prog 33 #[.pointer (some ⟨b, 0, none⟩)] w fun e w' => e = .returned (.int .i64 n) ∧ w = w' :=
  next_at b size n w (h.at_.is (i := 0) (by omega) h.sz) (h.at_.is (i := 1) (by omega) h.nx) (by have := h.size_bd; simp; omega)
end
theorem cn_empty (n : Nat) : ∀ m, cn (fun _ => none) n m = 0
  | 0 => rfl
  | m + 1 => by rw [cn, cn_empty n m]; rfl
theorem inew_bad (s : Int) (w : World) (h : s < 1 ∨ 64 < s) :
    Calls Try.prog 78 #[.int .i64 s] w fun e w' => e = .returned (.tuple #[.pointer none, .int .i64 2]) ∧ w = w' := by
  by_cases h1 : s < 1
  all_goals
    go_enter Try.func78, Try.ntmps78
    go_wp2
    go_ret2
    exact ⟨rfl, rfl⟩
theorem flat2 (x y : Value) : ∀ (n j : Nat), j < n → ((List.replicate n [x, y]).flatten)[2 * j + 1]? = some y
  | 0, j, h => by omega
  | n + 1, 0, h => by simp [List.replicate_succ]
  | n + 1, j + 1, h => by
    rw [List.replicate_succ, List.flatten_cons, List.getElem?_append_right (by simp; omega)]
    simp only [List.length_cons, List.length_nil]
    rw [show 2 * (j + 1) + 1 - (0 + 1 + 1) = 2 * j + 1 by omega]
    exact flat2 x y n j (by omega)
def ibox (s : Int) : List Value := [.int .i64 s, .int .i64 1, .int .i64 0] ++ (List.replicate 64 [.slice none 0 0, .bool false]).flatten
theorem ibox_flag (s : Int) (k : Nat) : (ibox s).getD (fl k) undef = .bool false := by
  unfold ibox fl
  rw [List.getD_eq_getElem?_getD, List.getElem?_append_right (by simp; omega)]
  simp only [List.length_cons, List.length_nil]
  rw [show 4 + 2 * (k % 64) - (0 + 1 + 1 + 1) = 2 * (k % 64) + 1 by omega, flat2 _ _ 64 (k % 64) (by omega)]
  rfl
theorem InbAt.fresh {w : World} {b : Nat} (s : Nat) (h : 1 ≤ s ∧ s ≤ 64) (hat : At w b (ibox s)) : InbAt w b s (fun _ => none) 1 0 (· = b) := by
  have hlt := hat.lt
  refine ⟨⟨_, AtF.of_list hat, rfl, rfl, rfl, h, ⟨by omega, by omega⟩, fun k h1 h2 => by omega, rfl, fun _ _ => rfl, fun _ _ => rfl, (cn_empty 1 s).symm, fun k h1 h2 => ibox_flag s k, ?_, ?_, rfl, fun k hk => by rw [hk]; exact hlt⟩, rfl⟩
  · intro k l _ _ h; cases h
  · intro k k' g _ _ _ _ h; exact absurd rfl h
def zbox : List Value := [.int .i64 0, .int .i64 0, .int .i64 0] ++ (List.replicate 64 [.slice none 0 0, .bool false]).flatten
theorem zero_box (w : World) : (zeroValue 97).run Try.prog w = .ok (.agg zbox.toArray) w := by kernel_rfl
theorem zbox_size : zbox.toArray.size = 131 := by simp [zbox]
theorem zbox_ne : ¬ zbox.toArray = #[] := fun h => by have := zbox_size; rw [h] at this; cases this
theorem zbox_lt : ¬ zbox.toArray.size < 2 := by rw [zbox_size]; omega
theorem zbox_set (s : Int) : (zbox.set 0 (.int .i64 s)).set 1 (.int .i64 1) = ibox s := by
  simp [zbox, ibox]
set_option maxRecDepth 100000 in
theorem inew_ok (s : Nat) (w : World) (hs : 1 ≤ s ∧ s ≤ 64) :
    Calls Try.prog 78 #[.int .i64 s] w fun e w' => e = .returned (.tuple #[.pointer (some ⟨w.heap.size, 0, none⟩), .int .i64 0]) ∧
      InbAt w' w.heap.size s (fun _ => none) 1 0 (· = w.heap.size) ∧ Kp (fun _ => False) w w' := by
  have h1 : 1 ≤ (s : Int) := by omega
  have h2 : (s : Int) ≤ 64 := by omega
  have hz := zero_box
  have z1 := zbox_ne
  have z2 := zbox_lt
  go_enter Try.func78, Try.ntmps78
  go_wp2
  go_ret2
  rw [zbox_set]
  exact ⟨rfl, InbAt.fresh s hs (At.new w (ibox s) _), (Kp.refl _ w).alloc _⟩
end Go.Proofs.Ytokembhfebnjpaa
/- Package inbox: the closure in Take, and Take. -/
namespace Go.Proofs.Ytokembhfebnjpaa
set_option maxRecDepth 20000
open Go.RowKit
set_option linter.unusedVariables false

theorem tell_no (b bx bo : Nat) (c : Nat → Value) (size : Nat) (f : Bodies) (n hd : Nat) (F : Nat → Prop) (w : World) (h : InbC w b c size f n hd F) (hf : f n = none)
    (hx : w.cell? ⟨bx, 0, none⟩ = some (.pointer (some ⟨b, 0, none⟩))) :
    Calls Try.prog 89 #[.pointer (some ⟨bx, 0, none⟩), .pointer (some ⟨bo, 0, none⟩)] w fun e w' => e = .returned (.bool false) ∧ ∃ m, w' = w.drewN m := by
  have h1 := h.at_.is (i := 1) (by omega) h.nx
  have hfl := h.at_.is (i := fl n) (sl_lt n).2 (h.flag n (Nat.le_refl _) (by omega))
  rw [hf] at hfl
  have hb := h.n_bd
  have e0 : 0 ≤ (n : Int) % 64 := by omega
  have e1 : (n : Int) % 64 < 64 := by omega
  have e2 : ((n : Int) % 64).toNat = n % 64 := by omega
  have e3 : (n : Int).tmod 64 = (n : Int) % 64 := Int.tmod_eq_emod_of_nonneg (by omega)
  rw [show fl n = 3 + n % 64 * 2 + 1 by unfold fl; omega] at hfl
  clear h hf
  go_enter Try.func89, Try.ntmps89
  go_wp2_with fail
  go_quiet (fail)
  go_wp2
  go_ret
  exact ⟨rfl, _, rfl⟩
theorem elem_bytes : Elem Try.prog 22 (.slice none 0 0) 1 24 := Elem.mk' (by kernel_rfl) rfl (by omega) (by simp [Value.cells, Value.oneCell'])
theorem tell_end {w w2 w3 : World} {b bo : Nat} {c : Nat → Value} {size : Nat} {f : Bodies} {n hd : Nat} {F : Nat → Prop} {l : List Int} {v v' : Value} {m : Nat} {vs : List Value} {sv : Value} {o : Obj}
    (h : InbC w2 b c size f n hd F) (hf : f n = some l) (hk : Kp (fun _ => False) w w2) (es : sl n = 3 + n % 64 * 2) (ef : fl n = 3 + n % 64 * 2 + 1) (hpos : 1 ≤ hd) (hbl : bo < w2.heap.size)
    (hw : Own w3 v' (m + 1) 1 (vs ++ [sv]) ∧ Kp (fun k => v.ownBlock = some k) w2 w3 ∧ At w3 bo [v] ∧ (v'.ownBlock = v.ownBlock ∨ v'.ownBlock = some (w2.drew.alloc o).heap.size)) (hsv : c (sl n) = sv)
    (hob : bo ≠ b) (hFo : ¬ F bo) (hvo : v.ownBlock ≠ some bo) (hFv : ∀ g, v.ownBlock = some g → ¬ F g) :
    Ending.returned (.bool true) = Ending.returned (.bool true) ∧ ∃ c' v'', InbC (((((w3.setCell ⟨bo, 0, none⟩ v').setCell ⟨b, 3 + n % 64 * 2, none⟩ (.slice none 0 0)).setCell ⟨b, 3 + n % 64 * 2 + 1, none⟩ (.bool false)).setCell ⟨b, 1, none⟩ (.int .i64 ((n : Int) + 1))).setCell ⟨b, 2, none⟩ (.int .i64 ((hd : Int) - 1))) b c' size f (n + 1) (hd - 1) (fun k => F k ∧ (c (sl n)).ownBlock ≠ some k) ∧
      At (((((w3.setCell ⟨bo, 0, none⟩ v').setCell ⟨b, 3 + n % 64 * 2, none⟩ (.slice none 0 0)).setCell ⟨b, 3 + n % 64 * 2 + 1, none⟩ (.bool false)).setCell ⟨b, 1, none⟩ (.int .i64 ((n : Int) + 1))).setCell ⟨b, 2, none⟩ (.int .i64 ((hd : Int) - 1))) bo [v''] ∧
      Own (((((w3.setCell ⟨bo, 0, none⟩ v').setCell ⟨b, 3 + n % 64 * 2, none⟩ (.slice none 0 0)).setCell ⟨b, 3 + n % 64 * 2 + 1, none⟩ (.bool false)).setCell ⟨b, 1, none⟩ (.int .i64 ((n : Int) + 1))).setCell ⟨b, 2, none⟩ (.int .i64 ((hd : Int) - 1))) v'' (m + 1) 1 (vs ++ [c (sl n)]) ∧
      (v''.ownBlock = v.ownBlock ∨ ∃ g, v''.ownBlock = some g ∧ w.heap.size ≤ g) ∧
      Kp (fun k => k = b ∨ k = bo ∨ v.ownBlock = some k) w (((((w3.setCell ⟨bo, 0, none⟩ v').setCell ⟨b, 3 + n % 64 * 2, none⟩ (.slice none 0 0)).setCell ⟨b, 3 + n % 64 * 2 + 1, none⟩ (.bool false)).setCell ⟨b, 1, none⟩ (.int .i64 ((n : Int) + 1))).setCell ⟨b, 2, none⟩ (.int .i64 ((hd : Int) - 1))) := by
  obtain ⟨hv', hk2, hbo, hat⟩ := hw
  have hsz := hk.size
  have e1 : (n : Int) + 1 = ((n + 1 : Nat) : Int) := by omega
  have e2 : (hd : Int) - 1 = ((hd - 1 : Nat) : Int) := by omega
  have hbn : b < w2.heap.size := h.at_.lt
  have hnew : v'.ownBlock = some (w2.drew.alloc o).heap.size → v'.ownBlock = some (w2.heap.size + 1) := fun e => by rw [e]; simp
  have hK1 : Kp (fun k => k = bo ∨ v.ownBlock = some k) w2 (w3.setCell ⟨bo, 0, none⟩ v') :=
    (hk2.mono (S' := fun k => k = bo ∨ v.ownBlock = some k) (fun _ _ h => .inr h)).setCell (p := ⟨bo, 0, none⟩) (fun _ => .inl rfl) _
  have R := h.step hf hK1 (fun k hk' e => by rcases e with rfl | e; exact hFo hk'; exact hFv k e hk')
  rw [← ef, ← es, e1, e2]
  have hKb : Kp (· = b) (w3.setCell ⟨bo, 0, none⟩ v') (((((w3.setCell ⟨bo, 0, none⟩ v').setCell ⟨b, sl n, none⟩ (.slice none 0 0)).setCell ⟨b, fl n, none⟩ (.bool false)).setCell ⟨b, 1, none⟩ (.int .i64 (n + 1 : Nat))).setCell ⟨b, 2, none⟩ (.int .i64 (hd - 1 : Nat))) :=
    ((((Kp.refl (· = b) _).setCell (p := ⟨b, sl n, none⟩) (fun _ => rfl) _).setCell (p := ⟨b, fl n, none⟩) (fun _ => rfl) _).setCell (p := ⟨b, 1, none⟩) (fun _ => rfl) _).setCell (p := ⟨b, 2, none⟩) (fun _ => rfl) _
  have hKo : Kp (· = bo) w3 (w3.setCell ⟨bo, 0, none⟩ v') := (Kp.refl (· = bo) w3).setCell (p := ⟨bo, 0, none⟩) (fun _ => rfl) _
  have hvb : v'.ownBlock ≠ some b ∧ v'.ownBlock ≠ some bo := by
    rcases hat with e | e
    · rw [e]; exact ⟨fun e' => hFv b e' h.base, hvo⟩
    · rw [hnew e]
      refine ⟨fun e' => ?_, fun e' => ?_⟩
      · simp at e'; omega
      · simp at e'; omega
  refine ⟨rfl, _, v', R, ?_, ?_, ?_, ?_⟩
  · refine hKb.at ?_ hob
    have := hbo.set 0 v'
    simpa using this
  · rw [hsv]
    exact (hv'.kp hKo (fun g hg e => hvb.2 (by rw [hg, e]))).kp hKb (fun g hg e => hvb.1 (by rw [hg, e]))
  · rcases hat with e | e
    · exact .inl e
    · exact .inr ⟨_, hnew e, by omega⟩
  · exact ((hk.mono (S' := fun k => k = b ∨ k = bo ∨ v.ownBlock = some k) (fun _ _ h => h.elim)).then hK1 (fun i _ e => .inr e)).then hKb (fun i _ e => .inl e)
theorem tell_yes (b bx bo : Nat) (c : Nat → Value) (size : Nat) (f : Bodies) (n hd : Nat) (F : Nat → Prop) (l : List Int) (v : Value) (m : Nat) (vs : List Value) (w : World) (h : InbC w b c size f n hd F) (hf : f n = some l)
    (hx : w.cell? ⟨bx, 0, none⟩ = some (.pointer (some ⟨b, 0, none⟩))) (hxb : bx ≠ b) (hxo : bx ≠ bo) (hxv : v.ownBlock ≠ some bx) (hbo : At w bo [v]) (hv : Own w v m 1 vs) (hm : m ≤ 1000) (hob : bo ≠ b) (hFo : ¬ F bo) (hvo : v.ownBlock ≠ some bo) (hFv : ∀ g, v.ownBlock = some g → ¬ F g) :
    Calls Try.prog 89 #[.pointer (some ⟨bx, 0, none⟩), .pointer (some ⟨bo, 0, none⟩)] w fun e w' => e = .returned (.bool true) ∧
      ∃ c' v', InbC w' b c' size f (n + 1) (hd - 1) (fun k => F k ∧ (c (sl n)).ownBlock ≠ some k) ∧ At w' bo [v'] ∧ Own w' v' (m + 1) 1 (vs ++ [c (sl n)]) ∧
        (v'.ownBlock = v.ownBlock ∨ ∃ g, v'.ownBlock = some g ∧ w.heap.size ≤ g) ∧ Kp (fun k => k = b ∨ k = bo ∨ v.ownBlock = some k) w w' := by
  have hb := h.n_bd
  have h1 := h.at_.is (i := 1) (by omega) h.nx
  have hfl := h.at_.is (i := fl n) (sl_lt n).2 (h.flag n (Nat.le_refl _) (by omega))
  rw [hf] at hfl
  have e0 : 0 ≤ (n : Int) % 64 := by omega
  have e1 : (n : Int) % 64 < 64 := by omega
  have e2 : ((n : Int) % 64).toNat = n % 64 := by omega
  have e3 : (n : Int).tmod 64 = (n : Int) % 64 := Int.tmod_eq_emod_of_nonneg (by omega)
  have es : sl n = 3 + n % 64 * 2 := by unfold sl; omega
  have ef : fl n = 3 + n % 64 * 2 + 1 := by unfold fl; omega
  rw [ef] at hfl
  have HH := Lib.hid h
  have Hes := Lib.hid es
  have Hef := Lib.hid ef
  have Hf := Lib.hid hf
  have Hv := Lib.hid hv
  have Hbo := Lib.hid hbo
  have Hx := Lib.hid hx
  clear h hf es ef hv hbo
  go_enter Try.func89, Try.ntmps89
  go_wp2_with fail
  go_quiet (fail)
  go_wp2_with fail
  refine wp_world (fun w2 => Kp (fun _ => False) w w2) ((Kp.refl _ w).drewN _) ?_
  intro w2 hk
  have h := HH.out.kp hk (fun _ _ h => h)
  have hf := Hf.out
  have hv := Hv.out.kp hk (fun _ _ h => h)
  have hbo := hk.at Hbo.out (fun h => h)
  have hx2 := hk.cell Hx.out (fun h => h)
  obtain ⟨hown, _⟩ := h.body n l (Nat.le_refl _) (by omega) hf
  have hsl := h.at_.cell (i := sl n) (sl_lt n).1
  have hout : w2.cell? ⟨bo, 0, none⟩ = some v := by rw [hbo.cell]; rfl
  have hf1 : w2.frozen? ⟨bo, 0, none⟩ = false := hbo.frozen 0
  obtain ⟨sa, sc, hsv, hsc1, hsc2⟩ := hown.own.form
  rw [hsv, Hes.out] at hsl
  have hone : ∀ u ∈ [Value.slice sa l.length sc], u.oneCell' = true := fun u hu => by simp at hu; subst hu; rfl
  have hrd : Rd (w2.drew.alloc (.cells #[.slice sa l.length sc] 22)) (some ⟨w2.heap.size, 0, none⟩) [.slice sa l.length sc] := Rd.new w2.drew [.slice sa l.length sc] 22
  obtain ⟨v', w3, hrun, hv3, hk3, hat3, hbp⟩ := run_append_at (P := Try.prog) (t := 28) (tx := 28) (ty := 28) (w2.drew.alloc (.cells #[.slice sa l.length sc] 22)) Try.underlying28 elem_bytes Try.underlying28
    (hv.kp ((Kp.refl (fun _ => False) w2).drew.alloc _) (fun _ _ h => h)) (a := some ⟨w2.heap.size, 0, none⟩) (m := 1) (c := 1) (news := [.slice sa l.length sc]) (by simp) hrd hone (by unfold maxLen; omega) (by omega)
  obtain ⟨va, vc, rfl, hvc1, hvc2⟩ := hv3.form
  have hk2 : Kp (fun k => v.ownBlock = some k) w2 w3 := ((Kp.refl (fun k => v.ownBlock = some k) w2).drew.alloc (.cells #[.slice sa l.length sc] 22)).trans hk3
  have h3 := h.kp hk2 (fun k hk e => hFv k e hk)
  have hbo3 := hk2.at hbo hvo
  have hx3 := hk2.cell hx2 hxv
  have c1 := h3.at_.is (i := 1) (by omega) h3.nx
  have c2 := h3.at_.is (i := 2) (by omega) h3.hl
  have c3 := h3.at_.cell (i := sl n) (sl_lt n).1
  have c4 := h3.at_.cell (i := fl n) (sl_lt n).2
  rw [Hes.out] at c3
  rw [Hef.out] at c4
  have c5 : w3.cell? ⟨bo, 0, none⟩ = some v := by rw [hbo3.cell]; rfl
  have f1 := fun i => h3.at_.frozen i
  have f2 := hbo3.frozen 0
  have n1 : ¬ bo = b := hob
  have n2 : ¬ b = bo := fun e => hob e.symm
  have n3 : ¬ bx = bo := hxo
  have n4 : ¬ bo = bx := fun e => hxo e.symm
  have n5 : ¬ b = bx := fun e => hxb e.symm
  have n6 : ¬ bx = b := hxb
  have hpos : 1 ≤ hd := by
    rw [h.cnt]
    have hc := cn_front f n size
    rw [cn, h.high (n + size) (Nat.le_refl _), hf] at hc
    simp at hc; omega
  have hhd : hd ≤ 64 := by rw [h.cnt]; exact Nat.le_trans (cn_le f n size) h.size_bd.2
  have Hrun := Lib.hid hrun
  have Hh := Lib.hid h
  have Hsv := Lib.hid hsv
  have Hhf := Lib.hid hf
  have hbl := hbo.lt
  have Hk := Lib.hid hk
  have Hw := Lib.hid (And.intro hv3 (And.intro hk2 (And.intro hbo3 hat3)))
  clear hk hrun h hf hsv hrd hk3 h3 hbo3 hv3 hat3 hk2
  have a1 : (w2.alloc (.cells #[.slice sa l.length sc] 22)).cell? ⟨bo, 0, none⟩ = some v := ((Kp.refl (fun _ => False) w2).alloc _).cell hout (fun h => h)
  have a2 : (w2.alloc (.cells #[.slice sa l.length sc] 22)).cell? ⟨b, 3 + n % 64 * 2, none⟩ = some (.slice sa l.length sc) := ((Kp.refl (fun _ => False) w2).alloc _).cell hsl (fun h => h)
  go_region_law ((refine step_append_run _ Hrun.out (by rfl) (by rfl) (by rfl) (by rfl) ?_))
  all_goals
    go_wp2
    go_ret
    exact tell_end Hh.out Hhf.out Hk.out Hes.out Hef.out hpos hbl Hw.out Hsv.out hob hFo hvo hFv
end Go.Proofs.Ytokembhfebnjpaa
/- Package inbox: Take, where it answers an error. -/
namespace Go.Proofs.Ytokembhfebnjpaa
set_option maxRecDepth 20000
open Go.RowKit
set_option linter.unusedVariables false

theorem take_nil (seq : Int) (a : Option Addr) (n cap : Nat) (w : World) :
    Calls Try.prog 82 #[.pointer none, .int .i64 seq, .slice a n cap] w fun e w' => e = .returned (.tuple #[.slice none 0 0, .int .i64 1]) ∧ Kp (fun _ => False) w w' := by
  go_enter Try.func82, Try.ntmps82
  go_wp2_with (go_at_call 43; refine (inone_nil _).mono ?_; rintro e w' ⟨rfl, rfl⟩)
  go_ret2
  exact ⟨rfl, (Kp.refl _ w).alloc _⟩
theorem take_un (b : Nat) (seq : Int) (a : Option Addr) (n cap : Nat) (w : World) (h : w.cell? ⟨b, 0, none⟩ = some (.int .i64 0)) :
    Calls Try.prog 82 #[.pointer (some ⟨b, 0, none⟩), .int .i64 seq, .slice a n cap] w fun e w' => e = .returned (.tuple #[.slice none 0 0, .int .i64 1]) ∧ Kp (fun _ => False) w w' := by
  have h' := fun o => ((Kp.refl (fun _ => False) w).alloc o).cell h (fun h => h)
  go_enter Try.func82, Try.ntmps82
  go_wp2_with (go_at_call 43; refine (inone_at b 0 _ (h' _)).mono ?_; rintro e w' ⟨rfl, rfl⟩)
  go_ret2
  exact ⟨rfl, (Kp.refl _ w).alloc _⟩
section
variable {b size : Nat} {f : Bodies} {n hd : Nat} {F : Nat → Prop} {w : World}
theorem take_range (h : InbAt w b size f n hd F) (seq : Int) (a : Option Addr) (len cap : Nat) (hs : seq < 1 ∨ 2147483647 ≤ seq) :
    Calls Try.prog 82 #[.pointer (some ⟨b, 0, none⟩), .int .i64 seq, .slice a len cap] w fun e w' => e = .returned (.tuple #[.slice none 0 0, .int .i64 5]) ∧ Kp (fun _ => False) w w' := by
  obtain ⟨⟨c, h⟩, hn⟩ := h
  have h' := fun o => ((Kp.refl (fun _ => False) w).alloc o).cell (h.at_.is (i := 0) (by omega) h.sz) (fun h => h)
  have hne : ((size : Int) == 0) = false := by have := h.size_bd; simp; omega
  by_cases h1 : seq < 1
  all_goals
    go_enter Try.func82, Try.ntmps82
    go_wp2_with (go_at_call 43; refine (inone_at b _ _ (h' _)).mono ?_; rintro e w' ⟨rfl, rfl⟩)
    go_ret2
    exact ⟨rfl, (Kp.refl _ w).alloc _⟩
theorem take_there (h : InbAt w b size f n hd F) (q : Nat) (a : Option Addr) (len cap : Nat) (h1 : 1 ≤ q) (h2 : q < 2147483647) (hf : (f q).isSome = true) :
    Calls Try.prog 82 #[.pointer (some ⟨b, 0, none⟩), .int .i64 q, .slice a len cap] w fun e w' => e = .returned (.tuple #[.slice none 0 0, .int .i64 7]) ∧ Kp (fun _ => False) w w' := by
  obtain ⟨⟨c, h⟩, hn⟩ := h
  have hA := fun o => h.kp ((Kp.refl (fun _ => False) w).alloc o) (fun _ _ h => h)
  have h0 := fun o => (hA o).at_.is (i := 0) (by omega) h.sz
  have hne : ((size : Int) == 0) = false := by have := h.size_bd; simp; omega
  have hH := fun o => (hA o).hasSpec hn q (by omega)
  have e : hasI f q = true := by simp [hasI, hf]
  rw [e] at hH
  have HA := Lib.hid hA
  have HH := Lib.hid hH
  have g1 : (1 : Int) ≤ q := by omega
  have g2 : (q : Int) < 2147483647 := by omega
  clear hA hH e hf h1 h2
  generalize (q : Int) = seq at *
  go_enter Try.func82, Try.ntmps82
  go_wp2_with (first | (go_at_call 43; refine (inone_at b _ _ (h0 _)).mono ?_; rintro e w' ⟨rfl, rfl⟩) | (go_at_call 87; refine (HH.out _).mono ?_; rintro e w' ⟨rfl, m, rfl⟩))
  go_ret2
  exact ⟨rfl, ((Kp.refl _ w).alloc _).drewN _⟩
theorem take_full (h : InbAt w b size f n hd F) (q : Nat) (a : Option Addr) (len cap : Nat) (h1 : 1 ≤ q) (h2 : q < 2147483647) (hf : n + size ≤ q) :
    Calls Try.prog 82 #[.pointer (some ⟨b, 0, none⟩), .int .i64 q, .slice a len cap] w fun e w' => e = .returned (.tuple #[.slice none 0 0, .int .i64 8]) ∧ Kp (fun _ => False) w w' := by
  obtain ⟨⟨c, h⟩, hn⟩ := h
  have hA := fun o => h.kp ((Kp.refl (fun _ => False) w).alloc o) (fun _ _ h => h)
  have h0 := fun o => (hA o).at_.is (i := 0) (by omega) h.sz
  have hne : ((size : Int) == 0) = false := by have := h.size_bd; simp; omega
  have hH := fun o => (hA o).hasSpec hn q (by omega)
  have e : hasI f q = false := by simp [hasI, h.high q hf]
  rw [e] at hH
  have hB := fun o m => (hA o).kp ((Kp.refl (fun _ => False) (w.alloc o)).drewN m) (fun _ _ h => h)
  have hG := fun o m => ahead_ge b size n q ((w.alloc o).drewN m) ((hB o m).at_.is (i := 0) (by omega) h.sz) ((hB o m).at_.is (i := 1) (by omega) h.nx) (by omega) (by omega) (by omega)
  have e2 : decide ((q : Int) - n < size) = false := by simp; omega
  rw [e2] at hG
  have HH := Lib.hid hH
  have HG := Lib.hid hG
  have g1 : (1 : Int) ≤ q := by omega
  have g2 : (q : Int) < 2147483647 := by omega
  clear hA hH e hf hB hG e2 h1 h2
  generalize (q : Int) = seq at *
  go_enter Try.func82, Try.ntmps82
  go_wp2_with (first | (go_at_call 43; refine (inone_at b _ _ (h0 _)).mono ?_; rintro e w' ⟨rfl, rfl⟩) | (go_at_call 87; refine (HH.out _).mono ?_; rintro e w' ⟨rfl, m, rfl⟩) | (go_at_call 88; refine (HG.out _ _).mono ?_; rintro e w' ⟨rfl, m', rfl⟩))
  go_ret2
  exact ⟨rfl, ((Kp.refl _ w).alloc _).drewN _⟩
end
end Go.Proofs.Ytokembhfebnjpaa
/- Package inbox: Take, where a body is taken. -/
namespace Go.Proofs.Ytokembhfebnjpaa
set_option maxRecDepth 20000
open Go.RowKit
set_option linter.unusedVariables false

/-- What is told: the values vs are lists of the bodies of n, n + 1 .., each a block of its own, none of them among F. -/
structure Told (w : World) (f : Bodies) (n : Nat) (vs : List Value) (G F : Nat → Prop) : Prop where
  own : ∀ i, i < vs.length → ∃ l, f (n + i) = some l ∧ OwnB w (vs.getD i undef) l
  blk : ∀ i g, i < vs.length → (vs.getD i undef).ownBlock = some g → G g ∧ ¬ F g
  dist : ∀ i j g, i < vs.length → j < vs.length → (vs.getD i undef).ownBlock = some g → (vs.getD j undef).ownBlock = some g → i = j
theorem Told.nil (w : World) (f : Bodies) (n : Nat) (G F : Nat → Prop) : Told w f n [] G F := ⟨fun i h => by simp at h, fun i g h => by simp at h, fun i j g h => by simp at h⟩
theorem Told.kp {S : Nat → Prop} {w w' : World} {f : Bodies} {n : Nat} {vs : List Value} {G F : Nat → Prop} (h : Told w f n vs G F) (hk : Kp S w w') (hS : ∀ i g, i < vs.length → (vs.getD i undef).ownBlock = some g → ¬ S g) : Told w' f n vs G F :=
  ⟨fun i hi => by obtain ⟨l, h1, h2⟩ := h.own i hi; exact ⟨l, h1, h2.kp hk (fun g hg => hS i g hi hg)⟩, h.blk, h.dist⟩
theorem getD_snoc_lt {α : Type} (l : List α) (x d : α) {i : Nat} (h : i < l.length) : (l ++ [x]).getD i d = l.getD i d := by
  rw [List.getD_eq_getElem?_getD, List.getElem?_append_left h, List.getD_eq_getElem?_getD]
theorem getD_snoc_at {α : Type} (l : List α) (x d : α) : (l ++ [x]).getD l.length d = x := by
  rw [List.getD_eq_getElem?_getD, List.getElem?_append_right (by omega), Nat.sub_self]; rfl
theorem Told.snoc {w : World} {f : Bodies} {n : Nat} {vs : List Value} {G F F' : Nat → Prop} (h : Told w f n vs G F) {x : Value} {l : List Int} (hl : f (n + vs.length) = some l) (ho : OwnB w x l)
    (hF : ∀ g, F' g → F g ∧ x.ownBlock ≠ some g) (hx : ∀ g, x.ownBlock = some g → G g ∧ F g) : Told w f n (vs ++ [x]) G F' := by
  have cases' : ∀ i, i < (vs ++ [x]).length → i < vs.length ∨ i = vs.length := fun i hi => by simp at hi; omega
  refine ⟨fun i hi => ?_, fun i g hi hg => ?_, fun i j g hi hj hgi hgj => ?_⟩
  · rcases cases' i hi with h' | rfl
    · rw [getD_snoc_lt _ _ _ h']; exact h.own i h'
    · rw [getD_snoc_at]; exact ⟨l, hl, ho⟩
  · rcases cases' i hi with h' | rfl
    · rw [getD_snoc_lt _ _ _ h'] at hg
      exact ⟨(h.blk i g h' hg).1, fun hF' => (h.blk i g h' hg).2 (hF g hF').1⟩
    · rw [getD_snoc_at] at hg
      exact ⟨(hx g hg).1, fun hF' => (hF g hF').2 hg⟩
  · rcases cases' i hi with h' | rfl
    · rw [getD_snoc_lt _ _ _ h'] at hgi
      rcases cases' j hj with h'' | rfl
      · rw [getD_snoc_lt _ _ _ h''] at hgj
        exact h.dist i j g h' h'' hgi hgj
      · rw [getD_snoc_at] at hgj
        exact absurd (hx g hgj).2 (h.blk i g h' hgi).2
    · rw [getD_snoc_at] at hgi
      rcases cases' j hj with h'' | rfl
      · rw [getD_snoc_lt _ _ _ h''] at hgj
        exact absurd (hx g hgi).2 (h.blk j g h'' hgj).2
      · rfl

/-- In the middle of a drain: m is awaited, the bodies of n to m - 1 are told. -/
def Drain (w0 : World) (b bx bo size : Nat) (f : Bodies) (n : Nat) (G : Nat → Prop) (m : Nat) (wr : World) : Prop :=
  ∃ c hd F v vs, n ≤ m ∧ m ≤ n + size ∧ vs.length = m - n ∧ InbC wr b c size f m hd F ∧ At wr bo [v] ∧ Own wr v (m - n) 1 vs ∧ Told wr f n vs G F ∧
    (∀ g, v.ownBlock = some g → bo < g) ∧ (∀ g, F g → g < bo ∧ g ≠ bx ∧ (g = b ∨ G g)) ∧ wr.cell? ⟨bx, 0, none⟩ = some (.pointer (some ⟨b, 0, none⟩)) ∧ Kp (· = b) w0 wr
theorem drain_no {w0 wr : World} {b bx bo size : Nat} {f : Bodies} {n m : Nat} {G : Nat → Prop} (h : Drain w0 b bx bo size f n G m wr) (hf : f m = none) :
    Calls Try.prog 89 #[.pointer (some ⟨bx, 0, none⟩), .pointer (some ⟨bo, 0, none⟩)] wr fun e w' => e = .returned (.bool false) ∧ Drain w0 b bx bo size f n G m w' := by
  obtain ⟨c, hd, F, v, vs, h1, h2, h3, h4, h5, h6, h7, h8, h9, h10, h11⟩ := h
  refine (tell_no b bx bo c size f m hd F wr h4 hf h10).mono ?_
  rintro e w' ⟨rfl, k, rfl⟩
  have hk : Kp (fun _ => False) wr (wr.drewN k) := (Kp.refl _ _).drewN k
  exact ⟨rfl, c, hd, F, v, vs, h1, h2, h3, h4.kp hk (fun _ _ h => h), hk.at h5 (fun h => h), h6.kp hk (fun _ _ h => h), h7.kp hk (fun _ _ _ _ h => h), h8, h9, hk.cell h10 (fun h => h), h11.drewN k⟩
theorem drain_yes {w0 wr : World} {b bx bo size : Nat} {f : Bodies} {n m : Nat} {G : Nat → Prop} (h : Drain w0 b bx bo size f n G m wr) {l : List Int} (hf : f m = some l) (hhigh : ∀ k, n + size ≤ k → f k = none) (hsz : size ≤ 64)
    (hbx : bx ≠ b) (hxo : bx < bo) (hob : b < bo) (hw0 : w0.heap.size ≤ bo) (hG : ∀ g, G g → g < bo ∧ g ≠ b) :
    Calls Try.prog 89 #[.pointer (some ⟨bx, 0, none⟩), .pointer (some ⟨bo, 0, none⟩)] wr fun e w' => e = .returned (.bool true) ∧ m < n + size ∧ Drain w0 b bx bo size f n G (m + 1) w' := by
  obtain ⟨c, hd, F, v, vs, h1, h2, h3, h4, h5, h6, h7, h8, h9, h10, h11⟩ := h
  have hlt : m < n + size := by
    rcases Nat.lt_or_ge m (n + size) with h | h
    · exact h
    · rw [hhigh m h] at hf; cases hf
  have hbo := h5.lt
  have hv1 : ∀ g, v.ownBlock = some g → g ≠ b ∧ g ≠ bo ∧ g ≠ bx ∧ ¬ F g := fun g hg => by
    have := h8 g hg
    exact ⟨by omega, by omega, by omega, fun hF => by have := (h9 g hF).1; omega⟩
  obtain ⟨hbody, hblk⟩ := h4.body m l (Nat.le_refl _) (by omega) hf
  refine (tell_yes b bx bo c size f m hd F l v (m - n) vs wr h4 hf h10 hbx (by omega) (fun e => (hv1 bx e).2.2.1 rfl) h5 h6 (by omega) (by omega) (fun e => by have := (h9 bo e).1; omega) (fun e => (hv1 bo e).2.1 rfl) (fun g hg => (hv1 g hg).2.2.2)).mono ?_
  rintro e w' ⟨rfl, c', v', k1, k2, k3, k4, k5⟩
  have hsv : ∀ g, (c (sl m)).ownBlock = some g → ¬ (g = b ∨ g = bo ∨ v.ownBlock = some g) := fun g hg e => by
    have hF := (hblk g hg).1
    have := (h9 g hF).1
    rcases e with rfl | rfl | e
    · exact (hblk _ hg).2 rfl
    · omega
    · exact (hv1 g e).2.2.2 hF
  refine ⟨rfl, hlt, c', hd - 1, _, v', vs ++ [c (sl m)], by omega, by omega, by simp; omega, k1, k2, by rw [show m + 1 - n = m - n + 1 by omega]; exact k3, ?_, ?_, ?_, ?_, ?_⟩
  · have h7' := h7.kp k5 (fun i g hi hg e => by
      obtain ⟨hgG, hgF⟩ := h7.blk i g hi hg
      have := hG g hgG
      rcases e with rfl | rfl | e
      · exact this.2 rfl
      · omega
      · have := h8 g e; omega)
    refine h7'.snoc (F' := fun k => F k ∧ (c (sl m)).ownBlock ≠ some k) (l := l) (by rw [h3, show n + (m - n) = m by omega]; exact hf) (hbody.kp k5 hsv) (fun g hg => hg) (fun g hg => ⟨?_, (hblk g hg).1⟩)
    rcases (h9 g (hblk g hg).1).2.2 with e | e
    · exact absurd e (hblk g hg).2
    · exact e
  · intro g hg
    rcases k4 with e | ⟨g', e, hle⟩
    · exact h8 g (by rw [← e]; exact hg)
    · rw [e] at hg; obtain rfl := Option.some.inj hg; omega
  · intro g hg; exact h9 g hg.1
  · refine k5.cell h10 (fun e => ?_)
    rcases e with e | e | e
    · exact hbx e
    · simp at e; omega
    · exact (hv1 bx e).2.2.1 rfl
  · refine h11.then k5 (fun i hi e => ?_)
    rcases e with e | e | e
    · exact e
    · omega
    · have := h8 i e; omega

theorem take_ok {b size : Nat} {f : Bodies} {n hd : Nat} {F : Nat → Prop} {w : World} (h : InbAt w b size f n hd F) (q : Nat) (a : Option Addr) (cap : Nat) (l : List Int) (hr : RdB w a l) (hlen : l.length ≤ 1000000000)
    (h1 : n ≤ q) (h2 : q < n + size) (h3 : q < 2147483647) (hf : f q = none) :
    Calls Try.prog 82 #[.pointer (some ⟨b, 0, none⟩), .int .i64 q, .slice a l.length cap] w fun e w' =>
      ∃ n' hd' F' v vs, e = .returned (.tuple #[v, .int .i64 0]) ∧ n ≤ n' ∧ n' ≤ n + size ∧ vs.length = n' - n ∧ InbAt w' b size (put f q l) n' hd' F' ∧ Own w' v (n' - n) 1 vs ∧ Told w' (put f q l) n vs (fun g => (F g ∧ g ≠ b) ∨ w.heap.size ≤ g) F' ∧
        (∀ g, v.ownBlock = some g → w.heap.size ≤ g ∧ ¬ F' g) ∧ (∀ g, F' g → F g ∨ w.heap.size ≤ g) ∧ Kp (· = b) w w' := by
  obtain ⟨⟨c, h⟩, hn⟩ := h
  have hA := fun o => h.kp ((Kp.refl (fun _ => False) w).alloc o) (fun _ _ h => h)
  have h0 := fun o => (hA o).at_.is (i := 0) (by omega) h.sz
  have hne : ((size : Int) == 0) = false := by have := h.size_bd; simp; omega
  have hH := fun o => (hA o).hasSpec hn q (by omega)
  have e : hasI f q = false := by simp [hasI, hf]
  rw [e] at hH
  have hB := fun o m => (hA o).kp ((Kp.refl (fun _ => False) (w.alloc o)).drewN m) (fun _ _ h => h)
  have hG := fun o m => ahead_ge b size n q ((w.alloc o).drewN m) ((hB o m).at_.is (i := 0) (by omega) h.sz) ((hB o m).at_.is (i := 1) (by omega) h.nx) (by omega) (by omega) (by omega)
  have e2 : decide ((q : Int) - n < size) = true := by simp; omega
  rw [e2] at hG
  have HH := Lib.hid hH
  have HG := Lib.hid hG
  have g1 : (1 : Int) ≤ q := by have := h.n_bd; omega
  have g2 : (q : Int) < 2147483647 := by omega
  have m0 : 0 ≤ (q : Int) % 64 := by omega
  have m1 : (q : Int) % 64 < 64 := by omega
  have m2 : ((q : Int) % 64).toNat = q % 64 := by omega
  have m3 : (q : Int).tmod 64 = (q : Int) % 64 := Int.tmod_eq_emod_of_nonneg (by omega)
  have h3' := Lib.hid h3
  have Hh := Lib.hid h
  clear hA hH e hB hG e2 h3
  obtain ⟨seq, hseq⟩ : ∃ seq : Int, seq = q := ⟨_, rfl⟩
  rw [← hseq] at HH HG g1 g2 m0 m1 m2 m3 ⊢
  clear hseq h
  go_enter Try.func82, Try.ntmps82
  go_wp2_with (first | (go_at_call 43; refine (inone_at b _ _ (h0 _)).mono ?_; rintro e w' ⟨rfl, rfl⟩) | (go_at_call 87; refine (HH.out _).mono ?_; rintro e w' ⟨rfl, m, rfl⟩))
  refine (HG.out _ _).mono ?_
  rintro e w2 ⟨rfl, hm⟩
  have hk2 : Kp (fun _ => False) w w2 := by obtain ⟨m', rfl⟩ := hm; exact (((Kp.refl _ w).alloc _).drewN _).drewN _
  have hxb : At w2 w.heap.size [.pointer (some ⟨b, 0, none⟩)] := by obtain ⟨m', rfl⟩ := hm; exact ((At.new w [.pointer (some ⟨b, 0, none⟩)] _).drewN _).drewN _
  clear hm h0
  have h := Hh.out.kp hk2 (fun _ _ h => h)
  have hbw := Hh.out.at_.lt
  have hr2 := hr.kp hk2 (fun _ _ h => h)
  obtain ⟨v', w3, hrun, hv3, hk3, hat3, hbp⟩ := run_append_at (P := Try.prog) (t := 22) (tx := 22) (ty := 22) w2 Try.underlying22 elem_u8 Try.underlying22 (Own.nil w2 1) (a := a) (m := l.length) (c := cap) (news := l.map (Value.int .u8)) (by simp) hr2.rd (oneCell_u8 l) (by unfold maxLen; omega) (by omega)
  have hblk := hbp isB isB_zero (by rw [List.nil_append]; exact isB_map hr.bd) (BlkP.nil _ _ _ _)
  rw [Nat.zero_add, List.nil_append] at hv3
  obtain ⟨va, vc, rfl, hvc1, hvc2⟩ := hv3.form
  have hk3' : Kp (fun _ => False) w2 w3 := hk3.mono (fun i _ e => by simp [Value.ownBlock] at e)
  have h3 := h.kp hk3' (fun _ _ h => h)
  have hx3 := hk3'.at hxb (fun h => h)
  have xlt := hxb.lt
  have x2 : w2.cell? ⟨w.heap.size, 0, none⟩ = some (.pointer (some ⟨b, 0, none⟩)) := by rw [hxb.cell]; rfl
  have x3 : w3.cell? ⟨w.heap.size, 0, none⟩ = some (.pointer (some ⟨b, 0, none⟩)) := by rw [hx3.cell]; rfl
  have c2 := h3.at_.is (i := 2) (by omega) h3.hl
  have c3 := h3.at_.cell (i := sl q) (sl_lt q).1
  have c4 := h3.at_.cell (i := fl q) (sl_lt q).2
  have es : sl q = 3 + q % 64 * 2 := by unfold sl; omega
  have ef : fl q = 3 + q % 64 * 2 + 1 := by unfold fl; omega
  rw [es] at c3
  rw [ef] at c4
  have f1 := fun i => h3.at_.frozen i
  have n1 : ¬ b = w.heap.size := by omega
  have n2 : ¬ w.heap.size = b := by omega
  have hhd : hd ≤ 64 := by rw [h.cnt]; exact Nat.le_trans (cn_le f n size) h.size_bd.2
  have hvn : ∀ g, (Value.slice va l.length vc).ownBlock = some g → w2.heap.size ≤ g := fun g hg => by
    rcases hat3 with e | e
    · rw [e] at hg; simp [Value.ownBlock] at hg
    · rw [e] at hg; simp at hg; omega
  have hput := h.put h1 h2 h3'.out hf hk3' (fun _ _ h => h) ⟨hv3, hblk, hr.bd, hlen⟩ hvn
  have hmf : ∀ (fn : Fn) (first cap : Array Value) (w : World), (Instr.makeFunc fn first cap).run Try.prog w = .ok (.func fn first cap) w := fun _ _ _ _ => rfl
  have Hrun := Lib.hid hrun
  have Hput := Lib.hid hput
  have Hes := Lib.hid es
  have Hef := Lib.hid ef
  have Hk := Lib.hid (And.intro hk2 (And.intro hk3' hx3))
  have Hv := Lib.hid (And.intro hv3 hvn)
  have Hhn := Lib.hid (And.intro hn hf)
  clear hrun hput es ef h h3 hk2 hk3 hk3' hx3 hat3 hv3 hr2 hvn hxb HH HG hn hf
  go_wp2_with (first | (at_builtin; refine wpList_append_run _ Hrun.out rfl rfl rfl rfl ?_))
  refine wp_world (fun w4 => Drain w b w.heap.size w3.heap.size size (put f q l) n (fun g => ((F g ∧ g ≠ b) ∨ w.heap.size ≤ g) ∧ g < w3.heap.size ∧ g ≠ b) n w4) ?_ ?_
  · obtain ⟨hk2, hk3, hx3⟩ := Hk.out
    obtain ⟨hv3, hvn⟩ := Hv.out
    have hput := Hput.out
    rw [Hef.out, Hes.out, show ((hd + 1 : Nat) : Int) = (hd : Int) + 1 by omega] at hput
    have hs1 := hk2.size
    have hs2 := hk3.size
    have hKb : Kp (· = b) w3 (((w3.setCell ⟨b, 3 + q % 64 * 2, none⟩ (.slice va l.length vc)).setCell ⟨b, 3 + q % 64 * 2 + 1, none⟩ (.bool true)).setCell ⟨b, 2, none⟩ (.int .i64 ((hd : Int) + 1))) :=
      (((Kp.refl (· = b) _).setCell (p := ⟨b, 3 + q % 64 * 2, none⟩) (fun _ => rfl) _).setCell (p := ⟨b, 3 + q % 64 * 2 + 1, none⟩) (fun _ => rfl) _).setCell (p := ⟨b, 2, none⟩) (fun _ => rfl) _
    have hKa : Kp (· = b) w3 _ := hKb.alloc (.cells #[.slice none 0 0] 28)
    refine ⟨_, hd + 1, _, .slice none 0 0, [], Nat.le_refl _, by omega, by simp, hput.kp ((Kp.refl (fun _ => False) _).alloc _) (fun _ _ h => h), ?_, ?_, Told.nil _ _ _ _ _, ?_, ?_, ?_, ?_⟩
    · have := At.new (((w3.setCell ⟨b, 3 + q % 64 * 2, none⟩ (.slice va l.length vc)).setCell ⟨b, 3 + q % 64 * 2 + 1, none⟩ (.bool true)).setCell ⟨b, 2, none⟩ (.int .i64 ((hd : Int) + 1))) [.slice none 0 0] 28
      simpa using this
    · rw [Nat.sub_self]; exact Own.nil _ _
    · intro g hg; simp [Value.ownBlock] at hg
    · intro g hg
      rcases hg with hg | hg
      · have := Hh.out.lt g hg
        exact ⟨by omega, by omega, by
          by_cases e : g = b
          · exact .inl e
          · exact .inr ⟨.inl ⟨hg, e⟩, by omega, e⟩⟩
      · have h5 := hv3.lt g hg
        have h6 := hvn g hg
        exact ⟨by omega, by omega, .inr ⟨.inr (by omega), by omega, by omega⟩⟩
    · refine hKa.cell ?_ (fun e => n2 e)
      rw [hx3.cell]; rfl
    · exact ((hk2.trans hk3).mono (S' := (· = b)) (fun _ _ h => h.elim)).then hKa (fun _ _ e => e)
  intro w4 hdr
  have hs1 := Hk.out.1.size
  have hs2 := Hk.out.2.1.size
  have hhigh : ∀ k, n + size ≤ k → put f q l k = none := fun k hk => by rw [put_ne _ _ (by omega)]; exact Hh.out.high k hk
  have hsz := Hh.out.size_bd.2
  have Hhigh := Lib.hid hhigh
  clear hhigh x2 x3 c2 c3 c4 f1 Hput Hrun m0 m1 m2 m3 g1 g2
  go_loopg [] size (fun k wr => ∃ m, k + m = n + size ∧ Drain w b w.heap.size w3.heap.size size (put f q l) n (fun g => ((F g ∧ g ≠ b) ∨ w.heap.size ≤ g) ∧ g < w3.heap.size ∧ g ≠ b) m wr)
  case atStart => exact ⟨n, by omega, hdr⟩
  case round =>
    obtain ⟨m, hkm, hdr⟩ := hrel
    cases hfm : put f q l m with
    | some l' =>
      have D := drain_yes hdr hfm Hhigh.out hsz n2 (by omega) (by omega) (by omega) (fun g hg => hg.2)
      have D' := Lib.hid D
      have Hfm := Lib.hid hfm
      clear D hdr hfm
      go_wp2_with (go_at_call 89; refine D'.out.mono ?_; rintro e w5 ⟨rfl, hlt, hdr'⟩)
      go_roundg (gk - 1)
      case rel => exact ⟨m + 1, by omega, hdr'⟩
      case measure => omega
    | none =>
      have D := drain_no hdr hfm
      have D' := Lib.hid D
      have Hfm := Lib.hid hfm
      clear D hdr hfm
      go_wp2_with fail
      refine D'.out.mono ?_
      rintro e w5 ⟨rfl, c5, hd5, F5, v5, vs5, k1, k2, k3, k4, k5, k6, k7, k8, k9, k10, k11⟩
      have hc5 : w5.cell? ⟨w3.heap.size, 0, none⟩ = some v5 := by rw [k5.cell]; rfl
      obtain ⟨va5, vc5, rfl, _, _⟩ := k6.form
      have HK := Lib.hid (And.intro k1 (And.intro k2 (And.intro k3 (And.intro k4 (And.intro k6 (And.intro k7 (And.intro k8 (And.intro k9 k11))))))))
      clear k1 k2 k3 k4 k5 k6 k7 k8 k9 k10 k11
      go_wp2
      go_ret2
      obtain ⟨k1, k2, k3, k4, k6, k7, k8, k9, k11⟩ := HK.out
      refine ⟨m, hd5, F5, _, vs5, rfl, k1, k2, k3, ⟨⟨c5, k4⟩, Hfm.out⟩, k6, ⟨k7.own, fun i g hi hg => ⟨((k7.blk i g hi hg).1).1, (k7.blk i g hi hg).2⟩, k7.dist⟩, fun g hg => ⟨by have := k8 g hg; omega, fun hF => by have := k8 g hg; have := (k9 g hF).1; omega⟩, fun g hg => ?_, k11⟩
      rcases (k9 g hg).2.2 with e | e
      · rw [e]; exact .inl Hh.out.base
      · rcases e.1 with e | e
        · exact .inl e.1
        · exact .inr e
end Go.Proofs.Ytokembhfebnjpaa
/- Package inbox: Take at whatever number. -/
namespace Go.Proofs.Ytokembhfebnjpaa
set_option maxRecDepth 20000
open Go.RowKit
set_option linter.unusedVariables false
/-- The awaited number is the first that did not come. -/
theorem InbAt.next_le {w : World} {b size : Nat} {f : Bodies} {n hd : Nat} {F : Nat → Prop} (h : InbAt w b size f n hd F) {k : Nat} (hk : 1 ≤ k) (hf : f k = none) : n ≤ k := by
  obtain ⟨⟨c, h⟩, _⟩ := h
  rcases Nat.lt_or_ge k n with h' | h'
  · exact absurd hf (h.low k hk h')
  · exact h'
/-- What Take answers. -/
def cd (f : Bodies) (n size : Nat) (seq : Int) : Int :=
  if seq < 1 ∨ 2147483647 ≤ seq then 5 else if hasI f seq then 7 else if (n + size : Int) ≤ seq then 8 else 0
/-- What came behind it. -/
def nf (f : Bodies) (n size : Nat) (seq : Int) (l : List Int) : Bodies := if cd f n size seq = 0 then put f seq.toNat l else f
theorem nf_same (f : Bodies) (n size : Nat) (seq : Int) (l : List Int) (h : cd f n size seq ≠ 0) : nf f n size seq l = f := by unfold nf; rw [if_neg h]
theorem nf_put (f : Bodies) (n size : Nat) (seq : Int) (l : List Int) (h : cd f n size seq = 0) : nf f n size seq l = put f seq.toNat l := by unfold nf; rw [if_pos h]
theorem cd_zero {f : Bodies} {n size : Nat} {seq : Int} (h : cd f n size seq = 0) : 1 ≤ seq ∧ seq < 2147483647 ∧ hasI f seq = false ∧ seq < n + size := by
  unfold cd at h
  split at h
  · omega
  · split at h
    · omega
    · split at h
      · omega
      · rename_i h1 h2 h3
        exact ⟨by omega, by omega, by simpa using h2, by omega⟩
theorem take_any {b size : Nat} {f : Bodies} {n hd : Nat} {F : Nat → Prop} {w : World} (h : InbAt w b size f n hd F) (seq : Int) (hs : -9223372036854775808 ≤ seq ∧ seq ≤ 9223372036854775807) (a : Option Addr) (len cap : Nat) (l : List Int) (hr : RdB w a l) (hll : l.length = len) (hlen : len ≤ 1000000000) :
    Calls Try.prog 82 #[.pointer (some ⟨b, 0, none⟩), .int .i64 seq, .slice a len cap] w fun e w' =>
      ∃ n' hd' F' v vs, e = .returned (.tuple #[v, .int .i64 (cd f n size seq)]) ∧ InbAt w' b size (nf f n size seq l) n' hd' F' ∧ n ≤ n' ∧ n' ≤ n + size ∧ vs.length = n' - n ∧ Own w' v (n' - n) 1 vs ∧
        Told w' (nf f n size seq l) n vs (fun g => (F g ∧ g ≠ b) ∨ w.heap.size ≤ g) F' ∧ (∀ g, v.ownBlock = some g → w.heap.size ≤ g ∧ ¬ F' g) ∧ (∀ g, F' g → F g ∨ w.heap.size ≤ g) ∧ Kp (· = b) w w' ∧ (cd f n size seq ≠ 0 → n' = n ∧ hd' = hd) := by
  subst hll
  have bad : ∀ w' (k : Int), cd f n size seq = k → k ≠ 0 → Kp (fun _ => False) w w' → (∃ n' hd' F' v vs, Ending.returned (.tuple #[.slice none 0 0, .int .i64 k]) = .returned (.tuple #[v, .int .i64 (cd f n size seq)]) ∧ InbAt w' b size (nf f n size seq l) n' hd' F' ∧ n ≤ n' ∧ n' ≤ n + size ∧ vs.length = n' - n ∧ Own w' v (n' - n) 1 vs ∧
        Told w' (nf f n size seq l) n vs (fun g => (F g ∧ g ≠ b) ∨ w.heap.size ≤ g) F' ∧ (∀ g, v.ownBlock = some g → w.heap.size ≤ g ∧ ¬ F' g) ∧ (∀ g, F' g → F g ∨ w.heap.size ≤ g) ∧ Kp (· = b) w w' ∧ (cd f n size seq ≠ 0 → n' = n ∧ hd' = hd)) := fun w' k hk h0 hkp => by
    refine ⟨n, hd, F, .slice none 0 0, [], by rw [hk], ?_, Nat.le_refl _, by omega, by simp, ?_, Told.nil _ _ _ _ _, fun g hg => by simp [Value.ownBlock] at hg, fun g hg => .inl hg, hkp.mono (fun _ _ h => h.elim), fun _ => ⟨rfl, rfl⟩⟩
    · rw [nf_same _ _ _ _ _ (by rw [hk]; exact h0)]
      exact h.kp hkp (fun _ _ h => h)
    · rw [Nat.sub_self]; exact Own.nil _ _
  by_cases h1 : seq < 1 ∨ 2147483647 ≤ seq
  · have hc : cd f n size seq = 5 := by unfold cd; rw [if_pos h1]
    refine (take_range h seq a l.length cap h1).mono ?_
    rintro e w' ⟨rfl, hk⟩
    exact bad w' 5 hc (by omega) hk
  · obtain ⟨q, rfl⟩ := Int.eq_ofNat_of_zero_le (show 0 ≤ seq by omega)
    have hq : hasI f q = (f q).isSome := by simp [hasI]
    by_cases h2 : (f q).isSome = true
    · have hc : cd f n size q = 7 := by unfold cd; rw [if_neg h1, hq, if_pos h2]
      refine (take_there h q a l.length cap (by omega) (by omega) h2).mono ?_
      rintro e w' ⟨rfl, hk⟩
      exact bad w' 7 hc (by omega) hk
    · by_cases h3 : n + size ≤ q
      · have hc : cd f n size q = 8 := by unfold cd; rw [if_neg h1, hq, if_neg h2, if_pos (by omega)]
        refine (take_full h q a l.length cap (by omega) (by omega) h3).mono ?_
        rintro e w' ⟨rfl, hk⟩
        exact bad w' 8 hc (by omega) hk
      · have hc : cd f n size q = 0 := by unfold cd; rw [if_neg h1, hq, if_neg h2, if_neg (by omega)]
        have hfq : f q = none := by simpa using h2
        have hnq : n ≤ q := h.next_le (by omega) hfq
        refine (take_ok h q a cap l hr hlen hnq (by omega) (by omega) hfq).mono ?_
        rintro e w' ⟨n', hd', F', v, vs, rfl, k1, k2, k3, k4, k5, k6, k7, k8, k9⟩
        rw [nf_put _ _ _ _ _ hc, hc]
        exact ⟨n', hd', F', v, vs, rfl, k4, k1, k2, k3, k5, k6, k7, k8, k9, fun h => absurd rfl h⟩

theorem rdl_of_told {w : World} {f : Bodies} {n : Nat} {a : Option Addr} {c : Nat} {vs : List Value} {G F : Nat → Prop} (ho : Own w (.slice a vs.length c) vs.length 1 vs) (h : Told w f n vs G F) (ls : List (List Int)) (hlen : ls.length = vs.length) (hf : ∀ i, i < ls.length → f (n + i) = some (ls.getD i [])) : RdL w a ls := fun i hi => by
  obtain ⟨b, off, ha, hc⟩ := ho.rd i (by omega)
  obtain ⟨l, h1, h2⟩ := h.own i (by omega)
  rw [hf i hi] at h1
  obtain rfl := Option.some.inj h1
  obtain ⟨ai, ci, e, hr, hle⟩ := h2.form
  exact ⟨b, off, ai, ci, ha, by rw [hc, e], hr, hle⟩

end Go.Proofs.Ytokembhfebnjpaa
