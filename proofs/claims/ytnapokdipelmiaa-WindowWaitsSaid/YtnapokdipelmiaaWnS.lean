/- Chapter 13: the calls of a window as steps: what each answers, and what the window is then. -/
import Derived.Test.YtnapokdipelmiaaWnG
import Derived.Test.YtnapokdipelmiaaWnO
namespace Go.Proofs.Ytnapokdipelmiaa
open Go.RowKit Flt
set_option linter.unusedVariables false
/-- A window of size sz, made since w0, to which at most i calls were made. -/
structure St (w0 : World) (g sz i : Nat) (x : Wn) (W : World) : Prop where
  win : WinC W g x
  ms : Ms x.m x.s
  size : x.size = sz
  last : x.last ≤ i
  ll : x.l.length ≤ x.last
  times : ∀ j, j < x.l.length → (pk x.l j).times ≤ i
  lo : ∀ k, Mine g x k → w0.heap.size ≤ k
  kp : Kp (fun _ => False) w0 W
theorem St.kp0 {w0 W W' : World} {g sz i : Nat} {x : Wn} (h : St w0 g sz i x W) (k : Kp (fun _ => False) W W') : St w0 g sz i x W' := { h with win := h.win.kp0 k, kp := h.kp.trans k }
theorem St.mono {w0 W : World} {g sz i j : Nat} {x : Wn} (h : St w0 g sz i x W) (hij : i ≤ j) : St w0 g sz j x W := { h with last := Nat.le_trans h.last hij, times := fun k hk => Nat.le_trans (h.times k hk) hij }
theorem St.len {w0 W : World} {g sz i : Nat} {x : Wn} (h : St w0 g sz i x W) : x.l.length ≤ sz ∧ sz ≤ 64 ∧ 1 ≤ sz ∧ x.l.length ≤ x.last := by
  have h1 := h.win.len
  have h2 := h.win.size_bd
  have h3 := h.size
  exact ⟨by omega, by omega, by omega, h.ll⟩
theorem new_st (w0 w : World) (k : Kp (fun _ => False) w0 w) (s : Nat) (hs : 1 ≤ s ∧ s ≤ 64) :
    Calls Try.prog 10 #[.int .i64 s] w fun e w' => ∃ g, e = .returned (.tuple #[.pointer (some ⟨g, 0, none⟩), .int .i64 0]) ∧ St w0 g s 0 (wnew s) w' :=
  (wnew_ok s w hs).mono fun e w' ⟨h1, h2, h3⟩ => ⟨_, h1, ⟨h2, Ms.start, rfl, Nat.le_refl _, Nat.le_refl _, fun j hj => absurd hj (Nat.not_lt_zero _), fun j hj => Nat.le_trans k.size (mine_new hj), k.trans h3⟩⟩
theorem St.step {w0 W W' : World} {g sz i j : Nat} {x x' : Wn} (h : St w0 g sz i x W) (hW : WinC W' g x') (hms : Ms x'.m x'.s) (hs : x'.size = x.size) (hl : x'.last ≤ j) (hll : x'.l.length ≤ x'.last) (ht : ∀ k, k < x'.l.length → (pk x'.l k).times ≤ j) (hM : ∀ k, Mine g x' k → Mine g x k ∨ W.heap.size ≤ k) (k : Kp (Mine g x) W W') : St w0 g sz j x' W' :=
  ⟨hW, hms, by rw [hs]; exact h.size, hl, hll, ht, fun j hj => by
    rcases hM j hj with e | e
    · exact h.lo j e
    · have := h.kp.size; omega, h.kp.then k (fun i hi e => by have := h.lo i e; omega)⟩
theorem push_st {w0 W : World} {g sz i : Nat} {x : Wn} (h : St w0 g sz i x W) (hi : i ≤ 1000000) (a : Option Addr) (n c : Nat) (body : List Int) (hn : n = body.length) (hr : RdB W a body) (hbl : n ≤ 1000000000) (hf : x.l.length < sz) :
    Calls Try.prog 11 #[.pointer (some ⟨g, 0, none⟩), .slice a n c] W fun e w' => e = .returned (.tuple #[.int .i64 (x.last + 1 : Nat), .int .i64 0]) ∧
      ∃ p V', p.seq = x.last + 1 ∧ p.body = body ∧ p.times = 0 ∧ St w0 g sz (i + 1) { x with last := x.last + 1, V := V', l := x.l ++ [p] } w' := by
  have hl := h.last
  refine (push_ok h.win (by rw [h.size]; exact hf) (by omega) a n c body hn hr hbl).mono ?_
  rintro e w' ⟨h1, p, V', h2, h3, h4, h5, h6, h7⟩
  refine ⟨h1, p, V', h2, h3, h4, h.step h5 h.ms rfl (by show x.last + 1 ≤ _; omega) (by show (x.l ++ [p]).length ≤ x.last + 1; have := h.ll; simp; omega) (fun k hk => ?_) h6 h7⟩
  simp only [List.length_append, List.length_singleton] at hk
  show (pk (x.l ++ [p]) k).times ≤ i + 1
  by_cases hk' : k < x.l.length
  · rw [pk_app_lt hk']; have := h.times k hk'; omega
  · obtain rfl : k = x.l.length := by omega
    rw [pk_app_at]; omega
theorem pushfull_st {w0 W : World} {g sz i : Nat} {x : Wn} (h : St w0 g sz i x W) (a : Option Addr) (n c : Nat) (hf : ¬ x.l.length < sz) :
    Calls Try.prog 11 #[.pointer (some ⟨g, 0, none⟩), .slice a n c] W fun e w' => e = .returned (.tuple #[.int .i64 0, .int .i64 8]) ∧ St w0 g sz i x w' :=
  (push_full h.win (by rw [h.size]; omega) a n c).mono fun e w' ⟨h1, k, h2⟩ => ⟨h1, h.kp0 (by rw [h2]; exact (Kp.refl _ W).drewN k)⟩
/-- May that be acknowledged, at that time? -/
def ackB (x : Wn) (n now : Int) : Bool := decide (0 ≤ n) && decide (n ≤ x.last) && timeB now
theorem ackbad_st {w0 W : World} {g sz i : Nat} {x : Wn} (h : St w0 g sz i x W) (n now : Int) (hb : ackB x n now = false) :
    Calls Try.prog 12 #[.pointer (some ⟨g, 0, none⟩), .int .i64 n, .int .i64 now] W fun e w' => e = .returned (.tuple #[.int .i64 0, .int .i64 5]) ∧ St w0 g sz i x w' := by
  have : Calls Try.prog 12 #[.pointer (some ⟨g, 0, none⟩), .int .i64 n, .int .i64 now] W fun e w' => e = .returned (.tuple #[.int .i64 0, .int .i64 5]) ∧ W = w' := by
    by_cases h1 : n < 0
    · exact ack_neg h.win n now h1
    · by_cases h2 : (x.last : Int) < n
      · exact ack_far h.win n now h1 h2
      · refine ack_late h.win n now h1 h2 ?_
        unfold ackB at hb
        rw [decide_eq_true (by omega), decide_eq_true (by omega)] at hb
        simpa using hb
  exact this.mono fun e w' ⟨h1, h2⟩ => ⟨h1, h2 ▸ h⟩
theorem ack_st {w0 W : World} {g sz i : Nat} {x : Wn} (h : St w0 g sz i x W) (hi : i ≤ 1000000) (n now : Int) (hb : ackB x n now = true) :
    Calls Try.prog 12 #[.pointer (some ⟨g, 0, none⟩), .int .i64 n, .int .i64 now] W fun e w' => e = .returned (.tuple #[.int .i64 (goneN x n.toNat : Nat), .int .i64 0]) ∧
      ∃ V', St w0 g sz i (ackL x (goneN x n.toNat) (max x.now now.toNat) V') w' := by
  unfold ackB at hb
  simp only [Bool.and_eq_true, decide_eq_true_eq] at hb
  obtain ⟨⟨h1, h2⟩, h3⟩ := hb
  have h4 := timeB_yes h3
  obtain ⟨n', rfl⟩ := Int.eq_ofNat_of_zero_le h1
  obtain ⟨t, rfl⟩ := Int.eq_ofNat_of_zero_le h4.1
  have hl := h.last
  refine (ack_ok h.win h.ms n' t (by omega) (by omega) (by omega)).mono ?_
  rintro e w' ⟨h5, V', h6, h7, h8⟩
  have hg : goneN x n' ≤ x.l.length := by unfold goneN; omega
  refine ⟨h5, V', h.step h6 (Flt.Ms.ack h.ms (by have := h.win.now_bd; omega) _) rfl hl (by show (x.l.drop _).length ≤ x.last; have := h.ll; rw [List.length_drop]; omega) (fun k hk => ?_) (fun j hj => .inl (Mine.pop (x := x) h7 hj)) (h8.mono (fun i _ e => .inl e))⟩
  show (pk (x.l.drop (goneN x n')) k).times ≤ i
  rw [pk_drop]
  have hk' : k < (x.l.drop (goneN x n')).length := hk
  rw [List.length_drop] at hk'
  exact h.times _ (by omega)
theorem duelate_st {w0 W : World} {g sz i : Nat} {x : Wn} (h : St w0 g sz i x W) (now : Int) (hb : timeB now = false) :
    Calls Try.prog 13 #[.pointer (some ⟨g, 0, none⟩), .int .i64 now] W fun e w' => e = .returned (.slice none 0 0) ∧ St w0 g sz i x w' :=
  (due_late h.win now hb).mono fun e w' ⟨h1, h2⟩ => ⟨h1, h2 ▸ h⟩
theorem dueW_times {x : Wn} {i now : Nat} (h : ∀ j, j < x.l.length → (pk x.l j).times ≤ i) : ∀ j, j < (dueW (atW x now)).l.length → (pk (dueW (atW x now)).l j).times ≤ i + 1 := fun j hj => by
  have hj' : j < x.l.length := by have : (stL (atW x now) (dueI (atW x now))).length = _ := stL_len _ _; show j < (atW x now).l.length; rw [← this]; exact hj
  show (pk (stL (atW x now) (dueI (atW x now))) j).times ≤ i + 1
  rw [stL_at (x := atW x now) hj']
  have := h j hj'
  split
  · show (pk x.l j).times + 1 ≤ _; omega
  · show (pk x.l j).times ≤ _; omega
theorem due_st {w0 W : World} {g sz i : Nat} {x : Wn} (h : St w0 g sz i x W) (hi : i ≤ 1000000) (now : Int) (hb : timeB now = true) :
    Calls Try.prog 13 #[.pointer (some ⟨g, 0, none⟩), .int .i64 now] W fun e w' => ∃ v l, e = .returned v ∧ OwnT W.heap.size w' v l ∧ TelL (atW x now.toNat) (dueI (atW x now.toNat)) l ∧ St w0 g sz (i + 1) (dueW (atW x now.toNat)) w' := by
  have h4 := timeB_yes hb
  obtain ⟨t, rfl⟩ := Int.eq_ofNat_of_zero_le h4.1
  refine (due_ok h.win t (by omega) (fun j hj => by have := h.times j hj; omega)).mono ?_
  rintro e w' ⟨v, l, h1, h2, h3, h5, h6⟩
  exact ⟨v, l, h1, h2, h3, h.step h5 h.ms rfl (by show x.last ≤ _; have := h.last; omega) (by show (stL _ _).length ≤ x.last; rw [stL_len]; exact h.ll) (dueW_times h.times) (fun j hj => .inl ((st_mine g (atW x t) _ j).1 hj)) h6⟩
theorem open_st {w0 W : World} {g sz i : Nat} {x : Wn} (h : St w0 g sz i x W) : Calls Try.prog 15 #[.pointer (some ⟨g, 0, none⟩)] W fun e w' => e = .returned (.int .i64 x.l.length) ∧ W = w' := wopen_any h.win
theorem last_st {w0 W : World} {g sz i : Nat} {x : Wn} (h : St w0 g sz i x W) : Calls Try.prog 17 #[.pointer (some ⟨g, 0, none⟩)] W fun e w' => e = .returned (.int .i64 x.last) ∧ W = w' := wlast_any h.win
/-- The calls that came in, read in memory of later on. -/
theorem St.acts {w0 W : World} {g sz i : Nat} {x : Wn} (h : St w0 g sz i x W) {a : Option Addr} {l : List Ac} (hr : RdA w0 a l) : RdA W a l := hr.kp0 h.kp
theorem dueW_len (x : Wn) (now : Nat) : (dueW (atW x now)).l.length = x.l.length := stL_len (atW x now) _
end Go.Proofs.Ytnapokdipelmiaa
