/- Chapter 13: a window, and two rows of numbers beside it: when each packet was sent, and how long it waited. -/
import Derived.Test.YtnapokdipelmiaaWnS
namespace Go.Proofs.Ytnapokdipelmiaa
open Go.RowKit Flt
set_option linter.unusedVariables false
def AtI (w : World) (b M : Nat) (f : Nat → Int) : Prop := AtF w b M (fun k => .int .i64 (f k))
def updI (f : Nat → Int) (i : Nat) (v : Int) : Nat → Int := fun k => if k = i then v else f k
theorem updI_same (f : Nat → Int) (i : Nat) (v : Int) : updI f i v i = v := by simp [updI]
theorem updI_ne (f : Nat → Int) {i k : Nat} (v : Int) (h : k ≠ i) : updI f i v k = f k := by simp [updI, h]
variable {w0 w w' W W' : World} {b g sz i j s t M : Nat} {x x' : Wn} {f hh : Nat → Int}
theorem AtI.cell (h : AtI w b M f) {k : Nat} (hk : k < M) : w.cell? ⟨b, k, none⟩ = some (.int .i64 (f k)) := AtF.cell h hk
theorem AtI.set (h : AtI w b M f) (k : Nat) (v : Int) : AtI (w.setCell ⟨b, k, none⟩ (.int .i64 v)) b M (updI f k v) := by
  have h2 := AtF.set h k (.int .i64 v)
  have e : (fun j => Value.int .i64 (updI f k v j)) = upd (fun j => .int .i64 (f j)) k (.int .i64 v) := by
    funext j; unfold updI upd; split <;> rfl
  unfold AtI; rw [e]; exact h2
theorem AtI.zero {w : World} {b M : Nat} (h : At w b (List.replicate M (.int .i64 0))) : AtI w b M (fun _ => 0) := by
  show At w b ((List.range M).map fun _ => .int .i64 0)
  have e : ((List.range M).map fun _ => Value.int .i64 0) = List.replicate M (.int .i64 0) := by
    apply List.ext_getElem?
    intro k
    by_cases hk : k < M
    · simp [hk]
    · rw [List.getElem?_eq_none (by simp; omega), List.getElem?_eq_none (by simp; omega)]
  rw [e]; exact h
structure Wt (w0 : World) (g sz i s t M : Nat) (x : Wn) (f hh : Nat → Int) (W : World) : Prop where
  st : St w0 g sz i x W
  hs : AtI W s M f
  ht : AtI W t M hh
  ap : ∀ k, Mine g x k → k ≠ s ∧ k ≠ t
  ne : s ≠ t
  lo : w0.heap.size ≤ s ∧ w0.heap.size ≤ t
theorem Wt.kp0 (h : Wt w0 g sz i s t M x f hh W) (k : Kp (fun _ => False) W W') : Wt w0 g sz i s t M x f hh W' := { h with st := h.st.kp0 k, hs := k.atF h.hs (fun h => h), ht := k.atF h.ht (fun h => h) }
theorem St.other (h : St w0 g sz i x W) {u : Nat} (hu : ∀ k, Mine g x k → k ≠ u) (hl : w0.heap.size ≤ u) (k : Kp (· = u) W W') : St w0 g sz i x W' :=
  { h with win := h.win.kp k (fun j hj e => hu j hj e), kp := h.kp.then k (fun i hi e => by have e : i = u := e; omega) }
theorem Wt.setS (h : Wt w0 g sz i s t M x f hh W) (q : Nat) (v : Int) : Wt w0 g sz i s t M x (updI f q v) hh (W.setCell ⟨s, q, none⟩ (.int .i64 v)) :=
  { h with
    st := h.st.other (fun k hk => (h.ap k hk).1) h.lo.1 (show Kp (fun k => k = s) W _ from (Kp.refl (fun k => k = s) W).setCell (p := ⟨s, q, none⟩) (fun _ => rfl) _)
    hs := h.hs.set q v
    ht := AtF.setOther h.ht (a := ⟨s, q, none⟩) h.ne _ }
theorem Wt.setT (h : Wt w0 g sz i s t M x f hh W) (q : Nat) (v : Int) : Wt w0 g sz i s t M x f (updI hh q v) (W.setCell ⟨t, q, none⟩ (.int .i64 v)) :=
  { h with
    st := h.st.other (fun k hk => (h.ap k hk).2) h.lo.2 (show Kp (fun k => k = t) W _ from (Kp.refl (fun k => k = t) W).setCell (p := ⟨t, q, none⟩) (fun _ => rfl) _)
    hs := AtF.setOther h.hs (a := ⟨t, q, none⟩) (fun e => h.ne e.symm) _
    ht := h.ht.set q v }
theorem Wt.step (h : Wt w0 g sz i s t M x f hh W) (hst : St w0 g sz j x' W') (hM : ∀ k, Mine g x' k → Mine g x k ∨ W.heap.size ≤ k) (k : Kp (Mine g x) W W') : Wt w0 g sz j s t M x' f hh W' :=
  ⟨hst, k.atF h.hs (fun e => (h.ap s e).1 rfl), k.atF h.ht (fun e => (h.ap t e).2 rfl), fun k hk => by
    rcases hM k hk with e | e
    · exact h.ap k e
    · have h1 := AtF.lt h.hs
      have h2 := AtF.lt h.ht
      omega, h.ne, h.lo⟩
theorem push_wt (h : Wt w0 g sz i s t M x f hh W) (hi : i ≤ 1000000) (a : Option Addr) (n c : Nat) (body : List Int) (hn : n = body.length) (hr : RdB W a body) (hbl : n ≤ 1000000000) (hf : x.l.length < sz) :
    Calls Try.prog 11 #[.pointer (some ⟨g, 0, none⟩), .slice a n c] W fun e w' => e = .returned (.tuple #[.int .i64 (x.last + 1 : Nat), .int .i64 0]) ∧
      ∃ p V', p.seq = x.last + 1 ∧ p.body = body ∧ p.times = 0 ∧ Wt w0 g sz (i + 1) s t M { x with last := x.last + 1, V := V', l := x.l ++ [p] } f hh w' := by
  have hl := h.st.last
  refine (push_ok h.st.win (by rw [h.st.size]; exact hf) (by omega) a n c body hn hr hbl).mono ?_
  rintro e w' ⟨h1, p, V', h2, h3, h4, h5, h6, h7⟩
  refine ⟨h1, p, V', h2, h3, h4, h.step (h.st.step h5 h.st.ms rfl (by show x.last + 1 ≤ _; omega) (by show (x.l ++ [p]).length ≤ x.last + 1; have := h.st.ll; simp; omega) (fun k hk => ?_) h6 h7) h6 h7⟩
  simp only [List.length_append, List.length_singleton] at hk
  show (pk (x.l ++ [p]) k).times ≤ i + 1
  by_cases hk' : k < x.l.length
  · rw [pk_app_lt hk']; have := h.st.times k hk'; omega
  · obtain rfl : k = x.l.length := by omega
    rw [pk_app_at]; omega
theorem ack_wt (h : Wt w0 g sz i s t M x f hh W) (hi : i ≤ 1000000) (n now : Nat) (h2 : n ≤ x.last) (h3 : now ≤ 2147483647) :
    Calls Try.prog 12 #[.pointer (some ⟨g, 0, none⟩), .int .i64 n, .int .i64 now] W fun e w' => e = .returned (.tuple #[.int .i64 (goneN x n : Nat), .int .i64 0]) ∧
      ∃ V', Wt w0 g sz i s t M (ackL x (goneN x n) (max x.now now) V') f hh w' := by
  have hl := h.st.last
  refine (ack_ok h.st.win h.st.ms n now h2 (by omega) h3).mono ?_
  rintro e w' ⟨h5, V', h6, h7, h8⟩
  have hg : goneN x n ≤ x.l.length := by unfold goneN; omega
  have hk2 : Kp (Mine g x) W w' := h8.mono (fun i _ e => .inl e)
  have hM : ∀ k, Mine g (ackL x (goneN x n) (max x.now now) V') k → Mine g x k ∨ W.heap.size ≤ k := fun j hj => .inl (Mine.pop (x := x) h7 hj)
  refine ⟨h5, V', h.step (h.st.step h6 (Flt.Ms.ack h.st.ms (by have := h.st.win.now_bd; omega) _) rfl hl (by show (x.l.drop _).length ≤ x.last; have := h.st.ll; rw [List.length_drop]; omega) (fun k hk => ?_) hM hk2) hM hk2⟩
  show (pk (x.l.drop (goneN x n)) k).times ≤ i
  rw [pk_drop]
  have hk' : k < (x.l.drop (goneN x n)).length := hk
  rw [List.length_drop] at hk'
  exact h.st.times _ (by omega)
theorem due_wt (h : Wt w0 g sz i s t M x f hh W) (hi : i ≤ 1000000) (now : Nat) (h3 : now ≤ 2147483647) :
    Calls Try.prog 13 #[.pointer (some ⟨g, 0, none⟩), .int .i64 now] W fun e w' => ∃ v l, e = .returned v ∧ OwnT W.heap.size w' v l ∧ TelL (atW x now) (dueI (atW x now)) l ∧ Wt w0 g sz (i + 1) s t M (dueW (atW x now)) f hh w' := by
  refine (due_ok h.st.win now (by omega) (fun j hj => by have := h.st.times j hj; omega)).mono ?_
  rintro e w' ⟨v, l, h1, h2, h3, h5, h6⟩
  have hM : ∀ k, Mine g (dueW (atW x now)) k → Mine g x k ∨ W.heap.size ≤ k := fun j hj => .inl ((st_mine g (atW x now) _ j).1 hj)
  exact ⟨v, l, h1, h2, h3, h.step (h.st.step h5 h.st.ms rfl (by show x.last ≤ _; have := h.st.last; omega) (by show (stL _ _).length ≤ x.last; rw [stL_len]; exact h.st.ll) (dueW_times h.st.times) hM h6) hM h6⟩
/-- What is so at the head of a tick: those up to a are acknowledged; the others were sent, each in its time. -/
structure Wv (x : Wn) (f hh : Nat → Int) (a many now : Nat) : Prop where
  len : x.l.length + a = many
  last : x.last = many
  nw : x.now ≤ now
  body : ∀ j, j < x.l.length → (pk x.l j).body = [((a + 1 + j : Nat) : Int)]
  sent : ∀ j, j < x.l.length → (now = 0 ∧ (pk x.l j).times = 0 ∧ f (a + 1 + j) = -1 ∧ hh (a + 1 + j) = 0) ∨
    (1 ≤ (pk x.l j).times ∧ f (a + 1 + j) = ((pk x.l j).att : Nat) ∧ now ≤ (pk x.l j).att + (pk x.l j).wt ∧ (pk x.l j).att ≤ now ∧ (a = 0 → hh (a + 1 + j) ≤ ((pk x.l j).wt : Nat) ∧ (pk x.l j).wt = wk (waitN x.m x.s) (pk x.l j).times))
theorem Wv.ack {a many now u : Nat} {V' : Value} (h : Wv x f hh 0 many now) (hu : u ≤ many) : Wv (ackL x u (max x.now now) V') f hh u many now := by
  have hl := h.len
  have hn := h.nw
  refine ⟨?_, h.last, ?_, fun j hj => ?_, fun j hj => ?_⟩
  · show (x.l.drop u).length + u = many
    rw [List.length_drop]; omega
  · show max x.now now ≤ now; omega
  · have hj' : j < (x.l.drop u).length := hj
    rw [List.length_drop] at hj'
    show (pk (x.l.drop u) j).body = _
    rw [pk_drop, h.body (u + j) (by omega), show 0 + 1 + (u + j) = u + 1 + j by omega]
  · have hj' : j < (x.l.drop u).length := hj
    rw [List.length_drop] at hj'
    have h2 := h.sent (u + j) (by omega)
    rw [show 0 + 1 + (u + j) = u + 1 + j by omega] at h2
    have e : pk (ackL x u (max x.now now) V').l j = pk x.l (u + j) := pk_drop _ _ _
    rw [e]
    rcases h2 with h2 | ⟨h2, h3, h4, h5, h6⟩
    · exact .inl h2
    · refine .inr ⟨h2, h3, h4, h5, fun hu0 => ?_⟩
      subst hu0
      exact h6 rfl
theorem Wv.seq (h : Wv x f hh i j b) (hw : WinC W g x) {k : Nat} (hk : k < x.l.length) : (pk x.l k).seq = i + 1 + k := by
  have h1 := hw.seqs k hk
  have h2 := h.len
  have h3 := h.last
  omega
theorem dueI_lt {x : Wn} {q : Nat} {k : Nat} (h : (dueI x)[q]? = some k) : k < x.l.length ∧ dueB (pk x.l k) x.now = true := by
  have := List.mem_of_getElem? h
  unfold dueI at this
  rw [List.mem_filter, List.mem_range] at this
  exact this
theorem dueI_len (x : Wn) : (dueI x).length ≤ x.l.length := by
  have := List.length_filter_le (fun i => dueB (pk x.l i) x.now) (List.range x.l.length)
  rw [List.length_range] at this
  exact this
theorem dueI_up {x : Wn} {p q k m : Nat} (hp : (dueI x)[p]? = some k) (hq : (dueI x)[q]? = some m) (h : p < q) : k < m := by
  have hw : (dueI x).Pairwise (· < ·) := List.Pairwise.filter _ List.pairwise_lt_range
  obtain ⟨h1, rfl⟩ := List.getElem?_eq_some_iff.1 hp
  obtain ⟨h2, rfl⟩ := List.getElem?_eq_some_iff.1 hq
  exact List.pairwise_iff_getElem.1 hw p q h1 h2 h
/-- q of those that are due were looked at. -/
def Iv (x : Wn) (is : List Nat) (f hh : Nat → Int) (a now q : Nat) (f' hh' : Nat → Int) : Prop :=
  ∀ j, j < x.l.length → (j ∈ is.take q → f' (a + 1 + j) = (now : Nat) ∧ (a = 0 → (1 ≤ (pk x.l j).times → hh' (a + 1 + j) ≤ ((pk x.l j).wt : Nat)) ∧ ((pk x.l j).times = 0 → hh' (a + 1 + j) = 0))) ∧
    (j ∉ is.take q → f' (a + 1 + j) = f (a + 1 + j) ∧ hh' (a + 1 + j) = hh (a + 1 + j))
theorem Iv.start (x : Wn) (is : List Nat) (f hh : Nat → Int) (a now : Nat) : Iv x is f hh a now 0 f hh := fun j hj => ⟨fun h => by simp at h, fun _ => ⟨rfl, rfl⟩⟩
theorem Iv.not {is : List Nat} {k : Nat} {q : Nat} (hs : ∀ p m, p < q → is[p]? = some m → m < k) : k ∉ is.take q := fun h => by
  obtain ⟨p, hp⟩ := List.getElem?_of_mem h
  rw [List.getElem?_take] at hp
  split at hp
  · rename_i h2
    have := hs p k h2 hp
    omega
  · cases hp
theorem Iv.next {is : List Nat} {a now q k : Nat} {f' hh' f2 h2 : Nat → Int} (h : Iv x is f hh a now q f' hh') (hk : is[q]? = some k) (e1 : f2 (a + 1 + k) = (now : Nat)) (e2 : a = 0 → (1 ≤ (pk x.l k).times → h2 (a + 1 + k) ≤ ((pk x.l k).wt : Nat)) ∧ ((pk x.l k).times = 0 → h2 (a + 1 + k) = 0))
    (e3 : ∀ m, m ≠ a + 1 + k → f2 m = f' m ∧ h2 m = hh' m) : Iv x is f hh a now (q + 1) f2 h2 := fun j hj => by
  obtain ⟨hq, hk'⟩ := List.getElem?_eq_some_iff.1 hk
  have ht : is.take (q + 1) = is.take q ++ [k] := by rw [List.take_add_one, hk]; rfl
  rw [ht]
  by_cases hjk : j = k
  · subst hjk
    exact ⟨fun _ => ⟨e1, e2⟩, fun h => absurd (by simp) h⟩
  · have h3 := e3 (a + 1 + j) (by omega)
    rw [h3.1, h3.2]
    have h4 := h j hj
    constructor
    · intro hm
      rw [List.mem_append, List.mem_singleton] at hm
      exact h4.1 (hm.resolve_right hjk)
    · intro hm
      exact h4.2 (fun h => hm (by simp [h]))
/-- Behind the tick. -/
theorem Wv.next {a many now : Nat} {f' hh' : Nat → Int} (h : Wv x f hh a many now) (hw : WinC W g x) (hi : Iv x (dueI (atW x now)) f hh a now (dueI (atW x now)).length f' hh') :
    Wv (dueW (atW x now)) f' hh' a many (now + 1) ∧ ∀ k, a + 1 ≤ k → k ≤ many → 0 ≤ f' k ∧ f' k ≤ (now : Nat) ∧ (now : Int) - f' k < 60 := by
  have hn := h.nw
  have hmx : (atW x now).now = now := by show max x.now now = now; omega
  have hlen : (dueW (atW x now)).l.length = x.l.length := dueW_len x now
  unfold Iv at hi
  rw [List.take_length] at hi
  have hin : ∀ j, j < x.l.length → (j ∈ dueI (atW x now) ↔ dueB (pk x.l j) now = true) := fun j hj => by
    unfold dueI
    rw [List.mem_filter, List.mem_range]
    show j < x.l.length ∧ dueB (pk x.l j) (max x.now now) = true ↔ _
    rw [show max x.now now = now by omega]
    exact ⟨fun h => h.2, fun h => ⟨hj, h⟩⟩
  have hdb : ∀ j, j < x.l.length → (dueB (pk x.l j) now = true ↔ (pk x.l j).times = 0 ∨ (pk x.l j).att + (pk x.l j).wt ≤ now) := fun j hj => by
    unfold dueB dueA
    rw [decide_eq_true_eq]
    by_cases h0 : (pk x.l j).times = 0
    · rw [if_pos h0]; exact ⟨fun _ => .inl h0, fun _ => Nat.le_refl _⟩
    · rw [if_neg h0]; exact ⟨.inr, fun h => h.resolve_left h0⟩
  have hat : ∀ j, j < x.l.length → pk (dueW (atW x now)).l j = if j ∈ dueI (atW x now) then sentP (atW x now) (pk x.l j) else pk x.l j := fun j hj => stL_at (x := atW x now) hj
  constructor
  · refine ⟨by rw [hlen]; exact h.len, h.last, by show max x.now now ≤ now + 1; omega, fun j hj => ?_, fun j hj => ?_⟩
    · rw [hlen] at hj
      rw [hat j hj]
      have := h.body j hj
      split <;> exact this
    · rw [hlen] at hj
      rw [hat j hj]
      have h1 := hi j hj
      have h2 := h.sent j hj
      by_cases hd : j ∈ dueI (atW x now)
      · rw [if_pos hd]
        obtain ⟨e1, e2⟩ := h1.1 hd
        refine .inr ⟨by show 1 ≤ (pk x.l j).times + 1; omega, by show _ = (((atW x now).now : Nat) : Int); rw [hmx]; exact e1, ?_, by show (atW x now).now ≤ now + 1; omega, fun ha => ?_⟩
        · show now + 1 ≤ (atW x now).now + wk (waitN x.m x.s) ((pk x.l j).times + 1)
          have := wk_bd (n := waitN x.m x.s) (t := (pk x.l j).times + 1) (waitN_bd x.m x.s).1
          omega
        · refine ⟨?_, rfl⟩
          show hh' (a + 1 + j) ≤ ((wk (waitN x.m x.s) ((pk x.l j).times + 1) : Nat) : Int)
          obtain ⟨e3, e4⟩ := e2 ha
          by_cases h0 : (pk x.l j).times = 0
          · rw [e4 h0]; omega
          · have e5 := e3 (by omega)
            rcases h2 with h2 | ⟨_, _, _, _, h6⟩
            · exact absurd h2.2.1 h0
            · have e6 := (h6 ha).2
              have := wk_mono (n := waitN x.m x.s) (t := (pk x.l j).times) (t' := (pk x.l j).times + 1) (by omega)
              omega
      · rw [if_neg hd]
        obtain ⟨e1, e2⟩ := h1.2 hd
        have hnd : ¬ ((pk x.l j).times = 0 ∨ (pk x.l j).att + (pk x.l j).wt ≤ now) := fun e => hd ((hin j hj).2 ((hdb j hj).2 e))
        rcases h2 with h2 | ⟨h2, h3, h4, h5, h6⟩
        · exact absurd (.inl h2.2.1) hnd
        · refine .inr ⟨h2, by rw [e1]; exact h3, by omega, by omega, fun ha => ?_⟩
          rw [e2]
          exact h6 ha
  · intro k hk1 hk2
    have hl := h.len
    obtain ⟨j, rfl⟩ : ∃ j, k = a + 1 + j := ⟨k - (a + 1), by omega⟩
    have hj : j < x.l.length := by omega
    have h1 := hi j hj
    have h2 := h.sent j hj
    have h7 := hw.bd j hj
    by_cases hd : j ∈ dueI (atW x now)
    · rw [(h1.1 hd).1]; omega
    · rw [(h1.2 hd).1]
      have hnd : ¬ ((pk x.l j).times = 0 ∨ (pk x.l j).att + (pk x.l j).wt ≤ now) := fun e => hd ((hin j hj).2 ((hdb j hj).2 e))
      rcases h2 with h2 | ⟨h2, h3, h4, h5, h6⟩
      · exact absurd (.inl h2.2.1) hnd
      · rw [h3]; omega
theorem one_rd (w : World) (T : TypeId) (n : Nat) (hn : n ≤ 255) : RdB (w.alloc (.cells #[.int .u8 (n : Nat)] T)) (some ⟨w.heap.size, 0, none⟩) [(n : Int)] :=
  RdB.of_at (pre := []) (l := [(n : Int)]) (post := []) (At.new w [.int .u8 (n : Nat)] T) (fun y hy => by obtain rfl := List.mem_singleton.1 hy; omega) (by simp)
end Go.Proofs.Ytnapokdipelmiaa
