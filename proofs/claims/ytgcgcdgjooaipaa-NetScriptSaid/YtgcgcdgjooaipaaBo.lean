/- NetScript: a call of both nets: they answer alike, and have the same behind it. (Written by wip/netboth.py.) -/
import Derived.Test.YtgcgcdgjooaipaaScr
import Derived.Test.YtgcgcdgjooaipaaOver
namespace Go.Proofs.Ytgcgcdgjooaipaa
open Go.RowKit Go.Maps
set_option linter.unusedVariables false
set_option linter.unusedSimpArgs false
/-- Both nets have the same, after at most c calls; none of their blocks is one of av. -/
def Bo (w0 w : World) (nb mb db c : Nat) (av : Nat → Prop) : Prop := ∃ L O nds ds lost N f os, Sc w0 w nb mb db L O nds ds lost lost N f os ∧ nds.map dkey = ds.map dkey ∧ offR f os ∧ N ≤ c ∧ os.length ≤ c ∧ 0 ≤ lost ∧ lost ≤ c ∧ ∀ b, Both nb mb db L O nds ds b → ¬ av b
section
variable {w0 w w' : World} {nb mb db c : Nat} {av : Nat → Prop}
theorem Bo.kp {S : Nat → Prop} (h : Bo w0 w nb mb db c av) (k : Kp S w w') (hS : ∀ j, S j → av j) (hS0 : ∀ j, S j → w0.heap.size ≤ j) : Bo w0 w' nb mb db c av := by
  obtain ⟨L, O, nds, ds, lost, N, f, os, h1, h2⟩ := h
  exact ⟨L, O, nds, ds, lost, N, f, os, h1.kp k (fun b hb e => h2.2.2.2.2.2.2 b hb (hS b e)) hS0, h2⟩
theorem Bo.kp0 (h : Bo w0 w nb mb db c av) (k : Kp (fun _ => False) w w') : Bo w0 w' nb mb db c av := h.kp k (fun _ h => h.elim) (fun _ h => h.elim)
theorem Bo.free (h : Bo w0 w nb mb db c av) : Bo w0 w nb mb db c (fun _ => False) := by
  obtain ⟨L, O, nds, ds, lost, N, f, os, h1, h2, h3, h4, h5, h6, h7, _⟩ := h
  exact ⟨L, O, nds, ds, lost, N, f, os, h1, h2, h3, h4, h5, h6, h7, fun _ _ h => h⟩
theorem Bo.avoid (h : Bo w0 w nb mb db c (fun _ => False)) (k : Kp (fun _ => False) w w') (hav : ∀ j, av j → w.heap.size ≤ j) : Bo w0 w' nb mb db c av := by
  obtain ⟨L, O, nds, ds, lost, N, f, os, h1, h2, h3, h4, h5, h6, h7, _⟩ := h
  exact ⟨L, O, nds, ds, lost, N, f, os, h1.kp0 k, h2, h3, h4, h5, h6, h7, fun b hb e => by have := h1.lt hb; have := hav b e; omega⟩
theorem Bo.k (h : Bo w0 w nb mb db c av) : Kp (fun _ => False) w0 w := by obtain ⟨L, O, nds, ds, lost, N, f, os, h1, _⟩ := h; exact h1.st.k
/-- One call of the net, and one of the document's. -/
def Two (fN fD : FuncId) (aN aD : Array Value) (w0 w : World) (nb mb db c : Nat) (av : Nat → Prop) : Prop :=
  Calls Try.prog fN aN w fun e w5 => ∃ r : Int, e = .returned (.int .i64 r) ∧ Kp (fun j => ¬ av j) w w5 ∧ ∀ w6, Kp (fun _ => False) w5 w6 → Calls Try.prog fD aD w6 fun e w7 => e = .returned (.int .i64 r) ∧ Bo w0 w7 nb mb db (c + 1) av ∧ Kp (fun j => ¬ av j) w6 w7
theorem both_new {nds nds' ds ds' : List Nd} {L L' O O' : Value} {w5 : World} (h : ∀ b, Both nb mb db L O nds ds b → ¬ av b) (hm : ∀ b, Mine nb nds' b → Mine nb nds b ∨ w.heap.size ≤ b) (hav : ∀ j, av j → j < w.heap.size) : ∀ b, Both nb mb db L O nds' ds b → ¬ av b := fun b hb e => by
  rcases hb with (hb | hb) | hb
  · rcases hm b hb with h1 | h1
    · exact h b (.inl (.inl h1)) e
    · have := hav b e; omega
  · exact h b (.inl (.inr hb)) e
  · exact h b (.inr hb) e
theorem doc_new {nds ds ds' : List Nd} {L L' O O' : Value} (h : ∀ b, Both nb mb db L O nds ds b → ¬ av b) (hm : ∀ b, DMine db L' O' ds' b → DMine db L O ds b ∨ w.heap.size ≤ b) (hav : ∀ j, av j → j < w.heap.size) : ∀ b, Both nb mb db L' O' nds ds' b → ¬ av b := fun b hb e => by
  rcases hb with hb | hb
  · exact h b (.inl hb) e
  · rcases hm b hb with h1 | h1
    · exact h b (.inr h1) e
    · have := hav b e; omega
theorem lens_of {nds ds : List Nd} (h : nds.map dkey = ds.map dkey) (hl : ∀ i, i < nds.length → (nd nds i).l.length ≤ 1500) : ∀ k, k < ds.length → (nd ds k).l.length ≤ 1000000 := fun k hk => by
  obtain ⟨h1, h2⟩ := key_at h
  have := hl k (by omega)
  rw [(h2 k).2.2]; omega
theorem Both.kpav {nds ds : List Nd} {L O : Value} (k : Kp (Both nb mb db L O nds ds) w w') (h : ∀ b, Both nb mb db L O nds ds b → ¬ av b) : Kp (fun j => ¬ av j) w w' := k.mono (fun b _ hb => h b hb)
theorem sendS_lost {f : Value → Bool} {K K' : List Ky} {lost lost' fr to r : Int} {l : List Int} (h : (r, K', lost') = sendS f K lost fr to l) : lost ≤ lost' ∧ lost' ≤ lost + 1 := by
  unfold sendS at h
  split at h
  · split at h
    · simp only [Prod.mk.injEq] at h; omega
    · split at h
      · simp only [Prod.mk.injEq] at h; omega
      · split at h <;> simp only [Prod.mk.injEq] at h <;> omega
  · simp only [Prod.mk.injEq] at h; omega
theorem two_drop (h : Bo w0 w nb mb db c av) (hc : c ≤ 100) (hav : ∀ j, av j → j < w.heap.size) (i : Int) :
    Two 23 41 #[.pointer (some ⟨nb, 0, none⟩), .int .i64 i] #[.pointer (some ⟨db, 0, none⟩), .int .i64 i] w0 w nb mb db c av := by
  obtain ⟨L, O, nds, ds, lost, N, f, os, h1, hkey, hoff, hN, hos, hl0, hl1, hnav⟩ := h
  obtain ⟨hlen, _⟩ := key_at hkey
  have hn2 := h1.st.n.len
  have hlens := h1.st.n.lens
  refine (net_drop h1 (by omega) i).mono ?_
  rintro e w5 ⟨nds5, rfl, s5, e5, k5, m5⟩
  refine ⟨_, rfl, k5.mono (fun b _ hb => hnav b hb), fun w6 k56 => ?_⟩
  have hav6 : ∀ j, av j → j < w6.heap.size := fun j hj => by have := hav j hj; have := k5.size; have := k56.size; omega
  have s6 := s5.kp0 k56
  have hn5 := both_new (L' := L) (O' := O) (ds' := ds) (w5 := w5) hnav m5 hav
  refine (doc_drop s6 (by omega) (by omega) i).mono ?_
  rintro e w7 ⟨L7, ds7, rfl, s7, e7, k7, m7⟩
  rw [hkey] at e5 ⊢
  refine ⟨rfl, ⟨L7, O, nds5, ds7, _, N, f, os, by rw [hkey] at s7; exact s7, e5.trans e7.symm, hoff, by omega, by omega, ?_, ?_, doc_new hn5 m7 hav6⟩, Both.kpav k7 hn5⟩
  · split <;> omega
  · split <;> omega
theorem two_copy (h : Bo w0 w nb mb db c av) (hc : c ≤ 100) (hav : ∀ j, av j → j < w.heap.size) (i : Int) :
    Two 29 42 #[.pointer (some ⟨nb, 0, none⟩), .int .i64 i] #[.pointer (some ⟨db, 0, none⟩), .int .i64 i] w0 w nb mb db c av := by
  obtain ⟨L, O, nds, ds, lost, N, f, os, h1, hkey, hoff, hN, hos, hl0, hl1, hnav⟩ := h
  obtain ⟨hlen, _⟩ := key_at hkey
  have hn2 := h1.st.n.len
  have hlens := h1.st.n.lens
  refine (net_copy h1 i).mono ?_
  rintro e w5 ⟨nds5, rfl, s5, e5, k5, m5⟩
  refine ⟨_, rfl, k5.mono (fun b _ hb => hnav b hb), fun w6 k56 => ?_⟩
  have hav6 : ∀ j, av j → j < w6.heap.size := fun j hj => by have := hav j hj; have := k5.size; have := k56.size; omega
  have s6 := s5.kp0 k56
  have hn5 := both_new (L' := L) (O' := O) (ds' := ds) (w5 := w5) hnav m5 hav
  refine (doc_copy s6 (by omega) (lens_of hkey hlens) i).mono ?_
  rintro e w7 ⟨L7, ds7, rfl, s7, e7, k7, m7⟩
  rw [hkey] at e5 ⊢
  exact ⟨rfl, ⟨L7, O, nds5, ds7, _, N, f, os, s7, e5.trans e7.symm, hoff, by omega, by omega, hl0, by omega, doc_new hn5 m7 hav6⟩, Both.kpav k7 hn5⟩
theorem two_turn (h : Bo w0 w nb mb db c av) (hc : c ≤ 100) (hav : ∀ j, av j → j < w.heap.size) (i bit : Int) (hw : i64in bit) :
    Two 17 43 #[.pointer (some ⟨nb, 0, none⟩), .int .i64 i, .int .i64 bit] #[.pointer (some ⟨db, 0, none⟩), .int .i64 i, .int .i64 bit] w0 w nb mb db c av := by
  obtain ⟨L, O, nds, ds, lost, N, f, os, h1, hkey, hoff, hN, hos, hl0, hl1, hnav⟩ := h
  obtain ⟨hlen, _⟩ := key_at hkey
  have hn2 := h1.st.n.len
  have hlens := h1.st.n.lens
  refine (net_turn h1 i bit hw).mono ?_
  rintro e w5 ⟨nds5, rfl, s5, e5, k5, m5⟩
  refine ⟨_, rfl, k5.mono (fun b _ hb => hnav b hb), fun w6 k56 => ?_⟩
  have hav6 : ∀ j, av j → j < w6.heap.size := fun j hj => by have := hav j hj; have := k5.size; have := k56.size; omega
  have s6 := s5.kp0 k56
  have hn5 := both_new (L' := L) (O' := O) (ds' := ds) (w5 := w5) hnav m5 hav
  refine (doc_turn s6 (by omega) (lens_of hkey hlens) i bit hw).mono ?_
  rintro e w7 ⟨ds7, rfl, s7, e7, k7, m7⟩
  rw [hkey] at e5 ⊢
  exact ⟨rfl, ⟨L, O, nds5, ds7, _, N, f, os, s7, e5.trans e7.symm, hoff, by omega, by omega, hl0, by omega, doc_new hn5 m7 hav6⟩, Both.kpav k7 hn5⟩
theorem two_swap (h : Bo w0 w nb mb db c av) (hc : c ≤ 100) (hav : ∀ j, av j → j < w.heap.size) (i k : Int) :
    Two 16 44 #[.pointer (some ⟨nb, 0, none⟩), .int .i64 i, .int .i64 k] #[.pointer (some ⟨db, 0, none⟩), .int .i64 i, .int .i64 k] w0 w nb mb db c av := by
  obtain ⟨L, O, nds, ds, lost, N, f, os, h1, hkey, hoff, hN, hos, hl0, hl1, hnav⟩ := h
  obtain ⟨hlen, _⟩ := key_at hkey
  have hn2 := h1.st.n.len
  have hlens := h1.st.n.lens
  refine (net_swap h1 i k).mono ?_
  rintro e w5 ⟨nds5, rfl, s5, e5, k5, m5⟩
  refine ⟨_, rfl, k5.mono (fun b _ hb => hnav b hb), fun w6 k56 => ?_⟩
  have hav6 : ∀ j, av j → j < w6.heap.size := fun j hj => by have := hav j hj; have := k5.size; have := k56.size; omega
  have s6 := s5.kp0 k56
  have hn5 := both_new (L' := L) (O' := O) (ds' := ds) (w5 := w5) hnav m5 hav
  refine (doc_swap s6 (by omega) i k).mono ?_
  rintro e w7 ⟨ds7, rfl, s7, e7, k7, m7⟩
  rw [hkey] at e5 ⊢
  exact ⟨rfl, ⟨L, O, nds5, ds7, _, N, f, os, s7, e5.trans e7.symm, hoff, by omega, by omega, hl0, by omega, doc_new hn5 m7 hav6⟩, Both.kpav k7 hn5⟩
theorem two_cut (h : Bo w0 w nb mb db c av) (hc : c ≤ 100) (hav : ∀ j, av j → j < w.heap.size) (a b : Int) (is : Bool) :
    Two 18 45 #[.pointer (some ⟨nb, 0, none⟩), .int .i64 a, .int .i64 b, .bool is] #[.pointer (some ⟨db, 0, none⟩), .int .i64 a, .int .i64 b, .bool is] w0 w nb mb db c av := by
  obtain ⟨L, O, nds, ds, lost, N, f, os, h1, hkey, hoff, hN, hos, hl0, hl1, hnav⟩ := h
  obtain ⟨hlen, _⟩ := key_at hkey
  have hn2 := h1.st.n.len
  have hlens := h1.st.n.lens
  refine (net_cut h1 (by omega) a b is).mono ?_
  rintro e w5 ⟨f5, rfl, s5, e5, e5', k5⟩
  refine ⟨_, rfl, k5.mono (fun b _ hb => hnav b hb), fun w6 k56 => ?_⟩
  have hav6 : ∀ j, av j → j < w6.heap.size := fun j hj => by have := hav j hj; have := k5.size; have := k56.size; omega
  have s6 := s5.kp0 k56
  refine (doc_cut s6 (by omega) a b is).mono ?_
  rintro e w7 ⟨O7, os7, rfl, s7, ho7, e7, e7', k7, m7⟩
  exact ⟨rfl, ⟨L, O7, nds, ds, _, N + 1, f5, os7, s7, hkey, offR_cut hoff e5 e5' e7 e7', by omega, by omega, hl0, by omega, doc_new hnav m7 hav6⟩, Both.kpav k7 hnav⟩
theorem two_send (h : Bo w0 w nb mb db c av) (hc : c ≤ 100) (hav : ∀ j, av j → j < w.heap.size) (fr to : Int) (a a' : Option Addr) (n cp cp' : Nat) (l : List Int) (hn : n = l.length) (hb : RdB w a l) (hb' : RdB w0 a' l) :
    Two 11 47 #[.pointer (some ⟨nb, 0, none⟩), .agg #[.int .i64 fr, .int .i64 to, .slice a n cp]] #[.pointer (some ⟨db, 0, none⟩), .agg #[.int .i64 fr, .int .i64 to, .slice a' n cp']] w0 w nb mb db c av := by
  obtain ⟨L, O, nds, ds, lost, N, f, os, h1, hkey, hoff, hN, hos, hl0, hl1, hnav⟩ := h
  obtain ⟨hlen, _⟩ := key_at hkey
  have hn2 := h1.st.n.len
  have hlens := h1.st.n.lens
  refine (net_send h1 (by omega) fr to a n cp l hn hb).mono ?_
  rintro e w5 ⟨nds5, lost5, r5, rfl, s5, e5, k5, m5⟩
  refine ⟨_, rfl, k5.mono (fun b _ hb => hnav b hb), fun w6 k56 => ?_⟩
  have hav6 : ∀ j, av j → j < w6.heap.size := fun j hj => by have := hav j hj; have := k5.size; have := k56.size; omega
  have s6 := s5.kp0 k56
  have hn5 := both_new (L' := L) (O' := O) (ds' := ds) (w5 := w5) hnav m5 hav
  refine (doc_send s6 hoff (by omega) (by omega) (by omega) fr to a' n cp' l hn (hb'.kp0 s6.st.k (fun _ _ h => h))).mono ?_
  rintro e w7 ⟨L7, ds7, lost7, r7, rfl, s7, e7, k7, m7⟩
  rw [hkey] at e5
  have e8 := e5.trans e7.symm
  simp only [Prod.mk.injEq] at e8
  obtain ⟨rfl, e9, rfl⟩ := e8
  have hb := sendS_lost e5
  exact ⟨rfl, ⟨L7, O, nds5, ds7, _, N, f, os, s7, e9, hoff, by omega, by omega, by omega, by omega, doc_new hn5 m7 hav6⟩, Both.kpav k7 hn5⟩
end
end Go.Proofs.Ytgcgcdgjooaipaa
