/- NetScript: Take of both nets. (Written by wip/netboth2.py.) -/
import Derived.Test.YtgcgcdgjooaipaaBo
namespace Go.Proofs.Ytgcgcdgjooaipaa
open Go.RowKit Go.Maps
set_option linter.unusedVariables false
set_option linter.unusedSimpArgs false
section
variable {w0 w w' : World} {nb mb db c : Nat} {av : Nat → Prop}
theorem two_take (h : Bo w0 w nb mb db c av) (hc : c ≤ 100) (hav : ∀ j, av j → j < w.heap.size) (i : Int) :
    Calls Try.prog 24 #[.pointer (some ⟨nb, 0, none⟩), .int .i64 i] w fun e w5 => ∃ (r fr to : Int) (a : Option Addr) (n cp : Nat) (l : List Int), e = .returned (.tuple #[.agg #[.int .i64 fr, .int .i64 to, .slice a n cp], .int .i64 r]) ∧ n = l.length ∧ n ≤ 1500 ∧ n ≤ cp ∧ Kp (fun j => ¬ av j) w w5 ∧
      ∀ w6, Kp (fun _ => False) w5 w6 → Calls Try.prog 40 #[.pointer (some ⟨db, 0, none⟩), .int .i64 i] w6 fun e w7 => ∃ a' cp', e = .returned (.tuple #[.agg #[.int .i64 fr, .int .i64 to, .slice a' n cp'], .int .i64 r]) ∧ RdB w7 a' l ∧ n ≤ cp' ∧ OwnB w7 (.slice a n cp) l ∧
        Kp (fun j => ¬ av j ∧ j < w5.heap.size) w6 w7 ∧ Bo w0 w7 nb mb db (c + 1) (fun b => (Value.slice a n cp).ownBlock = some b) ∧ ∀ b, (Value.slice a n cp).ownBlock = some b → w0.heap.size ≤ b := by
  obtain ⟨L, O, nds, ds, lost, N, f, os, h1, hkey, hoff, hN, hos, hl0, hl1, hnav⟩ := h
  obtain ⟨hlen, hat⟩ := key_at hkey
  have hn2 := h1.st.n.len
  have hlens := h1.st.n.lens
  refine (take_w h1.st.n i).mono ?_
  rintro e w5 ⟨nds', hn, hs, (⟨ht, rfl, rfl, hk0⟩ | ⟨k, rfl, hk, rfl, rfl, hO, hNM⟩)⟩
  · refine ⟨6, 0, 0, none, 0, 0, [], rfl, rfl, by omega, by omega, hk0.mono (fun _ _ h => h.elim), fun w6 k56 => ?_⟩
    have s6 := (h1.net hn hs).kp0 k56
    have hno : ¬ (0 ≤ i ∧ i < ds.length) := by rcases there_no ht with h | h <;> omega
    refine (dtake_no s6.d i hno).mono ?_
    rintro e w7 ⟨rfl, k7⟩
    exact ⟨none, 0, rfl, RdB.nil _ _, by omega, OwnB.nil' _, k7.mono (fun _ _ h => h.elim), ⟨L, O, nds', ds, lost, N, f, os, s6.kp0 k7, hkey, hoff, by omega, by omega, hl0, by omega, fun b hb e => by simp [Value.ownBlock] at e⟩, fun b e => by simp [Value.ownBlock] at e⟩
  · obtain ⟨a, cp, hB, hr, hcp⟩ := hO.form
    obtain ⟨d1, d2, d3⟩ := hat k
    have hkd : k < ds.length := by omega
    have hm5 := both_new (L' := L) (O' := O) (ds' := ds) (w5 := w5) hnav hs.2 hav
    refine ⟨0, _, _, a, _, cp, (nd nds k).l, by rw [hB], rfl, hlens k hk, hcp, hs.1.mono (fun b _ hb => hnav b (.inl hb)), fun w6 k56 => ?_⟩
    have s5 := h1.net hn hs
    have s6 := s5.kp0 k56
    refine (dtake_yes s6.d k hkd (by omega)).mono ?_
    rintro e w7 ⟨rfl, L', hd, hs7, hO7⟩
    obtain ⟨a', cp', hB', hr', hcp'⟩ := hO7.form
    rw [d3] at hB' hr' hcp'
    have hown : ∀ b, (nd nds k).B.ownBlock = some b → Mine nb nds b := fun b hb => .inr ⟨k, hk, .inr hb⟩
    have hblt : ∀ b, (nd nds k).B.ownBlock = some b → b < w.heap.size := fun b hb => h1.st.n.lt (.inl (hown b hb))
    have hnd : ∀ b, (nd nds k).B.ownBlock = some b → ¬ DMine db L O ds b := fun b hb hm => h1.ap b hm (.inl (hown b hb))
    have ks := hs.1.size
    have ks6 := k56.size
    rw [← hB]
    refine ⟨a', cp', by rw [hB', d1, d2], hr', hcp', (hO.kp k56 (fun _ _ h => h)).kp hs7.1 (fun b hb => hnd b hb), hs7.1.mono (fun b _ hb => ⟨fun e => hm5 b (.inr hb) e, s5.d.lt hb⟩), ⟨L', O, nds.eraseIdx k, ds.eraseIdx k, lost, N, f, os, s6.doc hd hs7, by rw [map_erase, map_erase, hkey], hoff, by omega, by omega, hl0, by omega, fun b hb e => ?_⟩, fun b hb => h1.st.ge b (.inl (hown b hb))⟩
    rcases hb with (hb | hb) | hb
    · exact hNM b e hb
    · exact h1.st.n.ne b (hown b e) hb
    · rcases hs7.2 b hb with h2 | h2
      · exact hnd b e h2
      · have := hblt b e; omega
end
end Go.Proofs.Ytgcgcdgjooaipaa
