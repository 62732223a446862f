/- Package inbox: Take at whatever number; the statements' list of what comes; 'long'. -/
import Derived.Test.YtnigdgopmmccgaaInbA
import Derived.Test.YtnigdgopmmccgaaOpen
namespace Go.Proofs.Ytnigdgopmmccgaa
open Go.RowKit
set_option linter.unusedVariables false
/-- What Take answers. -/
def cd (f : Bodies) (n size : Nat) (seq : Int) : Int :=
  if seq < 1 ∨ 2147483647 ≤ seq then 5 else if hasI f seq then 7 else if (n + size : Int) ≤ seq then 8 else 0
/-- What came behind it. -/
def nf (f : Bodies) (n size : Nat) (seq : Int) (l : List Int) : Bodies := if cd f n size seq = 0 then put f seq.toNat l else f
theorem nf_same (f : Bodies) (n size : Nat) (seq : Int) (l : List Int) (h : cd f n size seq ≠ 0) : nf f n size seq l = f := by unfold nf; rw [if_neg h]
theorem nf_put (f : Bodies) (n size : Nat) (seq : Int) (l : List Int) (h : cd f n size seq = 0) : nf f n size seq l = put f seq.toNat l := by unfold nf; rw [if_pos h]
theorem cd_zero {f : Bodies} {n size : Nat} {seq : Int} (h : cd f n size seq = 0) : 1 ≤ seq ∧ seq < 2147483647 ∧ hasI f seq = false ∧ seq < n + size := by
  unfold cd at h
  split at h
  · omega
  · split at h
    · omega
    · split at h
      · omega
      · rename_i h1 h2 h3
        exact ⟨by omega, by omega, by simpa using h2, by omega⟩
theorem take_any {b size : Nat} {f : Bodies} {n hd : Nat} {F : Nat → Prop} {w : World} (h : InbAt w b size f n hd F) (seq : Int) (hs : -9223372036854775808 ≤ seq ∧ seq ≤ 9223372036854775807) (a : Option Addr) (len cap : Nat) (l : List Int) (hr : RdB w a l) (hll : l.length = len) (hlen : len ≤ 1000000000) :
    Calls Try.prog 13 #[.pointer (some ⟨b, 0, none⟩), .int .i64 seq, .slice a len cap] w fun e w' =>
      ∃ n' hd' F' v vs, e = .returned (.tuple #[v, .int .i64 (cd f n size seq)]) ∧ InbAt w' b size (nf f n size seq l) n' hd' F' ∧ n ≤ n' ∧ n' ≤ n + size ∧ vs.length = n' - n ∧ Own w' v (n' - n) 1 vs ∧
        Told w' (nf f n size seq l) n vs (fun g => (F g ∧ g ≠ b) ∨ w.heap.size ≤ g) F' ∧ (∀ g, v.ownBlock = some g → w.heap.size ≤ g ∧ ¬ F' g) ∧ (∀ g, F' g → F g ∨ w.heap.size ≤ g) ∧ Kp (· = b) w w' ∧ (cd f n size seq ≠ 0 → n' = n ∧ hd' = hd) := by
  subst hll
  have bad : ∀ w' (k : Int), cd f n size seq = k → k ≠ 0 → Kp (fun _ => False) w w' → (∃ n' hd' F' v vs, Ending.returned (.tuple #[.slice none 0 0, .int .i64 k]) = .returned (.tuple #[v, .int .i64 (cd f n size seq)]) ∧ InbAt w' b size (nf f n size seq l) n' hd' F' ∧ n ≤ n' ∧ n' ≤ n + size ∧ vs.length = n' - n ∧ Own w' v (n' - n) 1 vs ∧
        Told w' (nf f n size seq l) n vs (fun g => (F g ∧ g ≠ b) ∨ w.heap.size ≤ g) F' ∧ (∀ g, v.ownBlock = some g → w.heap.size ≤ g ∧ ¬ F' g) ∧ (∀ g, F' g → F g ∨ w.heap.size ≤ g) ∧ Kp (· = b) w w' ∧ (cd f n size seq ≠ 0 → n' = n ∧ hd' = hd)) := fun w' k hk h0 hkp => by
    refine ⟨n, hd, F, .slice none 0 0, [], by rw [hk], ?_, Nat.le_refl _, by omega, by simp, ?_, Told.nil _ _ _ _ _, fun g hg => by simp [Value.ownBlock] at hg, fun g hg => .inl hg, hkp.mono (fun _ _ h => h.elim), fun _ => ⟨rfl, rfl⟩⟩
    · rw [nf_same _ _ _ _ _ (by rw [hk]; exact h0)]
      exact h.kp hkp (fun _ _ h => h)
    · rw [Nat.sub_self]; exact Own.nil _ _
  by_cases h1 : seq < 1 ∨ 2147483647 ≤ seq
  · have hc : cd f n size seq = 5 := by unfold cd; rw [if_pos h1]
    refine (take_range h seq a l.length cap h1).mono ?_
    rintro e w' ⟨rfl, hk⟩
    exact bad w' 5 hc (by omega) hk
  · obtain ⟨q, rfl⟩ := Int.eq_ofNat_of_zero_le (show 0 ≤ seq by omega)
    have hq : hasI f q = (f q).isSome := by simp [hasI]
    by_cases h2 : (f q).isSome = true
    · have hc : cd f n size q = 7 := by unfold cd; rw [if_neg h1, hq, if_pos h2]
      refine (take_there h q a l.length cap (by omega) (by omega) h2).mono ?_
      rintro e w' ⟨rfl, hk⟩
      exact bad w' 7 hc (by omega) hk
    · by_cases h3 : n + size ≤ q
      · have hc : cd f n size q = 8 := by unfold cd; rw [if_neg h1, hq, if_neg h2, if_pos (by omega)]
        refine (take_full h q a l.length cap (by omega) (by omega) h3).mono ?_
        rintro e w' ⟨rfl, hk⟩
        exact bad w' 8 hc (by omega) hk
      · have hc : cd f n size q = 0 := by unfold cd; rw [if_neg h1, hq, if_neg h2, if_neg (by omega)]
        have hfq : f q = none := by simpa using h2
        have hnq : n ≤ q := h.next_le (by omega) hfq
        refine (take_ok h q a cap l hr hlen hnq (by omega) (by omega) hfq).mono ?_
        rintro e w' ⟨n', hd', F', v, vs, rfl, k1, k2, k3, k4, k5, k6, k7, k8, k9⟩
        rw [nf_put _ _ _ _ _ hc, hc]
        exact ⟨n', hd', F', v, vs, rfl, k4, k1, k2, k3, k5, k6, k7, k8, k9, fun h => absurd rfl h⟩

/-- A list of what comes: numbers and bodies. -/
def RdC (w : World) (a : Option Addr) (l : List (Int × List Int)) : Prop :=
  ∀ i, i < l.length → ∃ b off ai ci, a = some ⟨b, off, none⟩ ∧ w.cell? ⟨b, off + i * 2, none⟩ = some (.int .i64 (l.getD i (0, [])).1) ∧ w.cell? ⟨b, off + i * 2 + 1, none⟩ = some (.slice ai (l.getD i (0, [])).2.length ci) ∧
    RdB w ai (l.getD i (0, [])).2 ∧ (l.getD i (0, [])).2.length ≤ 140737488351232 ∧ -9223372036854775808 ≤ (l.getD i (0, [])).1 ∧ (l.getD i (0, [])).1 ≤ 9223372036854775807
theorem RdC.kp0 {S : Nat → Prop} {w w' : World} {a : Option Addr} {l : List (Int × List Int)} (h : RdC w a l) (hk : Kp S w w') (hs : ∀ i, i < w.heap.size → ¬ S i) : RdC w' a l := fun i hi => by
  obtain ⟨b, off, ai, ci, ha, h1, h2, h3, h4⟩ := h i hi
  exact ⟨b, off, ai, ci, ha, hk.cell (p := ⟨b, off + i * 2, none⟩) h1 (hs b (World.block_lt_of_cell? w _ h1)), hk.cell (p := ⟨b, off + i * 2 + 1, none⟩) h2 (hs b (World.block_lt_of_cell? w _ h2)), h3.kp0 hk hs, h4⟩
theorem rdc_open {w : World} {cs : List Value} (h : Rdg Try.prog w 22 cs) : ∃ a l cap, cs = [.slice a l.length cap] ∧ RdC w a l ∧ l.length ≤ 140737488351232 := by
  have hC : Try.prog.cellsOf 34 = 2 := by kernel_rfl
  have hB : Try.prog.bytesOf 34 = 32 := by kernel_rfl
  have hC3 : Try.prog.cellsOf 3 = 1 := by kernel_rfl
  have hC31 : Try.prog.cellsOf 31 = 1 := by kernel_rfl
  have hC5 : Try.prog.cellsOf 5 = 1 := by kernel_rfl
  have hB5 : Try.prog.bytesOf 5 = 1 := by kernel_rfl
  obtain ⟨a, len, cap, rfl, hle, hm, hb, hi⟩ := h.slice Try.underlying22 (by rw [hC]; omega)
  rw [hB] at hb
  obtain ⟨l, hlen, hp⟩ := list_of (α := Int × List Int) len (fun i x => ∃ b off ai ci, a = some ⟨b, off, none⟩ ∧ w.cell? ⟨b, off + i * 2, none⟩ = some (.int .i64 x.1) ∧ w.cell? ⟨b, off + i * 2 + 1, none⟩ = some (.slice ai x.2.length ci) ∧
    RdB w ai x.2 ∧ x.2.length ≤ 140737488351232 ∧ -9223372036854775808 ≤ x.1 ∧ x.1 ≤ 9223372036854775807) (fun i hil => by
    obtain ⟨b, off, cs', ha, _, hlc, hc, hr⟩ := hi i (by omega)
    rw [hC] at hlc hc
    obtain ⟨_, hf⟩ := hr.struct Try.underlying34
    match cs', hlc with
    | [v0, v1], _ =>
      have r0 : Rdg Try.prog w 3 ((([v0, v1] : List Value).drop 0).take (Try.prog.cellsOf 3)) := hf 0 _ rfl
      have r1 : Rdg Try.prog w 31 ((([v0, v1] : List Value).drop 1).take (Try.prog.cellsOf 31)) := hf 1 _ rfl
      simp only [hC3, hC31, List.drop_zero, List.drop_succ_cons, List.take_succ_cons, List.take_zero] at r0 r1
      obtain ⟨n, hn, hwf⟩ := r0.int Try.underlying3
      obtain ⟨ai, li, ci, hv, hrd, hl1, hl2⟩ := r1.bytes Try.underlying31 Try.underlying5 hC5 hB5
      simp only [List.cons.injEq, and_true] at hn hv
      subst hn; subst hv
      have c0 := hc 0 (by omega)
      have c1 := hc 1 (by omega)
      simp only [Nat.add_zero] at c0
      refine ⟨(n, li), b, off, ai, ci, ha, c0, by rw [Nat.add_assoc]; exact c1, hrd, Nat.le_trans hl1 hl2, ?_⟩
      show -9223372036854775808 ≤ n ∧ n ≤ 9223372036854775807
      simp [Lit.wf, IntKind.min, IntKind.max, IntKind.signed, IntKind.bits] at hwf
      omega)
  subst hlen
  exact ⟨a, l, cap, rfl, fun i hi => hp i hi (0, []), by omega⟩
end Go.Proofs.Ytnigdgopmmccgaa
