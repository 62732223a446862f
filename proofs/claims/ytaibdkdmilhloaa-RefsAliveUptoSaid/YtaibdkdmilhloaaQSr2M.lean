/- The library's symMerge, at any two sorted parts; what insertion sort makes of rising numbers. -/
import Derived.Test.YtaibdkdmilhloaaQSrtG
namespace Go.Proofs.Ytaibdkdmilhloaa
open Go.RowKit Flt
set_option linter.unusedVariables false
theorem sym_any (D cap p N L : Nat) (pad : List Value) (cm : Nat → Nat → Int) (lt : Nat → Nat → Bool) (hlt : ∀ x y, lt x y = decide (cm x y < 0)) (hw : Wk lt) (hd : L ≤ 1000000) (K : Nat) :
    ∀ (P U V Q : List Nat) (w : World), U.length + V.length < K → At w D (nums (P ++ U ++ V ++ Q) ++ pad) → L = P.length + U.length + V.length + Q.length → 0 < U.length → 0 < V.length → (∀ v ∈ U ++ V, v < N) → CmOk D p N cm w → U.Pairwise (Rr lt) → V.Pairwise (Rr lt) → (∀ u ∈ U, ∀ v ∈ V, u < v) →
      SymOk D cap p N L pad cm lt w P U V Q w P.length (P.length + U.length) (P.length + U.length + V.length) := by
  induction K with
  | zero => intro P U V Q w h; omega
  | succ K ih =>
    intro P U V Q w hlen hat hL hU0 hV0 hN CM hU hV hi
    by_cases hK : U.length + V.length < K
    · exact ih P U V Q w hK hat hL hU0 hV0 hN CM hU hV hi
    have hKe : U.length + V.length = K := by omega
    by_cases h1 : U.length = 1
    · obtain ⟨x, rfl⟩ : ∃ x, U = [x] := List.length_eq_one_iff.1 h1
      have hat' : At w D (nums (P ++ x :: V ++ Q) ++ pad) := by simpa using hat
      have R := sym_one D cap p N P x V Q pad w cm hat' L (by simp at hL; omega) hd (hN x (by simp)) (fun v hv => hN v (by simp [hv])) (Lib.hid CM) lt hlt hw hV (fun v hv => hi x (by simp) v hv)
      exact R
    · by_cases h2 : V.length = 1
      · obtain ⟨x, rfl⟩ : ∃ x, V = [x] := List.length_eq_one_iff.1 h2
        have hat' : At w D (nums (P ++ U ++ x :: Q) ++ pad) := by simpa using hat
        exact sym_last D cap p N P x U Q pad w cm hat' L (by simp at hL; omega) hd (hN x (by simp)) (fun v hv => hN v (by simp [hv])) h1 (Lib.hid CM) lt hlt hw hU (fun u hu => hi u hu x (by simp))
      · refine sym_step D cap p N L pad cm lt hlt hw hd K ih P U V Q w hKe hat hL (by omega) (by omega) hN CM hU hV hi
theorem insL_split (lt : Nat → Nat → Bool) (x : Nat) (l : List Nat) : ∃ u v, l = u ++ v ∧ (∀ y ∈ u, lt x y = true) ∧ (v = [] ∨ ∃ y v', v = y :: v' ∧ lt x y = false) := by
  induction l with
  | nil => exact ⟨[], [], rfl, by simp, .inl rfl⟩
  | cons y l ih =>
    cases h : lt x y
    · exact ⟨[], y :: l, rfl, by simp, .inr ⟨y, l, rfl, h⟩⟩
    · obtain ⟨u, v, e, h1, h2⟩ := ih
      exact ⟨y :: u, v, by rw [e]; rfl, fun z hz => by
        rcases List.mem_cons.1 hz with rfl | hz
        · exact h
        · exact h1 z hz, h2⟩
theorem insR_law {lt : Nat → Nat → Bool} (hw : Wk lt) {x : Nat} {s : List Nat} (hs : s.Pairwise (Rr lt)) (hi : ∀ y ∈ s, y < x) : (insR lt x s).Pairwise (Rr lt) ∧ (insR lt x s).Perm (s ++ [x]) := by
  obtain ⟨u, v, e, h1, h2⟩ := insL_split lt x s.reverse
  have es : s = v.reverse ++ u.reverse := by rw [← List.reverse_append, ← e, List.reverse_reverse]
  have hr : insR lt x s = v.reverse ++ x :: u.reverse := by
    rw [es]
    refine insR_end _ _ (fun y hy => h1 y (by simpa using hy)) ?_
    rcases h2 with rfl | ⟨y, v', rfl, h⟩
    · exact .inl rfl
    · exact .inr ⟨v'.reverse, y, by simp, h⟩
  have := one_in' hw (x := x) (U1 := v.reverse) (U2 := u.reverse) (by rw [← es]; exact hs) (by rw [← es]; exact hi) (by
    rcases h2 with rfl | ⟨y, v', rfl, h⟩
    · exact .inl rfl
    · exact .inr ⟨v'.reverse, y, by simp, h⟩) (by
    rcases List.eq_nil_or_concat u with rfl | ⟨u', z, rfl⟩
    · exact .inl rfl
    · exact .inr ⟨z, u'.reverse, by simp, h1 z (by simp)⟩)
  rw [hr]
  refine ⟨this.1, ?_⟩
  have h3 := this.2
  rwa [← es] at h3
theorem fold_law {lt : Nat → Nat → Bool} (hw : Wk lt) (l : List Nat) : ∀ acc : List Nat, acc.Pairwise (Rr lt) → (∀ y ∈ acc, ∀ z ∈ l, y < z) → l.Pairwise (· < ·) → (l.foldl (fun s x => insR lt x s) acc).Pairwise (Rr lt) ∧ (l.foldl (fun s x => insR lt x s) acc).Perm (acc ++ l) := by
  induction l with
  | nil => intro acc h _ _; exact ⟨h, by simp⟩
  | cons x l ih =>
    intro acc h h1 h2
    obtain ⟨i1, i2⟩ := insR_law hw (x := x) h (fun y hy => h1 y hy x (by simp))
    obtain ⟨p1, p2⟩ := List.pairwise_cons.1 h2
    obtain ⟨j1, j2⟩ := ih (insR lt x acc) i1 (fun y hy z hz => by
      rcases List.mem_append.1 (i2.mem_iff.1 hy) with g | g
      · exact h1 y g z (by simp [hz])
      · simp at g; subst g; exact p1 z hz) p2
    refine ⟨j1, j2.trans ?_⟩
    have := List.Perm.append_right l i2
    simpa using this
theorem isort_law {lt : Nat → Nat → Bool} (hw : Wk lt) {l : List Nat} (h : l.Pairwise (· < ·)) : (isort lt l).Pairwise (Rr lt) ∧ (isort lt l).Perm l := by
  have := fold_law hw l [] (by simp) (by simp) h
  rw [List.nil_append] at this
  exact this
end Go.Proofs.Ytaibdkdmilhloaa
/- Blocks of a list, each sorted. No program in sight. -/
namespace Go.Proofs.Ytaibdkdmilhloaa
set_option linter.unusedVariables false
def slc (l : List Nat) (o k : Nat) : List Nat := (l.drop o).take k
def Sg (lt : Nat → Nat → Bool) (d X : List Nat) (o k : Nat) : Prop := (slc X o k).Pairwise (Rr lt) ∧ (slc X o k).Perm (slc d o k)
theorem slc_left (P Y : List Nat) (o k : Nat) (h : o + k ≤ P.length) : slc (P ++ Y) o k = slc P o k := by
  unfold slc
  rw [List.drop_append_of_le_length (by omega), List.take_append_of_le_length (by rw [List.length_drop]; omega)]
theorem slc_right (P Y : List Nat) (o k : Nat) (h : P.length ≤ o) : slc (P ++ Y) o k = slc Y (o - P.length) k := by
  unfold slc
  rw [List.drop_append, List.drop_eq_nil_of_le h, List.nil_append]
theorem slc_other (P M W Q : List Nat) (o k : Nat) (hl : W.length = M.length) (h : o + k ≤ P.length ∨ P.length + M.length ≤ o) : slc (P ++ W ++ Q) o k = slc (P ++ M ++ Q) o k := by
  rcases h with h | h
  · rw [List.append_assoc, List.append_assoc, slc_left _ _ _ _ h, slc_left _ _ _ _ h]
  · rw [slc_right _ _ _ _ (by rw [List.length_append]; omega), slc_right _ _ _ _ (by rw [List.length_append]; omega), List.length_append, List.length_append, hl]
theorem slc_mid (P W Q : List Nat) (k : Nat) (hk : W.length ≤ k) (h : W.length = k ∨ Q = []) : slc (P ++ W ++ Q) P.length k = W := by
  rw [List.append_assoc, slc_right _ _ _ _ (Nat.le_refl _), Nat.sub_self]
  unfold slc
  rw [List.drop_zero]
  rcases h with h | rfl
  · rw [← h, List.take_left']
    rfl
  · rw [List.append_nil, List.take_of_length_le hk]
theorem slc_len (l : List Nat) (o k : Nat) : (slc l o k).length = min k (l.length - o) := by unfold slc; rw [List.length_take, List.length_drop]
theorem slc_join (l : List Nat) (o k k' : Nat) : slc l o (k + k') = slc l o k ++ slc l (o + k) k' := by
  unfold slc; rw [List.take_add, List.drop_drop]
theorem slc_split (l : List Nat) (o k : Nat) : l = l.take o ++ slc l o k ++ l.drop (o + k) := by
  unfold slc
  rw [List.append_assoc, ← List.drop_drop, List.take_append_drop, List.take_append_drop]
theorem slc_none (l : List Nat) (o k : Nat) (h : l.length ≤ o) : slc l o k = [] := by unfold slc; rw [List.drop_eq_nil_of_le h, List.take_nil]
theorem Sg.none {lt : Nat → Nat → Bool} {d X : List Nat} {o k : Nat} (h1 : d.length ≤ o) (h2 : X.length ≤ o) : Sg lt d X o k := by
  unfold Sg; rw [slc_none _ _ _ h1, slc_none _ _ _ h2]; exact ⟨List.Pairwise.nil, List.Perm.refl _⟩
theorem slc_mono {d : List Nat} (h : d.Pairwise (· < ·)) (o k : Nat) : (slc d o k).Pairwise (· < ·) := (h.sublist (List.drop_sublist _ _)).sublist (List.take_sublist _ _)
theorem slc_lt {d : List Nat} (h : d.Pairwise (· < ·)) (o k k' : Nat) : ∀ u ∈ slc d o k, ∀ v ∈ slc d (o + k) k', u < v := by
  have := slc_mono h o (k + k')
  rw [slc_join] at this
  exact fun u hu v hv => (List.pairwise_append.1 this).2.2 u hu v hv
/-- a block of twice the size, out of two, where the list is turned there alone -/
theorem Sg.merge {lt : Nat → Nat → Bool} {d X P U V W Q : List Nat} {bs o : Nat} (hX : X = P ++ U ++ V ++ Q) (hP : P.length = o) (hU : U = slc X o bs) (hV : V = slc X (o + bs) bs) (h1 : Sg lt d X o bs) (h2 : Sg lt d X (o + bs) bs) (hW : W.Pairwise (Rr lt)) (hp : W.Perm (U ++ V))
    (hl : U.length = bs) (hl2 : V.length ≤ bs) (hl3 : V.length = bs ∨ Q = []) : Sg lt d (P ++ W ++ Q) o (2 * bs) := by
  have hWl : W.length = U.length + V.length := by rw [hp.length_eq, List.length_append]
  have e : slc (P ++ W ++ Q) o (2 * bs) = W := by
    rw [← hP]
    refine slc_mid P W Q (2 * bs) (by omega) ?_
    rcases hl3 with h | h
    · exact .inl (by omega)
    · exact .inr h
  unfold Sg
  rw [e]
  refine ⟨hW, hp.trans ?_⟩
  rw [show 2 * bs = bs + bs by omega, slc_join, hU, hV]
  exact h1.2.append h2.2
end Go.Proofs.Ytaibdkdmilhloaa
/- The library's stable sort with a comparing function, at rising numbers. -/
namespace Go.Proofs.Ytaibdkdmilhloaa
open Go.RowKit Flt
set_option linter.unusedVariables false
/-- one insertion sort of a part that is as it was -/
theorem ins_part {lt : Nat → Nat → Bool} (hw : Wk lt) {d X : List Nat} {A B : Nat} (hinc : d.Pairwise (· < ·)) (hAB : A ≤ B) (hB : B ≤ X.length) (hdr : X.drop A = d.drop A) (hp : X.Perm d) :
    ∃ W, isort lt ((X.take B).drop A) = W ∧ W.length = B - A ∧ W.Pairwise (Rr lt) ∧ W.Perm (slc d A (B - A)) ∧ (X.take A ++ W ++ X.drop B).Perm d ∧ X = X.take A ++ slc X A (B - A) ++ X.drop B ∧ X.drop B = d.drop B := by
  have e1 : (X.take B).drop A = slc d A (B - A) := by
    unfold slc
    rw [List.drop_take, hdr]
  obtain ⟨h1, h2⟩ := isort_law hw (slc_mono hinc A (B - A))
  have e2 : slc X A (B - A) = slc d A (B - A) := by unfold slc; rw [hdr]
  have e3 : X = X.take A ++ slc X A (B - A) ++ X.drop B := by
    have := slc_split X A (B - A)
    rwa [show A + (B - A) = B by omega] at this
  refine ⟨_, rfl, ?_, by rw [e1]; exact h1, by rw [e1]; exact h2, ?_, e3, ?_⟩
  · rw [isort_len, e1, ← e2, slc_len]; omega
  · refine List.Perm.trans ?_ hp
    conv => rhs; rw [e3]
    rw [e1, e2]
    exact List.Perm.append_right _ (List.Perm.append_left _ h2)
  · have : (X.drop A).drop (B - A) = (d.drop A).drop (B - A) := by rw [hdr]
    rwa [List.drop_drop, List.drop_drop, show A + (B - A) = B by omega] at this
set_option maxRecDepth 20000 in
set_option maxHeartbeats 2000000 in
theorem stable_any (D cap p N : Nat) (d : List Nat) (pad : List Value) (w : World) (cm : Nat → Nat → Int) (lt : Nat → Nat → Bool) (hlt : ∀ x y, lt x y = decide (cm x y < 0)) (hw : Wk lt) (hat : At w D (nums d ++ pad)) (hinc : d.Pairwise (· < ·)) (hd : d.length ≤ 1000000) (hN : ∀ x ∈ d, x < N)
    (CM : Hid (CmOk D p N cm w)) :
    Calls Try.prog 53 #[.slice (some ⟨D, 0, none⟩) d.length cap, .int .i64 d.length, .func (.func 49) #[] #[.pointer (some ⟨p, 0, none⟩)]] w fun e w' => e = .returned (.tuple #[]) ∧ (∃ W, W.Pairwise (Rr lt) ∧ W.Perm d ∧ At w' D (nums W ++ pad)) ∧ Kp (· = D) w w' := by
  obtain ⟨n, hn⟩ : ∃ n, n = d.length := ⟨_, rfl⟩
  rw [← hn] at hd ⊢
  have hltf : (fun x y => decide (cm x y < 0)) = lt := by funext x y; rw [hlt]
  have HD := Lib.hid (And.intro hn (And.intro hinc (And.intro hw (And.intro hN (And.intro hlt hltf)))))
  have HAT := Lib.hid hat
  clear hat hn hinc hw hN hlt hltf
  go_enter Try.func53, Try.ntmps53
  go_wp2
  go_loopw [7, 8] (fun av bv wr => ∃ (k : Nat) (X : List Nat), 20 * k ≤ n ∧ av = .int .i64 ((20 * k : Nat) : Int) ∧ bv = .int .i64 ((20 * k + 20 : Nat) : Int) ∧ (∀ i, i < k → Sg lt d X (20 * i) 20) ∧ X.drop (20 * k) = d.drop (20 * k) ∧ X.Perm d ∧ At wr D (nums X ++ pad) ∧ Kp (· = D) w wr) (fun av _ _ => n + 20 - (intOf av).toNat)
  case atStart => exact ⟨0, d, by omega, rfl, rfl, fun i hi => by omega, rfl, List.Perm.refl _, HAT.out, Kp.refl _ _⟩
  case round =>
    obtain ⟨k, X, hkn, rfl, rfl, hS, hdr, hp, hat, hk⟩ := hrel
    obtain ⟨hn, hinc, hw, hN, hlt, hltf⟩ := HD.out
    have hXl : X.length = n := by rw [hp.length_eq, ← hn]
    obtain ⟨A, hA⟩ : ∃ A, A = 20 * k := ⟨_, rfl⟩
    rw [← hA] at hkn hdr ⊢
    by_cases hb : A + 20 ≤ n
    · obtain ⟨W, w1, w2, w3, w4, w5, w6, w7⟩ := ins_part hw hinc (show A ≤ A + 20 by omega) (by omega) hdr hp
      have C := ins_any D cap p N X pad A (A + 20) wr cm hat (by omega) (by omega) (by omega) (fun x hx => hN x (hp.mem_iff.1 hx)) (Lib.hid (CM.out.later hk))
      rw [hltf, w1, hXl] at C
      have HC := Lib.hid C
      have HP := Lib.hid (And.intro w2 (And.intro w3 (And.intro w4 (And.intro w5 (And.intro w6 (And.intro w7 (And.intro hS (And.intro hk (And.intro hXl (And.intro hA (And.intro hn hdr)))))))))))
      have i1 : ((A + 20 : Nat) : Int) ≤ (n : Int) := by omega
      obtain ⟨B, hB⟩ : ∃ B, B = A + 20 := ⟨_, rfl⟩
      rw [← hB] at HC i1 ⊢
      have HB := Lib.hid hB
      have hBn : B ≤ 1000000 := by omega
      clear C w1 w2 w3 w4 w5 w6 w7 hS hk hat hdr hp hXl hn hinc hw hN hlt hltf hA hB hb
      go_wp2_with (go_at_call 54; (with_reducible refine HC.out.mono ?_); rintro e w2 ⟨rfl, h2, k2⟩; have H2 := Lib.hid (And.intro h2 k2); clear h2 k2)
      go_roundw
      case rel =>
        obtain ⟨w2, w3, w4, w5, w6, w7, hS, hk, hXl, hA, hn, hdr⟩ := HP.out
        have hB := HB.out
        refine ⟨k + 1, _, by omega, by rw [show 20 * (k + 1) = B by omega], by rw [show 20 * (k + 1) + 20 = B + 20 by omega]; go_num, ?_, ?_, w5, by rw [← hB] at *; exact H2.out.1, hk.trans H2.out.2⟩
        · intro i hi
          have hPl : (X.take A).length = A := by rw [List.length_take]; omega
          have hMl : (slc X A (A + 20 - A)).length = A + 20 - A := by rw [slc_len]; omega
          by_cases hik : i < k
          · have e := slc_other (X.take A) (slc X A (A + 20 - A)) W (X.drop (A + 20)) (20 * i) 20 (by omega) (.inl (by omega))
            rw [← w6] at e
            unfold Sg
            rw [e]
            exact hS i hik
          · have hik' : 20 * i = A := by omega
            rw [hik']
            have e := slc_mid (X.take A) W (X.drop (A + 20)) 20 (by omega) (.inl (by omega))
            rw [hPl] at e
            unfold Sg
            rw [e]
            exact ⟨w3, by rwa [show A + 20 - A = 20 by omega] at w4⟩
        · rw [show 20 * (k + 1) = A + 20 by omega]
          have hl : (X.take A ++ W).length = A + 20 := by rw [List.length_append, List.length_take]; omega
          rw [List.drop_append_of_le_length (by omega), ← hl, List.drop_length, List.nil_append, hl]
          exact w7
      case measure =>
        have hB := HB.out
        simp [intOf]; omega
    · obtain ⟨W, w1, w2, w3, w4, w5, w6, w7⟩ := ins_part hw hinc (show A ≤ n by omega) (by omega) hdr hp
      have C := ins_any D cap p N X pad A n wr cm hat (by omega) (by omega) (by omega) (fun x hx => hN x (hp.mem_iff.1 hx)) (Lib.hid (CM.out.later hk))
      rw [hltf, w1, hXl] at C
      have HC := Lib.hid C
      have hblk : ∀ i, Sg lt d (X.take A ++ W ++ X.drop n) (i * 20) 20 := by
        intro i
        have hPl : (X.take A).length = A := by rw [List.length_take]; omega
        have hMl : (slc X A (n - A)).length = n - A := by rw [slc_len]; omega
        have hnil : X.drop n = [] := List.drop_eq_nil_of_le (by omega)
        rcases Nat.lt_trichotomy i k with h | h | h
        · have e := slc_other (X.take A) (slc X A (n - A)) W (X.drop n) (i * 20) 20 (by omega) (.inl (by omega))
          rw [← w6] at e
          unfold Sg
          rw [e]
          have := hS i h
          rwa [Nat.mul_comm 20 i] at this
        · have hik' : i * 20 = A := by omega
          rw [hik']
          have e := slc_mid (X.take A) W (X.drop n) 20 (by omega) (.inr hnil)
          rw [hPl] at e
          unfold Sg
          rw [e]
          refine ⟨w3, w4.trans ?_⟩
          have : slc d A (n - A) = slc d A 20 := by
            unfold slc
            rw [List.take_of_length_le (by rw [List.length_drop]; omega), List.take_of_length_le (by rw [List.length_drop]; omega)]
          rw [this]
        · refine Sg.none (by omega) ?_
          rw [w5.length_eq]; omega
      have HP := Lib.hid (And.intro hblk (And.intro w5 hk))
      have i1 : ¬ ((A + 20 : Nat) : Int) ≤ (n : Int) := by omega
      obtain ⟨B, hB⟩ : ∃ B, B = A + 20 := ⟨_, rfl⟩
      rw [← hB] at i1 ⊢
      clear C w1 w2 w3 w4 w5 w6 w7 hS hk hat hdr hp hXl hn hinc hw hN hlt hltf hA hB hb hblk
      go_wp2_with (go_at_call 54; (with_reducible refine HC.out.mono ?_); rintro e w2 ⟨rfl, h2, k2⟩; have H2 := Lib.hid (And.intro h2 k2); clear h2 k2)
      have H3 := Lib.hid (And.intro HP.out.1 (And.intro HP.out.2.1 (And.intro H2.out.1 (HP.out.2.2.trans H2.out.2))))
      clear HP HC H2 hkn
      go_loopw [6] (fun bv wr => ∃ (bs : Nat) (X : List Nat), 1 ≤ bs ∧ bs ≤ 2000000 ∧ bv = .int .i64 (bs : Nat) ∧ (∀ i, Sg lt d X (i * bs) bs) ∧ X.Perm d ∧ At wr D (nums X ++ pad) ∧ Kp (· = D) w wr) (fun bv _ => 2000000 - (intOf bv).toNat)
      case atStart => exact ⟨20, _, by omega, by omega, rfl, H3.out.1, H3.out.2.1, H3.out.2.2.1, H3.out.2.2.2⟩
      case round =>
        obtain ⟨bs, X, hbs, hbs2, rfl, hS, hp, hat, hk⟩ := hrel
        by_cases hbn : bs < n
        · have H5 := Lib.hid (And.intro hS (And.intro hp (And.intro hat hk)))
          have i2 : (bs : Int) < (n : Int) := by omega
          clear hS hp hat hk H3
          go_wp2
          go_loopw [7, 8] (fun av bv wr => ∃ (k A : Nat) (X : List Nat), A = k * (2 * bs) ∧ A ≤ n ∧ av = .int .i64 (A : Nat) ∧ bv = .int .i64 ((A + 2 * bs : Nat) : Int) ∧ (∀ i, i < k → Sg lt d X (i * (2 * bs)) (2 * bs)) ∧ (∀ i, 2 * k ≤ i → Sg lt d X (i * bs) bs) ∧ X.Perm d ∧ At wr D (nums X ++ pad) ∧ Kp (· = D) w wr) (fun av _ _ => n + 1 - (intOf av).toNat)
          case atStart => exact ⟨0, 0, _, by simp, by omega, rfl, by simp, fun i hi => by omega, fun i _ => H5.out.1 i, H5.out.2.1, H5.out.2.2.1, H5.out.2.2.2⟩
          case round =>
            obtain ⟨k, A, X, hA, hAn, rfl, rfl, hS2, hS1, hp, hat, hk⟩ := hrel
            obtain ⟨hn, hinc, hw, hN, hlt, hltf⟩ := HD.out
            have hXl : X.length = n := by rw [hp.length_eq, ← hn]
            have a1 : (2 * k) * bs = A := by rw [hA, Nat.mul_comm 2 k, Nat.mul_assoc]
            have a2 : (2 * k + 1) * bs = A + bs := by rw [Nat.add_mul, a1, Nat.one_mul]
            have a3 : (2 * (k + 1)) * bs = A + 2 * bs := by rw [Nat.mul_add, Nat.add_mul, a1]
            have a4 : (k + 1) * (2 * bs) = A + 2 * bs := by rw [Nat.add_mul, ← hA, Nat.one_mul]
            have lo : ∀ i, i < k → i * (2 * bs) + 2 * bs ≤ A := fun i hi => by
              have := Nat.mul_le_mul_right (2 * bs) (show i + 1 ≤ k by omega)
              rw [Nat.add_mul, Nat.one_mul] at this; omega
            have hi1 : ∀ i, 2 * (k + 1) ≤ i → A + 2 * bs ≤ i * bs := fun i hi => by
              have := Nat.mul_le_mul_right bs hi
              omega
            have s1 := hS1 (2 * k) (by omega)
            have s2 := hS1 (2 * k + 1) (by omega)
            rw [a1] at s1
            rw [a2] at s2
            have hPl : (X.take A).length = A := by rw [List.length_take]; omega
            have hUl : (slc X A bs).length = min bs (n - A) := by rw [slc_len, hXl]
            have hVl : (slc X (A + bs) bs).length = min bs (n - (A + bs)) := by rw [slc_len, hXl]
            have hXe : X = X.take A ++ slc X A bs ++ slc X (A + bs) bs ++ X.drop (A + 2 * bs) := by
              have := slc_split X A (2 * bs)
              rw [show 2 * bs = bs + bs by omega, slc_join] at this
              rw [show A + 2 * bs = A + (bs + bs) by omega]
              simpa using this
            have hcross : ∀ u ∈ slc X A bs, ∀ v ∈ slc X (A + bs) bs, u < v := fun u hu v hv => slc_lt hinc A bs bs u (s1.2.mem_iff.1 hu) v (s2.2.mem_iff.1 hv)
            have hmem : ∀ v ∈ slc X A bs ++ slc X (A + bs) bs, v < N := fun v hv => by
              refine hN v (hp.mem_iff.1 ?_)
              rw [hXe]
              rcases List.mem_append.1 hv with g | g
              · simp [g]
              · simp [g]
            have hat2 := hat
            rw [hXe] at hat2
            by_cases hb2 : A + 2 * bs ≤ n
            · have C := sym_any D cap p N n pad cm lt hlt hw hd (bs + bs + 1) (X.take A) (slc X A bs) (slc X (A + bs) bs) (X.drop (A + 2 * bs)) wr (by omega) hat2 (by rw [List.length_drop]; omega) (by omega) (by omega) hmem (CM.out.later hk) s1.1 s2.1 hcross
              rw [hPl, show A + (slc X A bs).length = A + bs by omega, show A + bs + (slc X (A + bs) bs).length = A + 2 * bs by omega] at C
              unfold SymOk at C
              have HC := Lib.hid C
              have HQ := Lib.hid (And.intro hS2 (And.intro hS1 (And.intro hp (And.intro hk (And.intro hXe (And.intro hPl (And.intro hUl (And.intro hVl (And.intro s1 (And.intro s2 (And.intro lo (And.intro hi1 (And.intro a4 hXl)))))))))))))
              obtain ⟨m1, hm1⟩ : ∃ m1, m1 = A + bs := ⟨_, rfl⟩
              obtain ⟨b1, hb1⟩ : ∃ b1, b1 = A + 2 * bs := ⟨_, rfl⟩
              rw [← hm1, ← hb1] at HC
              have HM := Lib.hid (And.intro hm1 hb1)
              have e1 : (A : Int) + (bs : Int) = (m1 : Int) := by omega
              have i3 : (b1 : Int) ≤ (n : Int) := by omega
              rw [← hb1]
              have hb1n : b1 ≤ 1000000 := by omega
              have hAn2 : A ≤ 1000000 := by omega
              have hbn2 : bs ≤ 1000000 := by omega
              clear C hS2 hS1 hp hk hat hat2 hXe hPl hUl hVl s1 s2 lo hi1 a1 a2 a3 a4 hXl hcross hmem hn hinc hw hN hlt hltf hA hm1 hb1 hb2 hAn
              go_wp2_with (go_at_call 55; (with_reducible refine HC.out.mono ?_); rintro e w2 ⟨rfl, ⟨W, q1, q2, q3⟩, k2⟩; have H2 := Lib.hid (And.intro q1 (And.intro q2 (And.intro q3 k2))); clear q1 q2 q3 k2)
              obtain ⟨hS2, hS1, hp, hk, hXe, hPl, hUl, hVl, s1, s2, lo, hi1, a4, hXl⟩ := HQ.out
              obtain ⟨m1e, b1e⟩ := HM.out
              subst m1e
              subst b1e
              obtain ⟨q1, q2, q3, k2⟩ := H2.out
              have hWl : W.length = (slc X A bs ++ slc X (A + bs) bs).length := q2.length_eq
              have hoth : ∀ o k', o + k' ≤ A ∨ A + 2 * bs ≤ o → slc (X.take A ++ W ++ X.drop (A + 2 * bs)) o k' = slc X o k' := fun o k' h => by
                have e := slc_other (X.take A) (slc X A bs ++ slc X (A + bs) bs) W (X.drop (A + 2 * bs)) o k' hWl (by rw [hPl, List.length_append]; omega)
                rw [e]
                conv => rhs; rw [hXe]
                rw [← List.append_assoc (X.take A) (slc X A bs)]
              refine ⟨⟨k + 1, A + 2 * bs, _, by omega, by omega, rfl, by go_num, ?_, ?_, ?_, q3, hk.trans k2⟩, by simp [intOf]; omega⟩
              · intro i hi
                by_cases hik : i < k
                · have := hoth (i * (2 * bs)) (2 * bs) (.inl (lo i hik))
                  unfold Sg
                  rw [this]
                  exact hS2 i hik
                · have hik' : i * (2 * bs) = A := by
                    rw [show i = k by omega]
                    have h9 := a4
                    rw [Nat.add_mul, Nat.one_mul] at h9
                    omega
                  rw [hik']
                  exact Sg.merge hXe hPl rfl rfl s1 s2 q1 q2 (by omega) (by omega) (.inl (by omega))
              · intro i hi
                have := hoth (i * bs) bs (.inr (hi1 i hi))
                unfold Sg
                rw [this]
                exact hS1 i (by omega)
              · refine List.Perm.trans ?_ hp
                conv => rhs; rw [hXe]
                rw [List.append_assoc (X.take A) (slc X A bs)]
                exact List.Perm.append_right _ (List.Perm.append_left _ q2)
            · -- the last ones
              have hdn : X.drop (A + 2 * bs) = [] := List.drop_eq_nil_of_le (by omega)
              have hend : ∀ X' : List Nat, X'.Perm d → (∀ i, i < k → Sg lt d X' (i * (2 * bs)) (2 * bs)) → Sg lt d X' A (2 * bs) → ∀ i, Sg lt d X' (i * (2 * bs)) (2 * bs) := fun X' hp' h1 h2 i => by
                rcases Nat.lt_trichotomy i k with h | h | h
                · exact h1 i h
                · rw [h, ← hA]; exact h2
                · have := Nat.mul_le_mul_right (2 * bs) (show k + 1 ≤ i by omega)
                  exact Sg.none (by omega) (by rw [hp'.length_eq]; omega)
              have HEND := Lib.hid hend
              have i3 : ¬ ((A + 2 * bs : Nat) : Int) ≤ (n : Int) := by omega
              obtain ⟨m1, hm1⟩ : ∃ m1, m1 = A + bs := ⟨_, rfl⟩
              obtain ⟨b1, hb1⟩ : ∃ b1, b1 = A + 2 * bs := ⟨_, rfl⟩
              have e1 : (A : Int) + (bs : Int) = (m1 : Int) := by omega
              have hm1n : m1 ≤ 2000000 := by omega
              have hAn2 : A ≤ 1000000 := by omega
              have hbn2 : bs ≤ 1000000 := by omega
              by_cases hmn : A + bs < n
              · rw [hdn, List.append_nil] at hat2
                have C := sym_any D cap p N n pad cm lt hlt hw hd (bs + bs + 1) (X.take A) (slc X A bs) (slc X (A + bs) bs) [] wr (by omega) (by simpa using hat2) (by simp only [List.length_nil]; omega) (by omega) (by omega) hmem (CM.out.later hk) s1.1 s2.1 hcross
                rw [hPl, show A + (slc X A bs).length = A + bs by omega, show A + bs + (slc X (A + bs) bs).length = n by omega] at C
                unfold SymOk at C
                have HC := Lib.hid C
                have HQ := Lib.hid (And.intro hS2 (And.intro hp (And.intro hk (And.intro hXe (And.intro hPl (And.intro hUl (And.intro hVl (And.intro s1 (And.intro s2 (And.intro lo (And.intro hdn hXl)))))))))))
                rw [← hm1] at HC
                have HM := Lib.hid hm1
                have i4 : (m1 : Int) < (n : Int) := by omega
                rw [← hb1] at i3 ⊢
                clear C hS2 hS1 hp hk hat hat2 hXe hPl hUl hVl s1 s2 lo hi1 a1 a2 a3 a4 hXl hcross hmem hn hinc hw hN hlt hltf hA hm1 hb1 hb2 hAn hdn hend hmn
                go_wp2_with (go_at_call 55; (with_reducible refine HC.out.mono ?_); rintro e w2 ⟨rfl, ⟨W, q1, q2, q3⟩, k2⟩; have H2 := Lib.hid (And.intro q1 (And.intro q2 (And.intro q3 k2))); clear q1 q2 q3 k2)
                obtain ⟨hS2, hp, hk, hXe, hPl, hUl, hVl, s1, s2, lo, hdn, hXl⟩ := HQ.out
                have m1e := HM.out
                subst m1e
                obtain ⟨q1, q2, q3, k2⟩ := H2.out
                have hWl : W.length = (slc X A bs ++ slc X (A + bs) bs).length := q2.length_eq
                rw [hdn] at hXe
                have hp' : (X.take A ++ W ++ []).Perm d := by
                  refine List.Perm.trans ?_ hp
                  conv => rhs; rw [hXe]
                  rw [List.append_assoc (X.take A) (slc X A bs)]
                  exact List.Perm.append_right _ (List.Perm.append_left _ q2)
                refine ⟨⟨2 * bs, _, by omega, by omega, by go_num, HEND.out _ hp' ?_ ?_, hp', q3, hk.trans k2⟩, by simp [intOf]; omega⟩
                · intro i hik
                  have e := slc_other (X.take A) (slc X A bs ++ slc X (A + bs) bs) W [] (i * (2 * bs)) (2 * bs) hWl (.inl (by rw [hPl]; exact lo i hik))
                  unfold Sg
                  rw [e, ← List.append_assoc (X.take A), ← hXe]
                  exact hS2 i hik
                · exact Sg.merge hXe hPl rfl rfl s1 s2 q1 q2 (by omega) (by omega) (.inr rfl)
              · have hlast : Sg lt d X A (2 * bs) := by
                  unfold Sg
                  rw [show 2 * bs = bs + bs by omega, slc_join, slc_join, slc_none X (A + bs) bs (by omega), slc_none d (A + bs) bs (by omega), List.append_nil, List.append_nil]
                  exact s1
                have HQ := Lib.hid (And.intro hS2 (And.intro hp (And.intro hk (And.intro hat hlast))))
                have i4 : ¬ (m1 : Int) < (n : Int) := by omega
                rw [← hb1] at i3 ⊢
                clear hS2 hS1 hp hk hat hat2 hXe hPl hUl hVl s1 s2 lo hi1 a1 a2 a3 a4 hXl hcross hmem hn hinc hw hN hlt hltf hA hm1 hb1 hb2 hAn hdn hend hmn hlast
                go_wp2
                obtain ⟨hS2, hp, hk, hat, hlast⟩ := HQ.out
                exact ⟨⟨2 * bs, _, by omega, by omega, by go_num, HEND.out _ hp hS2 hlast, hp, hat, hk⟩, by simp [intOf]; omega⟩
        · have H5 := Lib.hid (And.intro hS (And.intro hp (And.intro hat hk)))
          have i2 : ¬ (bs : Int) < (n : Int) := by omega
          clear hS hp hat hk
          go_wp2
          go_end0
          obtain ⟨hS, hp, hat, hk⟩ := H5.out
          have hXl : X.length = n := by rw [hp.length_eq, HD.out.1]
          have := hS 0
          rw [Nat.zero_mul] at this
          refine ⟨rfl, ⟨X, ?_, hp, hat⟩, hk⟩
          have h0 := this.1
          unfold slc at h0
          rwa [List.drop_zero, List.take_of_length_le (by omega)] at h0
end Go.Proofs.Ytaibdkdmilhloaa
