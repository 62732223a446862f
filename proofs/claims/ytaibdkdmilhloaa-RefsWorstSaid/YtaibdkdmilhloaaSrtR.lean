/- The library's swapRange and rotate, at []int. -/
import Derived.Test.YtaibdkdmilhloaaSrtI
namespace Go.Proofs.Ytaibdkdmilhloaa
open Go.RowKit Flt
set_option linter.unusedVariables false
theorem nums_swap2 (u v z : List Nat) (x y : Nat) (pad : List Value) (k j : Nat) (hk : k = u.length) (hj : j = u.length + 1 + v.length) : ((nums (u ++ x :: v ++ y :: z) ++ pad).set k (.int .i64 (y : Int))).set j (.int .i64 (x : Int)) = nums (u ++ y :: v ++ x :: z) ++ pad := by
  subst hk; subst hj
  have e1 : nums (u ++ x :: v ++ y :: z) ++ pad = nums u ++ Value.int .i64 (x : Int) :: (nums v ++ Value.int .i64 (y : Int) :: (nums z ++ pad)) := by simp [nums]
  have e2 : nums (u ++ y :: v ++ x :: z) ++ pad = nums u ++ Value.int .i64 (y : Int) :: (nums v ++ Value.int .i64 (x : Int) :: (nums z ++ pad)) := by simp [nums]
  have hu : (nums u).length = u.length := by simp [nums]
  have hv : (nums v).length = v.length := by simp [nums]
  rw [e1, e2, ← hu, ← hv]
  generalize nums u = U
  generalize nums v = V
  generalize nums z ++ pad = Z
  rw [List.set_append_right _ _ (Nat.le_refl _), Nat.sub_self, List.set_cons_zero]
  rw [List.set_append_right _ _ (by omega), show U.length + 1 + V.length - U.length = V.length + 1 by omega, List.set_cons_succ]
  rw [List.set_append_right _ _ (Nat.le_refl _), Nat.sub_self, List.set_cons_zero]
theorem swap_any (D cap : Nat) (P A M B Q : List Nat) (pad : List Value) (fv : Value) (w : World) (hat : At w D (nums (P ++ A ++ M ++ B ++ Q) ++ pad)) (hAB : A.length = B.length) (L : Nat) (hL : L = (P ++ A ++ M ++ B ++ Q).length) (hd : L ≤ 1000000) :
    Calls Try.prog 57 #[.slice (some ⟨D, 0, none⟩) L cap, .int .i64 (P.length : Nat), .int .i64 ((P.length + A.length + M.length : Nat) : Int), .int .i64 (A.length : Nat), fv] w fun e w' => e = .returned (.tuple #[]) ∧ At w' D (nums (P ++ B ++ M ++ A ++ Q) ++ pad) ∧ Kp (· = D) w w' := by
  obtain ⟨n, hn⟩ : ∃ n, n = A.length := ⟨_, rfl⟩
  obtain ⟨a, ha⟩ : ∃ a, a = P.length := ⟨_, rfl⟩
  obtain ⟨b, hb⟩ : ∃ b, b = P.length + A.length + M.length := ⟨_, rfl⟩
  have hlen : b + n + Q.length = L := by rw [hL, hb, hn]; simp only [List.length_append]; omega
  rw [← hb, ← ha, ← hn]
  have HN := Lib.hid (And.intro hn (And.intro ha (And.intro hb (And.intro hAB hlen))))
  have hab : a + n ≤ b := by omega
  have hbL : b + n ≤ L := by omega
  have HAT := Lib.hid hat
  clear hat hn ha hb hAB hlen hL
  go_enter Try.func57, Try.ntmps57
  go_wp2
  go_loopw [10] (fun i wr => ∃ k : Nat, k ≤ n ∧ i = .int .i64 k ∧ At wr D (nums (P ++ (B.take k ++ A.drop k) ++ M ++ (A.take k ++ B.drop k) ++ Q) ++ pad) ∧ Kp (· = D) w wr) (fun i _ => n - (intOf i).toNat)
  case atStart => exact ⟨0, by omega, rfl, by simpa using HAT.out, Kp.refl _ _⟩
  case round =>
    obtain ⟨k, hkn, rfl, hat, hk⟩ := hrel
    obtain ⟨h1, h2, h3, h4, h5⟩ := HN.out
    by_cases hlt : k < n
    · have hkA : k < A.length := by omega
      have hkB : k < B.length := by omega
      have eA : A.drop k = A[k] :: A.drop (k + 1) := List.drop_eq_getElem_cons hkA
      have eB : B.drop k = B[k] :: B.drop (k + 1) := List.drop_eq_getElem_cons hkB
      have tA : A.take (k + 1) = A.take k ++ [A[k]] := List.take_succ_eq_append_getElem hkA
      have tB : B.take (k + 1) = B.take k ++ [B[k]] := List.take_succ_eq_append_getElem hkB
      rw [eA, eB] at hat
      have HT : Hid (A.take (k + 1) = A.take k ++ [A[k]] ∧ B.take (k + 1) = B.take k ++ [B[k]]) := ⟨tA, tB⟩
      generalize A[k] = x at *
      generalize B[k] = y at *
      have lB : (B.take k).length = k := by rw [List.length_take]; omega
      have lA : (A.take k).length = k := by rw [List.length_take]; omega
      have lA' : (A.drop (k + 1)).length = n - (k + 1) := by rw [List.length_drop]; omega
      have eL : nums (P ++ (B.take k ++ x :: A.drop (k + 1)) ++ M ++ (A.take k ++ y :: B.drop (k + 1)) ++ Q) ++ pad = nums ((P ++ B.take k) ++ x :: (A.drop (k + 1) ++ M ++ A.take k) ++ y :: (B.drop (k + 1) ++ Q)) ++ pad := by simp
      rw [eL] at hat
      have u1 : a + k = (P ++ B.take k).length := by rw [List.length_append, lB]; omega
      have u2 : b + k = (P ++ B.take k).length + 1 + (A.drop (k + 1) ++ M ++ A.take k).length := by
        rw [← u1, List.length_append, List.length_append, lA, lA']; omega
      have cx : wr.cell? ⟨D, a + k, none⟩ = some (.int .i64 (x : Int)) := by
        rw [hat.cell, List.append_assoc (P ++ B.take k)]
        exact nums_at _ _ _ _ _ u1
      have cy : wr.cell? ⟨D, b + k, none⟩ = some (.int .i64 (y : Int)) := by
        rw [hat.cell]
        exact nums_at ((P ++ B.take k) ++ x :: (A.drop (k + 1) ++ M ++ A.take k)) _ _ _ _ (by rw [u2]; simp; omega)
      have hf := fun i => hat.frozen i
      have HS := Lib.hid (And.intro hat (And.intro hk (And.intro u1 u2)))
      have i1 : (a : Int) + (k : Int) < (L : Int) := by omega
      have i2 : (b : Int) + (k : Int) < (L : Int) := by omega
      have i3 : (k : Int) < (n : Int) := by omega
      have i4 : (0 : Int) ≤ (a : Int) + (k : Int) := by omega
      have i5 : (0 : Int) ≤ (b : Int) + (k : Int) := by omega
      have e1 : ((a : Int) + (k : Int)).toNat = a + k := by omega
      have e2 : ((b : Int) + (k : Int)).toNat = b + k := by omega
      have hne : ¬ a = b := by omega
      have hne2 : ¬ b = a := by omega
      clear hat hk eA eB tA tB lA lB lA' eL u1 u2 h1 h2 h3 h4 h5 hkA hkB
      go_upto_region 3 with fail
      go_region
      go_wp2
      go_roundw
      case rel =>
        refine ⟨k + 1, by omega, by go_num, ?_, ?_⟩
        · have h5 := ((HS.out.1.set (a + k) (.int .i64 (y : Int))).set (b + k) (.int .i64 (x : Int))).drew
          rw [nums_swap2 _ _ _ x y pad (a + k) (b + k) HS.out.2.2.1 HS.out.2.2.2] at h5
          rw [HT.out.1, HT.out.2]
          have e6 : P ++ (B.take k ++ [y] ++ A.drop (k + 1)) ++ M ++ (A.take k ++ [x] ++ B.drop (k + 1)) ++ Q = (P ++ B.take k) ++ y :: (A.drop (k + 1) ++ M ++ A.take k) ++ x :: (B.drop (k + 1) ++ Q) := by simp
          rw [e6]
          exact h5
        · exact ((HS.out.2.1.setCell (fun _ => rfl) _).setCell (fun _ => rfl) _).drew
      case measure => simp [intOf]; omega
    · obtain rfl : k = n := by omega
      have q1 := Lib.hid hat
      have q2 := Lib.hid hk
      have eA : A.drop k = [] := List.drop_eq_nil_of_le (by omega)
      have eB : B.drop k = [] := List.drop_eq_nil_of_le (by omega)
      have tA : A.take k = A := List.take_of_length_le (by omega)
      have tB : B.take k = B := List.take_of_length_le (by omega)
      rw [eA, eB, tA, tB, List.append_nil, List.append_nil] at q1
      clear hat hk eA eB tA tB h1 h2 h3 h4 h5
      go_wp2
      go_end0
      exact ⟨rfl, q1.out, q2.out⟩
theorem rotate_any (D cap : Nat) (P U V Q : List Nat) (pad : List Value) (fv : Value) (w : World) (hat : At w D (nums (P ++ U ++ V ++ Q) ++ pad)) (hU : 0 < U.length) (hV : 0 < V.length) (L : Nat) (hL : L = (P ++ U ++ V ++ Q).length) (hd : L ≤ 1000000) :
    Calls Try.prog 56 #[.slice (some ⟨D, 0, none⟩) L cap, .int .i64 (P.length : Nat), .int .i64 ((P.length + U.length : Nat) : Int), .int .i64 ((P.length + U.length + V.length : Nat) : Int), fv] w fun e w' => e = .returned (.tuple #[]) ∧ At w' D (nums (P ++ V ++ U ++ Q) ++ pad) ∧ Kp (· = D) w w' := by
  obtain ⟨a, ha⟩ : ∃ a, a = P.length := ⟨_, rfl⟩
  obtain ⟨m, hm⟩ : ∃ m, m = P.length + U.length := ⟨_, rfl⟩
  obtain ⟨b, hb⟩ : ∃ b, b = P.length + U.length + V.length := ⟨_, rfl⟩
  have hlen : b + Q.length = L := by rw [hL, hb]; simp only [List.length_append]
  have hi0 : (m : Int) - (a : Int) = (U.length : Nat) := by omega
  have hj0 : (b : Int) - (m : Int) = (V.length : Nat) := by omega
  rw [← hb, ← hm, ← ha]
  have hLb : b ≤ L := by omega
  have HH := Lib.hid (And.intro hm (And.intro hb (And.intro hU (And.intro hV (And.intro hat (And.intro ha hlen))))))
  have HI := Lib.hid hi0
  have HJ := Lib.hid hj0
  have hab : a ≤ m := by omega
  have hmb : m ≤ b := by omega
  obtain ⟨F, hF⟩ : ∃ F, F = P ++ V ++ U ++ Q := ⟨_, rfl⟩
  rw [← hF]
  have HF := Lib.hid hF
  clear hat hU hV hL hm hb ha hlen hi0 hj0 hF
  go_enter Try.func56, Try.ntmps56
  go_wp2
  go_loopw [10, 11] (fun iv jv wr => ∃ X Y P' Q' : List Nat, iv = .int .i64 (X.length : Nat) ∧ jv = .int .i64 (Y.length : Nat) ∧ 0 < X.length ∧ 0 < Y.length ∧ At wr D (nums (P' ++ X ++ Y ++ Q') ++ pad) ∧ F = P' ++ Y ++ X ++ Q' ∧ P'.length + X.length = m ∧ m + Y.length + Q'.length = L ∧ Kp (· = D) w wr) (fun iv jv _ => (intOf iv).toNat + (intOf jv).toNat)
  case atStart =>
    obtain ⟨h1, h2, h3, h4, h5, h6, h7⟩ := HH.out
    exact ⟨U, V, P, Q, by rw [HI.out], by rw [HJ.out], h3, h4, h5, HF.out, by omega, by omega, Kp.refl _ _⟩
  case round =>
    obtain ⟨X, Y, P', Q', rfl, rfl, hX, hY, hat, hFe, hm, hL, hk⟩ := hrel
    have hk' := Lib.hid hk
    have hFe' := Lib.hid hFe
    clear hk hFe
    rcases Nat.lt_trichotomy X.length Y.length with h | h | h
    · -- i < j: X changes places with the end of Y
      obtain ⟨Y1, Y2, hY12, hl2⟩ : ∃ Y1 Y2 : List Nat, Y = Y1 ++ Y2 ∧ Y2.length = X.length := ⟨Y.take (Y.length - X.length), Y.drop (Y.length - X.length), (List.take_append_drop _ _).symm, by rw [List.length_drop]; omega⟩
      have HY := Lib.hid hY12
      have hyl : Y1.length + X.length = Y.length := by rw [hY12, List.length_append]; omega
      have hat' : At wr D (nums (P' ++ X ++ Y1 ++ Y2 ++ Q') ++ pad) := by rw [hY12] at hat; simpa using hat
      have C := swap_any D cap P' X Y1 Y2 Q' pad fv wr hat' hl2.symm L (by simp only [List.length_append]; omega) hd
      have HX := Lib.hid (And.intro hX (And.intro hl2 (And.intro hm (And.intro hL hyl))))
      have e1 : (m : Int) - (X.length : Int) = ((P'.length : Nat) : Int) := by omega
      have e2 : (m : Int) + (Y.length : Int) - (X.length : Int) = ((P'.length + X.length + Y1.length : Nat) : Int) := by omega
      have e3 : (Y.length : Int) - (X.length : Int) = ((Y1.length : Nat) : Int) := by omega
      have i1 : ¬ (X.length : Int) = (Y.length : Int) := by omega
      have i2 : ¬ (Y.length : Int) < (X.length : Int) := by omega
      have HC := Lib.hid C
      have hxl : X.length ≤ 1000000 := by omega
      have hyl2 : Y.length ≤ 1000000 := by omega
      have hml : m ≤ 1000000 := by omega
      have hmx : X.length ≤ m := by omega
      clear C hat hat' hY12 hl2 hyl hm hL hX hY h
      generalize P'.length + X.length + Y1.length = q at *
      generalize hx : X.length = xl at *
      generalize hy : Y.length = yl at *
      generalize hy1 : Y1.length = y1l at *
      generalize hp : P'.length = pl at *
      have HL := Lib.hid (And.intro hx (And.intro hy (And.intro hy1 hp)))
      clear hx hy hy1 hp
      go_wp2_with (go_at_call 57; (with_reducible refine HC.out.mono ?_); rintro e w2 ⟨rfl, h2, k2⟩; have H2 := Lib.hid (And.intro h2 k2); clear h2 k2)
      go_roundw
      case rel =>
        obtain ⟨a1, a2, a3, a4, a5⟩ := HX.out
        obtain ⟨b1, b2, b3, b4⟩ := HL.out
        refine ⟨Y2, Y1, P', X ++ Q', by rw [a2], by rw [b3], by omega, by omega, ?_, ?_, by omega, by rw [List.length_append]; omega, hk'.out.trans H2.out.2⟩
        · have h5 := H2.out.1
          rwa [List.append_assoc (P' ++ Y2 ++ Y1)] at h5
        · rw [hFe'.out, HY.out]; simp
      case measure =>
        obtain ⟨a1, a2, a3, a4, a5⟩ := HX.out
        simp [intOf]; omega
    · -- i = j
      have C := swap_any D cap P' X [] Y Q' pad fv wr (by simpa using hat) h L (by simp only [List.length_append, List.length_nil]; omega) hd
      rw [List.length_nil, Nat.add_zero, hm] at C
      have e1 : (m : Int) - (X.length : Int) = ((P'.length : Nat) : Int) := by omega
      have HC := Lib.hid C
      have hxl : X.length ≤ 1000000 := by omega
      have hml : m ≤ 1000000 := by omega
      have hmx : X.length ≤ m := by omega
      rw [← h]
      clear C hat hm hL hX hY h
      generalize X.length = xl at *
      generalize P'.length = pl at *
      go_wp2_with (go_at_call 57; (with_reducible refine HC.out.mono ?_); rintro e w2 ⟨rfl, h2, k2⟩; have H2 := Lib.hid (And.intro h2 k2); clear h2 k2)
      go_end0
      refine ⟨rfl, ?_, hk'.out.trans H2.out.2⟩
      rw [hFe'.out]
      have h5 := H2.out.1
      rwa [List.append_nil] at h5
    · -- i > j: the front of X changes places with Y
      obtain ⟨X1, X2, hX12, hl2⟩ : ∃ X1 X2 : List Nat, X = X1 ++ X2 ∧ X1.length = Y.length := ⟨X.take Y.length, X.drop Y.length, (List.take_append_drop _ _).symm, by rw [List.length_take]; omega⟩
      have HY := Lib.hid hX12
      have hyl : Y.length + X2.length = X.length := by rw [hX12, List.length_append]; omega
      have hat' : At wr D (nums (P' ++ X1 ++ X2 ++ Y ++ Q') ++ pad) := by rw [hX12] at hat; simpa using hat
      have C := swap_any D cap P' X1 X2 Y Q' pad fv wr hat' hl2 L (by simp only [List.length_append]; omega) hd
      rw [show P'.length + X1.length + X2.length = m by omega, hl2] at C
      have HX := Lib.hid (And.intro hX (And.intro hl2 (And.intro hm (And.intro hL (And.intro hyl hY)))))
      have e1 : (m : Int) - (X.length : Int) = ((P'.length : Nat) : Int) := by omega
      have e3 : (X.length : Int) - (Y.length : Int) = ((X2.length : Nat) : Int) := by omega
      have i1 : ¬ (X.length : Int) = (Y.length : Int) := by omega
      have i2 : (Y.length : Int) < (X.length : Int) := by omega
      have HC := Lib.hid C
      have hxl : X.length ≤ 1000000 := by omega
      have hyl2 : Y.length ≤ 1000000 := by omega
      have hml : m ≤ 1000000 := by omega
      have hmx : X.length ≤ m := by omega
      clear C hat hat' hX12 hl2 hyl hm hL hX hY h
      generalize hx : X.length = xl at *
      generalize hy : Y.length = yl at *
      generalize hx2 : X2.length = x2l at *
      generalize hp : P'.length = pl at *
      have HL := Lib.hid (And.intro hx (And.intro hy (And.intro hx2 hp)))
      clear hx hy hx2 hp
      go_wp2_with (go_at_call 57; (with_reducible refine HC.out.mono ?_); rintro e w2 ⟨rfl, h2, k2⟩; have H2 := Lib.hid (And.intro h2 k2); clear h2 k2)
      go_roundw
      case rel =>
        obtain ⟨a1, a2, a3, a4, a5, a6⟩ := HX.out
        obtain ⟨b1, b2, b3, b4⟩ := HL.out
        refine ⟨X2, X1, P' ++ Y, Q', by rw [b3], by rw [a2], by omega, by omega, ?_, ?_, by rw [List.length_append]; omega, by omega, hk'.out.trans H2.out.2⟩
        · exact H2.out.1
        · rw [hFe'.out, HY.out]; simp
      case measure =>
        obtain ⟨a1, a2, a3, a4, a5, a6⟩ := HX.out
        simp [intOf]; omega
end Go.Proofs.Ytaibdkdmilhloaa
