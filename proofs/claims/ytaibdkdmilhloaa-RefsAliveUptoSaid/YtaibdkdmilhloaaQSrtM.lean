/- The library's insertion sort with a comparing function, at []int: what it makes of a part of a slice. -/
import Derived.Test.YtaibdkdmilhloaaQSrtC
import Derived.WalkKit
import Derived.BigRegion
namespace Go.Proofs.Ytaibdkdmilhloaa
open Go.RowKit Flt
set_option linter.unusedVariables false
def nums (l : List Nat) : List Value := l.map fun (k : Nat) => Value.int .i64 (k : Int)
/-- x comes in from the right, past all that it stands ahead of (the last one first). -/
def insL (lt : Nat → Nat → Bool) (x : Nat) : List Nat → List Nat
  | [] => [x]
  | y :: ys => if lt x y then y :: insL lt x ys else x :: y :: ys
def insR (lt : Nat → Nat → Bool) (x : Nat) (s : List Nat) : List Nat := (insL lt x s.reverse).reverse
def isort (lt : Nat → Nat → Bool) (l : List Nat) : List Nat := l.foldl (fun s x => insR lt x s) []
theorem insL_pass {lt : Nat → Nat → Bool} {x : Nat} (u v : List Nat) (h : ∀ y ∈ u, lt x y = true) : insL lt x (u ++ v) = u ++ insL lt x v := by
  induction u with
  | nil => rfl
  | cons y u ih =>
    show (if lt x y then y :: insL lt x (u ++ v) else _) = _
    rw [if_pos (h y (by simp)), ih (fun z hz => h z (by simp [hz]))]; rfl
theorem insR_end {lt : Nat → Nat → Bool} {x : Nat} (s1 s2 : List Nat) (h : ∀ y ∈ s2, lt x y = true) (h1 : s1 = [] ∨ ∃ r u, s1 = r ++ [u] ∧ lt x u = false) : insR lt x (s1 ++ s2) = s1 ++ x :: s2 := by
  unfold insR
  rw [List.reverse_append, insL_pass _ _ (fun y hy => h y (by simpa using hy))]
  rcases h1 with rfl | ⟨r, u, rfl, hu⟩
  · simp [insL]
  · simp [insL, hu]
theorem insL_len (lt : Nat → Nat → Bool) (x : Nat) (s : List Nat) : (insL lt x s).length = s.length + 1 := by
  induction s with
  | nil => rfl
  | cons y s ih =>
    show (if lt x y then y :: insL lt x s else x :: y :: s).length = _
    split
    · simp [ih]
    · simp
theorem insR_len (lt : Nat → Nat → Bool) (x : Nat) (s : List Nat) : (insR lt x s).length = s.length + 1 := by
  unfold insR; rw [List.length_reverse, insL_len, List.length_reverse]
theorem isort_snoc (lt : Nat → Nat → Bool) (l : List Nat) (x : Nat) : isort lt (l ++ [x]) = insR lt x (isort lt l) := by
  unfold isort; rw [List.foldl_append]; rfl
theorem fold_len (lt : Nat → Nat → Bool) (l : List Nat) : ∀ acc : List Nat, (l.foldl (fun s x => insR lt x s) acc).length = acc.length + l.length := by
  induction l with
  | nil => intro acc; rfl
  | cons x l ih => intro acc; rw [List.foldl_cons, ih, insR_len, List.length_cons]; omega
theorem isort_len (lt : Nat → Nat → Bool) (l : List Nat) : (isort lt l).length = l.length := by
  unfold isort; rw [fold_len]; simp
theorem insL_mem (lt : Nat → Nat → Bool) (x : Nat) (s : List Nat) : ∀ z ∈ insL lt x s, z = x ∨ z ∈ s := by
  induction s with
  | nil => intro z hz; simp [insL] at hz; exact .inl hz
  | cons y s ih =>
    intro z hz
    by_cases h : lt x y = true
    · simp only [insL, h, if_true, List.mem_cons] at hz
      rcases hz with rfl | hz
      · exact .inr (by simp)
      · rcases ih z hz with g | g
        · exact .inl g
        · exact .inr (by simp [g])
    · simp only [insL, h, if_false, Bool.false_eq_true, List.mem_cons] at hz
      rcases hz with g | g | g
      · exact .inl g
      · exact .inr (by simp [g])
      · exact .inr (by simp [g])
theorem fold_mem (lt : Nat → Nat → Bool) (l : List Nat) : ∀ acc : List Nat, ∀ z ∈ l.foldl (fun s x => insR lt x s) acc, z ∈ acc ∨ z ∈ l := by
  induction l with
  | nil => intro acc z hz; exact .inl hz
  | cons x l ih =>
    intro acc z hz
    rw [List.foldl_cons] at hz
    rcases ih _ z hz with g | g
    · unfold insR at g
      rcases insL_mem lt x _ z (by simpa using g) with g | g
      · exact .inr (by simp [g])
      · exact .inl (by simpa using g)
    · exact .inr (by simp [g])
theorem isort_mem (lt : Nat → Nat → Bool) (l : List Nat) : ∀ z ∈ isort lt l, z ∈ l := fun z hz => by
  rcases fold_mem lt l [] z hz with g | g
  · simp at g
  · exact g
theorem nums_at (u v : List Nat) (x : Nat) (pad : List Value) (k : Nat) (hk : k = u.length) : (nums (u ++ x :: v) ++ pad)[k]? = some (.int .i64 (x : Int)) := by
  subst hk
  simp [nums]
theorem nums_swap (u v : List Nat) (x y : Nat) (pad : List Value) (k : Nat) (hk : k = u.length) : ((nums (u ++ x :: y :: v) ++ pad).set (k + 1) (.int .i64 (x : Int))).set k (.int .i64 (y : Int)) = nums (u ++ y :: x :: v) ++ pad := by
  subst hk
  simp [nums]
set_option maxRecDepth 20000 in
theorem ins_any (D cap p N : Nat) (d : List Nat) (pad : List Value) (A B : Nat) (w : World) (cm : Nat → Nat → Int) (hat : At w D (nums d ++ pad)) (hA : A ≤ B) (hB : B ≤ d.length) (hd : d.length ≤ 1000000) (hN : ∀ x ∈ d, x < N)
    (CM : Hid (∀ w' x y, Kp (· = D) w w' → x < N → y < N → Calls Try.prog 49 #[.int .i64 (x : Nat), .int .i64 (y : Nat), .pointer (some ⟨p, 0, none⟩)] w' fun e w'' => e = .returned (.int .i64 (cm x y)) ∧ ∃ n, w'' = w'.drewN n)) :
    Calls Try.prog 54 #[.slice (some ⟨D, 0, none⟩) d.length cap, .int .i64 A, .int .i64 B, .func (.func 49) #[] #[.pointer (some ⟨p, 0, none⟩)]] w fun e w' => e = .returned (.tuple #[]) ∧ At w' D (nums (d.take A ++ isort (fun x y => decide (cm x y < 0)) ((d.take B).drop A) ++ d.drop B) ++ pad) ∧ Kp (· = D) w w' := by
  obtain ⟨L, hL⟩ : ∃ L, L = d.length := ⟨_, rfl⟩
  have HL := Lib.hid hL
  rw [← hL] at hB hd ⊢
  generalize hlt : (fun x y => decide (cm x y < 0)) = lt
  have HLT : Hid (∀ x y, lt x y = decide (cm x y < 0)) := fun x y => by rw [← hlt]
  clear hlt hL
  by_cases hAB : A = B
  · subst hAB
    have e1 : d.take A ++ isort lt ((d.take A).drop A) ++ d.drop A = d := by
      rw [List.drop_eq_nil_of_le (by rw [List.length_take]; omega)]
      simp [isort]
    rw [e1]
    clear e1 CM HL HLT hN
    go_enter Try.func54, Try.ntmps54
    go_wp2
    go_loopw [8] (fun i wr => i = .int .i64 ((A : Int) + 1) ∧ wr = w) (fun i _ => 0)
    case atStart => exact ⟨rfl, rfl⟩
    case round =>
      obtain ⟨rfl, rfl⟩ := hrel
      go_wp2
      go_end0
      exact ⟨rfl, hat, Kp.refl _ _⟩
  have hF : At w D (nums (d.take A ++ isort lt ((d.take (A + 1)).drop A) ++ d.drop (A + 1)) ++ pad) := by
    have hlt : A < d.length := by have := HL.out; omega
    have e2 : (d.take (A + 1)).drop A = [d[A]] := by
      rw [List.take_succ_eq_append_getElem hlt, List.drop_append_of_le_length (by rw [List.length_take]; omega), List.drop_eq_nil_of_le (by rw [List.length_take]; omega)]; rfl
    have e3 : d.take A ++ isort lt ((d.take (A + 1)).drop A) ++ d.drop (A + 1) = d := by
      rw [e2]
      show d.take A ++ [d[A]] ++ d.drop (A + 1) = d
      rw [← List.take_succ_eq_append_getElem hlt, List.take_append_drop]
    rw [e3]; exact hat
  have HN := Lib.hid hN
  have hA1 : A + 1 ≤ B := by omega
  clear hat hA hAB hN
  go_enter Try.func54, Try.ntmps54
  go_wp2
  go_loopw [8] (fun i wr => ∃ m : Nat, A + 1 ≤ m ∧ m ≤ B ∧ i = .int .i64 (m : Nat) ∧ At wr D (nums (d.take A ++ isort lt ((d.take m).drop A) ++ d.drop m) ++ pad) ∧ Kp (· = D) w wr) (fun i _ => B - (intOf i).toNat)
  case atStart => exact ⟨A + 1, by omega, hA1, by simp, hF, Kp.refl _ _⟩
  case round =>
    obtain ⟨m, hm1, hm2, rfl, hat, hk⟩ := hrel
    by_cases hmB : m = B
    · subst hmB
      have h1 := Lib.hid hat
      have h2 := Lib.hid hk
      clear hat hk hF
      go_wp2
      go_end0
      exact ⟨rfl, h1.out, h2.out⟩
    · have hmL : m < d.length := by have := HL.out; omega
      obtain ⟨x, hx⟩ : ∃ x, x = d[m] := ⟨_, rfl⟩
      obtain ⟨s, hs⟩ : ∃ s, s = isort lt ((d.take m).drop A) := ⟨_, rfl⟩
      have hsl : s.length = m - A := by rw [hs, isort_len, List.length_drop, List.length_take]; omega
      have e4 : isort lt ((d.take (m + 1)).drop A) = insR lt x s := by
        rw [List.take_succ_eq_append_getElem hmL, List.drop_append_of_le_length (by rw [List.length_take]; omega), isort_snoc, ← hs, ← hx]
      have e5 : d.drop m = x :: d.drop (m + 1) := by rw [hx]; exact List.drop_eq_getElem_cons hmL
      have hxN : x < N := by rw [hx]; exact HN.out _ (List.getElem_mem hmL)
      have hsN : ∀ z ∈ s, z < N := fun z hz => HN.out z (List.mem_of_mem_take (List.mem_of_mem_drop (isort_mem lt _ z (by rw [← hs]; exact hz))))
      rw [← hs, e5] at hat
      have hpre : (d.take A).length = A := by rw [List.length_take]; omega
      obtain ⟨P, hP⟩ : ∃ P, P = d.take A := ⟨_, rfl⟩
      obtain ⟨V, hV⟩ : ∃ V, V = d.drop (m + 1) := ⟨_, rfl⟩
      rw [← hP, ← hV] at hat
      rw [← hP] at hpre
      have hlen : P.length + s.length + 1 + V.length = d.length := by rw [hpre, hsl, hV, List.length_drop]; omega
      rw [← HL.out] at hlen
      have HE : Hid (nums (P ++ insR lt x s ++ V) ++ pad = nums (d.take A ++ isort lt ((d.take (m + 1)).drop A) ++ d.drop (m + 1)) ++ pad) := by show _ = _; rw [e4, hP, hV]
      have HS := Lib.hid hsN
      have hmB' : m < B := by omega
      have hjm : m = A + s.length := by omega
      clear e4 e5 hF hs hsN hP hV hx hmL hmB
      have i1 : (m : Int) < (B : Int) := by omega
      have HJ := Lib.hid (And.intro hjm (And.intro hpre hlen))
      have HATT := Lib.hid hat
      have HKK := Lib.hid hk
      clear hjm hpre hlen hsl hat hk
      go_wp2
      go_loopw [9] (fun jv wi => ∃ s1 s2 : List Nat, s = s1 ++ s2 ∧ jv = .int .i64 ((A + s1.length : Nat) : Int) ∧ At wi D (nums (P ++ s1 ++ x :: s2 ++ V) ++ pad) ∧ (∀ y ∈ s2, lt x y = true) ∧ Kp (· = D) w wi) (fun jv _ => (intOf jv).toNat)
      case atStart => exact ⟨s, [], by simp, by rw [← HJ.out.1], by simpa using HATT.out, by simp, HKK.out⟩
      case round =>
        obtain ⟨s1, s2, hs, rfl, hat, hp, hk⟩ := hrel
        rcases List.eq_nil_or_concat s1 with rfl | ⟨r, u, hsu⟩
        · -- the front is come to
          have HR : Hid (insR lt x s = x :: s2) := by show _ = _; rw [hs]; exact insR_end [] s2 hp (.inl rfl)
          have H1 := Lib.hid hat
          have H2 := Lib.hid hk
          clear hat hk hp hs
          simp only [List.length_nil, Nat.add_zero]
          go_upto_region 4 with fail
          go_quiet (fail)
          go_wp2
          refine ⟨⟨m + 1, by omega, by omega, by go_num, ?_, H2.out.drewN _⟩, by simp [intOf]; omega⟩
          rw [← HE.out, HR.out]
          have := H1.out.drewN nq
          rwa [List.append_nil] at this
        · rw [List.concat_eq_append] at hsu
          subst hsu
          have huN : u < N := HS.out u (by rw [hs]; simp)
          obtain ⟨q, hq⟩ : ∃ q, q = (P ++ r).length := ⟨_, rfl⟩
          have hq1 : A + (r ++ [u]).length = q + 1 := by rw [hq, List.length_append, List.length_append, HJ.out.2.1]; simp; omega
          have hqL : q + 1 < L := by
            have h1 := HJ.out.2.2
            rw [hs] at h1
            simp only [List.length_append, List.length_cons, List.length_nil] at h1 hq
            omega
          have hqA : A ≤ q := by rw [hq, List.length_append, HJ.out.2.1]; omega
          have eL : nums (P ++ (r ++ [u]) ++ x :: s2 ++ V) ++ pad = nums ((P ++ r) ++ u :: x :: (s2 ++ V)) ++ pad := by simp
          rw [eL] at hat
          have cu : wr.cell? ⟨D, q, none⟩ = some (.int .i64 (u : Int)) := by rw [hat.cell]; exact nums_at _ _ _ _ _ hq
          have cx : wr.cell? ⟨D, q + 1, none⟩ = some (.int .i64 (x : Int)) := by
            rw [hat.cell]
            have := nums_at ((P ++ r) ++ [u]) (s2 ++ V) x pad (q + 1) (by rw [hq]; simp; omega)
            rwa [List.append_assoc (P ++ r)] at this
          have HQ := Lib.hid (And.intro hq hs)
          have H1 := Lib.hid hat
          have H2 := Lib.hid hk
          have H3 := Lib.hid hp
          have CQ := fun n => Calls.quiet_of (n := n) (CM.out (wr.drewN n) x u (hk.drewN n) hxN huN)
          have HX := HLT.out x u
          have i2 : ((q + 1 : Nat) : Int) < (L : Int) := by omega
          have i3 : (q : Int) < (L : Int) := by omega
          have i4 : (A : Int) < (q : Int) + 1 := by omega
          clear hat hk hp hs hq hqL
          rw [hq1]
          generalize cm x u = z at *
          by_cases hz : z < 0
          · rw [decide_eq_true hz] at HX
            have HX' := Lib.hid HX
            clear HX
            go_upto_region 4 with fail
            go_quiet (exact CQ _)
            have h3 := H1.out.drewN nq
            have k3 := H2.out.drewN nq
            clear cu cx CQ H1 H2
            generalize World.drewN _ nq = w3 at *
            have cu : w3.cell? ⟨D, q, none⟩ = some (.int .i64 (u : Int)) := by rw [h3.cell]; exact nums_at _ _ _ _ _ HQ.out.1
            have cx : w3.cell? ⟨D, q + 1, none⟩ = some (.int .i64 (x : Int)) := by
              rw [h3.cell]
              have := nums_at ((P ++ r) ++ [u]) (s2 ++ V) x pad (q + 1) (by rw [HQ.out.1]; simp; omega)
              rwa [List.append_assoc (P ++ r)] at this
            have hf := fun i => h3.frozen i
            have HS3 := Lib.hid (And.intro h3 k3)
            clear h3 k3
            go_upto_region 6 with fail
            go_region
            go_wp2
            go_roundw
            case rel =>
              refine ⟨r, u :: s2, by rw [HQ.out.2]; simp, by rw [HQ.out.1, List.length_append, HJ.out.2.1], ?_, fun y hy => ?_, ?_⟩
              · have h5 := ((HS3.out.1.set (q + 1) (.int .i64 (u : Int))).set q (.int .i64 (x : Int))).drew
                rw [nums_swap (P ++ r) (s2 ++ V) u x pad q HQ.out.1] at h5
                rw [show P ++ r ++ x :: u :: s2 ++ V = (P ++ r) ++ x :: u :: (s2 ++ V) by simp]
                exact h5
              · rcases List.mem_cons.1 hy with rfl | hy
                · exact HX'.out
                · exact H3.out y hy
              · exact ((HS3.out.2.setCell (fun _ => rfl) _).setCell (fun _ => rfl) _).drew
            case measure => simp [intOf]
          · rw [decide_eq_false hz] at HX
            have HR : Hid (insR lt x s = (r ++ [u]) ++ x :: s2) := by show _ = _; rw [HQ.out.2]; exact insR_end (r ++ [u]) s2 H3.out (.inr ⟨r, u, rfl, HX⟩)
            clear HX
            go_upto_region 4 with fail
            go_quiet (exact CQ _)
            go_wp2
            refine ⟨⟨m + 1, by omega, by omega, by go_num, ?_, H2.out.drewN _⟩, by simp [intOf]; omega⟩
            rw [← HE.out, HR.out]
            have := H1.out.drewN nq
            rw [show P ++ (r ++ [u] ++ x :: s2) ++ V = (P ++ r) ++ u :: x :: (s2 ++ V) by simp]
            exact this
end Go.Proofs.Ytaibdkdmilhloaa
/- The library's swapRange and rotate, at []int. -/
namespace Go.Proofs.Ytaibdkdmilhloaa
open Go.RowKit Flt
set_option linter.unusedVariables false
theorem nums_swap2 (u v z : List Nat) (x y : Nat) (pad : List Value) (k j : Nat) (hk : k = u.length) (hj : j = u.length + 1 + v.length) : ((nums (u ++ x :: v ++ y :: z) ++ pad).set k (.int .i64 (y : Int))).set j (.int .i64 (x : Int)) = nums (u ++ y :: v ++ x :: z) ++ pad := by
  subst hk; subst hj
  have e1 : nums (u ++ x :: v ++ y :: z) ++ pad = nums u ++ Value.int .i64 (x : Int) :: (nums v ++ Value.int .i64 (y : Int) :: (nums z ++ pad)) := by simp [nums]
  have e2 : nums (u ++ y :: v ++ x :: z) ++ pad = nums u ++ Value.int .i64 (y : Int) :: (nums v ++ Value.int .i64 (x : Int) :: (nums z ++ pad)) := by simp [nums]
  have hu : (nums u).length = u.length := by simp [nums]
  have hv : (nums v).length = v.length := by simp [nums]
  rw [e1, e2, ← hu, ← hv]
  generalize nums u = U
  generalize nums v = V
  generalize nums z ++ pad = Z
  rw [List.set_append_right _ _ (Nat.le_refl _), Nat.sub_self, List.set_cons_zero]
  rw [List.set_append_right _ _ (by omega), show U.length + 1 + V.length - U.length = V.length + 1 by omega, List.set_cons_succ]
  rw [List.set_append_right _ _ (Nat.le_refl _), Nat.sub_self, List.set_cons_zero]
theorem swap_any (D cap : Nat) (P A M B Q : List Nat) (pad : List Value) (fv : Value) (w : World) (hat : At w D (nums (P ++ A ++ M ++ B ++ Q) ++ pad)) (hAB : A.length = B.length) (L : Nat) (hL : L = (P ++ A ++ M ++ B ++ Q).length) (hd : L ≤ 1000000) :
    Calls Try.prog 57 #[.slice (some ⟨D, 0, none⟩) L cap, .int .i64 (P.length : Nat), .int .i64 ((P.length + A.length + M.length : Nat) : Int), .int .i64 (A.length : Nat), fv] w fun e w' => e = .returned (.tuple #[]) ∧ At w' D (nums (P ++ B ++ M ++ A ++ Q) ++ pad) ∧ Kp (· = D) w w' := by
  obtain ⟨n, hn⟩ : ∃ n, n = A.length := ⟨_, rfl⟩
  obtain ⟨a, ha⟩ : ∃ a, a = P.length := ⟨_, rfl⟩
  obtain ⟨b, hb⟩ : ∃ b, b = P.length + A.length + M.length := ⟨_, rfl⟩
  have hlen : b + n + Q.length = L := by rw [hL, hb, hn]; simp only [List.length_append]; omega
  rw [← hb, ← ha, ← hn]
  have HN := Lib.hid (And.intro hn (And.intro ha (And.intro hb (And.intro hAB hlen))))
  have hab : a + n ≤ b := by omega
  have hbL : b + n ≤ L := by omega
  have HAT := Lib.hid hat
  clear hat hn ha hb hAB hlen hL
  go_enter Try.func57, Try.ntmps57
  go_wp2
  go_loopw [10] (fun i wr => ∃ k : Nat, k ≤ n ∧ i = .int .i64 k ∧ At wr D (nums (P ++ (B.take k ++ A.drop k) ++ M ++ (A.take k ++ B.drop k) ++ Q) ++ pad) ∧ Kp (· = D) w wr) (fun i _ => n - (intOf i).toNat)
  case atStart => exact ⟨0, by omega, rfl, by simpa using HAT.out, Kp.refl _ _⟩
  case round =>
    obtain ⟨k, hkn, rfl, hat, hk⟩ := hrel
    obtain ⟨h1, h2, h3, h4, h5⟩ := HN.out
    by_cases hlt : k < n
    · have hkA : k < A.length := by omega
      have hkB : k < B.length := by omega
      have eA : A.drop k = A[k] :: A.drop (k + 1) := List.drop_eq_getElem_cons hkA
      have eB : B.drop k = B[k] :: B.drop (k + 1) := List.drop_eq_getElem_cons hkB
      have tA : A.take (k + 1) = A.take k ++ [A[k]] := List.take_succ_eq_append_getElem hkA
      have tB : B.take (k + 1) = B.take k ++ [B[k]] := List.take_succ_eq_append_getElem hkB
      rw [eA, eB] at hat
      have HT : Hid (A.take (k + 1) = A.take k ++ [A[k]] ∧ B.take (k + 1) = B.take k ++ [B[k]]) := ⟨tA, tB⟩
      generalize A[k] = x at *
      generalize B[k] = y at *
      have lB : (B.take k).length = k := by rw [List.length_take]; omega
      have lA : (A.take k).length = k := by rw [List.length_take]; omega
      have lA' : (A.drop (k + 1)).length = n - (k + 1) := by rw [List.length_drop]; omega
      have eL : nums (P ++ (B.take k ++ x :: A.drop (k + 1)) ++ M ++ (A.take k ++ y :: B.drop (k + 1)) ++ Q) ++ pad = nums ((P ++ B.take k) ++ x :: (A.drop (k + 1) ++ M ++ A.take k) ++ y :: (B.drop (k + 1) ++ Q)) ++ pad := by simp
      rw [eL] at hat
      have u1 : a + k = (P ++ B.take k).length := by rw [List.length_append, lB]; omega
      have u2 : b + k = (P ++ B.take k).length + 1 + (A.drop (k + 1) ++ M ++ A.take k).length := by
        rw [← u1, List.length_append, List.length_append, lA, lA']; omega
      have cx : wr.cell? ⟨D, a + k, none⟩ = some (.int .i64 (x : Int)) := by
        rw [hat.cell, List.append_assoc (P ++ B.take k)]
        exact nums_at _ _ _ _ _ u1
      have cy : wr.cell? ⟨D, b + k, none⟩ = some (.int .i64 (y : Int)) := by
        rw [hat.cell]
        exact nums_at ((P ++ B.take k) ++ x :: (A.drop (k + 1) ++ M ++ A.take k)) _ _ _ _ (by rw [u2]; simp; omega)
      have hf := fun i => hat.frozen i
      have HS := Lib.hid (And.intro hat (And.intro hk (And.intro u1 u2)))
      have i1 : (a : Int) + (k : Int) < (L : Int) := by omega
      have i2 : (b : Int) + (k : Int) < (L : Int) := by omega
      have i3 : (k : Int) < (n : Int) := by omega
      have i4 : (0 : Int) ≤ (a : Int) + (k : Int) := by omega
      have i5 : (0 : Int) ≤ (b : Int) + (k : Int) := by omega
      have e1 : ((a : Int) + (k : Int)).toNat = a + k := by omega
      have e2 : ((b : Int) + (k : Int)).toNat = b + k := by omega
      have hne : ¬ a = b := by omega
      have hne2 : ¬ b = a := by omega
      clear hat hk eA eB tA tB lA lB lA' eL u1 u2 h1 h2 h3 h4 h5 hkA hkB
      go_upto_region 3 with fail
      go_region
      go_wp2
      go_roundw
      case rel =>
        refine ⟨k + 1, by omega, by go_num, ?_, ?_⟩
        · have h5 := ((HS.out.1.set (a + k) (.int .i64 (y : Int))).set (b + k) (.int .i64 (x : Int))).drew
          rw [nums_swap2 _ _ _ x y pad (a + k) (b + k) HS.out.2.2.1 HS.out.2.2.2] at h5
          rw [HT.out.1, HT.out.2]
          have e6 : P ++ (B.take k ++ [y] ++ A.drop (k + 1)) ++ M ++ (A.take k ++ [x] ++ B.drop (k + 1)) ++ Q = (P ++ B.take k) ++ y :: (A.drop (k + 1) ++ M ++ A.take k) ++ x :: (B.drop (k + 1) ++ Q) := by simp
          rw [e6]
          exact h5
        · exact ((HS.out.2.1.setCell (fun _ => rfl) _).setCell (fun _ => rfl) _).drew
      case measure => simp [intOf]; omega
    · obtain rfl : k = n := by omega
      have q1 := Lib.hid hat
      have q2 := Lib.hid hk
      have eA : A.drop k = [] := List.drop_eq_nil_of_le (by omega)
      have eB : B.drop k = [] := List.drop_eq_nil_of_le (by omega)
      have tA : A.take k = A := List.take_of_length_le (by omega)
      have tB : B.take k = B := List.take_of_length_le (by omega)
      rw [eA, eB, tA, tB, List.append_nil, List.append_nil] at q1
      clear hat hk eA eB tA tB h1 h2 h3 h4 h5
      go_wp2
      go_end0
      exact ⟨rfl, q1.out, q2.out⟩
theorem rotate_any (D cap : Nat) (P U V Q : List Nat) (pad : List Value) (fv : Value) (w : World) (hat : At w D (nums (P ++ U ++ V ++ Q) ++ pad)) (hU : 0 < U.length) (hV : 0 < V.length) (L : Nat) (hL : L = (P ++ U ++ V ++ Q).length) (hd : L ≤ 1000000) :
    Calls Try.prog 56 #[.slice (some ⟨D, 0, none⟩) L cap, .int .i64 (P.length : Nat), .int .i64 ((P.length + U.length : Nat) : Int), .int .i64 ((P.length + U.length + V.length : Nat) : Int), fv] w fun e w' => e = .returned (.tuple #[]) ∧ At w' D (nums (P ++ V ++ U ++ Q) ++ pad) ∧ Kp (· = D) w w' := by
  obtain ⟨a, ha⟩ : ∃ a, a = P.length := ⟨_, rfl⟩
  obtain ⟨m, hm⟩ : ∃ m, m = P.length + U.length := ⟨_, rfl⟩
  obtain ⟨b, hb⟩ : ∃ b, b = P.length + U.length + V.length := ⟨_, rfl⟩
  have hlen : b + Q.length = L := by rw [hL, hb]; simp only [List.length_append]
  have hi0 : (m : Int) - (a : Int) = (U.length : Nat) := by omega
  have hj0 : (b : Int) - (m : Int) = (V.length : Nat) := by omega
  rw [← hb, ← hm, ← ha]
  have hLb : b ≤ L := by omega
  have HH := Lib.hid (And.intro hm (And.intro hb (And.intro hU (And.intro hV (And.intro hat (And.intro ha hlen))))))
  have HI := Lib.hid hi0
  have HJ := Lib.hid hj0
  have hab : a ≤ m := by omega
  have hmb : m ≤ b := by omega
  obtain ⟨F, hF⟩ : ∃ F, F = P ++ V ++ U ++ Q := ⟨_, rfl⟩
  rw [← hF]
  have HF := Lib.hid hF
  clear hat hU hV hL hm hb ha hlen hi0 hj0 hF
  go_enter Try.func56, Try.ntmps56
  go_wp2
  go_loopw [10, 11] (fun iv jv wr => ∃ X Y P' Q' : List Nat, iv = .int .i64 (X.length : Nat) ∧ jv = .int .i64 (Y.length : Nat) ∧ 0 < X.length ∧ 0 < Y.length ∧ At wr D (nums (P' ++ X ++ Y ++ Q') ++ pad) ∧ F = P' ++ Y ++ X ++ Q' ∧ P'.length + X.length = m ∧ m + Y.length + Q'.length = L ∧ Kp (· = D) w wr) (fun iv jv _ => (intOf iv).toNat + (intOf jv).toNat)
  case atStart =>
    obtain ⟨h1, h2, h3, h4, h5, h6, h7⟩ := HH.out
    exact ⟨U, V, P, Q, by rw [HI.out], by rw [HJ.out], h3, h4, h5, HF.out, by omega, by omega, Kp.refl _ _⟩
  case round =>
    obtain ⟨X, Y, P', Q', rfl, rfl, hX, hY, hat, hFe, hm, hL, hk⟩ := hrel
    have hk' := Lib.hid hk
    have hFe' := Lib.hid hFe
    clear hk hFe
    rcases Nat.lt_trichotomy X.length Y.length with h | h | h
    · -- i < j: X changes places with the end of Y
      obtain ⟨Y1, Y2, hY12, hl2⟩ : ∃ Y1 Y2 : List Nat, Y = Y1 ++ Y2 ∧ Y2.length = X.length := ⟨Y.take (Y.length - X.length), Y.drop (Y.length - X.length), (List.take_append_drop _ _).symm, by rw [List.length_drop]; omega⟩
      have HY := Lib.hid hY12
      have hyl : Y1.length + X.length = Y.length := by rw [hY12, List.length_append]; omega
      have hat' : At wr D (nums (P' ++ X ++ Y1 ++ Y2 ++ Q') ++ pad) := by rw [hY12] at hat; simpa using hat
      have C := swap_any D cap P' X Y1 Y2 Q' pad fv wr hat' hl2.symm L (by simp only [List.length_append]; omega) hd
      have HX := Lib.hid (And.intro hX (And.intro hl2 (And.intro hm (And.intro hL hyl))))
      have e1 : (m : Int) - (X.length : Int) = ((P'.length : Nat) : Int) := by omega
      have e2 : (m : Int) + (Y.length : Int) - (X.length : Int) = ((P'.length + X.length + Y1.length : Nat) : Int) := by omega
      have e3 : (Y.length : Int) - (X.length : Int) = ((Y1.length : Nat) : Int) := by omega
      have i1 : ¬ (X.length : Int) = (Y.length : Int) := by omega
      have i2 : ¬ (Y.length : Int) < (X.length : Int) := by omega
      have HC := Lib.hid C
      have hxl : X.length ≤ 1000000 := by omega
      have hyl2 : Y.length ≤ 1000000 := by omega
      have hml : m ≤ 1000000 := by omega
      have hmx : X.length ≤ m := by omega
      clear C hat hat' hY12 hl2 hyl hm hL hX hY h
      generalize P'.length + X.length + Y1.length = q at *
      generalize hx : X.length = xl at *
      generalize hy : Y.length = yl at *
      generalize hy1 : Y1.length = y1l at *
      generalize hp : P'.length = pl at *
      have HL := Lib.hid (And.intro hx (And.intro hy (And.intro hy1 hp)))
      clear hx hy hy1 hp
      go_wp2_with (go_at_call 57; (with_reducible refine HC.out.mono ?_); rintro e w2 ⟨rfl, h2, k2⟩; have H2 := Lib.hid (And.intro h2 k2); clear h2 k2)
      go_roundw
      case rel =>
        obtain ⟨a1, a2, a3, a4, a5⟩ := HX.out
        obtain ⟨b1, b2, b3, b4⟩ := HL.out
        refine ⟨Y2, Y1, P', X ++ Q', by rw [a2], by rw [b3], by omega, by omega, ?_, ?_, by omega, by rw [List.length_append]; omega, hk'.out.trans H2.out.2⟩
        · have h5 := H2.out.1
          rwa [List.append_assoc (P' ++ Y2 ++ Y1)] at h5
        · rw [hFe'.out, HY.out]; simp
      case measure =>
        obtain ⟨a1, a2, a3, a4, a5⟩ := HX.out
        simp [intOf]; omega
    · -- i = j
      have C := swap_any D cap P' X [] Y Q' pad fv wr (by simpa using hat) h L (by simp only [List.length_append, List.length_nil]; omega) hd
      rw [List.length_nil, Nat.add_zero, hm] at C
      have e1 : (m : Int) - (X.length : Int) = ((P'.length : Nat) : Int) := by omega
      have HC := Lib.hid C
      have hxl : X.length ≤ 1000000 := by omega
      have hml : m ≤ 1000000 := by omega
      have hmx : X.length ≤ m := by omega
      rw [← h]
      clear C hat hm hL hX hY h
      generalize X.length = xl at *
      generalize P'.length = pl at *
      go_wp2_with (go_at_call 57; (with_reducible refine HC.out.mono ?_); rintro e w2 ⟨rfl, h2, k2⟩; have H2 := Lib.hid (And.intro h2 k2); clear h2 k2)
      go_end0
      refine ⟨rfl, ?_, hk'.out.trans H2.out.2⟩
      rw [hFe'.out]
      have h5 := H2.out.1
      rwa [List.append_nil] at h5
    · -- i > j: the front of X changes places with Y
      obtain ⟨X1, X2, hX12, hl2⟩ : ∃ X1 X2 : List Nat, X = X1 ++ X2 ∧ X1.length = Y.length := ⟨X.take Y.length, X.drop Y.length, (List.take_append_drop _ _).symm, by rw [List.length_take]; omega⟩
      have HY := Lib.hid hX12
      have hyl : Y.length + X2.length = X.length := by rw [hX12, List.length_append]; omega
      have hat' : At wr D (nums (P' ++ X1 ++ X2 ++ Y ++ Q') ++ pad) := by rw [hX12] at hat; simpa using hat
      have C := swap_any D cap P' X1 X2 Y Q' pad fv wr hat' hl2 L (by simp only [List.length_append]; omega) hd
      rw [show P'.length + X1.length + X2.length = m by omega, hl2] at C
      have HX := Lib.hid (And.intro hX (And.intro hl2 (And.intro hm (And.intro hL (And.intro hyl hY)))))
      have e1 : (m : Int) - (X.length : Int) = ((P'.length : Nat) : Int) := by omega
      have e3 : (X.length : Int) - (Y.length : Int) = ((X2.length : Nat) : Int) := by omega
      have i1 : ¬ (X.length : Int) = (Y.length : Int) := by omega
      have i2 : (Y.length : Int) < (X.length : Int) := by omega
      have HC := Lib.hid C
      have hxl : X.length ≤ 1000000 := by omega
      have hyl2 : Y.length ≤ 1000000 := by omega
      have hml : m ≤ 1000000 := by omega
      have hmx : X.length ≤ m := by omega
      clear C hat hat' hX12 hl2 hyl hm hL hX hY h
      generalize hx : X.length = xl at *
      generalize hy : Y.length = yl at *
      generalize hx2 : X2.length = x2l at *
      generalize hp : P'.length = pl at *
      have HL := Lib.hid (And.intro hx (And.intro hy (And.intro hx2 hp)))
      clear hx hy hx2 hp
      go_wp2_with (go_at_call 57; (with_reducible refine HC.out.mono ?_); rintro e w2 ⟨rfl, h2, k2⟩; have H2 := Lib.hid (And.intro h2 k2); clear h2 k2)
      go_roundw
      case rel =>
        obtain ⟨a1, a2, a3, a4, a5, a6⟩ := HX.out
        obtain ⟨b1, b2, b3, b4⟩ := HL.out
        refine ⟨X2, X1, P' ++ Y, Q', by rw [b3], by rw [a2], by omega, by omega, ?_, ?_, by rw [List.length_append]; omega, by omega, hk'.out.trans H2.out.2⟩
        · exact H2.out.1
        · rw [hFe'.out, HY.out]; simp
      case measure =>
        obtain ⟨a1, a2, a3, a4, a5, a6⟩ := HX.out
        simp [intOf]; omega
end Go.Proofs.Ytaibdkdmilhloaa
/- Merging: what two sorted lists come to. No program in sight. -/
namespace Go.Proofs.Ytaibdkdmilhloaa
set_option linter.unusedVariables false
/-- A weak order: what is ahead. -/
structure Wk (lt : Nat → Nat → Bool) : Prop where
  asym : ∀ {x y}, lt x y = true → lt y x = false
  neg : ∀ {x y z}, lt x y = false → lt y z = false → lt x z = false
/-- Ahead, or beside it and the lower one. -/
def Rr (lt : Nat → Nat → Bool) (x y : Nat) : Prop := lt x y = true ∨ (lt y x = false ∧ x < y)
theorem Rr.not {lt : Nat → Nat → Bool} (hw : Wk lt) {x y : Nat} (h : Rr lt x y) : lt y x = false := by
  rcases h with h | h
  · exact hw.asym h
  · exact h.1
theorem Wk.irr {lt : Nat → Nat → Bool} (hw : Wk lt) (x : Nat) : lt x x = false := by
  cases h : lt x x
  · rfl
  · have := hw.asym h; rw [h] at this; cases this
/-- all of one list ahead of all of the other, told by their edges -/
theorem cross_low {lt : Nat → Nat → Bool} (hw : Wk lt) {U V : List Nat} (hU : U.Pairwise (Rr lt)) (hV : V.Pairwise (Rr lt)) (hi : ∀ u ∈ U, ∀ v ∈ V, u < v)
    (h : U = [] ∨ V = [] ∨ ∃ U' u v V', U = U' ++ [u] ∧ V = v :: V' ∧ lt v u = false) : ∀ x ∈ U, ∀ y ∈ V, Rr lt x y := by
  rcases h with rfl | rfl | ⟨U', u, v, V', rfl, rfl, h⟩
  · intro x hx; simp at hx
  · intro x _ y hy; simp at hy
  · intro x hx y hy
    right
    refine ⟨?_, hi x hx y hy⟩
    have h1 : lt u x = false := by
      rcases List.mem_append.1 hx with g | g
      · exact ((List.pairwise_append.1 hU).2.2 x g u (by simp)).not hw
      · simp at g; subst g; exact hw.irr _
    have h2 : lt y v = false := by
      rcases List.mem_cons.1 hy with g | g
      · subst g; exact hw.irr _
      · exact ((List.pairwise_cons.1 hV).1 y g).not hw
    exact hw.neg (hw.neg h2 h) h1
theorem cross_high {lt : Nat → Nat → Bool} (hw : Wk lt) {U V : List Nat} (hU : U.Pairwise (Rr lt)) (hV : V.Pairwise (Rr lt))
    (h : U = [] ∨ V = [] ∨ ∃ u U' V' v, U = u :: U' ∧ V = V' ++ [v] ∧ lt v u = true) : ∀ y ∈ V, ∀ x ∈ U, Rr lt y x := by
  rcases h with rfl | rfl | ⟨u, U', V', v, rfl, rfl, h⟩
  · intro y _ x hx; simp at hx
  · intro y hy; simp at hy
  · intro y hy x hx
    left
    have h1 : lt v y = false := by
      rcases List.mem_append.1 hy with g | g
      · exact ((List.pairwise_append.1 hV).2.2 y g v (by simp)).not hw
      · simp at g; subst g; exact hw.irr _
    have h2 : lt x u = false := by
      rcases List.mem_cons.1 hx with g | g
      · subst g; exact hw.irr _
      · exact ((List.pairwise_cons.1 hU).1 x g).not hw
    cases hyx : lt y x
    · have := hw.neg (hw.neg h1 hyx) h2
      rw [h] at this; cases this
    · rfl
theorem join_two {lt : Nat → Nat → Bool} {W1 W2 A B : List Nat} (h1 : W1.Pairwise (Rr lt)) (h2 : W2.Pairwise (Rr lt)) (p1 : W1.Perm A) (p2 : W2.Perm B) (hc : ∀ x ∈ A, ∀ y ∈ B, Rr lt x y) : (W1 ++ W2).Pairwise (Rr lt) :=
  List.pairwise_append.2 ⟨h1, h2, fun x hx y hy => hc x (p1.mem_iff.1 hx) y (p2.mem_iff.1 hy)⟩
/-- both halves of two sorted lists, merged each, are the lists merged -/
theorem merge_law {lt : Nat → Nat → Bool} (hw : Wk lt) {U1 U2 V1 V2 W1 W2 : List Nat} (hU : (U1 ++ U2).Pairwise (Rr lt)) (hV : (V1 ++ V2).Pairwise (Rr lt)) (hi : ∀ u ∈ U1 ++ U2, ∀ v ∈ V1 ++ V2, u < v)
    (c1 : U1 = [] ∨ V2 = [] ∨ ∃ U' u v V', U1 = U' ++ [u] ∧ V2 = v :: V' ∧ lt v u = false)
    (c2 : U2 = [] ∨ V1 = [] ∨ ∃ u U' V' v, U2 = u :: U' ∧ V1 = V' ++ [v] ∧ lt v u = true)
    (h1 : W1.Pairwise (Rr lt)) (h2 : W2.Pairwise (Rr lt)) (p1 : W1.Perm (U1 ++ V1)) (p2 : W2.Perm (U2 ++ V2)) :
    (W1 ++ W2).Pairwise (Rr lt) ∧ (W1 ++ W2).Perm ((U1 ++ U2) ++ (V1 ++ V2)) := by
  obtain ⟨u1, u2, u3⟩ := List.pairwise_append.1 hU
  obtain ⟨v1, v2, v3⟩ := List.pairwise_append.1 hV
  refine ⟨join_two h1 h2 p1 p2 ?_, ?_⟩
  · intro x hx y hy
    rcases List.mem_append.1 hx with hx | hx <;> rcases List.mem_append.1 hy with hy | hy
    · exact u3 x hx y hy
    · exact cross_low hw u1 v2 (fun u hu v hv => hi u (by simp [hu]) v (by simp [hv])) c1 x hx y hy
    · exact cross_high hw u2 v1 c2 x hx y hy
    · exact v3 x hx y hy
  · refine (p1.append p2).trans ?_
    rw [List.append_assoc, List.append_assoc]
    refine List.Perm.append_left _ ?_
    rw [← List.append_assoc, ← List.append_assoc]
    exact List.Perm.append_right _ List.perm_append_comm
/-- one that comes in among others -/
theorem one_in {lt : Nat → Nat → Bool} (hw : Wk lt) {x : Nat} {V1 V2 : List Nat} (hV : (V1 ++ V2).Pairwise (Rr lt)) (hi : ∀ v ∈ V1 ++ V2, x < v)
    (c1 : V2 = [] ∨ ∃ v V', V2 = v :: V' ∧ lt v x = false) (c2 : V1 = [] ∨ ∃ V' v, V1 = V' ++ [v] ∧ lt v x = true) : (V1 ++ x :: V2).Pairwise (Rr lt) ∧ (V1 ++ x :: V2).Perm ([x] ++ (V1 ++ V2)) := by
  obtain ⟨v1, v2, v3⟩ := List.pairwise_append.1 hV
  have a1 : ∀ y ∈ V1, Rr lt y x := fun y hy => cross_high hw (U := [x]) (V := V1) (by simp) v1 (by
    rcases c2 with h | ⟨V', v, h, g⟩
    · exact .inr (.inl h)
    · exact .inr (.inr ⟨x, [], V', v, rfl, h, g⟩)) y hy x (by simp)
  have a2 : ∀ y ∈ V2, Rr lt x y := fun y hy => cross_low hw (U := [x]) (V := V2) (by simp) v2 (fun u hu v hv => by simp at hu; subst hu; exact hi v (by simp [hv])) (by
    rcases c1 with h | ⟨v, V', h, g⟩
    · exact .inr (.inl h)
    · exact .inr (.inr ⟨[], x, v, V', rfl, h, g⟩)) x (by simp) y hy
  refine ⟨List.pairwise_append.2 ⟨v1, List.pairwise_cons.2 ⟨a2, v2⟩, fun y hy z hz => ?_⟩, ?_⟩
  · rcases List.mem_cons.1 hz with rfl | hz
    · exact a1 y hy
    · exact v3 y hy z hz
  · exact List.perm_middle
theorem one_in' {lt : Nat → Nat → Bool} (hw : Wk lt) {x : Nat} {U1 U2 : List Nat} (hU : (U1 ++ U2).Pairwise (Rr lt)) (hi : ∀ u ∈ U1 ++ U2, u < x)
    (c1 : U1 = [] ∨ ∃ U' u, U1 = U' ++ [u] ∧ lt x u = false) (c2 : U2 = [] ∨ ∃ u U', U2 = u :: U' ∧ lt x u = true) : (U1 ++ x :: U2).Pairwise (Rr lt) ∧ (U1 ++ x :: U2).Perm ((U1 ++ U2) ++ [x]) := by
  obtain ⟨u1, u2, u3⟩ := List.pairwise_append.1 hU
  have a1 : ∀ y ∈ U1, Rr lt y x := fun y hy => cross_low hw (U := U1) (V := [x]) u1 (by simp) (fun u hu v hv => by simp at hv; subst hv; exact hi u (by simp [hu])) (by
    rcases c1 with h | ⟨U', u, h, g⟩
    · exact .inl h
    · exact .inr (.inr ⟨U', u, x, [], h, rfl, g⟩)) y hy x (by simp)
  have a2 : ∀ y ∈ U2, Rr lt x y := fun y hy => cross_high hw (U := U2) (V := [x]) u2 (by simp) (by
    rcases c2 with h | ⟨u, U', h, g⟩
    · exact .inl h
    · exact .inr (.inr ⟨u, U', [], x, h, rfl, g⟩)) x (by simp) y hy
  refine ⟨List.pairwise_append.2 ⟨u1, List.pairwise_cons.2 ⟨a2, u2⟩, fun y hy z hz => ?_⟩, ?_⟩
  · rcases List.mem_cons.1 hz with rfl | hz
    · exact a1 y hy
    · exact u3 y hy z hz
  · rw [List.append_assoc]
    exact List.Perm.append_left _ (List.perm_append_comm (l₁ := [x]) (l₂ := U2))
end Go.Proofs.Ytaibdkdmilhloaa
