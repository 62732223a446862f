/- The library's insertion sort with a comparing function, at []int: what it makes of a part of a slice. -/
import Derived.Test.YtaibdkdmilhloaaSrtC
import Derived.WalkKit
import Derived.BigRegion
namespace Go.Proofs.Ytaibdkdmilhloaa
open Go.RowKit Flt
set_option linter.unusedVariables false
def nums (l : List Nat) : List Value := l.map fun (k : Nat) => Value.int .i64 (k : Int)
/-- x comes in from the right, past all that it stands ahead of (the last one first). -/
def insL (lt : Nat → Nat → Bool) (x : Nat) : List Nat → List Nat
  | [] => [x]
  | y :: ys => if lt x y then y :: insL lt x ys else x :: y :: ys
def insR (lt : Nat → Nat → Bool) (x : Nat) (s : List Nat) : List Nat := (insL lt x s.reverse).reverse
def isort (lt : Nat → Nat → Bool) (l : List Nat) : List Nat := l.foldl (fun s x => insR lt x s) []
theorem insL_pass {lt : Nat → Nat → Bool} {x : Nat} (u v : List Nat) (h : ∀ y ∈ u, lt x y = true) : insL lt x (u ++ v) = u ++ insL lt x v := by
  induction u with
  | nil => rfl
  | cons y u ih =>
    show (if lt x y then y :: insL lt x (u ++ v) else _) = _
    rw [if_pos (h y (by simp)), ih (fun z hz => h z (by simp [hz]))]; rfl
theorem insR_end {lt : Nat → Nat → Bool} {x : Nat} (s1 s2 : List Nat) (h : ∀ y ∈ s2, lt x y = true) (h1 : s1 = [] ∨ ∃ r u, s1 = r ++ [u] ∧ lt x u = false) : insR lt x (s1 ++ s2) = s1 ++ x :: s2 := by
  unfold insR
  rw [List.reverse_append, insL_pass _ _ (fun y hy => h y (by simpa using hy))]
  rcases h1 with rfl | ⟨r, u, rfl, hu⟩
  · simp [insL]
  · simp [insL, hu]
theorem insL_len (lt : Nat → Nat → Bool) (x : Nat) (s : List Nat) : (insL lt x s).length = s.length + 1 := by
  induction s with
  | nil => rfl
  | cons y s ih =>
    show (if lt x y then y :: insL lt x s else x :: y :: s).length = _
    split
    · simp [ih]
    · simp
theorem insR_len (lt : Nat → Nat → Bool) (x : Nat) (s : List Nat) : (insR lt x s).length = s.length + 1 := by
  unfold insR; rw [List.length_reverse, insL_len, List.length_reverse]
theorem isort_snoc (lt : Nat → Nat → Bool) (l : List Nat) (x : Nat) : isort lt (l ++ [x]) = insR lt x (isort lt l) := by
  unfold isort; rw [List.foldl_append]; rfl
theorem fold_len (lt : Nat → Nat → Bool) (l : List Nat) : ∀ acc : List Nat, (l.foldl (fun s x => insR lt x s) acc).length = acc.length + l.length := by
  induction l with
  | nil => intro acc; rfl
  | cons x l ih => intro acc; rw [List.foldl_cons, ih, insR_len, List.length_cons]; omega
theorem isort_len (lt : Nat → Nat → Bool) (l : List Nat) : (isort lt l).length = l.length := by
  unfold isort; rw [fold_len]; simp
theorem insL_mem (lt : Nat → Nat → Bool) (x : Nat) (s : List Nat) : ∀ z ∈ insL lt x s, z = x ∨ z ∈ s := by
  induction s with
  | nil => intro z hz; simp [insL] at hz; exact .inl hz
  | cons y s ih =>
    intro z hz
    by_cases h : lt x y = true
    · simp only [insL, h, if_true, List.mem_cons] at hz
      rcases hz with rfl | hz
      · exact .inr (by simp)
      · rcases ih z hz with g | g
        · exact .inl g
        · exact .inr (by simp [g])
    · simp only [insL, h, if_false, Bool.false_eq_true, List.mem_cons] at hz
      rcases hz with g | g | g
      · exact .inl g
      · exact .inr (by simp [g])
      · exact .inr (by simp [g])
theorem fold_mem (lt : Nat → Nat → Bool) (l : List Nat) : ∀ acc : List Nat, ∀ z ∈ l.foldl (fun s x => insR lt x s) acc, z ∈ acc ∨ z ∈ l := by
  induction l with
  | nil => intro acc z hz; exact .inl hz
  | cons x l ih =>
    intro acc z hz
    rw [List.foldl_cons] at hz
    rcases ih _ z hz with g | g
    · unfold insR at g
      rcases insL_mem lt x _ z (by simpa using g) with g | g
      · exact .inr (by simp [g])
      · exact .inl (by simpa using g)
    · exact .inr (by simp [g])
theorem isort_mem (lt : Nat → Nat → Bool) (l : List Nat) : ∀ z ∈ isort lt l, z ∈ l := fun z hz => by
  rcases fold_mem lt l [] z hz with g | g
  · simp at g
  · exact g
theorem nums_at (u v : List Nat) (x : Nat) (pad : List Value) (k : Nat) (hk : k = u.length) : (nums (u ++ x :: v) ++ pad)[k]? = some (.int .i64 (x : Int)) := by
  subst hk
  simp [nums]
theorem nums_swap (u v : List Nat) (x y : Nat) (pad : List Value) (k : Nat) (hk : k = u.length) : ((nums (u ++ x :: y :: v) ++ pad).set (k + 1) (.int .i64 (x : Int))).set k (.int .i64 (y : Int)) = nums (u ++ y :: x :: v) ++ pad := by
  subst hk
  simp [nums]
set_option maxRecDepth 20000 in
theorem ins_any (D cap p N : Nat) (d : List Nat) (pad : List Value) (A B : Nat) (w : World) (cm : Nat → Nat → Int) (hat : At w D (nums d ++ pad)) (hA : A ≤ B) (hB : B ≤ d.length) (hd : d.length ≤ 1000000) (hN : ∀ x ∈ d, x < N)
    (CM : Hid (∀ w' x y, Kp (· = D) w w' → x < N → y < N → Calls Try.prog 49 #[.int .i64 (x : Nat), .int .i64 (y : Nat), .pointer (some ⟨p, 0, none⟩)] w' fun e w'' => e = .returned (.int .i64 (cm x y)) ∧ ∃ n, w'' = w'.drewN n)) :
    Calls Try.prog 54 #[.slice (some ⟨D, 0, none⟩) d.length cap, .int .i64 A, .int .i64 B, .func (.func 49) #[] #[.pointer (some ⟨p, 0, none⟩)]] w fun e w' => e = .returned (.tuple #[]) ∧ At w' D (nums (d.take A ++ isort (fun x y => decide (cm x y < 0)) ((d.take B).drop A) ++ d.drop B) ++ pad) ∧ Kp (· = D) w w' := by
  obtain ⟨L, hL⟩ : ∃ L, L = d.length := ⟨_, rfl⟩
  have HL := Lib.hid hL
  rw [← hL] at hB hd ⊢
  generalize hlt : (fun x y => decide (cm x y < 0)) = lt
  have HLT : Hid (∀ x y, lt x y = decide (cm x y < 0)) := fun x y => by rw [← hlt]
  clear hlt hL
  by_cases hAB : A = B
  · subst hAB
    have e1 : d.take A ++ isort lt ((d.take A).drop A) ++ d.drop A = d := by
      rw [List.drop_eq_nil_of_le (by rw [List.length_take]; omega)]
      simp [isort]
    rw [e1]
    clear e1 CM HL HLT hN
    go_enter Try.func54, Try.ntmps54
    go_wp2
    go_loopw [8] (fun i wr => i = .int .i64 ((A : Int) + 1) ∧ wr = w) (fun i _ => 0)
    case atStart => exact ⟨rfl, rfl⟩
    case round =>
      obtain ⟨rfl, rfl⟩ := hrel
      go_wp2
      go_end0
      exact ⟨rfl, hat, Kp.refl _ _⟩
  have hF : At w D (nums (d.take A ++ isort lt ((d.take (A + 1)).drop A) ++ d.drop (A + 1)) ++ pad) := by
    have hlt : A < d.length := by have := HL.out; omega
    have e2 : (d.take (A + 1)).drop A = [d[A]] := by
      rw [List.take_succ_eq_append_getElem hlt, List.drop_append_of_le_length (by rw [List.length_take]; omega), List.drop_eq_nil_of_le (by rw [List.length_take]; omega)]; rfl
    have e3 : d.take A ++ isort lt ((d.take (A + 1)).drop A) ++ d.drop (A + 1) = d := by
      rw [e2]
      show d.take A ++ [d[A]] ++ d.drop (A + 1) = d
      rw [← List.take_succ_eq_append_getElem hlt, List.take_append_drop]
    rw [e3]; exact hat
  have HN := Lib.hid hN
  have hA1 : A + 1 ≤ B := by omega
  clear hat hA hAB hN
  go_enter Try.func54, Try.ntmps54
  go_wp2
  go_loopw [8] (fun i wr => ∃ m : Nat, A + 1 ≤ m ∧ m ≤ B ∧ i = .int .i64 (m : Nat) ∧ At wr D (nums (d.take A ++ isort lt ((d.take m).drop A) ++ d.drop m) ++ pad) ∧ Kp (· = D) w wr) (fun i _ => B - (intOf i).toNat)
  case atStart => exact ⟨A + 1, by omega, hA1, by simp, hF, Kp.refl _ _⟩
  case round =>
    obtain ⟨m, hm1, hm2, rfl, hat, hk⟩ := hrel
    by_cases hmB : m = B
    · subst hmB
      have h1 := Lib.hid hat
      have h2 := Lib.hid hk
      clear hat hk hF
      go_wp2
      go_end0
      exact ⟨rfl, h1.out, h2.out⟩
    · have hmL : m < d.length := by have := HL.out; omega
      obtain ⟨x, hx⟩ : ∃ x, x = d[m] := ⟨_, rfl⟩
      obtain ⟨s, hs⟩ : ∃ s, s = isort lt ((d.take m).drop A) := ⟨_, rfl⟩
      have hsl : s.length = m - A := by rw [hs, isort_len, List.length_drop, List.length_take]; omega
      have e4 : isort lt ((d.take (m + 1)).drop A) = insR lt x s := by
        rw [List.take_succ_eq_append_getElem hmL, List.drop_append_of_le_length (by rw [List.length_take]; omega), isort_snoc, ← hs, ← hx]
      have e5 : d.drop m = x :: d.drop (m + 1) := by rw [hx]; exact List.drop_eq_getElem_cons hmL
      have hxN : x < N := by rw [hx]; exact HN.out _ (List.getElem_mem hmL)
      have hsN : ∀ z ∈ s, z < N := fun z hz => HN.out z (List.mem_of_mem_take (List.mem_of_mem_drop (isort_mem lt _ z (by rw [← hs]; exact hz))))
      rw [← hs, e5] at hat
      have hpre : (d.take A).length = A := by rw [List.length_take]; omega
      obtain ⟨P, hP⟩ : ∃ P, P = d.take A := ⟨_, rfl⟩
      obtain ⟨V, hV⟩ : ∃ V, V = d.drop (m + 1) := ⟨_, rfl⟩
      rw [← hP, ← hV] at hat
      rw [← hP] at hpre
      have hlen : P.length + s.length + 1 + V.length = d.length := by rw [hpre, hsl, hV, List.length_drop]; omega
      rw [← HL.out] at hlen
      have HE : Hid (nums (P ++ insR lt x s ++ V) ++ pad = nums (d.take A ++ isort lt ((d.take (m + 1)).drop A) ++ d.drop (m + 1)) ++ pad) := by show _ = _; rw [e4, hP, hV]
      have HS := Lib.hid hsN
      have hmB' : m < B := by omega
      have hjm : m = A + s.length := by omega
      clear e4 e5 hF hs hsN hP hV hx hmL hmB
      have i1 : (m : Int) < (B : Int) := by omega
      have HJ := Lib.hid (And.intro hjm (And.intro hpre hlen))
      have HATT := Lib.hid hat
      have HKK := Lib.hid hk
      clear hjm hpre hlen hsl hat hk
      go_wp2
      go_loopw [9] (fun jv wi => ∃ s1 s2 : List Nat, s = s1 ++ s2 ∧ jv = .int .i64 ((A + s1.length : Nat) : Int) ∧ At wi D (nums (P ++ s1 ++ x :: s2 ++ V) ++ pad) ∧ (∀ y ∈ s2, lt x y = true) ∧ Kp (· = D) w wi) (fun jv _ => (intOf jv).toNat)
      case atStart => exact ⟨s, [], by simp, by rw [← HJ.out.1], by simpa using HATT.out, by simp, HKK.out⟩
      case round =>
        obtain ⟨s1, s2, hs, rfl, hat, hp, hk⟩ := hrel
        rcases List.eq_nil_or_concat s1 with rfl | ⟨r, u, hsu⟩
        · -- the front is come to
          have HR : Hid (insR lt x s = x :: s2) := by show _ = _; rw [hs]; exact insR_end [] s2 hp (.inl rfl)
          have H1 := Lib.hid hat
          have H2 := Lib.hid hk
          clear hat hk hp hs
          simp only [List.length_nil, Nat.add_zero]
          go_upto_region 4 with fail
          go_quiet (fail)
          go_wp2
          refine ⟨⟨m + 1, by omega, by omega, by go_num, ?_, H2.out.drewN _⟩, by simp [intOf]; omega⟩
          rw [← HE.out, HR.out]
          have := H1.out.drewN nq
          rwa [List.append_nil] at this
        · rw [List.concat_eq_append] at hsu
          subst hsu
          have huN : u < N := HS.out u (by rw [hs]; simp)
          obtain ⟨q, hq⟩ : ∃ q, q = (P ++ r).length := ⟨_, rfl⟩
          have hq1 : A + (r ++ [u]).length = q + 1 := by rw [hq, List.length_append, List.length_append, HJ.out.2.1]; simp; omega
          have hqL : q + 1 < L := by
            have h1 := HJ.out.2.2
            rw [hs] at h1
            simp only [List.length_append, List.length_cons, List.length_nil] at h1 hq
            omega
          have hqA : A ≤ q := by rw [hq, List.length_append, HJ.out.2.1]; omega
          have eL : nums (P ++ (r ++ [u]) ++ x :: s2 ++ V) ++ pad = nums ((P ++ r) ++ u :: x :: (s2 ++ V)) ++ pad := by simp
          rw [eL] at hat
          have cu : wr.cell? ⟨D, q, none⟩ = some (.int .i64 (u : Int)) := by rw [hat.cell]; exact nums_at _ _ _ _ _ hq
          have cx : wr.cell? ⟨D, q + 1, none⟩ = some (.int .i64 (x : Int)) := by
            rw [hat.cell]
            have := nums_at ((P ++ r) ++ [u]) (s2 ++ V) x pad (q + 1) (by rw [hq]; simp; omega)
            rwa [List.append_assoc (P ++ r)] at this
          have HQ := Lib.hid (And.intro hq hs)
          have H1 := Lib.hid hat
          have H2 := Lib.hid hk
          have H3 := Lib.hid hp
          have CQ := fun n => Calls.quiet_of (n := n) (CM.out (wr.drewN n) x u (hk.drewN n) hxN huN)
          have HX := HLT.out x u
          have i2 : ((q + 1 : Nat) : Int) < (L : Int) := by omega
          have i3 : (q : Int) < (L : Int) := by omega
          have i4 : (A : Int) < (q : Int) + 1 := by omega
          clear hat hk hp hs hq hqL
          rw [hq1]
          generalize cm x u = z at *
          by_cases hz : z < 0
          · rw [decide_eq_true hz] at HX
            have HX' := Lib.hid HX
            clear HX
            go_upto_region 4 with fail
            go_quiet (exact CQ _)
            have h3 := H1.out.drewN nq
            have k3 := H2.out.drewN nq
            clear cu cx CQ H1 H2
            generalize World.drewN _ nq = w3 at *
            have cu : w3.cell? ⟨D, q, none⟩ = some (.int .i64 (u : Int)) := by rw [h3.cell]; exact nums_at _ _ _ _ _ HQ.out.1
            have cx : w3.cell? ⟨D, q + 1, none⟩ = some (.int .i64 (x : Int)) := by
              rw [h3.cell]
              have := nums_at ((P ++ r) ++ [u]) (s2 ++ V) x pad (q + 1) (by rw [HQ.out.1]; simp; omega)
              rwa [List.append_assoc (P ++ r)] at this
            have hf := fun i => h3.frozen i
            have HS3 := Lib.hid (And.intro h3 k3)
            clear h3 k3
            go_upto_region 6 with fail
            go_region
            go_wp2
            go_roundw
            case rel =>
              refine ⟨r, u :: s2, by rw [HQ.out.2]; simp, by rw [HQ.out.1, List.length_append, HJ.out.2.1], ?_, fun y hy => ?_, ?_⟩
              · have h5 := ((HS3.out.1.set (q + 1) (.int .i64 (u : Int))).set q (.int .i64 (x : Int))).drew
                rw [nums_swap (P ++ r) (s2 ++ V) u x pad q HQ.out.1] at h5
                rw [show P ++ r ++ x :: u :: s2 ++ V = (P ++ r) ++ x :: u :: (s2 ++ V) by simp]
                exact h5
              · rcases List.mem_cons.1 hy with rfl | hy
                · exact HX'.out
                · exact H3.out y hy
              · exact ((HS3.out.2.setCell (fun _ => rfl) _).setCell (fun _ => rfl) _).drew
            case measure => simp [intOf]
          · rw [decide_eq_false hz] at HX
            have HR : Hid (insR lt x s = (r ++ [u]) ++ x :: s2) := by show _ = _; rw [HQ.out.2]; exact insR_end (r ++ [u]) s2 H3.out (.inr ⟨r, u, rfl, HX⟩)
            clear HX
            go_upto_region 4 with fail
            go_quiet (exact CQ _)
            go_wp2
            refine ⟨⟨m + 1, by omega, by omega, by go_num, ?_, H2.out.drewN _⟩, by simp [intOf]; omega⟩
            rw [← HE.out, HR.out]
            have := H1.out.drewN nq
            rw [show P ++ (r ++ [u] ++ x :: s2) ++ V = (P ++ r) ++ u :: x :: (s2 ++ V) by simp]
            exact this
end Go.Proofs.Ytaibdkdmilhloaa
