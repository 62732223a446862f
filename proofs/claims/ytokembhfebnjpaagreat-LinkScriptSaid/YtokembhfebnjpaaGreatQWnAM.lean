/- Package window: the contracts of its small methods. -/
import Derived.Test.YtokembhfebnjpaaGreatQMemM
import Derived.Test.YtokembhfebnjpaaGreatQRtBM
import Derived.Test.YtokembhfebnjpaaGreatQSpr
namespace Go.Proofs.YtokembhfebnjpaaGreat
set_option maxRecDepth 20000
open Go.RowKit Flt
set_option linter.unusedVariables false
theorem wnone_at (b : Nat) (s : Int) (w : World) (h : w.cell? ⟨b, 0, none⟩ = some (.int .i64 s)) :
 Calls Tryz.prog 48 #[.pointer (some ⟨b, 0, none⟩)] w fun e w' => e = .returned (.bool (s == 0)) ∧ w = w' := by
 go_enter Tryz.func48, Tryz.ntmps48
 go_wp2
 go_ret
 exact ⟨rfl, rfl⟩
theorem wnone_no (b s : Nat) (w : World) (h : w.cell? ⟨b, 0, none⟩ = some (.int .i64 s)) (hs : 1 ≤ s) :
 Calls Tryz.prog 48 #[.pointer (some ⟨b, 0, none⟩)] w fun e w' => e = .returned (.bool false) ∧ w = w' := by
 have := wnone_at b s w h
 rwa [show ((s : Int) == 0) = false by rw [beq_eq_false_iff_ne]; omega] at this
def timeB (n : Int) : Bool := decide (0 ≤ n) && decide (n ≤ 2147483647)
theorem timeB_yes {n : Int} (h : timeB n = true) : 0 ≤ n ∧ n ≤ 2147483647 := by simpa [timeB] using h
theorem timeB_of {n : Nat} (h : n ≤ 2147483647) : timeB n = true := by simp [timeB]; omega
theorem wtime_any (n : Int) (w : World) : Calls Tryz.prog 123 #[.int .i64 n] w fun e w' => e = .returned (.bool (timeB n)) ∧ w = w' := by
 by_cases h : 0 ≤ n
 · have e : timeB n = decide (n ≤ 2147483647) := by simp [timeB, h]
   rw [e]
   go_enter Tryz.func123, Tryz.ntmps123
   go_wp2
   go_ret
   exact ⟨rfl, rfl⟩
 · have e : timeB n = false := by simp [timeB, h]
   rw [e]
   go_enter Tryz.func123, Tryz.ntmps123
   go_wp2
   go_ret
   exact ⟨rfl, rfl⟩
def dueA (p : Pk) (now : Nat) : Nat := if p.times = 0 then now else p.att + p.wt
theorem pdue_any (p : Pk) (now : Nat) (w : World) (hat : At w p.g (pkC p)) (ha : p.att ≤ 2147483647) (hw : p.wt ≤ 60) :
 Calls Tryz.prog 133 #[.pointer (some ⟨p.g, 0, none⟩), .int .i64 now] w fun e w' => e = .returned (.int .i64 (dueA p now)) ∧ ∃ k, w' = w.drewN k := by
 have h2 := hat.cell 2
 have h3 := hat.cell 3
 have h4 := hat.cell 4
 simp only [pkC, List.getElem?_cons_succ, List.getElem?_cons_zero] at h2 h3 h4
 by_cases h0 : p.times = 0
 · have e : dueA p now = now := if_pos h0
   rw [e]
   rw [h0] at h2
   clear e h0
   go_enter Tryz.func133, Tryz.ntmps133
   go_wp2
   go_ret
   exact ⟨rfl, 0, rfl⟩
 · have e : ((dueA p now : Nat) : Int) = p.att + p.wt := by unfold dueA; rw [if_neg h0]; simp
   rw [e]
   have hz : ((p.times : Int) == 0) = false := by rw [beq_eq_false_iff_ne]; omega
   have hs : IntKind.i64.wrap ((p.att : Int) + p.wt) = p.att + p.wt := IntWalk.i64_in _ (by omega)
   clear e
   go_enter Tryz.func133, Tryz.ntmps133
   go_wp2_with fail
   go_quiet (fail)
   go_wp2
   go_ret
   exact ⟨rfl, _, rfl⟩
def wk (n t : Nat) : Nat := min (n * 2 ^ (t - 1)) 60
theorem wk_bd {n t : Nat} (h2 : 2 ≤ n) : 2 ≤ wk n t ∧ wk n t ≤ 60 := by
 have : 1 ≤ 2 ^ (t - 1) := Nat.one_le_two_pow
 have : n * 1 ≤ n * 2 ^ (t - 1) := Nat.mul_le_mul_left _ this
 unfold wk; omega
theorem wk_end {n t j c : Nat} (hc : c = n * 2 ^ j) (hj : j + 1 ≤ t) (h : j + 1 = t ∨ 60 ≤ c) : min c 60 = wk n t := by
 unfold wk
 rcases h with h | h
 · rw [hc, show t - 1 = j by omega]
 · have : 2 ^ j ≤ 2 ^ (t - 1) := Nat.pow_le_pow_right (by omega) (by omega)
   have := Nat.mul_le_mul_left n this
   omega
def waitN (m s : Nat) : Nat := (waitF m s).toNat
theorem waitN_bd (m s : Nat) : 2 ≤ waitN m s ∧ waitN m s ≤ 60 ∧ waitF m s = (waitN m s : Nat) := by
 have := wait_range m s
 unfold waitN; omega
set_option maxHeartbeats 1000000 in
theorem wwait_any (b m s t : Nat) (w : World) (h3 : w.cell? ⟨b, 3, none⟩ = some (.float .f64 m)) (h4 : w.cell? ⟨b, 4, none⟩ = some (.float .f64 s)) (ht : 1 ≤ t) (ht2 : t ≤ 4611686018427387904) :
 Calls Tryz.prog 134 #[.pointer (some ⟨b, 0, none⟩), .int .i64 t] w fun e w' => e = .returned (.int .i64 (wk (waitN m s) t)) ∧ ∃ k, w' = w.drewN k := by
 obtain ⟨n2, n60, he⟩ := waitN_bd m s
 have C := fun w' n => Calls.quiet_of (n := n) (wait_any m s (World.drewN w' n))
 rw [he] at C
 obtain ⟨n, hn⟩ : ∃ n, n = waitN m s := ⟨_, rfl⟩
 rw [← hn] at C n2 n60 ⊢
 obtain ⟨R, hR⟩ : ∃ R, R = wk n t := ⟨_, rfl⟩
 rw [← hR]
 have HR := Lib.hid hR
 clear he hn hR
 go_enter Tryz.func134, Tryz.ntmps134
 go_wp2_with fail
 go_quiet ((go_at_call 137; exact C _ _))
 clear C
 go_wp2_with fail
 go_loop [1, 5] (fun k c => ∃ j c' : Nat, j + 1 ≤ t ∧ k = .int .i64 ((t - j : Nat) : Nat) ∧ c = .int .i64 c' ∧ c' = n * 2 ^ j ∧ c' ≤ 120) (fun k _ => (intOf k).toNat)
 case atStart => exact ⟨0, n, by omega, by simp, rfl, by simp, by omega⟩
 case round =>
  obtain ⟨j, c', hj, rfl, rfl, hc, hc2⟩ := hrel
  obtain ⟨k, hk⟩ : ∃ k, k = t - j := ⟨_, rfl⟩
  rw [← hk]
  have hkb : 1 ≤ k ∧ k ≤ 4611686018427387904 := by omega
  obtain ⟨hk1, hk2⟩ := hkb
  have HC := Lib.hid (And.intro hc (And.intro hk hj))
  clear hc hk hj
  by_cases hgo : 1 < k ∧ c' < 60
  · obtain ⟨g1, g2⟩ := hgo
    go_wp2
    go_round
    case rel =>
     obtain ⟨q1, q2, q3⟩ := HC.out
     exact ⟨j + 1, c' * 2, by omega, by rw [show t - (j + 1) = k - 1 by omega]; congr 1; omega, by go_num, by rw [q1, Nat.pow_succ, Nat.mul_assoc], by omega⟩
    case measure => simp [intOf]; omega
  · have hm : min c' 60 = wk n t := by
     obtain ⟨q1, q2, q3⟩ := HC.out
     exact wk_end q1 q3 (by omega)
    by_cases h1 : 1 < k
    · have h6 : ¬ c' < 60 := by omega
      have hm2 : wk n t = 60 := by omega
      have HM := Lib.hid hm2
      clear hm hm2 hgo
      go_wp2
      all_goals
       go_ret
       exact ⟨ret_int (by have q1 := HM.out; have q2 := HR.out; omega), _, rfl⟩
    · by_cases h6 : c' < 60
      · have hm2 : wk n t = c' := by omega
        have HM := Lib.hid hm2
        clear hm hm2 hgo
        go_wp2
        all_goals
         go_ret
         exact ⟨ret_int (by have q1 := HM.out; have q2 := HR.out; omega), _, rfl⟩
      · have hm2 : wk n t = 60 := by omega
        have HM := Lib.hid hm2
        clear hm hm2 hgo
        go_wp2
        all_goals
         go_ret
         exact ⟨ret_int (by have q1 := HM.out; have q2 := HR.out; omega), _, rfl⟩
def dueB (p : Pk) (now : Nat) : Bool := decide (dueA p now ≤ now)
def sentP (x : Wn) (p : Pk) : Pk := { p with times := p.times + 1, att := x.now, wt := wk (waitN x.m x.s) (p.times + 1) }
def dueI (x : Wn) : List Nat := (List.range x.l.length).filter (fun i => dueB (pk x.l i) x.now)
def stL (x : Wn) (pre : List Nat) : List Pk := (List.range x.l.length).map (fun i => if i ∈ pre then sentP x (pk x.l i) else pk x.l i)
def stW (x : Wn) (pre : List Nat) : Wn := { x with l := stL x pre }
def dueW (x : Wn) : Wn := stW x (dueI x)
theorem stL_len (x : Wn) (pre : List Nat) : (stL x pre).length = x.l.length := by simp [stL]
theorem stL_at {x : Wn} {pre : List Nat} {i : Nat} (h : i < x.l.length) : pk (stL x pre) i = if i ∈ pre then sentP x (pk x.l i) else pk x.l i := by
 have : (stL x pre)[i]? = some (if i ∈ pre then sentP x (pk x.l i) else pk x.l i) := by
  unfold stL; rw [List.getElem?_map, List.getElem?_range h]; rfl
 have h2 := pk_at (l := stL x pre) (i := i) (by rw [stL_len]; exact h)
 rw [this] at h2
 exact (Option.some.inj h2).symm
theorem pk_ext {a b : List Pk} (hl : a.length = b.length) (h : ∀ i, i < a.length → pk a i = pk b i) : a = b := by
 apply List.ext_getElem? 
 intro i
 by_cases hi : i < a.length
 · rw [pk_at hi, pk_at (hl ▸ hi), h i hi]
 · rw [List.getElem?_eq_none (by omega), List.getElem?_eq_none (by omega)]
theorem stL_nil (x : Wn) : stL x [] = x.l := pk_ext (stL_len x []) fun i hi => by
 rw [stL_len] at hi
 rw [stL_at hi, if_neg (by simp)]
theorem stW_nil (x : Wn) : stW x [] = x := by unfold stW; rw [stL_nil]
theorem stL_snoc {x : Wn} {pre : List Nat} {i : Nat} (h : i < x.l.length) : (stL x pre).set i (sentP x (pk x.l i)) = stL x (pre ++ [i]) := pk_ext (by simp [stL_len]) fun j hj => by
 simp only [List.length_set, stL_len] at hj
 rw [pk_set (by rw [stL_len]; exact h), stL_at hj, stL_at hj]
 by_cases hji : j = i
 · subst hji; simp
 · rw [if_neg hji]
   by_cases hp : j ∈ pre
   · rw [if_pos hp, if_pos (by simp [hp])]
   · rw [if_neg hp, if_neg (by simp [hp, hji])]
theorem dueI_pre (x : Wn) {k : Nat} (hk : k ≤ x.l.length) : (List.range k).filter (fun i => dueB (pk x.l i) x.now) <+: dueI x := by
 unfold dueI
 have : List.range x.l.length = List.range k ++ (List.range (x.l.length - k)).map (k + ·) := by
  rw [← List.range_add, show k + (x.l.length - k) = x.l.length by omega]
 rw [this, List.filter_append]
 exact List.prefix_append _ _
def preI (x : Wn) (k : Nat) : List Nat := (List.range k).filter (fun i => dueB (pk x.l i) x.now)
theorem preI_yes {x : Wn} {k : Nat} (h : dueB (pk x.l k) x.now = true) : preI x (k + 1) = preI x k ++ [k] := by
 unfold preI; rw [List.range_succ, List.filter_append]; simp [h]
theorem preI_no {x : Wn} {k : Nat} (h : dueB (pk x.l k) x.now = false) : preI x (k + 1) = preI x k := by
 unfold preI; rw [List.range_succ, List.filter_append]; simp [h]
theorem preI_not (x : Wn) (k : Nat) : k ∉ preI x k := fun h => by
 unfold preI at h
 rw [List.mem_filter, List.mem_range] at h
 omega
theorem preI_lt {x : Wn} {k i : Nat} (h : i ∈ preI x k) : i < k ∧ dueB (pk x.l i) x.now = true := by
 unfold preI at h
 rw [List.mem_filter, List.mem_range] at h
 exact h
theorem preI_all (x : Wn) : preI x x.l.length = dueI x := rfl
theorem preI_zero (x : Wn) : preI x 0 = [] := rfl
theorem stW_l (x : Wn) (pre : List Nat) : (stW x pre).l = stL x pre := rfl
theorem st_same (x : Wn) (pre : List Nat) {i : Nat} (h : i < x.l.length) : (pk (stL x pre) i).g = (pk x.l i).g ∧ (pk (stL x pre) i).B = (pk x.l i).B ∧ (pk (stL x pre) i).seq = (pk x.l i).seq ∧ (pk (stL x pre) i).body = (pk x.l i).body := by
 rw [stL_at h]
 split <;> exact ⟨rfl, rfl, rfl, rfl⟩
theorem st_mine (b : Nat) (x : Wn) (pre : List Nat) (k : Nat) : Mine b (stW x pre) k ↔ Mine b x k := by
 unfold Mine
 rw [stW_l, stL_len]
 constructor
 · rintro (h | h | ⟨i, hi, h⟩)
   · exact .inl h
   · exact .inr (.inl h)
   · rw [(st_same x pre hi).1, (st_same x pre hi).2.1] at h; exact .inr (.inr ⟨i, hi, h⟩)
 · rintro (h | h | ⟨i, hi, h⟩)
   · exact .inl h
   · exact .inr (.inl h)
   · refine .inr (.inr ⟨i, hi, ?_⟩)
     rw [(st_same x pre hi).1, (st_same x pre hi).2.1]; exact h
end Go.Proofs.YtokembhfebnjpaaGreat
