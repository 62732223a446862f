/- Frames: SameFrame. -/
import Derived.Test.YtjjoancnkjlaeaaFrmN
namespace Go.Proofs.Ytjjoancnkjlaeaa
open Go.RowKit
set_option linter.unusedVariables false
set_option linter.unusedSimpArgs false
def sameF (f g : Fr) : Bool := decide (f.ty = g.ty ∧ f.se = g.se ∧ f.bo = g.bo ∧ f.sq = g.sq ∧ f.ac = g.ac ∧ f.bd = g.bd)
theorem sameF_iff (f g : Fr) : sameF f g = true ↔ f = g := by
  obtain ⟨_, _, _, _, _, _⟩ := f
  obtain ⟨_, _, _, _, _, _⟩ := g
  simp [sameF]
set_option maxHeartbeats 4000000 in
theorem samef_any (f g : Fr) (a b : Option Addr) (c d : Nat) (w : World) (hf : RdB w a f.bd) (hg : RdB w b g.bd) :
    Calls Try.prog 21 #[.agg (frA f a c), .agg (frA g b d)] w fun e w' => e = .returned (.bool (sameF f g)) ∧ Kp (fun _ => False) w w' := by
  have C := Lib.hid (fun w' (k : Kp (fun _ => False) w w') => same_any a b c d f.bd g.bd w' (hf.kp0 k (fun _ _ h => h)) (hg.kp0 k (fun _ _ h => h)))
  unfold sameF
  obtain ⟨ty, se, bo, sq, ac, bd⟩ := f
  obtain ⟨ty', se', bo', sq', ac', bd'⟩ := g
  dsimp only [frA] at *
  clear hf hg
  obtain ⟨eqb, HE⟩ : ∃ q : Bool, Hid (q = decide (bd = bd')) := ⟨_, rfl⟩
  rw [← HE.out] at C
  have HP := Lib.hid (show (bd = bd') ↔ eqb = true by rw [HE.out]; simp)
  clear HE
  generalize bd.length = n at *
  generalize bd'.length = n' at *
  go_enter Try.func21, Try.ntmps21
  go_upto_region 1 with fail
  obtain ⟨p, hp⟩ : ∃ p, p = w.heap.size := ⟨_, rfl⟩
  rw [← hp]
  refine wp_world (fun W0 => At W0 p [.int .i64 ty, .int .i64 se, .int .i64 bo, .int .i64 sq, .int .i64 ac, .slice a n c] ∧ At W0 (p + 1) [.int .i64 ty', .int .i64 se', .int .i64 bo', .int .i64 sq', .int .i64 ac', .slice b n' d] ∧ Kp (fun _ => False) w W0) ⟨by rw [hp]; exact (At.new w [.int .i64 ty, .int .i64 se, .int .i64 bo, .int .i64 sq, .int .i64 ac, .slice a n c] _).alloc _, by rw [hp]; simpa using At.new (w.alloc (.cells #[.int .i64 ty, .int .i64 se, .int .i64 bo, .int .i64 sq, .int .i64 ac, .slice a n c] 24)) [.int .i64 ty', .int .i64 se', .int .i64 bo', .int .i64 sq', .int .i64 ac', .slice b n' d] 24, ((Kp.refl _ w).alloc _).alloc _⟩ ?_
  rintro W0 ⟨hx, hy, hk⟩
  have x0 : W0.cell? ⟨p, 0, none⟩ = some (.int .i64 ty) := (hx.cell 0).trans rfl
  have x1 : W0.cell? ⟨p, 1, none⟩ = some (.int .i64 se) := (hx.cell 1).trans rfl
  have x2 : W0.cell? ⟨p, 2, none⟩ = some (.int .i64 bo) := (hx.cell 2).trans rfl
  have x3 : W0.cell? ⟨p, 3, none⟩ = some (.int .i64 sq) := (hx.cell 3).trans rfl
  have x4 : W0.cell? ⟨p, 4, none⟩ = some (.int .i64 ac) := (hx.cell 4).trans rfl
  have x5 : W0.cell? ⟨p, 5, none⟩ = some (.slice a n c) := (hx.cell 5).trans rfl
  have y0 : W0.cell? ⟨p + 1, 0, none⟩ = some (.int .i64 ty') := (hy.cell 0).trans rfl
  have y1 : W0.cell? ⟨p + 1, 1, none⟩ = some (.int .i64 se') := (hy.cell 1).trans rfl
  have y2 : W0.cell? ⟨p + 1, 2, none⟩ = some (.int .i64 bo') := (hy.cell 2).trans rfl
  have y3 : W0.cell? ⟨p + 1, 3, none⟩ = some (.int .i64 sq') := (hy.cell 3).trans rfl
  have y4 : W0.cell? ⟨p + 1, 4, none⟩ = some (.int .i64 ac') := (hy.cell 4).trans rfl
  have y5 : W0.cell? ⟨p + 1, 5, none⟩ = some (.slice b n' d) := (hy.cell 5).trans rfl
  have C' := Lib.hid (C.out W0 hk)
  have HK := Lib.hid hk
  clear C hk hx hy hp
  by_cases h0 : ty = ty'
  · subst h0
    by_cases h1 : se = se'
    · subst h1
      by_cases h2 : bo = bo'
      · subst h2
        by_cases h3 : sq = sq'
        · subst h3
          by_cases h4 : ac = ac'
          · subst h4
            go_wp2_with (go_at_call 13; refine C'.out.mono ?_; rintro e w' ⟨rfl, rfl⟩)
            go_ret
            refine ⟨ret_bool ?_, HK.out⟩
            clear C'
            have := HP.out
            cases eqb <;> simp_all
          · have e4 : (ac == ac') = false := by simpa using h4
            go_wp2_with fail
            go_ret
            exact ⟨ret_bool (by simp [h4]), HK.out⟩
        · have e3 : (sq == sq') = false := by simpa using h3
          go_wp2_with fail
          go_ret
          exact ⟨ret_bool (by simp [h3]), HK.out⟩
      · have e2 : (bo == bo') = false := by simpa using h2
        go_wp2_with fail
        go_ret
        exact ⟨ret_bool (by simp [h2]), HK.out⟩
    · have e1 : (se == se') = false := by simpa using h1
      go_wp2_with fail
      go_ret
      exact ⟨ret_bool (by simp [h1]), HK.out⟩
  · have e0 : (ty == ty') = false := by simpa using h0
    go_wp2_with fail
    go_ret
    exact ⟨ret_bool (by simp [h0]), HK.out⟩
end Go.Proofs.Ytjjoancnkjlaeaa
