/- Chapter 04: awake: some of the chapter's examples. -/
import Derived.Test.YtabibgddbmllkaaGrdR
import Derived.Lib.SlBytesConst
namespace Go.Proofs.Ytabibgddbmllkaa
open Go.RowKit
set_option linter.unusedVariables false
theorem ok4_put4 (l : List Int) : ok4 (put4 l) = true ∧ (put4 l).take ((put4 l).length - 4) = l := by
  have h : (put4 l).take ((put4 l).length - 4) = l := by
    rw [put4_len, show l.length + 4 - 4 = l.length by omega, put4, List.take_left]
  refine ⟨?_, h⟩
  unfold ok4
  rw [h, put4_len]
  simp
theorem sum_123 : sum4 [49, 50, 51, 52, 53, 54, 55, 56, 57] = 3421780262 := by decide +kernel
theorem byt_of {l : List Int} (h : l.all (fun x => decide (0 ≤ x ∧ x ≤ 255)) = true) : Byt l := fun x hx => by
  have := List.all_eq_true.1 h x hx
  simpa using this
set_option maxHeartbeats 1000000 in
theorem awake_any (w : World) : Calls Try.prog 9 #[] w fun e w' => e = .returned (.bool true) ∧ Kp (fun _ => False) w w' := by
  have kc := fun (w : World) (C : Array Value) (n c : Nat) => Lib.run_convert_bytes_const (P := Try.prog) w 22 5 C n c Try.underlying22 Try.underlying5
  go_enter Try.func9, Try.ntmps9
  go_wp2_with fail
  refine (put_any (some ⟨w.heap.size, 0, none⟩) 2 [97, 98] _ (rdb_new w [97, 98] (byt_of rfl) (by simp) 5 (2, 3)) (by simp) (by simp)).mono ?_
  rintro e w1 ⟨v, rfl, hv, hvg, hk1⟩
  have hk01 := ((Kp.refl (fun _ => False) w).alloc (.cells ([97, 98].map (Value.int .u8)).toArray 5 (2, 3))).trans hk1
  obtain ⟨va, vc, e', hr, hvc⟩ := hv.form
  have hl : (put4 [97, 98]).length = 6 := by rw [put4_len]; rfl
  obtain ⟨va', vc', e2, hm1, hm2⟩ := hv.own.form
  have hcm : vc ≤ maxLen := by rw [e'] at e2; simp only [Value.slice.injEq] at e2; omega
  have C := check_any va vc (put4 [97, 98]) w1 hr (by omega) (by omega) hcm (by omega)
  rw [hl] at C e'
  subst e'
  obtain ⟨o1, o2⟩ := ok4_put4 [97, 98]
  rw [hl] at o2
  rw [o1, o2] at C
  have C' := Lib.hid C
  have H1 := Lib.hid hk01
  clear C hv hvg hk1 hk01 hr e2 hm1 hm2 hcm hvc o1 o2 hl
  go_wp2_with fail
  refine C'.out.mono ?_
  rintro e w2 ⟨v2, k, rfl, hk2, hg2, hcase⟩
  rcases hcase with ⟨_, rfl, hob⟩ | ⟨h, _⟩
  · obtain ⟨v2a, v2c, rfl, hr2, hvc2⟩ := hob.form
    have H2 := Lib.hid (And.intro hr2 (H1.out.trans hk2))
    clear hk2 hg2 hob hr2 C' H1
    have hka := ((Kp.refl (fun _ => False) w2).alloc (.cells ([49, 50, 51, 52, 53, 54, 55, 56, 57].map (Value.int .u8)).toArray 5 (9, 10)))
    have C3 := Lib.hid (sum_any (some ⟨w2.heap.size, 0, none⟩) 9 [49, 50, 51, 52, 53, 54, 55, 56, 57] _ (rdb_new w2 [49, 50, 51, 52, 53, 54, 55, 56, 57] (byt_of rfl) (by simp) 5 (9, 10)) (by simp))
    rw [sum_123] at C3
    have HA := Lib.hid hka
    clear hka
    go_wp2_with fail
    refine C3.out.mono ?_
    rintro e w3 ⟨rfl, hk3⟩
    have h23 := HA.out.trans hk3
    have hkb := ((Kp.refl (fun _ => False) w3).alloc (.cells ([97, 98].map (Value.int .u8)).toArray 5 (2, 3)))
    have C4 := same_any v2a (some ⟨w3.heap.size, 0, none⟩) v2c 2 [97, 98] [97, 98] _ ((H2.out.1.kp0 h23 (fun _ _ h => h)).kp0 hkb (fun _ _ h => h)) (rdb_new w3 [97, 98] (byt_of rfl) (by simp) 5 (2, 3))
    rw [decide_eq_true (rfl : ([97, 98] : List Int) = [97, 98])] at C4
    have C4' := Lib.hid C4
    have HK := Lib.hid ((H2.out.2.trans h23).trans hkb)
    clear C4 hkb h23 hk3 C3 HA H2
    go_wp2_with fail
    refine C4'.out.mono ?_
    rintro e w4 ⟨rfl, rfl⟩
    go_wp2
    go_ret
    exact ⟨rfl, HK.out⟩
  · cases h
end Go.Proofs.Ytabibgddbmllkaa
