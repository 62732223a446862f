/- Chapter 02: awake: what the document's examples say. -/
import Derived.Test.YtdeallaohfbceaaRatM
import Derived.Test.YtdeallaohfbceaaRatP
namespace Go.Proofs.Ytdeallaohfbceaa
open Go.RowKit Flt
set_option linter.unusedVariables false
theorem run_frombits (n : Int) (w : World) : (callFunc 31 #[.int .u64 n]).run Try.prog w = .ok (.value (.float .f64 n.toNat)) w := by
  rw [run_callFunc_extern Try.func31 (by kernel_rfl) (by kernel_rfl) (by kernel_rfl) (e := Extern.MathFloatBits.float64frombits) (by kernel_rfl)]
  rfl
def nanV : Nat := 9221120237041090561
theorem mnan_any (w : World) : Calls Try.prog 41 #[] w fun e w' => e = .returned (.float .f64 9221120237041090561) ∧ w = w' := by
  have hc := run_frombits 9221120237041090561 w
  go_enter Try.func41, Try.ntmps41
  go_wp2
  go_ret
  exact ⟨rfl, rfl⟩
theorem nan_any (w : World) : Calls Try.prog 27 #[] w fun e w' => e = .returned (.float .f64 9221120237041090561) ∧ w = w' := by
  have C := Lib.hid (fun w => mnan_any w)
  go_enter Try.func27, Try.ntmps27
  go_wp2_with (go_at_call 41; refine (C.out _).mono ?_; rintro e w1 ⟨rfl, rfl⟩)
  go_ret
  exact ⟨rfl, rfl⟩
theorem rdf_new (w : World) (l : List Nat) (T : TypeId) : RdF (w.alloc (.cells (l.map (Value.float .f64)).toArray T)) (some ⟨w.heap.size, 0, none⟩) l := fun i hi => by
  refine ⟨_, _, rfl, ?_⟩
  have h := (At.new w (l.map (Value.float .f64)) T).cell i
  rw [Nat.zero_add]
  rw [h]
  simp [hi, List.getD_eq_getElem?_getD]
theorem awake_any (w : World) : Calls Try.prog 10 #[] w fun e w' => e = .returned (.bool true) ∧ Kp (fun _ => False) w w' := by
  have CP := Lib.hid (fun w' => (part_any 1 4 w').mono (R' := fun e w'' => e = .returned (.float .f64 4598175219545276416) ∧ w' = w'') (fun e w'' h => by
    obtain ⟨r, k, rfl, rfl, h1, _⟩ := h
    obtain ⟨rfl, rfl⟩ := h1 4598175219545276416 (by kernel_rfl)
    exact ⟨rfl, rfl⟩))
  have CN := Lib.hid (fun w' => nan_any w')
  have CB := Lib.hid (fun w' => before_any 4607182418800017408 9221120237041090561 w')
  have CK := Lib.hid (fun w' => pick_any (some ⟨w'.heap.size, 0, none⟩) 4 [9221120237041090561, 4607182418800017408, 4613937818241073152, 4613937818241073152] _ (rdf_new w' [9221120237041090561, 4607182418800017408, 4613937818241073152, 4613937818241073152] 22) (by decide))
  rw [show bef 4607182418800017408 9221120237041090561 = true by decide +kernel] at CB
  simp only [show pickAt [9221120237041090561, 4607182418800017408, 4613937818241073152, 4613937818241073152] [9221120237041090561, 4607182418800017408, 4613937818241073152, 4613937818241073152].length = 2 by decide +kernel] at CK
  have CM := Lib.hid (fun w' => mean_any 4621819117588971520 4626322717216342016 4598175219545276416 w')
  rw [show meanF 4621819117588971520 4626322717216342016 4598175219545276416 = 4623226492472524800 by decide +kernel] at CM
  have CW := Lib.hid (fun w' => wait_any 4617315517961601024 4607632778762754458 w')
  rw [show waitF 4617315517961601024 4607632778762754458 = 10 by decide +kernel] at CW
  have q1 : (FloatKind.f64.format.order 4598175219545276416 4598175219545276416 == some .eq) = true := by decide +kernel
  have q2 : (FloatKind.f64.format.order 4623226492472524800 4623226492472524800 == some .eq) = true := by decide +kernel
  go_enter Try.func10, Try.ntmps10
  go_wp2_with (first | (go_at_call 13; refine (CP.out _).mono ?_; rintro e w1 ⟨rfl, rfl⟩) | (go_at_call 27; refine (CN.out _).mono ?_; rintro e w2 ⟨rfl, rfl⟩) | (go_at_call 11; refine (CB.out _).mono ?_; rintro e w3 ⟨rfl, rfl⟩) | (go_at_call 21; refine (CK.out _).mono ?_; rintro e w4 ⟨rfl, rfl⟩) | (go_at_call 16; refine (CM.out _).mono ?_; rintro e w5 ⟨rfl, k5, rfl⟩) | (go_at_call 14; refine (CW.out _).mono ?_; rintro e w6 ⟨rfl, k6, rfl⟩))
  go_ret
  exact ⟨rfl, (((Kp.refl _ w).alloc _).drewN _)⟩
end Go.Proofs.Ytdeallaohfbceaa
