/- Package inbox: Take, where it answers an error. -/
import Derived.Test.YtnigdgopmmccgaaInbT
namespace Go.Proofs.Ytnigdgopmmccgaa
open Go.RowKit
set_option linter.unusedVariables false

theorem take_nil (seq : Int) (a : Option Addr) (n cap : Nat) (w : World) :
    Calls Try.prog 13 #[.pointer none, .int .i64 seq, .slice a n cap] w fun e w' => e = .returned (.tuple #[.slice none 0 0, .int .i64 1]) ∧ Kp (fun _ => False) w w' := by
  go_enter Try.func13, Try.ntmps13
  go_wp2_with (go_at_call 26; refine (inone_nil _).mono ?_; rintro e w' ⟨rfl, rfl⟩)
  go_ret2
  exact ⟨rfl, (Kp.refl _ w).alloc _⟩
theorem take_un (b : Nat) (seq : Int) (a : Option Addr) (n cap : Nat) (w : World) (h : w.cell? ⟨b, 0, none⟩ = some (.int .i64 0)) :
    Calls Try.prog 13 #[.pointer (some ⟨b, 0, none⟩), .int .i64 seq, .slice a n cap] w fun e w' => e = .returned (.tuple #[.slice none 0 0, .int .i64 1]) ∧ Kp (fun _ => False) w w' := by
  have h' := fun o => ((Kp.refl (fun _ => False) w).alloc o).cell h (fun h => h)
  go_enter Try.func13, Try.ntmps13
  go_wp2_with (go_at_call 26; refine (inone_at b 0 _ (h' _)).mono ?_; rintro e w' ⟨rfl, rfl⟩)
  go_ret2
  exact ⟨rfl, (Kp.refl _ w).alloc _⟩
section
variable {b size : Nat} {f : Bodies} {n hd : Nat} {F : Nat → Prop} {w : World}
theorem take_range (h : InbAt w b size f n hd F) (seq : Int) (a : Option Addr) (len cap : Nat) (hs : seq < 1 ∨ 2147483647 ≤ seq) :
    Calls Try.prog 13 #[.pointer (some ⟨b, 0, none⟩), .int .i64 seq, .slice a len cap] w fun e w' => e = .returned (.tuple #[.slice none 0 0, .int .i64 5]) ∧ Kp (fun _ => False) w w' := by
  obtain ⟨⟨c, h⟩, hn⟩ := h
  have h' := fun o => ((Kp.refl (fun _ => False) w).alloc o).cell (h.at_.is (i := 0) (by omega) h.sz) (fun h => h)
  have hne : ((size : Int) == 0) = false := by have := h.size_bd; simp; omega
  by_cases h1 : seq < 1
  all_goals
    go_enter Try.func13, Try.ntmps13
    go_wp2_with (go_at_call 26; refine (inone_at b _ _ (h' _)).mono ?_; rintro e w' ⟨rfl, rfl⟩)
    go_ret2
    exact ⟨rfl, (Kp.refl _ w).alloc _⟩
theorem take_there (h : InbAt w b size f n hd F) (q : Nat) (a : Option Addr) (len cap : Nat) (h1 : 1 ≤ q) (h2 : q < 2147483647) (hf : (f q).isSome = true) :
    Calls Try.prog 13 #[.pointer (some ⟨b, 0, none⟩), .int .i64 q, .slice a len cap] w fun e w' => e = .returned (.tuple #[.slice none 0 0, .int .i64 7]) ∧ Kp (fun _ => False) w w' := by
  obtain ⟨⟨c, h⟩, hn⟩ := h
  have hA := fun o => h.kp ((Kp.refl (fun _ => False) w).alloc o) (fun _ _ h => h)
  have h0 := fun o => (hA o).at_.is (i := 0) (by omega) h.sz
  have hne : ((size : Int) == 0) = false := by have := h.size_bd; simp; omega
  have hH := fun o => (hA o).hasSpec hn q (by omega)
  have e : hasI f q = true := by simp [hasI, hf]
  rw [e] at hH
  have HA := Lib.hid hA
  have HH := Lib.hid hH
  have g1 : (1 : Int) ≤ q := by omega
  have g2 : (q : Int) < 2147483647 := by omega
  clear hA hH e hf h1 h2
  generalize (q : Int) = seq at *
  go_enter Try.func13, Try.ntmps13
  go_wp2_with (first | (go_at_call 26; refine (inone_at b _ _ (h0 _)).mono ?_; rintro e w' ⟨rfl, rfl⟩) | (go_at_call 19; refine (HH.out _).mono ?_; rintro e w' ⟨rfl, m, rfl⟩))
  go_ret2
  exact ⟨rfl, ((Kp.refl _ w).alloc _).drewN _⟩
theorem take_full (h : InbAt w b size f n hd F) (q : Nat) (a : Option Addr) (len cap : Nat) (h1 : 1 ≤ q) (h2 : q < 2147483647) (hf : n + size ≤ q) :
    Calls Try.prog 13 #[.pointer (some ⟨b, 0, none⟩), .int .i64 q, .slice a len cap] w fun e w' => e = .returned (.tuple #[.slice none 0 0, .int .i64 8]) ∧ Kp (fun _ => False) w w' := by
  obtain ⟨⟨c, h⟩, hn⟩ := h
  have hA := fun o => h.kp ((Kp.refl (fun _ => False) w).alloc o) (fun _ _ h => h)
  have h0 := fun o => (hA o).at_.is (i := 0) (by omega) h.sz
  have hne : ((size : Int) == 0) = false := by have := h.size_bd; simp; omega
  have hH := fun o => (hA o).hasSpec hn q (by omega)
  have e : hasI f q = false := by simp [hasI, h.high q hf]
  rw [e] at hH
  have hB := fun o m => (hA o).kp ((Kp.refl (fun _ => False) (w.alloc o)).drewN m) (fun _ _ h => h)
  have hG := fun o m => ahead_ge b size n q ((w.alloc o).drewN m) ((hB o m).at_.is (i := 0) (by omega) h.sz) ((hB o m).at_.is (i := 1) (by omega) h.nx) (by omega) (by omega) (by omega)
  have e2 : decide ((q : Int) - n < size) = false := by simp; omega
  rw [e2] at hG
  have HH := Lib.hid hH
  have HG := Lib.hid hG
  have g1 : (1 : Int) ≤ q := by omega
  have g2 : (q : Int) < 2147483647 := by omega
  clear hA hH e hf hB hG e2 h1 h2
  generalize (q : Int) = seq at *
  go_enter Try.func13, Try.ntmps13
  go_wp2_with (first | (go_at_call 26; refine (inone_at b _ _ (h0 _)).mono ?_; rintro e w' ⟨rfl, rfl⟩) | (go_at_call 19; refine (HH.out _).mono ?_; rintro e w' ⟨rfl, m, rfl⟩) | (go_at_call 27; refine (HG.out _ _).mono ?_; rintro e w' ⟨rfl, m', rfl⟩))
  go_ret2
  exact ⟨rfl, ((Kp.refl _ w).alloc _).drewN _⟩
end
end Go.Proofs.Ytnigdgopmmccgaa
