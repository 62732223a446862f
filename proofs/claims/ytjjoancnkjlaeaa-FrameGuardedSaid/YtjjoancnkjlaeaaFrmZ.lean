/- Frames: Read and Check, of what was put; Read of bytes that are a frame, or none. -/
import Derived.Test.YtjjoancnkjlaeaaFrmPb
import Derived.Test.YtjjoancnkjlaeaaFrmW
namespace Go.Proofs.Ytjjoancnkjlaeaa
open Go.RowKit
set_option linter.unusedVariables false
theorem fread_lay (f : Fr) (he : errF f = 0) (a : Option Addr) (cap : Nat) (w : World) (h : RdB w a (layF f)) (hcap : f.bd.length + 26 ≤ cap) (hcm : cap ≤ maxLen) :
    Calls Try.prog 19 #[.slice a (f.bd.length + 26) cap] w fun e w' => ∃ A c, e = .returned (.tuple #[.agg (frA f A c), .int .i64 0]) ∧ RdB w' A f.bd ∧ Kp (fun _ => False) w w' := by
  obtain ⟨_, _, hl, _⟩ := errF_ok he
  have := fread_any a cap (layF f) w h (by rw [layF_len]; omega) (by rw [layF_len]; exact hcap) hcm
  rw [layF_len] at this
  refine this.mono ?_
  rintro e w' ⟨A, c, rfl, h1, _, h3⟩
  rw [(errR_lay he).2] at h1
  rw [(errR_lay he).1, (errR_lay he).2]
  exact ⟨A, c, rfl, h1, h3⟩
theorem gcheck_lay (f : Fr) (a : Option Addr) (cap : Nat) (w : World) (h : RdB w a (layF f)) (hl : f.bd.length ≤ 1000000) (hcap : f.bd.length + 26 ≤ cap) (hcm : cap ≤ maxLen) :
    Calls Try.prog 25 #[.slice a (f.bd.length + 26) cap] w fun e w' => ∃ A c, e = .returned (.tuple #[.slice A (f.bd.length + 22) c, .int .i64 0]) ∧ Kp (fun _ => False) w w' := by
  have := gcheck a cap (layF f) w h (by rw [layF_len]; omega) (by rw [layF_len]; exact hcap) hcm
  rw [layF_len] at this
  refine this.mono ?_
  rintro e w' ⟨v, rfl, h1, _, h3⟩
  unfold layF at h1 ⊢
  rw [chk_put4] at h1
  rw [ck_put4]
  obtain ⟨A, c, rfl, _, _⟩ := h1.form
  rw [head4_len]
  exact ⟨A, c, rfl, h3⟩
theorem frR_good {l : List Int} (he : errR l = 0) (hb : Byt l) : errF (frR l) = 0 ∧ layF (frR l) = l ∧ frI (frR l) := by
  obtain ⟨h1, h2, _⟩ := lay_errR hb he
  refine ⟨h1, h2, ?_⟩
  obtain ⟨_, ⟨r1, r2, r3, r4⟩, _, _⟩ := errF_ok h1
  unfold frI
  omega
theorem fread_good (l : List Int) (he : errR l = 0) (a : Option Addr) (cap : Nat) (w : World) (h : RdB w a l) (hl : l.length ≤ 100000000) (hcap : l.length ≤ cap) (hcm : cap ≤ maxLen) :
    Calls Try.prog 19 #[.slice a l.length cap] w fun e w' => ∃ A c, e = .returned (.tuple #[.agg (frA (frR l) A c), .int .i64 0]) ∧ RdB w' A (frR l).bd ∧ Kp (fun _ => False) w w' := by
  refine (fread_any a cap l w h hl hcap hcm).mono ?_
  rintro e w' ⟨A, c, rfl, g1, _, g3⟩
  rw [he]
  exact ⟨A, c, rfl, g1, g3⟩
theorem fread_ill (l : List Int) (he : errR l ≠ 0) (a : Option Addr) (cap : Nat) (w : World) (h : RdB w a l) (hl : l.length ≤ 100000000) (hcap : l.length ≤ cap) (hcm : cap ≤ maxLen) :
    Calls Try.prog 19 #[.slice a l.length cap] w fun e w' => ∃ A c, e = .returned (.tuple #[.agg (frA zF A c), .int .i64 (errR l)]) ∧ RdB w' A zF.bd ∧ Kp (fun _ => False) w w' := by
  refine (fread_any a cap l w h hl hcap hcm).mono ?_
  rintro e w' ⟨A, c, rfl, g1, _, g3⟩
  have hf : frR l = zF := by unfold frR; rw [if_neg he]
  rw [hf] at g1 ⊢
  exact ⟨A, c, rfl, g1, g3⟩
end Go.Proofs.Ytjjoancnkjlaeaa
