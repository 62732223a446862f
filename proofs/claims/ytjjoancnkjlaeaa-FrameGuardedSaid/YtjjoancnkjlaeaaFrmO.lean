/- The document's frames: Read, of any bytes. -/
import Derived.Test.YtjjoancnkjlaeaaFrmJ
import Derived.Test.YtjjoancnkjlaeaaFrmK
namespace Go.Proofs.Ytjjoancnkjlaeaa
open Go.RowKit
set_option linter.unusedVariables false
set_option maxHeartbeats 2000000 in
set_option maxRecDepth 20000 in
theorem rread_long (a : Option Addr) (cap : Nat) (l : List Int) (w : World) (hl : (1426 : Int) < l.length) (hl2 : l.length ≤ 100000000) :
    Calls Try.prog 20 #[.slice a l.length cap] w fun e w' => e = .returned (.tuple #[.agg (frA zF none 0), .int .i64 3]) ∧ Kp (fun _ => False) w w' := by
  generalize l.length = n at *
  go_enter Try.func20, Try.ntmps20
  go_upto_region 2 with (fail)
  refine wp_world (fun w1 => At w1 w.heap.size [.int .i64 0, .int .i64 0, .int .i64 0, .int .i64 0, .int .i64 0, .slice none 0 0] ∧ Kp (fun _ => False) w w1) ⟨At.newZ rfl, (Kp.refl _ w).alloc _⟩ ?_
  rintro w1 ⟨hat, k1⟩
  have x0 := (hat.cell 0).trans (show _ = some (.int .i64 0) from rfl)
  have x1 := (hat.cell 1).trans (show _ = some (.int .i64 0) from rfl)
  have x2 := (hat.cell 2).trans (show _ = some (.int .i64 0) from rfl)
  have x3 := (hat.cell 3).trans (show _ = some (.int .i64 0) from rfl)
  have x4 := (hat.cell 4).trans (show _ = some (.int .i64 0) from rfl)
  have x5 := (hat.cell 5).trans (show _ = some (.slice none 0 0) from rfl)
  have hf := fun i => hat.frozen i
  have HA := Lib.hid (And.intro hat k1)
  clear hat k1
  go_wp2
  exact fr_ret rfl (six HA.out.1 (Nat.le_refl _) HA.out.2 _ _ _ _ _ _).1 rfl rfl rfl ⟨rfl, (six HA.out.1 (Nat.le_refl _) HA.out.2 _ _ _ _ _ _).2⟩
set_option maxHeartbeats 2000000 in
set_option maxRecDepth 20000 in
theorem rread_short (a : Option Addr) (cap : Nat) (l : List Int) (w : World) (hl : (l.length : Int) < 26) :
    Calls Try.prog 20 #[.slice a l.length cap] w fun e w' => e = .returned (.tuple #[.agg (frA zF none 0), .int .i64 4]) ∧ Kp (fun _ => False) w w' := by
  generalize l.length = n at *
  go_enter Try.func20, Try.ntmps20
  go_upto_region 4 with (fail)
  refine wp_world (fun w1 => At w1 w.heap.size [.int .i64 0, .int .i64 0, .int .i64 0, .int .i64 0, .int .i64 0, .slice none 0 0] ∧ Kp (fun _ => False) w w1) ⟨At.newZ rfl, (Kp.refl _ w).alloc _⟩ ?_
  rintro w1 ⟨hat, k1⟩
  have x0 := (hat.cell 0).trans (show _ = some (.int .i64 0) from rfl)
  have x1 := (hat.cell 1).trans (show _ = some (.int .i64 0) from rfl)
  have x2 := (hat.cell 2).trans (show _ = some (.int .i64 0) from rfl)
  have x3 := (hat.cell 3).trans (show _ = some (.int .i64 0) from rfl)
  have x4 := (hat.cell 4).trans (show _ = some (.int .i64 0) from rfl)
  have x5 := (hat.cell 5).trans (show _ = some (.slice none 0 0) from rfl)
  have hf := fun i => hat.frozen i
  have HA := Lib.hid (And.intro hat k1)
  clear hat k1
  go_wp2
  exact fr_ret rfl (six HA.out.1 (Nat.le_refl _) HA.out.2 _ _ _ _ _ _).1 rfl rfl rfl ⟨rfl, (six HA.out.1 (Nat.le_refl _) HA.out.2 _ _ _ _ _ _).2⟩
set_option maxHeartbeats 2000000 in
set_option maxRecDepth 20000 in
theorem rread_sum (a : Option Addr) (cap : Nat) (l : List Int) (w : World) (h : RdB w a l) (hcap : l.length ≤ cap) (hcm : cap ≤ maxLen) (h1 : ¬ (1426 : Int) < l.length) (h2 : ¬ (l.length : Int) < 26) (h3 : ck l ≠ 0) :
    Calls Try.prog 20 #[.slice a l.length cap] w fun e w' => e = .returned (.tuple #[.agg (frA zF none 0), .int .i64 210]) ∧ Kp (fun _ => False) w w' := by
  have C := Lib.hid (fun w' (k : Kp (fun _ => False) w w') => rcheck a cap l w' (h.kp0 k (fun _ _ h => h)) (by omega) hcap hcm)
  have hne : (ck l != 0) = true := by simpa using h3
  have hne' : (ck l == 0) = false := by simpa using h3
  clear h hcm hcap
  generalize ck l = k at *
  generalize l.length = n at *
  go_enter Try.func20, Try.ntmps20
  go_wp2_with (go_at_call 36; refine (C.out _ ((Kp.refl _ w).alloc _)).mono ?_; rintro e w1 ⟨v, rfl, hv, hg, kq⟩; have hat := kq.at (At.new w [.int .i64 0, .int .i64 0, .int .i64 0, .int .i64 0, .int .i64 0, .slice none 0 0] 24) (fun h => h); have x0 := (hat.cell 0).trans (show _ = some (.int .i64 0) from rfl); have x1 := (hat.cell 1).trans (show _ = some (.int .i64 0) from rfl); have x2 := (hat.cell 2).trans (show _ = some (.int .i64 0) from rfl); have x3 := (hat.cell 3).trans (show _ = some (.int .i64 0) from rfl); have x4 := (hat.cell 4).trans (show _ = some (.int .i64 0) from rfl); have x5 := (hat.cell 5).trans (show _ = some (.slice none 0 0) from rfl); have hf := fun i => hat.frozen i; have HA := Lib.hid (And.intro hat (((Kp.refl (fun _ => False) w).alloc _).trans kq)); clear hat kq hv hg)
  exact fr_ret rfl (six HA.out.1 (by omega) HA.out.2 _ _ _ _ _ _).1 rfl rfl rfl ⟨rfl, (six HA.out.1 (by omega) HA.out.2 _ _ _ _ _ _).2⟩
theorem rread_any (a : Option Addr) (cap : Nat) (l : List Int) (w : World) (h : RdB w a l) (hl : l.length ≤ 100000000) (hcap : l.length ≤ cap) (hcm : cap ≤ maxLen) :
    Calls Try.prog 20 #[.slice a l.length cap] w (RdOut l w) := by
  by_cases h1 : (1426 : Int) < l.length
  · exact (rread_long a cap l w h1 hl).mono fun e w' => rdout_bad (by unfold errR; rw [if_pos h1]) (by decide)
  by_cases h2 : (l.length : Int) < 26
  · exact (rread_short a cap l w h2).mono fun e w' => rdout_bad (by unfold errR; rw [if_neg h1, if_pos h2]) (by decide)
  by_cases h3 : ck l = 0
  · have he := errR_x h1 h2 h3
    have := rread_rest a cap l w h hcap hcm h1 h2 h3
    rw [← he] at this
    exact this
  · exact (rread_sum a cap l w h hcap hcm h1 h2 h3).mono fun e w' => rdout_bad (by unfold errR; rw [if_neg h1, if_neg h2, if_pos h3]) (by decide)
end Go.Proofs.Ytjjoancnkjlaeaa
