/- Package frame: Read. -/
import Derived.Test.YtjjoancnkjlaeaaFrmD
namespace Go.Proofs.Ytjjoancnkjlaeaa
open Go.RowKit
set_option linter.unusedVariables false
set_option linter.unusedSimpArgs false
theorem fr_info : (Try.prog.info? 24).map (·.size) = some 6 := by kernel_rfl
/-- The end: the frame lies at block g, the error in the slot. -/
theorem fr_ret {fn : Func} (hres : fn.results = #[.cell 2 24, .tmp 3]) {w' : World} {g : Nat} {ty se bo sq ac k : Int} {a : Option Addr} {n c : Nat} {act : Act} {Q : Ending → World → Prop} (hat : At w' g [.int .i64 ty, .int .i64 se, .int .i64 bo, .int .i64 sq, .int .i64 ac, .slice a n c])
    (hp : act.tmps.getD 2 undef = .pointer (some ⟨g, 0, none⟩)) (h3 : act.tmps.getD 3 undef = .int .i64 k) (hd : act.defers = []) (h : Q (.returned (.tuple #[.agg #[.int .i64 ty, .int .i64 se, .int .i64 bo, .int .i64 sq, .int .i64 ac, .slice a n c], .int .i64 k])) w') :
    bodyPost Try.prog fn Q .ret act w' := by
  obtain ⟨T, hg⟩ := hat
  refine bodyPost_ret (v := .tuple #[.agg #[.int .i64 ty, .int .i64 se, .int .i64 bo, .int .i64 sq, .int .i64 ac, .slice a n c], .int .i64 k]) ?_ hd h
  rw [← h3]
  exact results_cell_tmp_row hres _ _ g T _ (0, 0) _ hp hg Try.underlying24 rfl fr_info
/-- A frame is stored over another, in a block of one's own. -/
theorem six {w w1 : World} {g : Nat} {o0 o1 o2 o3 o4 o5 : Value} (h : At w1 g [o0, o1, o2, o3, o4, o5]) (hg : w.heap.size ≤ g) (hk : Kp (fun _ => False) w w1) (v0 v1 v2 v3 v4 v5 : Value) :
    At ((((((w1.setCell ⟨g, 0, none⟩ v0).setCell ⟨g, 1, none⟩ v1).setCell ⟨g, 2, none⟩ v2).setCell ⟨g, 3, none⟩ v3).setCell ⟨g, 4, none⟩ v4).setCell ⟨g, 5, none⟩ v5) g [v0, v1, v2, v3, v4, v5] ∧
    Kp (fun _ => False) w ((((((w1.setCell ⟨g, 0, none⟩ v0).setCell ⟨g, 1, none⟩ v1).setCell ⟨g, 2, none⟩ v2).setCell ⟨g, 3, none⟩ v3).setCell ⟨g, 4, none⟩ v4).setCell ⟨g, 5, none⟩ v5) :=
  ⟨(((((h.set 0 _).set 1 _).set 2 _).set 3 _).set 4 _).set 5 _, (((((hk.setCell (fun h => by simp at h; omega) _).setCell (fun h => by simp at h; omega) _).setCell (fun h => by simp at h; omega) _).setCell (fun h => by simp at h; omega) _).setCell (fun h => by simp at h; omega) _).setCell (fun h => by simp at h; omega) _⟩
theorem fread_long (a : Option Addr) (cap : Nat) (l : List Int) (w : World) (hl : (1426 : Int) < l.length) (hl2 : l.length ≤ 100000000) :
    Calls Try.prog 19 #[.slice a l.length cap] w fun e w' => e = .returned (.tuple #[.agg (frA zF none 0), .int .i64 3]) ∧ Kp (fun _ => False) w w' := by
  generalize l.length = n at *
  go_enter Try.func19, Try.ntmps19
  go_wp2
  exact fr_ret rfl (At.new w [.int .i64 0, .int .i64 0, .int .i64 0, .int .i64 0, .int .i64 0, .slice none 0 0] _) rfl rfl rfl ⟨rfl, (Kp.refl _ w).alloc _⟩
theorem fread_short (a : Option Addr) (cap : Nat) (l : List Int) (w : World) (hl : (l.length : Int) < 26) :
    Calls Try.prog 19 #[.slice a l.length cap] w fun e w' => e = .returned (.tuple #[.agg (frA zF none 0), .int .i64 4]) ∧ Kp (fun _ => False) w w' := by
  generalize l.length = n at *
  go_enter Try.func19, Try.ntmps19
  go_wp2
  exact fr_ret rfl (At.new w [.int .i64 0, .int .i64 0, .int .i64 0, .int .i64 0, .int .i64 0, .slice none 0 0] _) rfl rfl rfl ⟨rfl, (Kp.refl _ w).alloc _⟩
theorem fread_sum (a : Option Addr) (cap : Nat) (l : List Int) (w : World) (h : RdB w a l) (hcap : l.length ≤ cap) (hcm : cap ≤ maxLen) (h1 : ¬ (1426 : Int) < l.length) (h2 : ¬ (l.length : Int) < 26) (h3 : ck l ≠ 0) :
    Calls Try.prog 19 #[.slice a l.length cap] w fun e w' => e = .returned (.tuple #[.agg (frA zF none 0), .int .i64 210]) ∧ Kp (fun _ => False) w w' := by
  have C := Lib.hid (fun w' (k : Kp (fun _ => False) w w') => gcheck a cap l w' (h.kp0 k (fun _ _ h => h)) (by omega) hcap hcm)
  have hne : (ck l != 0) = true := by simpa using h3
  have hne' : (ck l == 0) = false := by simpa using h3
  clear h hcm hcap
  generalize ck l = k at *
  generalize l.length = n at *
  go_enter Try.func19, Try.ntmps19
  go_wp2_with (go_at_call 25; refine (C.out _ ((Kp.refl _ w).alloc _)).mono ?_; rintro e w1 ⟨v, rfl, hv, hg, kq⟩; have hat := kq.at (At.new w [.int .i64 0, .int .i64 0, .int .i64 0, .int .i64 0, .int .i64 0, .slice none 0 0] 24) (fun h => h); have x0 := (hat.cell 0).trans (show _ = some (.int .i64 0) from rfl); have x1 := (hat.cell 1).trans (show _ = some (.int .i64 0) from rfl); have x2 := (hat.cell 2).trans (show _ = some (.int .i64 0) from rfl); have x3 := (hat.cell 3).trans (show _ = some (.int .i64 0) from rfl); have x4 := (hat.cell 4).trans (show _ = some (.int .i64 0) from rfl); have x5 := (hat.cell 5).trans (show _ = some (.slice none 0 0) from rfl); have hf := fun i => hat.frozen i; have HA := Lib.hid (And.intro hat (((Kp.refl (fun _ => False) w).alloc _).trans kq)); clear hat kq hv hg)
  exact fr_ret rfl (six HA.out.1 (by omega) HA.out.2 _ _ _ _ _ _).1 rfl rfl rfl ⟨rfl, (six HA.out.1 (by omega) HA.out.2 _ _ _ _ _ _).2⟩
end Go.Proofs.Ytjjoancnkjlaeaa
