/- Named chunks: a load, an equality. -/
import Derived.Test.YtaibdkdmilhloaaNmd
import Derived.Laws.StructEq
namespace Go.Proofs.Ytaibdkdmilhloaa
open Go.RowKit
set_option linter.unusedVariables false
set_option linter.unusedSimpArgs false
theorem nmd_size : (Try.prog.info? 43).map (·.size) = some 17 := by kernel_rfl
theorem load_nmd {w : World} {b o : Nat} {p : Nmd} (h : w.rangeAt b o (nmW p)) (hx : p.1.length = 16) : (Instr.loadAt 43 (.pointer (some ⟨b, o, none⟩))).run Try.prog w = .ok (nmV p) w :=
  run_loadAt_mid w b o 43 (nmW p) _ h Try.underlying43 rfl (by rw [nmW_len, hx]; exact nmd_size)
theorem part_id {x : Id} (hx : x.length = 16) (n : Nat) (w : World) : (part 41 (nmW (x, n)).toArray 0).run Try.prog w = .ok (idV x) w := by
  match x, hx with
  | [a0, a1, a2, a3, a4, a5, a6, a7, a8, a9, a10, a11, a12, a13, a14, a15], _ => exact (show (part 41 (nmW ([a0, a1, a2, a3, a4, a5, a6, a7, a8, a9, a10, a11, a12, a13, a14, a15], n)).toArray 0).run Try.prog w = .ok (idV [a0, a1, a2, a3, a4, a5, a6, a7, a8, a9, a10, a11, a12, a13, a14, a15]) w from by kernel_rfl)
theorem part_n {x : Id} (hx : x.length = 16) (n : Nat) (w : World) : (part 3 (nmW (x, n)).toArray 16).run Try.prog w = .ok (.int .i64 (n : Nat)) w := by
  match x, hx with
  | [a0, a1, a2, a3, a4, a5, a6, a7, a8, a9, a10, a11, a12, a13, a14, a15], _ => exact (show (part 3 (nmW ([a0, a1, a2, a3, a4, a5, a6, a7, a8, a9, a10, a11, a12, a13, a14, a15], n)).toArray 16).run Try.prog w = .ok (.int .i64 (n : Nat)) w from by kernel_rfl)
theorem eq_nmd {x : Id} (hx : x.length = 16) (n : Nat) (w : World) : (Op.equalIn 10000 43 (nmV (x, n)) (nmV (x, n))).run Try.prog w = .ok true w := by
  have hu := Try.underlying43
  unfold nmV
  rw [run_equalIn_struct w 9999 43 _ _ (by simp [Program.fieldsOf, hu]) (by kernel_rfl)]
  simp only [Program.fieldsOf, hu, Op.eqFields]
  have hq := run_equalIn_bytes w 9997 41 5 16 id_und Try.underlying5 (fun w => by kernel_rfl) x x hx hx
  have hi : (Op.equalIn 9999 3 (.int .i64 (n : Nat)) (.int .i64 (n : Nat))).run Try.prog w = .ok true w := (run_equalIn_int w 9998 3 .i64 .i64 _ _ Try.underlying3).trans (by simp)
  have hq' : (Op.equalIn 9999 41 (idV x) (idV x)).run Try.prog w = .ok (x == x) w := hq
  simp [part_id hx, part_n hx, hq', hi, Result.andThen]
end Go.Proofs.Ytaibdkdmilhloaa
