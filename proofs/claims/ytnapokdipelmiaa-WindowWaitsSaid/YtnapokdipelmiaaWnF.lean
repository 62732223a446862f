/- Package window: When, Times, Last; a window that is nil, or that New did not make. (Written by wip/win13f.py.) -/
import Derived.Test.YtnapokdipelmiaaWnE
namespace Go.Proofs.Ytnapokdipelmiaa
open Go.RowKit Flt
set_option linter.unusedVariables false
set_option linter.unusedSimpArgs false
variable {w : World} {b : Nat} {x : Wn}
theorem wlast_any (h : WinC w b x) : Calls Try.prog 17 #[.pointer (some ⟨b, 0, none⟩)] w fun e w' => e = .returned (.int .i64 x.last) ∧ w = w' := by
  have h1 := h.c1
  have C := Lib.hid (wnone_no b x.size w h.c0 h.size_bd.1)
  clear h
  go_enter Try.func17, Try.ntmps17
  go_wp2_with (go_at_call 22; refine C.out.mono ?_; rintro e w' ⟨rfl, rfl⟩)
  go_ret
  exact ⟨rfl, rfl⟩
theorem wtimes_any (h : WinC w b x) : Calls Try.prog 21 #[.pointer (some ⟨b, 0, none⟩)] w fun e w' => e = .returned (.tuple #[.float .f64 x.m, .float .f64 x.s]) ∧ ∃ k, w' = w.drewN k := by
  have h3 := h.c3
  have h4 := h.c4
  have C := Lib.hid (wnone_no b x.size w h.c0 h.size_bd.1)
  clear h
  go_enter Try.func21, Try.ntmps21
  go_wp2_with (go_at_call 22; refine C.out.mono ?_; rintro e w' ⟨rfl, rfl⟩)
  go_quiet (fail)
  go_wp2
  go_ret2
  exact ⟨rfl, _, rfl⟩
/-- The least time at which one of some packets is due, or this time. -/
def leastT (now : Nat) (l : List Pk) (t : Nat) : Nat := l.foldl (fun a p => min a (dueA p now)) t
theorem leastT_snoc (now : Nat) (l : List Pk) (p : Pk) (t : Nat) : leastT now (l ++ [p]) t = min (leastT now l t) (dueA p now) := by simp [leastT]
theorem leastT_le (now : Nat) : ∀ (l : List Pk) (t : Nat), leastT now l t ≤ t
  | [], t => Nat.le_refl _
  | p :: r, t => Nat.le_trans (leastT_le now r _) (Nat.min_le_left _ _)
def whenN (x : Wn) : Nat := leastT x.now x.l (dueA (pk x.l 0) x.now)
theorem when_zero (h : WinC w b x) (h0 : x.l.length = 0) : Calls Try.prog 18 #[.pointer (some ⟨b, 0, none⟩)] w fun e w' => e = .returned (.tuple #[.int .i64 0, .bool false]) ∧ w = w' := by
  obtain ⟨a, c, e, hc⟩ := h.form
  have h2 := h.c2
  rw [e, h0] at h2
  have C := Lib.hid (wnone_no b x.size w h.c0 h.size_bd.1)
  clear h e hc h0
  go_enter Try.func18, Try.ntmps18
  go_wp2_with (go_at_call 22; refine C.out.mono ?_; rintro e w' ⟨rfl, rfl⟩)
  go_ret2
  exact ⟨rfl, rfl⟩
theorem wlast_nil (w : World) : Calls Try.prog 17 #[.pointer none] w fun e w' => e = .returned (.int .i64 0) ∧ w = w' := by
  go_enter Try.func17, Try.ntmps17
  go_wp2_with (go_at_call 22; refine (wnone_nil _).mono ?_; rintro e w' ⟨rfl, rfl⟩)
  go_ret
  exact ⟨rfl, rfl⟩
theorem wlast_un (w : World) (b : Nat) (h : w.cell? ⟨b, 0, none⟩ = some (.int .i64 0)) : Calls Try.prog 17 #[.pointer (some ⟨b, 0, none⟩)] w fun e w' => e = .returned (.int .i64 0) ∧ w = w' := by
  have C := Lib.hid (wnone_at b 0 w h)
  go_enter Try.func17, Try.ntmps17
  go_wp2_with (go_at_call 22; refine C.out.mono ?_; rintro e w' ⟨rfl, rfl⟩)
  go_ret
  exact ⟨rfl, rfl⟩
theorem wtimes_nil (w : World) : Calls Try.prog 21 #[.pointer none] w fun e w' => e = .returned (.tuple #[.float .f64 0, .float .f64 0]) ∧ w = w' := by
  go_enter Try.func21, Try.ntmps21
  go_wp2_with (go_at_call 22; refine (wnone_nil _).mono ?_; rintro e w' ⟨rfl, rfl⟩)
  go_ret2
  exact ⟨rfl, rfl⟩
theorem wtimes_un (w : World) (b : Nat) (h : w.cell? ⟨b, 0, none⟩ = some (.int .i64 0)) : Calls Try.prog 21 #[.pointer (some ⟨b, 0, none⟩)] w fun e w' => e = .returned (.tuple #[.float .f64 0, .float .f64 0]) ∧ w = w' := by
  have C := Lib.hid (wnone_at b 0 w h)
  go_enter Try.func21, Try.ntmps21
  go_wp2_with (go_at_call 22; refine C.out.mono ?_; rintro e w' ⟨rfl, rfl⟩)
  go_ret2
  exact ⟨rfl, rfl⟩
theorem wwhen_nil (w : World) : Calls Try.prog 18 #[.pointer none] w fun e w' => e = .returned (.tuple #[.int .i64 0, .bool false]) ∧ w = w' := by
  go_enter Try.func18, Try.ntmps18
  go_wp2_with (go_at_call 22; refine (wnone_nil _).mono ?_; rintro e w' ⟨rfl, rfl⟩)
  go_ret2
  exact ⟨rfl, rfl⟩
theorem wwhen_un (w : World) (b : Nat) (h : w.cell? ⟨b, 0, none⟩ = some (.int .i64 0)) : Calls Try.prog 18 #[.pointer (some ⟨b, 0, none⟩)] w fun e w' => e = .returned (.tuple #[.int .i64 0, .bool false]) ∧ w = w' := by
  have C := Lib.hid (wnone_at b 0 w h)
  go_enter Try.func18, Try.ntmps18
  go_wp2_with (go_at_call 22; refine C.out.mono ?_; rintro e w' ⟨rfl, rfl⟩)
  go_ret2
  exact ⟨rfl, rfl⟩
theorem wpush_nil (pa : Option Addr) (pn pc : Nat) (w : World) : Calls Try.prog 11 #[.pointer none, .slice pa pn pc] w fun e w' => e = .returned (.tuple #[.int .i64 0, .int .i64 1]) ∧ w = w' := by
  go_enter Try.func11, Try.ntmps11
  go_wp2_with (go_at_call 22; refine (wnone_nil _).mono ?_; rintro e w' ⟨rfl, rfl⟩)
  go_ret2
  exact ⟨rfl, rfl⟩
theorem wpush_un (pa : Option Addr) (pn pc : Nat) (w : World) (b : Nat) (h : w.cell? ⟨b, 0, none⟩ = some (.int .i64 0)) : Calls Try.prog 11 #[.pointer (some ⟨b, 0, none⟩), .slice pa pn pc] w fun e w' => e = .returned (.tuple #[.int .i64 0, .int .i64 1]) ∧ w = w' := by
  have C := Lib.hid (wnone_at b 0 w h)
  go_enter Try.func11, Try.ntmps11
  go_wp2_with (go_at_call 22; refine C.out.mono ?_; rintro e w' ⟨rfl, rfl⟩)
  go_ret2
  exact ⟨rfl, rfl⟩
theorem wack_nil (an at_ : Int) (w : World) : Calls Try.prog 12 #[.pointer none, .int .i64 an, .int .i64 at_] w fun e w' => e = .returned (.tuple #[.int .i64 0, .int .i64 1]) ∧ w = w' := by
  go_enter Try.func12, Try.ntmps12
  go_wp2_with (go_at_call 22; refine (wnone_nil _).mono ?_; rintro e w' ⟨rfl, rfl⟩)
  go_ret2
  exact ⟨rfl, rfl⟩
theorem wack_un (an at_ : Int) (w : World) (b : Nat) (h : w.cell? ⟨b, 0, none⟩ = some (.int .i64 0)) : Calls Try.prog 12 #[.pointer (some ⟨b, 0, none⟩), .int .i64 an, .int .i64 at_] w fun e w' => e = .returned (.tuple #[.int .i64 0, .int .i64 1]) ∧ w = w' := by
  have C := Lib.hid (wnone_at b 0 w h)
  go_enter Try.func12, Try.ntmps12
  go_wp2_with (go_at_call 22; refine C.out.mono ?_; rintro e w' ⟨rfl, rfl⟩)
  go_ret2
  exact ⟨rfl, rfl⟩
theorem wdue_nil (at_ : Int) (w : World) : Calls Try.prog 13 #[.pointer none, .int .i64 at_] w fun e w' => e = .returned (.slice none 0 0) ∧ w = w' := by
  go_enter Try.func13, Try.ntmps13
  go_wp2_with (go_at_call 22; refine (wnone_nil _).mono ?_; rintro e w' ⟨rfl, rfl⟩)
  go_ret
  exact ⟨rfl, rfl⟩
theorem wdue_un (at_ : Int) (w : World) (b : Nat) (h : w.cell? ⟨b, 0, none⟩ = some (.int .i64 0)) : Calls Try.prog 13 #[.pointer (some ⟨b, 0, none⟩), .int .i64 at_] w fun e w' => e = .returned (.slice none 0 0) ∧ w = w' := by
  have C := Lib.hid (wnone_at b 0 w h)
  go_enter Try.func13, Try.ntmps13
  go_wp2_with (go_at_call 22; refine C.out.mono ?_; rintro e w' ⟨rfl, rfl⟩)
  go_ret
  exact ⟨rfl, rfl⟩
set_option maxHeartbeats 1000000 in
theorem when_some (h : WinC w b x) (h0 : 0 < x.l.length) : Calls Try.prog 18 #[.pointer (some ⟨b, 0, none⟩)] w fun e w' => e = .returned (.tuple #[.int .i64 (whenN x : Nat), .bool true]) ∧ Kp (fun _ => False) w w' := by
  obtain ⟨a, c, e, hc⟩ := h.form
  have h2 := h.c2
  have h5 := h.c5
  have hrow := h.row
  rw [e] at h2 hrow
  obtain ⟨g0, o0, rfl, en, hc0⟩ := hrow.cell (i := 0) (by simpa using h0)
  clear en
  rw [gs_at h0, Nat.add_zero] at hc0
  have hnb := h.now_bd
  have C := Lib.hid (wnone_no b x.size w h.c0 h.size_bd.1)
  have hlb : x.l.length ≤ 64 := by have := h.len; have := h.size_bd; omega
  obtain ⟨len, hle⟩ : ∃ len, len = x.l.length := ⟨_, rfl⟩
  rw [← hle] at h2 h0 hlb
  obtain ⟨now, hnow⟩ : ∃ now, now = x.now := ⟨_, rfl⟩
  rw [← hnow] at h5 hnb
  obtain ⟨p0, hp0⟩ : ∃ p0, p0 = pk x.l 0 := ⟨_, rfl⟩
  rw [← hp0] at hc0
  obtain ⟨d0, hd0⟩ : ∃ d0, d0 = dueA p0 now := ⟨_, rfl⟩
  have CD := Lib.hid (show ∀ i, i < len → ∀ w' (kp : Kp (fun _ => False) w w'), Calls Try.prog 27 #[.pointer (some ⟨(pk x.l i).g, 0, none⟩), .int .i64 now] w' fun e w'' => e = .returned (.int .i64 (dueA (pk x.l i) now : Nat)) ∧ Kp (fun _ => False) w' w'' from fun i hi w' kp => toKp (pdue_any (pk x.l i) now w' (kp.at (h.pks i (by omega)) (fun h => h)) (by have := (h.bd i (by omega)).1; omega) (h.bd i (by omega)).2.1))
  have CD0 := CD.out 0 h0
  rw [← hp0, ← hd0] at CD0
  have CD0 := Lib.hid CD0
  have HR := Lib.hid (And.intro hrow (And.intro hle (And.intro hnow (And.intro hp0 hd0))))
  have hdb : ∀ i, i < len → dueA (pk x.l i) now ≤ 2147483707 := fun i hi => by
    have q := h.bd i (by omega)
    unfold dueA; split <;> omega
  have HDB := Lib.hid hdb
  have hd0b : d0 ≤ 2147483707 := by rw [hd0, hp0]; exact hdb 0 h0
  obtain ⟨R, hR⟩ : ∃ R, R = whenN x := ⟨_, rfl⟩
  rw [← hR]
  have HRW := Lib.hid hR
  have i0 : ¬ (len : Int) = 0 := by omega
  have i1 : ((len : Int) == 0) = false := by rw [beq_eq_false_iff_ne]; omega
  clear h e hc hrow hle hnow hp0 hd0 hdb hR
  go_enter Try.func18, Try.ntmps18
  go_wp2_with (go_at_call 22; refine C.out.mono ?_; rintro e w' ⟨rfl, rfl⟩)
  refine region_L (S := fun w' => Kp (fun _ => False) w w') [] rfl ?_
  have hSd : ∀ (w' : World) (n' : Nat), Kp (fun _ => False) w w' → Kp (fun _ => False) w (w'.drewN n') := fun w' n' h => h.drewN n'
  have hS0 : Kp (fun _ => False) w w.drew := (Kp.refl _ w).drew
  refine anyL_world (fun w' => Kp (fun _ => False) w w') hS0 ?_
  clear hS0
  intro x0 kx0
  refine anyL_takeF (i := 0) (d := 17) (v := (.pointer (some ⟨b, 0, none⟩))) rfl rfl (by kernel_rfl) (by kernel_rfl) (by kernel_rfl) (fun _ _ _ h => h) hSd (by kernel_rfl) (.inl (.inl ⟨rfl, fun w' hS => by first | rfl | go_simp⟩)) (fun _ => kx0) ?_
  try simp only [List.setIfInBounds_toArray, List.set_cons_succ, List.set_cons_zero]
  refine anyL_takeF (i := 1) (d := 18) (v := (.pointer (some ⟨b, 0, none⟩))) rfl rfl (by kernel_rfl) (by kernel_rfl) (by kernel_rfl) (fun _ _ _ h => h) hSd (by kernel_rfl) (.inl (.inl ⟨rfl, fun w' hS => by first | rfl | go_simp⟩)) (fun _ => kx0) ?_
  try simp only [List.setIfInBounds_toArray, List.set_cons_succ, List.set_cons_zero]
  refine anyL_takeF (i := 2) (d := 19) (v := (.pointer (some ⟨b, 2, none⟩))) rfl rfl (by kernel_rfl) (by kernel_rfl) (by kernel_rfl) (fun _ _ _ h => h) hSd (by kernel_rfl) (.inl (.inl ⟨rfl, fun w' hS => by first | rfl | go_simp⟩)) (fun _ => kx0) ?_
  try simp only [List.setIfInBounds_toArray, List.set_cons_succ, List.set_cons_zero]
  refine anyL_takeD (i := 3) (d := 20) (v := (.slice (some ⟨g0, o0, none⟩) len c)) rfl rfl (by kernel_rfl) (by kernel_rfl) (by kernel_rfl) (fun _ _ _ h => h) hSd (by kernel_rfl) (.inl (.inl ⟨rfl, fun w' hS => by have h0 := hS.cell h2 (fun h => h); go_simp⟩)) kx0 ?_
  try simp only [List.setIfInBounds_toArray, List.set_cons_succ, List.set_cons_zero]
  refine anyL_takeF (i := 4) (d := 21) (v := (.pointer (some ⟨g0, o0, none⟩))) rfl rfl (by kernel_rfl) (by kernel_rfl) (by kernel_rfl) (fun _ _ _ h => h) hSd (by kernel_rfl) (.inl (.inl ⟨rfl, fun w' hS => by first | rfl | go_simp⟩)) (fun _ => kx0) ?_
  try simp only [List.setIfInBounds_toArray, List.set_cons_succ, List.set_cons_zero]
  refine anyL_takeD (i := 5) (d := 22) (v := (.pointer (some ⟨p0.g, 0, none⟩))) rfl rfl (by kernel_rfl) (by kernel_rfl) (by kernel_rfl) (fun _ _ _ h => h) hSd (by kernel_rfl) (.inl (.inl ⟨rfl, fun w' hS => by have h0 := hS.cell hc0 (fun h => h); go_simp⟩)) kx0 ?_
  try simp only [List.setIfInBounds_toArray, List.set_cons_succ, List.set_cons_zero]
  refine anyL_takeF (i := 6) (d := 23) (v := (.pointer (some ⟨b, 0, none⟩))) rfl rfl (by kernel_rfl) (by kernel_rfl) (by kernel_rfl) (fun _ _ _ h => h) hSd (by kernel_rfl) (.inl (.inl ⟨rfl, fun w' hS => by first | rfl | go_simp⟩)) (fun _ => kx0) ?_
  try simp only [List.setIfInBounds_toArray, List.set_cons_succ, List.set_cons_zero]
  refine anyL_takeF (i := 7) (d := 24) (v := (.pointer (some ⟨b, 0, none⟩))) rfl rfl (by kernel_rfl) (by kernel_rfl) (by kernel_rfl) (fun _ _ _ h => h) hSd (by kernel_rfl) (.inl (.inl ⟨rfl, fun w' hS => by first | rfl | go_simp⟩)) (fun _ => kx0) ?_
  try simp only [List.setIfInBounds_toArray, List.set_cons_succ, List.set_cons_zero]
  refine anyL_takeF (i := 8) (d := 25) (v := (.pointer (some ⟨b, 5, none⟩))) rfl rfl (by kernel_rfl) (by kernel_rfl) (by kernel_rfl) (fun _ _ _ h => h) hSd (by kernel_rfl) (.inl (.inl ⟨rfl, fun w' hS => by first | rfl | go_simp⟩)) (fun _ => kx0) ?_
  try simp only [List.setIfInBounds_toArray, List.set_cons_succ, List.set_cons_zero]
  refine anyL_takeD (i := 9) (d := 26) (v := (.int .i64 (now : Nat))) rfl rfl (by kernel_rfl) (by kernel_rfl) (by kernel_rfl) (fun _ _ _ h => h) hSd (by kernel_rfl) (.inl (.inl ⟨rfl, fun w' hS => by have h0 := hS.cell h5 (fun h => h); go_simp⟩)) kx0 ?_
  try simp only [List.setIfInBounds_toArray, List.set_cons_succ, List.set_cons_zero]
  refine anyL_all (rs := [10]) (by kernel_rfl) (by simp) ?_
  intro n10 i hi
  simp only [List.mem_cons, List.not_mem_nil, or_false] at hi
  obtain rfl := hi
  refine wpOp_of rfl rfl ?_
  go_simp
  refine Calls.mono (CD0.out (x0.drewN n10) (kx0.drewN n10)) ?_
  rintro e x1 ⟨rfl, j⟩
  try dsimp only
  have kx1 : Kp (fun _ => False) w x1 := (kx0.drewN n10).trans j
  refine ⟨fun _ => kx1, ?_⟩
  try simp only [List.setIfInBounds_toArray, List.set_cons_succ, List.set_cons_zero]
  refine anyL_takeF (i := 11) (d := 4) (v := (.int .i64 (d0 : Nat))) rfl rfl (by kernel_rfl) (by kernel_rfl) (by kernel_rfl) (fun _ _ _ h => h) hSd (by kernel_rfl) (.inl (.inl ⟨rfl, fun w' hS => by first | rfl | go_simp⟩)) (fun _ => kx1) ?_
  try simp only [List.setIfInBounds_toArray, List.set_cons_succ, List.set_cons_zero]
  refine anyL_done (by kernel_rfl) (fun nn => ?_) _
  have kw3 := kx1.drewN nn
  generalize x1.drewN nn = w3 at *
  have K3 := Lib.hid kw3
  have c2 := kw3.cell h2 (fun h => h)
  clear kw3 hSd CD0 hc0 h2 C
  go_wp2_with fail
  go_loopw [4, 33] (fun tv iv wr => ∃ i t : Nat, i ≤ len ∧ iv = .int .i64 i ∧ tv = .int .i64 t ∧ t = leastT now (x.l.take i) d0 ∧ Kp (fun _ => False) w wr) (fun _ iv _ => len - (intOf iv).toNat)
  case atStart => exact ⟨0, d0, by omega, rfl, rfl, by simp [leastT], K3.out⟩
  case round =>
    obtain ⟨i, t, hi, rfl, rfl, ht, hk⟩ := hrel
    have htb : t ≤ 2147483707 := by have := leastT_le now (x.l.take i) d0; omega
    by_cases hlt : i < len
    · obtain ⟨g1, o1, e1, en, hci⟩ := HR.out.1.cell (i := i) (by have := HR.out.2.1; simp; omega)
      cases e1
      clear en
      rw [gs_at (by have := HR.out.2.1; omega)] at hci
      have ci := hk.cell hci (fun h => h)
      have c5 := hk.cell h5 (fun h => h)
      have CDI := Lib.hid (CD.out i hlt)
      have hdi := HDB.out i hlt
      obtain ⟨p, hp⟩ : ∃ p, p = pk x.l i := ⟨_, rfl⟩
      rw [← hp] at CDI ci hdi
      obtain ⟨di, hdi2⟩ : ∃ di, di = dueA p now := ⟨_, rfl⟩
      rw [← hdi2] at CDI hdi
      have HK := Lib.hid (And.intro hk (And.intro ht (And.intro hp hdi2)))
      have j1 : (i : Int) < len := by omega
      clear hk ht hp hdi2 hci
      go_wp2_with (go_at_call 27; (with_reducible refine (CDI.out _ HK.out.1).mono ?_); rintro e w6 ⟨rfl, k6⟩; have H6 := Lib.hid k6; clear k6)
      all_goals
        go_roundw
        case rel =>
          have e : x.l.take (i + 1) = x.l.take i ++ [pk x.l i] := take_pk (by have := HR.out.2.1; omega)
          refine ⟨i + 1, min t di, by omega, by go_num, by first | rfl | (congr 1; omega), by rw [e, leastT_snoc, ← HK.out.2.1, ← HK.out.2.2.1, ← HK.out.2.2.2], HK.out.1.trans H6.out⟩
        case measure => simp [intOf]; omega
    · obtain rfl : i = len := by omega
      have hRt : R = t := by
        have q : x.l.take i = x.l := by rw [HR.out.2.1, List.take_length]
        rw [HRW.out, ht, q]; unfold whenN
        rw [← HR.out.2.2.1, ← HR.out.2.2.2.1, ← HR.out.2.2.2.2]
      have HK := Lib.hid hk
      clear hk ht
      subst hRt
      go_wp2_with fail
      go_ret2
      exact ⟨rfl, HK.out⟩
end Go.Proofs.Ytnapokdipelmiaa
