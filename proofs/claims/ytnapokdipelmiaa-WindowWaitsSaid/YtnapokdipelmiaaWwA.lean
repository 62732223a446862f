/- WindowWaits: a part of the walk. (Written by wip/winparts.py.) -/
import Derived.Deep.CutBlock
import Derived.Test.YtnapokdipelmiaaWnU
import Derived.Test.YtnapokdipelmiaaPick
import Derived.Test.YtnapokdipelmiaaKs
import Derived.Test.YtnapokdipelmiaaRegL
namespace Go.Proofs.Ytnapokdipelmiaa
open Go.RowKit Flt
set_option linter.unusedVariables false
set_option linter.unusedSimpArgs false
theorem elem_i64 : Elem Try.prog 3 (.int .i64 0) 1 8 := Elem.mk' (by kernel_rfl) rfl (by omega) (by simp [Value.cells, Value.oneCell'])
theorem wp_make_run {P : Program} {o : Oper} {a : Act} {w w' : World} {K : Act → World → Prop} {Q : Exit → Act → World → Prop} {t : TypeId} {x y : Operand} {L C v : Value} (hr : (Instr.makeSlice t L C).run P w = .ok v w') (ho : o.op = .makeSlice t x y) (hx : a.eval x = L) (hy : a.eval y = C) (h : K (a.put o.dst v) w') : Oper.wp P o a w K Q := by
  unfold Oper.wp execOp
  simp only [ho, hx, hy, hr, Sem.run_bind, Result.andThen_ok]
  exact h
/-- A proof in parts: what is still to be shown is a proposition of its own. -/
structure Part (A : Prop) : Prop where
  out : A
def part1 {X : Prop} (A : Prop) (h : Part A → X) : { P : Prop // P → X } := ⟨A, fun a => h ⟨a⟩⟩
def part3 {X : Prop} (A B C : Prop) (h : Part A → Part B → Part C → X) : { P : Prop × Prop × Prop // P.1 → P.2.1 → P.2.2 → X } := ⟨(A, B, C), fun a b c => h ⟨a⟩ ⟨b⟩ ⟨c⟩⟩
set_option maxHeartbeats 4000000 in
set_option maxRecDepth 20000 in
def wwA : { P : Prop × Prop × Prop // P.1 → P.2.1 → P.2.2 → ∀ (n0 n1 n2 n3 n4 : Int) (w : World) (r0 : Rdg Try.prog w 3 [.int .i64 n0]) (r1 : Rdg Try.prog w 3 [.int .i64 n1]) (r2 : Rdg Try.prog w 3 [.int .i64 n2]) (r3 : Rdg Try.prog w 3 [.int .i64 n3]) (r4 : Rdg Try.prog w 3 [.int .i64 n4]), Calls Try.prog 3 #[.int .i64 n0, .int .i64 n1, .int .i64 n2, .int .i64 n3, .int .i64 n4] w fun e w' => e = .returned (.bool true) ∧ Below w.heap.size w w' } := by
  apply part3
  focus
  intro hA hB hC n0 n1 n2 n3 n4 w r0 r1 r2 r3 r4
  have i0 : i64R n0 := rdg_int r0
  have i1 : i64R n1 := rdg_int r1
  have i2 : i64R n2 := rdg_int r2
  have i3 : i64R n3 := rdg_int r3
  have i4 : i64R n4 := rdg_int r4
  clear r0 r1 r2 r3 r4
  obtain ⟨p0, hp0, hp0b⟩ : ∃ p : Nat, n0 % 64 = (p : Int) ∧ p < 64 := ⟨(n0 % 64).toNat, by omega, by omega⟩
  obtain ⟨tk, htk, htkb⟩ : ∃ p : Nat, n2 % 300 = (p : Int) ∧ p < 300 := ⟨(n2 % 300).toNat, by omega, by omega⟩
  obtain ⟨wh, hwh, hwhb⟩ : ∃ p : Nat, n4 % 300 = (p : Int) ∧ p < 300 := ⟨(n4 % 300).toNat, by omega, by omega⟩
  obtain ⟨sz, hsz⟩ : ∃ sz, sz = 1 + p0 := ⟨_, rfl⟩
  have hszb : 1 ≤ sz ∧ sz ≤ 64 := by omega
  obtain ⟨p1, hp1, hp1b⟩ : ∃ p : Nat, n1 % (sz : Int) = (p : Int) ∧ p < sz := by
    have h1 := Int.emod_nonneg n1 (show (sz : Int) ≠ 0 by omega)
    have h2 := Int.emod_lt_of_pos n1 (show 0 < (sz : Int) by omega)
    exact ⟨(n1 % (sz : Int)).toNat, by omega, by omega⟩
  obtain ⟨mn, hmn⟩ : ∃ mn, mn = 1 + p1 := ⟨_, rfl⟩
  have hmnb : 1 ≤ mn ∧ mn ≤ sz := by omega
  obtain ⟨M, hM⟩ : ∃ M, M = mn + 1 := ⟨_, rfl⟩
  obtain ⟨u, hu, hub⟩ : ∃ p : Nat, n3 % ((mn : Int) + 1) = (p : Int) ∧ p < M := by
    have h1 := Int.emod_nonneg n3 (show (mn : Int) + 1 ≠ 0 by omega)
    have h2 := Int.emod_lt_of_pos n3 (show 0 < (mn : Int) + 1 by omega)
    exact ⟨(n3 % ((mn : Int) + 1)).toNat, by omega, by omega⟩
  go_enter Try.func3, Try.ntmps3
  go_wp2_with fail
  go_at_call 8
  refine (awake_any _).mono ?_
  rintro e w1 ⟨rfl, k1⟩
  have P0 := pick_any n0 64 w1 i0 (by omega)
  have P1 := pick_any n1 sz w1 i1 (by omega)
  have P2 := pick_any n2 300 w1 i2 (by omega)
  have P3 := pick_any n3 ((mn : Int) + 1) w1 i3 (by omega)
  have P4 := pick_any n4 300 w1 i4 (by omega)
  rw [hp0] at P0
  rw [hp1] at P1
  rw [htk] at P2
  rw [hu] at P3
  rw [hwh] at P4
  have P0 := Lib.hid P0
  have P1 := Lib.hid P1
  have P2 := Lib.hid P2
  have P3 := Lib.hid P3
  have P4 := Lib.hid P4
  have K1 := Lib.hid k1
  have CN := Lib.hid (new_st w1 w1 (Kp.refl _ _) sz hszb)
  have HEQ := Lib.hid (And.intro hsz (And.intro hmn hM))
  have m1 : 1 + (p0 : Int) = (sz : Int) := by omega
  have m2 : 1 + (p1 : Int) = (mn : Int) := by omega
  have m3 : (mn : Int) + 1 = (M : Int) := by omega
  have hMb : M ≤ 65 := by omega
  have huM : u ≤ mn := by omega
  have HM3 := Lib.hid m3
  have HM1 := Lib.hid m1
  have HM2 := Lib.hid m2
  clear k1 hp0 hp1 htk hu hwh i0 i1 i2 i3 i4 hsz hmn hM m1 m2 m3
  go_upto_region 2 with fail
  go_cut [0, 2] (fun sv tv wx => sv = .int .i64 (sz : Nat) ∧ tv = .int .i64 (tk : Nat) ∧ w1 = wx)
  case first =>
    go_wp2_with (first | (go_at_call 9; (with_reducible refine P0.out.mono ?_); rintro e w' ⟨rfl, rfl⟩) | (go_at_call 9; (with_reducible refine P2.out.mono ?_); rintro e w' ⟨rfl, rfl⟩))
    go_meet
    exact ⟨congrArg (Value.int .i64) HM1.out, rfl, rfl⟩
  case rest =>
    obtain ⟨rfl, rfl, rfl⟩ := hcut
    go_upto_region 3 with fail
    go_cut [1] (fun sv wx => sv = .int .i64 (mn : Nat) ∧ w1 = wx)
    case first =>
      go_wp2_with (go_at_call 9; (with_reducible refine P1.out.mono ?_); rintro e w' ⟨rfl, rfl⟩)
      go_meet
      exact ⟨congrArg (Value.int .i64) HM2.out, rfl⟩
    case rest =>
      obtain ⟨rfl, rfl⟩ := hcut
      go_upto_region 5 with (first | (go_at_call 9; (with_reducible refine P3.out.mono ?_); rintro e w' ⟨rfl, rfl⟩) | (go_at_call 9; (with_reducible refine P4.out.mono ?_); rintro e w' ⟨rfl, rfl⟩))
      go_wp2_with fail
      go_at_call 10
      refine CN.out.mono ?_
      rintro e w2 ⟨g, rfl, h2⟩
      have H2 := Lib.hid h2
      clear h2 CN P0 P1 P2 P3 P4
      have hM9 : (mn : Int) + 1 = (M : Int) := HM3.out
      have hwM : IntKind.i64.wrap (M : Int) = (M : Int) := IntWalk.i64_in _ (by omega)
      go_upto_region 8 with fail
      go_cut [14, 15] (fun sv tv wx => ∃ s t, sv = .slice (some ⟨s, 0, none⟩) M M ∧ tv = .slice (some ⟨t, 0, none⟩) M M ∧ AtI wx s M (fun _ => 0) ∧ AtI wx t M (fun _ => 0) ∧ s ≠ t ∧ w2.heap.size ≤ s ∧ w2.heap.size ≤ t ∧ Kp (fun _ => False) w2 wx)
      case first =>
        repeat (rename_i zzA; first | (have zv : Value := zzA; clear zv; clear zzA) | revert zzA)
        try revert n0
        try revert n1
        try revert n2
        try revert n3
        try revert n4
        try revert w
        try revert p0
        try revert hp0b
        try revert tk
        try revert htkb
        try revert wh
        try revert hwhb
        try revert sz
        try revert hszb
        try revert p1
        try revert hp1b
        try revert mn
        try revert hmnb
        try revert M
        try revert u
        try revert hub
        try revert w1
        try clear P0
        try clear P1
        try clear P2
        try clear P3
        try clear P4
        try revert K1
        try revert HEQ
        try revert hMb
        try revert huM
        try revert HM3
        try clear HM1
        try clear HM2
        first | clear u27 | revert u27
        first | clear u28 | revert u28
        first | clear u29 | revert u29
        first | clear u30 | revert u30
        first | clear u31 | revert u31
        first | clear u32 | revert u32
        first | clear u33 | revert u33
        first | clear u34 | revert u34
        first | clear u35 | revert u35
        first | clear u36 | revert u36
        first | clear u37 | revert u37
        first | clear u38 | revert u38
        first | clear u39 | revert u39
        first | clear u40 | revert u40
        first | clear u41 | revert u41
        first | clear u42 | revert u42
        first | clear u43 | revert u43
        first | clear u44 | revert u44
        first | clear u45 | revert u45
        first | clear u46 | revert u46
        first | clear u47 | revert u47
        first | clear u48 | revert u48
        first | clear u49 | revert u49
        first | clear u50 | revert u50
        first | clear u51 | revert u51
        first | clear u52 | revert u52
        first | clear u53 | revert u53
        first | clear u54 | revert u54
        first | clear u55 | revert u55
        first | clear u56 | revert u56
        first | clear u57 | revert u57
        first | clear u58 | revert u58
        first | clear u59 | revert u59
        first | clear u60 | revert u60
        first | clear u61 | revert u61
        first | clear u62 | revert u62
        first | clear u63 | revert u63
        first | clear u64 | revert u64
        first | clear u65 | revert u65
        first | clear u66 | revert u66
        first | clear u67 | revert u67
        first | clear u68 | revert u68
        first | clear u69 | revert u69
        first | clear u70 | revert u70
        first | clear u71 | revert u71
        first | clear u72 | revert u72
        first | clear u73 | revert u73
        first | clear u74 | revert u74
        first | clear u75 | revert u75
        first | clear u76 | revert u76
        first | clear u77 | revert u77
        first | clear u78 | revert u78
        first | clear u79 | revert u79
        first | clear u80 | revert u80
        first | clear u81 | revert u81
        first | clear u82 | revert u82
        first | clear u83 | revert u83
        first | clear u84 | revert u84
        first | clear u85 | revert u85
        first | clear u86 | revert u86
        first | clear u87 | revert u87
        first | clear u88 | revert u88
        first | clear u89 | revert u89
        first | clear u90 | revert u90
        first | clear u91 | revert u91
        first | clear u92 | revert u92
        first | clear u93 | revert u93
        first | clear u94 | revert u94
        first | clear u95 | revert u95
        first | clear u96 | revert u96
        first | clear u97 | revert u97
        first | clear u98 | revert u98
        first | clear u99 | revert u99
        first | clear u100 | revert u100
        first | clear u101 | revert u101
        first | clear u102 | revert u102
        first | clear u103 | revert u103
        first | clear u104 | revert u104
        first | clear u105 | revert u105
        first | clear u106 | revert u106
        first | clear u107 | revert u107
        first | clear u108 | revert u108
        first | clear u109 | revert u109
        first | clear u110 | revert u110
        first | clear u111 | revert u111
        first | clear u112 | revert u112
        first | clear u113 | revert u113
        first | clear u114 | revert u114
        first | clear u115 | revert u115
        first | clear u116 | revert u116
        first | clear u117 | revert u117
        first | clear u118 | revert u118
        first | clear u119 | revert u119
        first | clear u120 | revert u120
        first | clear u121 | revert u121
        first | clear u122 | revert u122
        first | clear u123 | revert u123
        first | clear u124 | revert u124
        first | clear u125 | revert u125
        first | clear u126 | revert u126
        first | clear u127 | revert u127
        first | clear u128 | revert u128
        first | clear u129 | revert u129
        first | clear u130 | revert u130
        first | clear u131 | revert u131
        first | clear u132 | revert u132
        first | clear u133 | revert u133
        first | clear u134 | revert u134
        first | clear u135 | revert u135
        first | clear u136 | revert u136
        first | clear u137 | revert u137
        first | clear u138 | revert u138
        first | clear u139 | revert u139
        first | clear u140 | revert u140
        first | clear u141 | revert u141
        first | clear u142 | revert u142
        first | clear u143 | revert u143
        first | clear u144 | revert u144
        first | clear u145 | revert u145
        first | clear u146 | revert u146
        first | clear u147 | revert u147
        first | clear u148 | revert u148
        first | clear u149 | revert u149
        first | clear u150 | revert u150
        first | clear u151 | revert u151
        first | clear u152 | revert u152
        first | clear u153 | revert u153
        first | clear u154 | revert u154
        first | clear u155 | revert u155
        first | clear u156 | revert u156
        first | clear u157 | revert u157
        first | clear u158 | revert u158
        first | clear u159 | revert u159
        first | clear u160 | revert u160
        first | clear u161 | revert u161
        first | clear u162 | revert u162
        first | clear u163 | revert u163
        first | clear u164 | revert u164
        first | clear u165 | revert u165
        first | clear u166 | revert u166
        first | clear u167 | revert u167
        first | clear u168 | revert u168
        first | clear u169 | revert u169
        first | clear u170 | revert u170
        first | clear u171 | revert u171
        first | clear u172 | revert u172
        first | clear u173 | revert u173
        first | clear u174 | revert u174
        first | clear u175 | revert u175
        first | clear u176 | revert u176
        first | clear u177 | revert u177
        first | clear u178 | revert u178
        first | clear u179 | revert u179
        first | clear u180 | revert u180
        first | clear u181 | revert u181
        first | clear u182 | revert u182
        first | clear u183 | revert u183
        first | clear u184 | revert u184
        first | clear u185 | revert u185
        first | clear u186 | revert u186
        first | clear u187 | revert u187
        first | clear u188 | revert u188
        first | clear u189 | revert u189
        first | clear u190 | revert u190
        first | clear u191 | revert u191
        first | clear u192 | revert u192
        first | clear u193 | revert u193
        first | clear u194 | revert u194
        first | clear u195 | revert u195
        first | clear u196 | revert u196
        first | clear u197 | revert u197
        first | clear u198 | revert u198
        first | clear u199 | revert u199
        first | clear u200 | revert u200
        first | clear u201 | revert u201
        first | clear u202 | revert u202
        first | clear u203 | revert u203
        first | clear u204 | revert u204
        first | clear u205 | revert u205
        first | clear u206 | revert u206
        first | clear u207 | revert u207
        first | clear u208 | revert u208
        first | clear u209 | revert u209
        first | clear u210 | revert u210
        first | clear u211 | revert u211
        first | clear u212 | revert u212
        first | clear u213 | revert u213
        first | clear u214 | revert u214
        first | clear u215 | revert u215
        first | clear u216 | revert u216
        first | clear u217 | revert u217
        first | clear u218 | revert u218
        first | clear u219 | revert u219
        first | clear u220 | revert u220
        first | clear u221 | revert u221
        first | clear u222 | revert u222
        first | clear u223 | revert u223
        first | clear u224 | revert u224
        first | clear u225 | revert u225
        first | clear u226 | revert u226
        first | clear u227 | revert u227
        first | clear u228 | revert u228
        first | clear u229 | revert u229
        first | clear u230 | revert u230
        first | clear u231 | revert u231
        first | clear u232 | revert u232
        try revert w2
        try revert g
        try clear H2
        try revert hM9
        try clear hwM
        exact hA.out
      case rest =>
        obtain ⟨s, t, rfl, rfl, hs, ht, hne, hsl, htl, k3⟩ := hcut
        obtain ⟨w3, hw3⟩ : ∃ w3, w3 = wc := ⟨_, rfl⟩
        have hwt : Wt w1 g sz 0 s t M (wnew sz) (fun _ => 0) (fun _ => 0) w3 := by
          subst hw3
          have h2 := H2.out
          have hsz := h2.kp.size
          exact ⟨h2.kp0 k3, hs, ht, fun k hk => by have := h2.win.lt hk; omega, hne, by omega⟩
        rw [← hw3]
        have HW := Lib.hid hwt
        clear hs ht hne hsl htl k3 hwt hw3 hM9
        go_wp2_with fail
        go_loopw [16] (fun iv wr => ∃ (k : Nat) (x : Wn) (f : Nat → Int), 1 ≤ k ∧ k ≤ M ∧ iv = .int .i64 k ∧ x.last + 1 = k ∧ x.l.length + 1 = k ∧ x.now = 0 ∧ (∀ j, j < x.l.length → (pk x.l j).times = 0 ∧ (pk x.l j).body = [((j + 1 : Nat) : Int)] ∧ f (j + 1) = -1) ∧ Wt w1 g sz k s t M x f (fun _ => 0) wr) (fun iv _ => M - (intOf iv).toNat)
        case atStart => exact ⟨1, wnew sz, _, by omega, by omega, rfl, rfl, rfl, rfl, fun j hj => absurd hj (Nat.not_lt_zero _), { HW.out with st := HW.out.st.mono (by omega) }⟩
        case round =>
          obtain ⟨k, x, f, hk1, hk2, rfl, hla, hln, hno, hpk, hw⟩ := hrel
          by_cases hlt : k < M
          ·
            repeat (rename_i zzB; first | (have zv : Value := zzB; clear zv; clear zzB) | revert zzB)
            try revert n0
            try revert n1
            try revert n2
            try revert n3
            try revert n4
            try revert w
            try revert p0
            try revert hp0b
            try revert tk
            try revert htkb
            try revert wh
            try revert hwhb
            try revert sz
            try revert hszb
            try revert p1
            try revert hp1b
            try revert mn
            try revert hmnb
            try revert M
            try revert u
            try revert hub
            try revert w1
            try clear P0
            try clear P1
            try clear P2
            try clear P3
            try clear P4
            try revert K1
            try revert HEQ
            try revert hMb
            try revert huM
            try revert HM3
            try clear HM1
            try clear HM2
            try revert w2
            try revert g
            try clear H2
            try clear hwM
            try revert wc
            first | clear u27 | revert u27
            first | clear u28 | revert u28
            first | clear u29 | revert u29
            first | clear u30 | revert u30
            first | clear u31 | revert u31
            first | clear u32 | revert u32
            first | clear u33 | revert u33
            first | clear u34 | revert u34
            first | clear u35 | revert u35
            first | clear u36 | revert u36
            first | clear u37 | revert u37
            first | clear u38 | revert u38
            first | clear u39 | revert u39
            first | clear u40 | revert u40
            first | clear u41 | revert u41
            first | clear u42 | revert u42
            first | clear u43 | revert u43
            first | clear u44 | revert u44
            first | clear u45 | revert u45
            first | clear u46 | revert u46
            first | clear u47 | revert u47
            first | clear u48 | revert u48
            first | clear u49 | revert u49
            first | clear u50 | revert u50
            first | clear u51 | revert u51
            first | clear u52 | revert u52
            first | clear u53 | revert u53
            first | clear u54 | revert u54
            first | clear u55 | revert u55
            first | clear u56 | revert u56
            first | clear u57 | revert u57
            first | clear u58 | revert u58
            first | clear u59 | revert u59
            first | clear u83 | revert u83
            first | clear u84 | revert u84
            first | clear u85 | revert u85
            first | clear u86 | revert u86
            first | clear u87 | revert u87
            first | clear u88 | revert u88
            first | clear u89 | revert u89
            first | clear u90 | revert u90
            first | clear u91 | revert u91
            first | clear u92 | revert u92
            first | clear u93 | revert u93
            first | clear u94 | revert u94
            first | clear u95 | revert u95
            first | clear u96 | revert u96
            first | clear u97 | revert u97
            first | clear u98 | revert u98
            first | clear u99 | revert u99
            first | clear u100 | revert u100
            first | clear u101 | revert u101
            first | clear u102 | revert u102
            first | clear u103 | revert u103
            first | clear u104 | revert u104
            first | clear u105 | revert u105
            first | clear u106 | revert u106
            first | clear u107 | revert u107
            first | clear u108 | revert u108
            first | clear u109 | revert u109
            first | clear u110 | revert u110
            first | clear u111 | revert u111
            first | clear u112 | revert u112
            first | clear u113 | revert u113
            first | clear u114 | revert u114
            first | clear u115 | revert u115
            first | clear u116 | revert u116
            first | clear u117 | revert u117
            first | clear u118 | revert u118
            first | clear u119 | revert u119
            first | clear u120 | revert u120
            first | clear u121 | revert u121
            first | clear u122 | revert u122
            first | clear u123 | revert u123
            first | clear u124 | revert u124
            first | clear u125 | revert u125
            first | clear u126 | revert u126
            first | clear u127 | revert u127
            first | clear u128 | revert u128
            first | clear u129 | revert u129
            first | clear u130 | revert u130
            first | clear u131 | revert u131
            first | clear u132 | revert u132
            first | clear u133 | revert u133
            first | clear u134 | revert u134
            first | clear u135 | revert u135
            first | clear u136 | revert u136
            first | clear u137 | revert u137
            first | clear u138 | revert u138
            first | clear u139 | revert u139
            first | clear u140 | revert u140
            first | clear u141 | revert u141
            first | clear u142 | revert u142
            first | clear u143 | revert u143
            first | clear u144 | revert u144
            first | clear u145 | revert u145
            first | clear u146 | revert u146
            first | clear u147 | revert u147
            first | clear u148 | revert u148
            first | clear u149 | revert u149
            first | clear u150 | revert u150
            first | clear u151 | revert u151
            first | clear u152 | revert u152
            first | clear u153 | revert u153
            first | clear u154 | revert u154
            first | clear u155 | revert u155
            first | clear u156 | revert u156
            first | clear u157 | revert u157
            first | clear u158 | revert u158
            first | clear u159 | revert u159
            first | clear u160 | revert u160
            first | clear u161 | revert u161
            first | clear u162 | revert u162
            first | clear u163 | revert u163
            first | clear u164 | revert u164
            first | clear u165 | revert u165
            first | clear u166 | revert u166
            first | clear u167 | revert u167
            first | clear u168 | revert u168
            first | clear u169 | revert u169
            first | clear u170 | revert u170
            first | clear u171 | revert u171
            first | clear u172 | revert u172
            first | clear u173 | revert u173
            first | clear u174 | revert u174
            first | clear u175 | revert u175
            first | clear u176 | revert u176
            first | clear u177 | revert u177
            first | clear u178 | revert u178
            first | clear u179 | revert u179
            first | clear u180 | revert u180
            first | clear u181 | revert u181
            first | clear u182 | revert u182
            first | clear u183 | revert u183
            first | clear u184 | revert u184
            first | clear u185 | revert u185
            first | clear u186 | revert u186
            first | clear u187 | revert u187
            first | clear u188 | revert u188
            first | clear u189 | revert u189
            first | clear u190 | revert u190
            first | clear u191 | revert u191
            first | clear u192 | revert u192
            first | clear u193 | revert u193
            first | clear u194 | revert u194
            first | clear u195 | revert u195
            first | clear u196 | revert u196
            first | clear u197 | revert u197
            first | clear u198 | revert u198
            first | clear u199 | revert u199
            first | clear u200 | revert u200
            first | clear u201 | revert u201
            first | clear u202 | revert u202
            first | clear u203 | revert u203
            first | clear u204 | revert u204
            first | clear u205 | revert u205
            first | clear u206 | revert u206
            first | clear u207 | revert u207
            first | clear u208 | revert u208
            first | clear u209 | revert u209
            first | clear u210 | revert u210
            first | clear u211 | revert u211
            first | clear u212 | revert u212
            first | clear u213 | revert u213
            first | clear u214 | revert u214
            first | clear u215 | revert u215
            first | clear u216 | revert u216
            first | clear u217 | revert u217
            first | clear u218 | revert u218
            first | clear u219 | revert u219
            first | clear u220 | revert u220
            first | clear u221 | revert u221
            first | clear u222 | revert u222
            first | clear u223 | revert u223
            first | clear u224 | revert u224
            first | clear u225 | revert u225
            first | clear u226 | revert u226
            first | clear u227 | revert u227
            first | clear u228 | revert u228
            first | clear u229 | revert u229
            first | clear u230 | revert u230
            first | clear u231 | revert u231
            first | clear u232 | revert u232
            try revert s
            try revert t
            try revert w3
            try clear HW
            try revert wr
            first | clear u10 | revert u10
            first | clear u17 | revert u17
            first | clear u18 | revert u18
            first | clear u60 | revert u60
            first | clear u61 | revert u61
            first | clear u62 | revert u62
            first | clear u63 | revert u63
            first | clear u64 | revert u64
            first | clear u65 | revert u65
            first | clear u66 | revert u66
            first | clear u67 | revert u67
            first | clear u68 | revert u68
            first | clear u69 | revert u69
            first | clear u70 | revert u70
            first | clear u71 | revert u71
            first | clear u72 | revert u72
            first | clear u73 | revert u73
            first | clear u74 | revert u74
            first | clear u75 | revert u75
            first | clear u76 | revert u76
            first | clear u77 | revert u77
            first | clear u78 | revert u78
            first | clear u79 | revert u79
            first | clear u80 | revert u80
            first | clear u81 | revert u81
            first | clear u82 | revert u82
            try revert k
            try revert x
            try revert f
            try revert hk1
            try clear hk2
            try revert hla
            try revert hln
            try revert hno
            try revert hpk
            try revert hw
            try revert hlt
            exact hB.out
          · obtain rfl : k = M := by omega
            have j1 : ¬ (k : Int) ≤ mn := by have := HEQ.out.2.2; omega
            have hwv : Wv x f (fun _ => 0) 0 mn 0 := by
              have := HEQ.out.2.2
              refine ⟨by omega, by omega, by omega, fun j hj => ?_, fun j hj => .inl ⟨rfl, (hpk j hj).1, ?_, rfl⟩⟩
              · rw [(hpk j hj).2.1, show j + 1 = 0 + 1 + j by omega]
              · rw [show 0 + 1 + j = j + 1 by omega]; exact (hpk j hj).2.2
            have HV := Lib.hid (And.intro hwv hw)
            clear hwv hw hpk hla hln hno
            go_wp2_with fail
            go_loopw [19, 20] (fun av nv wr => ∃ (a now : Nat) (x : Wn) (f hh : Nat → Int), a ≤ mn ∧ now ≤ tk ∧ av = .int .i64 a ∧ nv = .int .i64 now ∧ (now ≤ wh → a = 0) ∧ Wv x f hh a mn now ∧ Wt w1 g sz (k + now) s t k x f hh wr) (fun _ nv _ => tk - (intOf nv).toNat)
            case atStart => exact ⟨0, 0, x, f, fun _ => 0, by omega, by omega, rfl, rfl, fun _ => rfl, HV.out.1, HV.out.2⟩
            case round =>
              repeat (rename_i zzC; first | (have zv : Value := zzC; clear zv; clear zzC) | revert zzC)
              try revert n0
              try revert n1
              try revert n2
              try revert n3
              try revert n4
              try revert w
              try revert p0
              try revert hp0b
              try revert tk
              try revert htkb
              try revert wh
              try revert hwhb
              try revert sz
              try revert hszb
              try revert p1
              try revert hp1b
              try revert mn
              try revert hmnb
              try revert u
              try revert w1
              try clear P0
              try clear P1
              try clear P2
              try clear P3
              try clear P4
              try revert K1
              try revert huM
              try clear HM1
              try clear HM2
              try revert w2
              try revert g
              try clear H2
              try revert wc
              first | clear u27 | revert u27
              first | clear u28 | revert u28
              first | clear u29 | revert u29
              first | clear u30 | revert u30
              first | clear u31 | revert u31
              first | clear u32 | revert u32
              first | clear u33 | revert u33
              first | clear u34 | revert u34
              first | clear u35 | revert u35
              first | clear u36 | revert u36
              first | clear u37 | revert u37
              first | clear u38 | revert u38
              first | clear u39 | revert u39
              first | clear u40 | revert u40
              first | clear u41 | revert u41
              first | clear u42 | revert u42
              first | clear u43 | revert u43
              first | clear u44 | revert u44
              first | clear u45 | revert u45
              first | clear u46 | revert u46
              first | clear u47 | revert u47
              first | clear u48 | revert u48
              first | clear u49 | revert u49
              first | clear u50 | revert u50
              first | clear u51 | revert u51
              first | clear u52 | revert u52
              first | clear u53 | revert u53
              first | clear u54 | revert u54
              first | clear u55 | revert u55
              first | clear u56 | revert u56
              first | clear u57 | revert u57
              first | clear u58 | revert u58
              first | clear u59 | revert u59
              first | clear u224 | revert u224
              first | clear u225 | revert u225
              first | clear u226 | revert u226
              first | clear u227 | revert u227
              first | clear u228 | revert u228
              first | clear u229 | revert u229
              first | clear u230 | revert u230
              first | clear u231 | revert u231
              first | clear u232 | revert u232
              try revert s
              try revert t
              try revert w3
              first | clear u17 | revert u17
              first | clear u18 | revert u18
              first | clear u60 | revert u60
              first | clear u61 | revert u61
              first | clear u62 | revert u62
              first | clear u63 | revert u63
              first | clear u64 | revert u64
              first | clear u65 | revert u65
              first | clear u66 | revert u66
              first | clear u67 | revert u67
              first | clear u68 | revert u68
              first | clear u69 | revert u69
              first | clear u70 | revert u70
              first | clear u71 | revert u71
              first | clear u72 | revert u72
              first | clear u73 | revert u73
              first | clear u74 | revert u74
              first | clear u75 | revert u75
              first | clear u76 | revert u76
              first | clear u77 | revert u77
              first | clear u78 | revert u78
              first | clear u79 | revert u79
              first | clear u80 | revert u80
              first | clear u81 | revert u81
              first | clear u82 | revert u82
              try revert k
              try revert x
              try revert f
              try revert hk1
              try revert hub
              try revert HEQ
              try revert hMb
              try revert HM3
              try clear hwM
              try clear HW
              try clear hk2
              try revert hlt
              try revert HV
              try revert j1
              try revert wr
              first | clear u10 | revert u10
              first | clear u19 | revert u19
              first | clear u20 | revert u20
              first | clear u21 | revert u21
              first | clear u22 | revert u22
              first | clear u23 | revert u23
              first | clear u24 | revert u24
              first | clear u25 | revert u25
              first | clear u26 | revert u26
              first | clear u83 | revert u83
              first | clear u84 | revert u84
              first | clear u85 | revert u85
              first | clear u86 | revert u86
              first | clear u87 | revert u87
              first | clear u88 | revert u88
              first | clear u89 | revert u89
              first | clear u90 | revert u90
              first | clear u91 | revert u91
              first | clear u92 | revert u92
              first | clear u93 | revert u93
              first | clear u94 | revert u94
              first | clear u95 | revert u95
              first | clear u96 | revert u96
              first | clear u97 | revert u97
              first | clear u98 | revert u98
              first | clear u99 | revert u99
              first | clear u100 | revert u100
              first | clear u101 | revert u101
              first | clear u102 | revert u102
              first | clear u103 | revert u103
              first | clear u104 | revert u104
              first | clear u105 | revert u105
              first | clear u106 | revert u106
              first | clear u107 | revert u107
              first | clear u108 | revert u108
              first | clear u109 | revert u109
              first | clear u110 | revert u110
              first | clear u111 | revert u111
              first | clear u112 | revert u112
              first | clear u113 | revert u113
              first | clear u114 | revert u114
              first | clear u115 | revert u115
              first | clear u116 | revert u116
              first | clear u117 | revert u117
              first | clear u118 | revert u118
              first | clear u119 | revert u119
              first | clear u120 | revert u120
              first | clear u121 | revert u121
              first | clear u122 | revert u122
              first | clear u123 | revert u123
              first | clear u124 | revert u124
              first | clear u125 | revert u125
              first | clear u126 | revert u126
              first | clear u127 | revert u127
              first | clear u128 | revert u128
              first | clear u129 | revert u129
              first | clear u130 | revert u130
              first | clear u131 | revert u131
              first | clear u132 | revert u132
              first | clear u133 | revert u133
              first | clear u134 | revert u134
              first | clear u135 | revert u135
              first | clear u136 | revert u136
              first | clear u137 | revert u137
              first | clear u138 | revert u138
              first | clear u139 | revert u139
              first | clear u140 | revert u140
              first | clear u141 | revert u141
              first | clear u142 | revert u142
              first | clear u143 | revert u143
              first | clear u144 | revert u144
              first | clear u145 | revert u145
              first | clear u146 | revert u146
              first | clear u147 | revert u147
              first | clear u148 | revert u148
              first | clear u149 | revert u149
              first | clear u150 | revert u150
              first | clear u151 | revert u151
              first | clear u152 | revert u152
              first | clear u153 | revert u153
              first | clear u154 | revert u154
              first | clear u155 | revert u155
              first | clear u156 | revert u156
              first | clear u157 | revert u157
              first | clear u158 | revert u158
              first | clear u159 | revert u159
              first | clear u160 | revert u160
              first | clear u161 | revert u161
              first | clear u162 | revert u162
              first | clear u163 | revert u163
              first | clear u164 | revert u164
              first | clear u165 | revert u165
              first | clear u166 | revert u166
              first | clear u167 | revert u167
              first | clear u168 | revert u168
              first | clear u169 | revert u169
              first | clear u170 | revert u170
              first | clear u171 | revert u171
              first | clear u172 | revert u172
              first | clear u173 | revert u173
              first | clear u174 | revert u174
              first | clear u175 | revert u175
              first | clear u176 | revert u176
              first | clear u177 | revert u177
              first | clear u178 | revert u178
              first | clear u179 | revert u179
              first | clear u180 | revert u180
              first | clear u181 | revert u181
              first | clear u182 | revert u182
              first | clear u183 | revert u183
              first | clear u184 | revert u184
              first | clear u185 | revert u185
              first | clear u186 | revert u186
              first | clear u187 | revert u187
              first | clear u188 | revert u188
              first | clear u189 | revert u189
              first | clear u190 | revert u190
              first | clear u191 | revert u191
              first | clear u192 | revert u192
              first | clear u193 | revert u193
              first | clear u194 | revert u194
              first | clear u195 | revert u195
              first | clear u196 | revert u196
              first | clear u197 | revert u197
              first | clear u198 | revert u198
              first | clear u199 | revert u199
              first | clear u200 | revert u200
              first | clear u201 | revert u201
              first | clear u202 | revert u202
              first | clear u203 | revert u203
              first | clear u204 | revert u204
              first | clear u205 | revert u205
              first | clear u206 | revert u206
              first | clear u207 | revert u207
              first | clear u208 | revert u208
              first | clear u209 | revert u209
              first | clear u210 | revert u210
              first | clear u211 | revert u211
              first | clear u212 | revert u212
              first | clear u213 | revert u213
              first | clear u214 | revert u214
              first | clear u215 | revert u215
              first | clear u216 | revert u216
              first | clear u217 | revert u217
              first | clear u218 | revert u218
              first | clear u219 | revert u219
              first | clear u220 | revert u220
              first | clear u221 | revert u221
              first | clear u222 | revert u222
              first | clear u223 | revert u223
              try revert hrel
              exact hC.out
end Go.Proofs.Ytnapokdipelmiaa
