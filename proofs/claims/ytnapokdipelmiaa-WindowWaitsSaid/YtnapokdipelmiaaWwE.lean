/- WindowWaits: a part of the walk. (Written by wip/winparts.py.) -/
import Derived.Test.YtnapokdipelmiaaWwA
namespace Go.Proofs.Ytnapokdipelmiaa
open Go.RowKit Flt
set_option linter.unusedVariables false
set_option linter.unusedSimpArgs false
set_option maxHeartbeats 4000000 in
set_option maxRecDepth 20000 in
theorem wwB2 : wwA.1.2.1 := by
  intro f x hno hpk k hk1 hla hln y1 y2 y3 y4 y5 y6 y7 y8 y9 y10 y11 y12 y13 y14 y15 y16 y17 y18 y19 y20 y21 y22 y23 y24 y25 y26 wr w3 t s y27 y28 y29 y30 y31 y32 y33 y34 y35 y36 y37 y38 y39 y40 y41 y42 y43 y44 y45 y46 y47 y48 y49 y50 y51 y52 y53 y54 y55 y56 y57 y58 y59 y60 y61 y62 y63 y64 y65 y66 y67 y68 y69 y70 y71 y72 y73 y74 y75 y76 y77 y78 y79 y80 y81 y82 y83 y84 y85 y86 y87 y88 y89 y90 y91 y92 y93 y94 y95 y96 y97 y98 y99 y100 y101 y102 y103 y104 y105 y106 y107 y108 y109 y110 y111 y112 y113 y114 y115 y116 y117 y118 y119 y120 y121 y122 y123 y124 y125 y126 y127 y128 y129 y130 y131 y132 y133 y134 y135 y136 y137 y138 y139 y140 y141 y142 y143 y144 y145 y146 y147 y148 y149 y150 y151 y152 y153 y154 y155 y156 y157 y158 y159 y160 y161 y162 y163 y164 y165 y166 y167 y168 y169 y170 y171 y172 y173 y174 y175 y176 y177 y178 y179 y180 y181 y182 y183 y184 y185 y186 y187 y188 y189 y190 y191 y192 y193 y194 y195 y196 y197 y198 y199 y200 y201 y202 y203 y204 y205 y206 y207 y208 y209 wc g w2 w1 u M hub hMb hwM hk2 hlt mn huM HM3 p1 HM2 sz hszb hp1b hmnb H2 HW hw wh hwhb tk htkb p0 hp0b HEQ HM1 w K1 n4 P4 n3 P3 n2 P2 n1 P1 n0 P0 y210 y211 zq
  have j1 : (k : Int) ≤ mn := by have := HEQ.out.2.2; omega
  have hwr : IntKind.u8.wrap (k : Int) = (k : Int) := by rw [IntWalk.u8_in _ (by omega)]
  obtain ⟨wa, hwa⟩ : ∃ wa, wa = wr.alloc (.cells #[.int .u8 (k : Nat)] 5) := ⟨_, rfl⟩
  have ka : Kp (fun _ => False) wr wa := by rw [hwa]; exact (Kp.refl _ wr).alloc _
  have hrb : RdB wa (some ⟨wr.heap.size, 0, none⟩) [(k : Int)] := by rw [hwa]; exact one_rd wr _ k (by omega)
  have CP := push_wt (hw.kp0 ka) (by omega) (some ⟨wr.heap.size, 0, none⟩) 1 1 [(k : Int)] rfl hrb (by omega) (by omega)
  rw [hla, hwa] at CP
  have CP := Lib.hid CP
  have HX := Lib.hid (And.intro hla (And.intro hln (And.intro hno hpk)))
  clear hw hwa ka hrb hla hln hno hpk
  go_wp2_with fail
  go_at_call 11
  refine CP.out.mono ?_
  rintro e w5 ⟨rfl, p, V', h3, h4, h5, h6⟩
  have hcs := h6.hs.cell (k := k) hlt
  have hfz := AtF.frozen h6.hs k
  have H6 := Lib.hid (h6.setS k (-1))
  have HP := Lib.hid (And.intro h4 h5)
  clear h3 h4 h5 h6 CP
  go_wp2_with fail
  go_roundw
  case rel =>
    obtain ⟨hla, hln, hno, hpk⟩ := HX.out
    refine ⟨k + 1, { x with last := k, V := V', l := x.l ++ [p] }, updI f k (-1), by omega, by omega, by go_num, ?_, ?_, hno, fun j hj => ?_, ?_⟩
    · rfl
    · show (x.l ++ [p]).length + 1 = k + 1
      rw [List.length_append, List.length_singleton]; omega
    rotate_left
    · exact H6.out
    have hj : j < (x.l ++ [p]).length := hj
    simp only [List.length_append, List.length_singleton] at hj
    show (pk (x.l ++ [p]) j).times = 0 ∧ (pk (x.l ++ [p]) j).body = _ ∧ updI f k (-1) (j + 1) = -1
    by_cases hj' : j < x.l.length
    · rw [pk_app_lt hj', updI_ne _ _ (by omega)]
      exact hpk j hj'
    · obtain rfl : j = x.l.length := by omega
      rw [pk_app_at, HP.out.1, hln, updI_same]
      exact ⟨HP.out.2, rfl, rfl⟩
  case measure => simp [intOf]; omega
end Go.Proofs.Ytnapokdipelmiaa
