/- WindowWaits: a part of the walk. (Written by wip/winparts.py.) -/
import Derived.Test.YtnapokdipelmiaaWwA
namespace Go.Proofs.Ytnapokdipelmiaa
open Go.RowKit Flt
set_option linter.unusedVariables false
set_option linter.unusedSimpArgs false
set_option maxHeartbeats 4000000 in
set_option maxRecDepth 20000 in
def wwC : { P : Prop // P → wwA.1.2.2 } := by
  apply part1
  focus
  intro hD
  intro y1 y2 y3 y4 y5 y6 y7 y8 y9 y10 y11 y12 y13 y14 y15 y16 y17 y18 y19 y20 y21 y22 y23 y24 y25 y26 y27 y28 y29 y30 y31 y32 y33 y34 y35 y36 y37 y38 y39 y40 y41 y42 y43 y44 y45 y46 y47 y48 y49 y50 y51 y52 y53 y54 y55 y56 y57 y58 y59 y60 y61 y62 y63 y64 y65 y66 y67 y68 y69 y70 y71 y72 y73 y74 y75 y76 y77 y78 y79 y80 y81 y82 y83 y84 y85 y86 y87 y88 y89 y90 y91 y92 y93 y94 y95 y96 y97 y98 y99 y100 y101 y102 y103 y104 y105 y106 y107 y108 y109 y110 y111 y112 y113 y114 y115 y116 y117 y118 y119 y120 y121 y122 y123 y124 y125 y126 y127 y128 y129 y130 y131 y132 y133 y134 y135 y136 y137 y138 y139 y140 y141 y142 y143 y144 y145 y146 y147 y148 y149 y150 wr f x k hk1 hMb hwM hk2 hlt y151 y152 y153 y154 y155 y156 y157 y158 y159 y160 y161 y162 y163 y164 y165 y166 y167 y168 y169 y170 y171 y172 y173 y174 y175 w3 t s y176 y177 y178 y179 y180 y181 y182 y183 y184 y185 y186 y187 y188 y189 y190 y191 y192 y193 y194 y195 y196 y197 y198 y199 y200 y201 y202 y203 y204 y205 y206 y207 y208 y209 y210 y211 y212 y213 y214 y215 y216 y217 wc g w2 w1 u hub mn huM HM3 j1 p1 HM2 sz hszb hp1b hmnb H2 HW wh hwhb tk htkb hrel p0 hp0b HM1 HEQ w K1 n4 P4 n3 P3 n2 P2 n1 P1 n0 P0 y218 y219 y220 y221 y222 y223 y224 y225 y226 y227 y228 y229 y230 y231 y232 y233 y234 y235 y236 y237 y238 y239 y240 y241 y242 y243 y244 y245 y246 y247 y248 y249 y250 y251 y252 y253 y254 y255 y256 y257 y258 y259 y260 y261 y262 y263 y264 y265 y266 y267 y268 y269 y270 y271 y272 y273 y274 y275 y276 y277 y278 y279 y280 y281 y282 y283 y284 y285 y286 y287 y288 y289 y290 y291 y292 y293 y294 y295 y296 y297 y298 y299 y300 y301 y302 y303 y304 y305 y306 y307 y308 y309 y310 y311 y312 y313 y314 y315 y316 y317 y318 y319 y320 y321 y322 y323 y324 y325 y326 y327 y328 y329 y330 y331 y332 y333 y334 y335 y336 y337 y338 y339 y340 y341 y342 y343 y344 y345 y346 y347 y348 y349 y350 y351 y352 y353 y354 y355 y356 y357 y358 y359 y360 y361 HV y362 y363 y364 y365 y366 zq
  obtain ⟨a, now, x, f, hh, ha, hnow, rfl, rfl, hawh, hv, hw⟩ := hrel
  have HVV := Lib.hid (And.intro hv hw)
  have HAW := Lib.hid hawh
  clear hv hw hawh HV
  by_cases hlt : now < tk
  · have j1 : (now : Int) < tk := by omega
    go_upto_if 90 with fail
    go_cut [19] (fun av wx => ∃ (a' : Nat) (x' : Wn), av = .int .i64 a' ∧ a' ≤ mn ∧ (now + 1 ≤ wh → a' = 0) ∧ Wv x' f hh a' mn now ∧ Wt w1 g sz (k + now) s t k x' f hh wx)
    case first =>
      by_cases heq : now = wh
      · subst heq
        obtain rfl : a = 0 := HAW.out (Nat.le_refl _)
        have hgn : goneN x u = u := by
          have h1 := HVV.out.1.len
          have h2 := HVV.out.1.last
          unfold goneN; omega
        have CA := ack_wt HVV.out.2 (by omega) u now (by have := HVV.out.1.last; omega) (by omega)
        rw [hgn] at CA
        have CA := Lib.hid CA
        have HU := Lib.hid huM
        clear hgn
        go_wp2_with fail
        go_at_call 12
        refine CA.out.mono ?_
        rintro e w6 ⟨rfl, V', h6⟩
        have H6 := Lib.hid (And.intro (HVV.out.1.ack (a := 0) (V' := V') HU.out) h6)
        clear h6 CA
        go_wp2_with fail
        go_meet
        exact ⟨u, ackL x u (max x.now now) V', rfl, HU.out, fun h => by omega, H6.out.1, H6.out.2⟩
      · have j2 : ¬ (now : Int) = wh := by omega
        go_wp2_with fail
        go_meet
        exact ⟨a, x, rfl, ha, fun h => HAW.out (by omega), HVV.out.1, HVV.out.2⟩
    case rest =>
      obtain ⟨a', x', rfl, ha', haw', hv', hw'⟩ := hcut
      have CD := Lib.hid (due_wt hw' (by omega) now (by omega))
      have HO := Lib.hid (And.intro hv' (And.intro hw' haw'))
      clear HVV HAW hv' hw' haw' ha
      go_wp2_with fail
      go_at_call 13
      refine CD.out.mono ?_
      rintro e w8 ⟨v8, l8, rfl, ho8, ht8, h8⟩
      obtain ⟨va, vc, hv8, _⟩ := ho8.form
      obtain ⟨K, hK⟩ : ∃ K, K = l8.length := ⟨_, rfl⟩
      rw [← hK] at hv8
      subst hv8
      have H8 := Lib.hid (And.intro ho8 (And.intro ht8 (And.intro h8 hK)))
      clear ho8 ht8 h8 hK CD
      go_wp2_with fail
      go_loopw [24] (fun qv wr => ∃ (q : Nat) (f' hh' : Nat → Int), q ≤ K ∧ qv = .int .i64 q ∧ Iv x' (dueI (atW x' now)) f hh a' now q f' hh' ∧ Wt w1 g sz (k + now + 1) s t k (dueW (atW x' now)) f' hh' wr ∧ OwnT wc.heap.size wr (.slice va K vc) l8) (fun qv _ => K - (intOf qv).toNat)
      case atStart => exact ⟨0, f, hh, by omega, rfl, Iv.start _ _ _ _ _ _, H8.out.2.2.1, H8.out.1⟩
      case round =>
        repeat (rename_i zzD; first | (have zv : Value := zzD; clear zv; clear zzD) | revert zzD)
        first | (have zv : Value := y1; clear zv; clear y1) | (try revert y1)
        first | (have zv : Value := y2; clear zv; clear y2) | (try revert y2)
        first | (have zv : Value := y3; clear zv; clear y3) | (try revert y3)
        first | (have zv : Value := y4; clear zv; clear y4) | (try revert y4)
        first | (have zv : Value := y5; clear zv; clear y5) | (try revert y5)
        first | (have zv : Value := y6; clear zv; clear y6) | (try revert y6)
        first | (have zv : Value := y7; clear zv; clear y7) | (try revert y7)
        first | (have zv : Value := y8; clear zv; clear y8) | (try revert y8)
        first | (have zv : Value := y9; clear zv; clear y9) | (try revert y9)
        first | (have zv : Value := y10; clear zv; clear y10) | (try revert y10)
        first | (have zv : Value := y11; clear zv; clear y11) | (try revert y11)
        first | (have zv : Value := y12; clear zv; clear y12) | (try revert y12)
        first | (have zv : Value := y13; clear zv; clear y13) | (try revert y13)
        first | (have zv : Value := y14; clear zv; clear y14) | (try revert y14)
        first | (have zv : Value := y15; clear zv; clear y15) | (try revert y15)
        first | (have zv : Value := y16; clear zv; clear y16) | (try revert y16)
        first | (have zv : Value := y17; clear zv; clear y17) | (try revert y17)
        first | (have zv : Value := y18; clear zv; clear y18) | (try revert y18)
        first | (have zv : Value := y19; clear zv; clear y19) | (try revert y19)
        first | (have zv : Value := y20; clear zv; clear y20) | (try revert y20)
        first | (have zv : Value := y21; clear zv; clear y21) | (try revert y21)
        first | (have zv : Value := y22; clear zv; clear y22) | (try revert y22)
        first | (have zv : Value := y23; clear zv; clear y23) | (try revert y23)
        first | (have zv : Value := y24; clear zv; clear y24) | (try revert y24)
        first | (have zv : Value := y25; clear zv; clear y25) | (try revert y25)
        first | (have zv : Value := y26; clear zv; clear y26) | (try revert y26)
        first | (have zv : Value := y27; clear zv; clear y27) | (try revert y27)
        first | (have zv : Value := y28; clear zv; clear y28) | (try revert y28)
        first | (have zv : Value := y29; clear zv; clear y29) | (try revert y29)
        first | (have zv : Value := y30; clear zv; clear y30) | (try revert y30)
        first | (have zv : Value := y31; clear zv; clear y31) | (try revert y31)
        first | (have zv : Value := y32; clear zv; clear y32) | (try revert y32)
        first | (have zv : Value := y33; clear zv; clear y33) | (try revert y33)
        first | (have zv : Value := y34; clear zv; clear y34) | (try revert y34)
        first | (have zv : Value := y35; clear zv; clear y35) | (try revert y35)
        first | (have zv : Value := y36; clear zv; clear y36) | (try revert y36)
        first | (have zv : Value := y37; clear zv; clear y37) | (try revert y37)
        first | (have zv : Value := y38; clear zv; clear y38) | (try revert y38)
        first | (have zv : Value := y39; clear zv; clear y39) | (try revert y39)
        first | (have zv : Value := y40; clear zv; clear y40) | (try revert y40)
        first | (have zv : Value := y41; clear zv; clear y41) | (try revert y41)
        first | (have zv : Value := y42; clear zv; clear y42) | (try revert y42)
        first | (have zv : Value := y43; clear zv; clear y43) | (try revert y43)
        first | (have zv : Value := y44; clear zv; clear y44) | (try revert y44)
        first | (have zv : Value := y45; clear zv; clear y45) | (try revert y45)
        first | (have zv : Value := y46; clear zv; clear y46) | (try revert y46)
        first | (have zv : Value := y47; clear zv; clear y47) | (try revert y47)
        first | (have zv : Value := y48; clear zv; clear y48) | (try revert y48)
        first | (have zv : Value := y49; clear zv; clear y49) | (try revert y49)
        first | (have zv : Value := y50; clear zv; clear y50) | (try revert y50)
        first | (have zv : Value := y51; clear zv; clear y51) | (try revert y51)
        first | (have zv : Value := y52; clear zv; clear y52) | (try revert y52)
        first | (have zv : Value := y53; clear zv; clear y53) | (try revert y53)
        first | (have zv : Value := y54; clear zv; clear y54) | (try revert y54)
        first | (have zv : Value := y55; clear zv; clear y55) | (try revert y55)
        first | (have zv : Value := y56; clear zv; clear y56) | (try revert y56)
        first | (have zv : Value := y57; clear zv; clear y57) | (try revert y57)
        first | (have zv : Value := y58; clear zv; clear y58) | (try revert y58)
        first | (have zv : Value := y59; clear zv; clear y59) | (try revert y59)
        first | (have zv : Value := y60; clear zv; clear y60) | (try revert y60)
        first | (have zv : Value := y61; clear zv; clear y61) | (try revert y61)
        first | (have zv : Value := y62; clear zv; clear y62) | (try revert y62)
        first | (have zv : Value := y63; clear zv; clear y63) | (try revert y63)
        first | (have zv : Value := y64; clear zv; clear y64) | (try revert y64)
        first | (have zv : Value := y65; clear zv; clear y65) | (try revert y65)
        first | (have zv : Value := y66; clear zv; clear y66) | (try revert y66)
        first | (have zv : Value := y67; clear zv; clear y67) | (try revert y67)
        first | (have zv : Value := y68; clear zv; clear y68) | (try revert y68)
        first | (have zv : Value := y69; clear zv; clear y69) | (try revert y69)
        first | (have zv : Value := y70; clear zv; clear y70) | (try revert y70)
        first | (have zv : Value := y71; clear zv; clear y71) | (try revert y71)
        first | (have zv : Value := y72; clear zv; clear y72) | (try revert y72)
        first | (have zv : Value := y73; clear zv; clear y73) | (try revert y73)
        first | (have zv : Value := y74; clear zv; clear y74) | (try revert y74)
        first | (have zv : Value := y75; clear zv; clear y75) | (try revert y75)
        first | (have zv : Value := y76; clear zv; clear y76) | (try revert y76)
        first | (have zv : Value := y77; clear zv; clear y77) | (try revert y77)
        first | (have zv : Value := y78; clear zv; clear y78) | (try revert y78)
        first | (have zv : Value := y79; clear zv; clear y79) | (try revert y79)
        first | (have zv : Value := y80; clear zv; clear y80) | (try revert y80)
        first | (have zv : Value := y81; clear zv; clear y81) | (try revert y81)
        first | (have zv : Value := y82; clear zv; clear y82) | (try revert y82)
        first | (have zv : Value := y83; clear zv; clear y83) | (try revert y83)
        first | (have zv : Value := y84; clear zv; clear y84) | (try revert y84)
        first | (have zv : Value := y85; clear zv; clear y85) | (try revert y85)
        first | (have zv : Value := y86; clear zv; clear y86) | (try revert y86)
        first | (have zv : Value := y87; clear zv; clear y87) | (try revert y87)
        first | (have zv : Value := y88; clear zv; clear y88) | (try revert y88)
        first | (have zv : Value := y89; clear zv; clear y89) | (try revert y89)
        first | (have zv : Value := y90; clear zv; clear y90) | (try revert y90)
        first | (have zv : Value := y91; clear zv; clear y91) | (try revert y91)
        first | (have zv : Value := y92; clear zv; clear y92) | (try revert y92)
        first | (have zv : Value := y93; clear zv; clear y93) | (try revert y93)
        first | (have zv : Value := y94; clear zv; clear y94) | (try revert y94)
        first | (have zv : Value := y95; clear zv; clear y95) | (try revert y95)
        first | (have zv : Value := y96; clear zv; clear y96) | (try revert y96)
        first | (have zv : Value := y97; clear zv; clear y97) | (try revert y97)
        first | (have zv : Value := y98; clear zv; clear y98) | (try revert y98)
        first | (have zv : Value := y99; clear zv; clear y99) | (try revert y99)
        first | (have zv : Value := y100; clear zv; clear y100) | (try revert y100)
        first | (have zv : Value := y101; clear zv; clear y101) | (try revert y101)
        first | (have zv : Value := y102; clear zv; clear y102) | (try revert y102)
        first | (have zv : Value := y103; clear zv; clear y103) | (try revert y103)
        first | (have zv : Value := y104; clear zv; clear y104) | (try revert y104)
        first | (have zv : Value := y105; clear zv; clear y105) | (try revert y105)
        first | (have zv : Value := y106; clear zv; clear y106) | (try revert y106)
        first | (have zv : Value := y107; clear zv; clear y107) | (try revert y107)
        first | (have zv : Value := y108; clear zv; clear y108) | (try revert y108)
        first | (have zv : Value := y109; clear zv; clear y109) | (try revert y109)
        first | (have zv : Value := y110; clear zv; clear y110) | (try revert y110)
        first | (have zv : Value := y111; clear zv; clear y111) | (try revert y111)
        first | (have zv : Value := y112; clear zv; clear y112) | (try revert y112)
        first | (have zv : Value := y113; clear zv; clear y113) | (try revert y113)
        first | (have zv : Value := y114; clear zv; clear y114) | (try revert y114)
        first | (have zv : Value := y115; clear zv; clear y115) | (try revert y115)
        first | (have zv : Value := y116; clear zv; clear y116) | (try revert y116)
        first | (have zv : Value := y117; clear zv; clear y117) | (try revert y117)
        first | (have zv : Value := y118; clear zv; clear y118) | (try revert y118)
        first | (have zv : Value := y119; clear zv; clear y119) | (try revert y119)
        first | (have zv : Value := y120; clear zv; clear y120) | (try revert y120)
        first | (have zv : Value := y121; clear zv; clear y121) | (try revert y121)
        first | (have zv : Value := y122; clear zv; clear y122) | (try revert y122)
        first | (have zv : Value := y123; clear zv; clear y123) | (try revert y123)
        first | (have zv : Value := y124; clear zv; clear y124) | (try revert y124)
        first | (have zv : Value := y125; clear zv; clear y125) | (try revert y125)
        first | (have zv : Value := y126; clear zv; clear y126) | (try revert y126)
        first | (have zv : Value := y127; clear zv; clear y127) | (try revert y127)
        first | (have zv : Value := y128; clear zv; clear y128) | (try revert y128)
        first | (have zv : Value := y129; clear zv; clear y129) | (try revert y129)
        first | (have zv : Value := y130; clear zv; clear y130) | (try revert y130)
        first | (have zv : Value := y131; clear zv; clear y131) | (try revert y131)
        first | (have zv : Value := y132; clear zv; clear y132) | (try revert y132)
        first | (have zv : Value := y133; clear zv; clear y133) | (try revert y133)
        first | (have zv : Value := y134; clear zv; clear y134) | (try revert y134)
        first | (have zv : Value := y135; clear zv; clear y135) | (try revert y135)
        first | (have zv : Value := y136; clear zv; clear y136) | (try revert y136)
        first | (have zv : Value := y137; clear zv; clear y137) | (try revert y137)
        first | (have zv : Value := y138; clear zv; clear y138) | (try revert y138)
        first | (have zv : Value := y139; clear zv; clear y139) | (try revert y139)
        first | (have zv : Value := y140; clear zv; clear y140) | (try revert y140)
        first | (have zv : Value := y141; clear zv; clear y141) | (try revert y141)
        first | (have zv : Value := y142; clear zv; clear y142) | (try revert y142)
        first | (have zv : Value := y143; clear zv; clear y143) | (try revert y143)
        first | (have zv : Value := y144; clear zv; clear y144) | (try revert y144)
        first | (have zv : Value := y145; clear zv; clear y145) | (try revert y145)
        first | (have zv : Value := y146; clear zv; clear y146) | (try revert y146)
        first | (have zv : Value := y147; clear zv; clear y147) | (try revert y147)
        first | (have zv : Value := y150; clear zv; clear y150) | (try revert y150)
        try revert k
        try revert hk1
        try revert hMb
        try clear hwM
        try clear hk2
        first | (have zv : Value := y151; clear zv; clear y151) | (try revert y151)
        first | (have zv : Value := y152; clear zv; clear y152) | (try revert y152)
        first | (have zv : Value := y153; clear zv; clear y153) | (try revert y153)
        first | (have zv : Value := y154; clear zv; clear y154) | (try revert y154)
        first | (have zv : Value := y155; clear zv; clear y155) | (try revert y155)
        first | (have zv : Value := y156; clear zv; clear y156) | (try revert y156)
        first | (have zv : Value := y157; clear zv; clear y157) | (try revert y157)
        first | (have zv : Value := y158; clear zv; clear y158) | (try revert y158)
        first | (have zv : Value := y159; clear zv; clear y159) | (try revert y159)
        first | (have zv : Value := y160; clear zv; clear y160) | (try revert y160)
        first | (have zv : Value := y161; clear zv; clear y161) | (try revert y161)
        first | (have zv : Value := y162; clear zv; clear y162) | (try revert y162)
        first | (have zv : Value := y163; clear zv; clear y163) | (try revert y163)
        first | (have zv : Value := y164; clear zv; clear y164) | (try revert y164)
        first | (have zv : Value := y165; clear zv; clear y165) | (try revert y165)
        first | (have zv : Value := y166; clear zv; clear y166) | (try revert y166)
        first | (have zv : Value := y167; clear zv; clear y167) | (try revert y167)
        first | (have zv : Value := y168; clear zv; clear y168) | (try revert y168)
        first | (have zv : Value := y169; clear zv; clear y169) | (try revert y169)
        first | (have zv : Value := y170; clear zv; clear y170) | (try revert y170)
        first | (have zv : Value := y171; clear zv; clear y171) | (try revert y171)
        first | (have zv : Value := y172; clear zv; clear y172) | (try revert y172)
        first | (have zv : Value := y173; clear zv; clear y173) | (try revert y173)
        first | (have zv : Value := y174; clear zv; clear y174) | (try revert y174)
        first | (have zv : Value := y175; clear zv; clear y175) | (try revert y175)
        try revert w3
        try revert t
        try revert s
        first | (have zv : Value := y176; clear zv; clear y176) | (try revert y176)
        first | (have zv : Value := y177; clear zv; clear y177) | (try revert y177)
        first | (have zv : Value := y178; clear zv; clear y178) | (try revert y178)
        first | (have zv : Value := y179; clear zv; clear y179) | (try revert y179)
        first | (have zv : Value := y180; clear zv; clear y180) | (try revert y180)
        first | (have zv : Value := y181; clear zv; clear y181) | (try revert y181)
        first | (have zv : Value := y182; clear zv; clear y182) | (try revert y182)
        first | (have zv : Value := y183; clear zv; clear y183) | (try revert y183)
        first | (have zv : Value := y184; clear zv; clear y184) | (try revert y184)
        first | (have zv : Value := y185; clear zv; clear y185) | (try revert y185)
        first | (have zv : Value := y186; clear zv; clear y186) | (try revert y186)
        first | (have zv : Value := y187; clear zv; clear y187) | (try revert y187)
        first | (have zv : Value := y188; clear zv; clear y188) | (try revert y188)
        first | (have zv : Value := y189; clear zv; clear y189) | (try revert y189)
        first | (have zv : Value := y190; clear zv; clear y190) | (try revert y190)
        first | (have zv : Value := y191; clear zv; clear y191) | (try revert y191)
        first | (have zv : Value := y192; clear zv; clear y192) | (try revert y192)
        first | (have zv : Value := y193; clear zv; clear y193) | (try revert y193)
        first | (have zv : Value := y194; clear zv; clear y194) | (try revert y194)
        first | (have zv : Value := y195; clear zv; clear y195) | (try revert y195)
        first | (have zv : Value := y196; clear zv; clear y196) | (try revert y196)
        first | (have zv : Value := y197; clear zv; clear y197) | (try revert y197)
        first | (have zv : Value := y198; clear zv; clear y198) | (try revert y198)
        first | (have zv : Value := y199; clear zv; clear y199) | (try revert y199)
        first | (have zv : Value := y200; clear zv; clear y200) | (try revert y200)
        first | (have zv : Value := y201; clear zv; clear y201) | (try revert y201)
        first | (have zv : Value := y202; clear zv; clear y202) | (try revert y202)
        first | (have zv : Value := y203; clear zv; clear y203) | (try revert y203)
        first | (have zv : Value := y204; clear zv; clear y204) | (try revert y204)
        first | (have zv : Value := y205; clear zv; clear y205) | (try revert y205)
        first | (have zv : Value := y206; clear zv; clear y206) | (try revert y206)
        first | (have zv : Value := y207; clear zv; clear y207) | (try revert y207)
        first | (have zv : Value := y208; clear zv; clear y208) | (try revert y208)
        first | (have zv : Value := y209; clear zv; clear y209) | (try revert y209)
        first | (have zv : Value := y210; clear zv; clear y210) | (try revert y210)
        first | (have zv : Value := y211; clear zv; clear y211) | (try revert y211)
        first | (have zv : Value := y212; clear zv; clear y212) | (try revert y212)
        first | (have zv : Value := y213; clear zv; clear y213) | (try revert y213)
        first | (have zv : Value := y214; clear zv; clear y214) | (try revert y214)
        first | (have zv : Value := y215; clear zv; clear y215) | (try revert y215)
        first | (have zv : Value := y216; clear zv; clear y216) | (try revert y216)
        first | (have zv : Value := y217; clear zv; clear y217) | (try revert y217)
        try revert g
        try revert w2
        try revert w1
        try revert u
        try revert hub
        try revert mn
        try revert huM
        try revert HM3
        try revert p1
        try clear HM2
        try revert sz
        try revert hszb
        try revert hp1b
        try revert hmnb
        try clear H2
        try clear HW
        try revert wh
        try revert hwhb
        try revert tk
        try revert htkb
        try revert p0
        try revert hp0b
        try clear HM1
        try revert HEQ
        try revert w
        try revert K1
        try revert n4
        try clear P4
        try revert n3
        try clear P3
        try revert n2
        try clear P2
        try revert n1
        try clear P1
        try revert n0
        try clear P0
        first | (have zv : Value := y218; clear zv; clear y218) | (try revert y218)
        first | (have zv : Value := y219; clear zv; clear y219) | (try revert y219)
        first | (have zv : Value := y220; clear zv; clear y220) | (try revert y220)
        first | (have zv : Value := y221; clear zv; clear y221) | (try revert y221)
        first | (have zv : Value := y222; clear zv; clear y222) | (try revert y222)
        first | (have zv : Value := y223; clear zv; clear y223) | (try revert y223)
        first | (have zv : Value := y224; clear zv; clear y224) | (try revert y224)
        first | (have zv : Value := y225; clear zv; clear y225) | (try revert y225)
        first | (have zv : Value := y226; clear zv; clear y226) | (try revert y226)
        first | (have zv : Value := y227; clear zv; clear y227) | (try revert y227)
        first | (have zv : Value := y228; clear zv; clear y228) | (try revert y228)
        first | (have zv : Value := y229; clear zv; clear y229) | (try revert y229)
        first | (have zv : Value := y230; clear zv; clear y230) | (try revert y230)
        first | (have zv : Value := y231; clear zv; clear y231) | (try revert y231)
        first | (have zv : Value := y232; clear zv; clear y232) | (try revert y232)
        first | (have zv : Value := y233; clear zv; clear y233) | (try revert y233)
        first | (have zv : Value := y234; clear zv; clear y234) | (try revert y234)
        first | (have zv : Value := y235; clear zv; clear y235) | (try revert y235)
        first | (have zv : Value := y236; clear zv; clear y236) | (try revert y236)
        first | (have zv : Value := y237; clear zv; clear y237) | (try revert y237)
        first | (have zv : Value := y238; clear zv; clear y238) | (try revert y238)
        first | (have zv : Value := y239; clear zv; clear y239) | (try revert y239)
        first | (have zv : Value := y240; clear zv; clear y240) | (try revert y240)
        first | (have zv : Value := y241; clear zv; clear y241) | (try revert y241)
        first | (have zv : Value := y242; clear zv; clear y242) | (try revert y242)
        first | (have zv : Value := y243; clear zv; clear y243) | (try revert y243)
        first | (have zv : Value := y244; clear zv; clear y244) | (try revert y244)
        first | (have zv : Value := y245; clear zv; clear y245) | (try revert y245)
        first | (have zv : Value := y246; clear zv; clear y246) | (try revert y246)
        first | (have zv : Value := y247; clear zv; clear y247) | (try revert y247)
        first | (have zv : Value := y248; clear zv; clear y248) | (try revert y248)
        first | (have zv : Value := y249; clear zv; clear y249) | (try revert y249)
        first | (have zv : Value := y250; clear zv; clear y250) | (try revert y250)
        first | (have zv : Value := y251; clear zv; clear y251) | (try revert y251)
        first | (have zv : Value := y252; clear zv; clear y252) | (try revert y252)
        first | (have zv : Value := y253; clear zv; clear y253) | (try revert y253)
        first | (have zv : Value := y254; clear zv; clear y254) | (try revert y254)
        first | (have zv : Value := y255; clear zv; clear y255) | (try revert y255)
        first | (have zv : Value := y256; clear zv; clear y256) | (try revert y256)
        first | (have zv : Value := y257; clear zv; clear y257) | (try revert y257)
        first | (have zv : Value := y258; clear zv; clear y258) | (try revert y258)
        first | (have zv : Value := y259; clear zv; clear y259) | (try revert y259)
        first | (have zv : Value := y260; clear zv; clear y260) | (try revert y260)
        first | (have zv : Value := y261; clear zv; clear y261) | (try revert y261)
        first | (have zv : Value := y262; clear zv; clear y262) | (try revert y262)
        first | (have zv : Value := y263; clear zv; clear y263) | (try revert y263)
        first | (have zv : Value := y264; clear zv; clear y264) | (try revert y264)
        first | (have zv : Value := y265; clear zv; clear y265) | (try revert y265)
        first | (have zv : Value := y266; clear zv; clear y266) | (try revert y266)
        first | (have zv : Value := y267; clear zv; clear y267) | (try revert y267)
        first | (have zv : Value := y268; clear zv; clear y268) | (try revert y268)
        first | (have zv : Value := y269; clear zv; clear y269) | (try revert y269)
        first | (have zv : Value := y270; clear zv; clear y270) | (try revert y270)
        first | (have zv : Value := y271; clear zv; clear y271) | (try revert y271)
        first | (have zv : Value := y272; clear zv; clear y272) | (try revert y272)
        first | (have zv : Value := y273; clear zv; clear y273) | (try revert y273)
        first | (have zv : Value := y274; clear zv; clear y274) | (try revert y274)
        first | (have zv : Value := y275; clear zv; clear y275) | (try revert y275)
        first | (have zv : Value := y276; clear zv; clear y276) | (try revert y276)
        first | (have zv : Value := y277; clear zv; clear y277) | (try revert y277)
        first | (have zv : Value := y278; clear zv; clear y278) | (try revert y278)
        first | (have zv : Value := y279; clear zv; clear y279) | (try revert y279)
        first | (have zv : Value := y280; clear zv; clear y280) | (try revert y280)
        first | (have zv : Value := y281; clear zv; clear y281) | (try revert y281)
        first | (have zv : Value := y282; clear zv; clear y282) | (try revert y282)
        first | (have zv : Value := y283; clear zv; clear y283) | (try revert y283)
        first | (have zv : Value := y284; clear zv; clear y284) | (try revert y284)
        first | (have zv : Value := y285; clear zv; clear y285) | (try revert y285)
        first | (have zv : Value := y286; clear zv; clear y286) | (try revert y286)
        first | (have zv : Value := y287; clear zv; clear y287) | (try revert y287)
        first | (have zv : Value := y288; clear zv; clear y288) | (try revert y288)
        first | (have zv : Value := y289; clear zv; clear y289) | (try revert y289)
        first | (have zv : Value := y290; clear zv; clear y290) | (try revert y290)
        first | (have zv : Value := y291; clear zv; clear y291) | (try revert y291)
        first | (have zv : Value := y292; clear zv; clear y292) | (try revert y292)
        first | (have zv : Value := y293; clear zv; clear y293) | (try revert y293)
        first | (have zv : Value := y294; clear zv; clear y294) | (try revert y294)
        first | (have zv : Value := y295; clear zv; clear y295) | (try revert y295)
        first | (have zv : Value := y296; clear zv; clear y296) | (try revert y296)
        first | (have zv : Value := y297; clear zv; clear y297) | (try revert y297)
        first | (have zv : Value := y298; clear zv; clear y298) | (try revert y298)
        first | (have zv : Value := y299; clear zv; clear y299) | (try revert y299)
        first | (have zv : Value := y300; clear zv; clear y300) | (try revert y300)
        first | (have zv : Value := y301; clear zv; clear y301) | (try revert y301)
        first | (have zv : Value := y302; clear zv; clear y302) | (try revert y302)
        first | (have zv : Value := y303; clear zv; clear y303) | (try revert y303)
        first | (have zv : Value := y304; clear zv; clear y304) | (try revert y304)
        first | (have zv : Value := y305; clear zv; clear y305) | (try revert y305)
        first | (have zv : Value := y306; clear zv; clear y306) | (try revert y306)
        first | (have zv : Value := y307; clear zv; clear y307) | (try revert y307)
        first | (have zv : Value := y308; clear zv; clear y308) | (try revert y308)
        first | (have zv : Value := y309; clear zv; clear y309) | (try revert y309)
        first | (have zv : Value := y310; clear zv; clear y310) | (try revert y310)
        first | (have zv : Value := y311; clear zv; clear y311) | (try revert y311)
        first | (have zv : Value := y312; clear zv; clear y312) | (try revert y312)
        first | (have zv : Value := y313; clear zv; clear y313) | (try revert y313)
        first | (have zv : Value := y314; clear zv; clear y314) | (try revert y314)
        first | (have zv : Value := y315; clear zv; clear y315) | (try revert y315)
        first | (have zv : Value := y316; clear zv; clear y316) | (try revert y316)
        first | (have zv : Value := y317; clear zv; clear y317) | (try revert y317)
        first | (have zv : Value := y318; clear zv; clear y318) | (try revert y318)
        first | (have zv : Value := y319; clear zv; clear y319) | (try revert y319)
        first | (have zv : Value := y320; clear zv; clear y320) | (try revert y320)
        first | (have zv : Value := y321; clear zv; clear y321) | (try revert y321)
        first | (have zv : Value := y322; clear zv; clear y322) | (try revert y322)
        first | (have zv : Value := y323; clear zv; clear y323) | (try revert y323)
        first | (have zv : Value := y324; clear zv; clear y324) | (try revert y324)
        first | (have zv : Value := y325; clear zv; clear y325) | (try revert y325)
        first | (have zv : Value := y326; clear zv; clear y326) | (try revert y326)
        first | (have zv : Value := y327; clear zv; clear y327) | (try revert y327)
        first | (have zv : Value := y328; clear zv; clear y328) | (try revert y328)
        first | (have zv : Value := y329; clear zv; clear y329) | (try revert y329)
        first | (have zv : Value := y330; clear zv; clear y330) | (try revert y330)
        first | (have zv : Value := y331; clear zv; clear y331) | (try revert y331)
        first | (have zv : Value := y332; clear zv; clear y332) | (try revert y332)
        first | (have zv : Value := y333; clear zv; clear y333) | (try revert y333)
        first | (have zv : Value := y334; clear zv; clear y334) | (try revert y334)
        first | (have zv : Value := y335; clear zv; clear y335) | (try revert y335)
        first | (have zv : Value := y336; clear zv; clear y336) | (try revert y336)
        first | (have zv : Value := y337; clear zv; clear y337) | (try revert y337)
        first | (have zv : Value := y338; clear zv; clear y338) | (try revert y338)
        first | (have zv : Value := y339; clear zv; clear y339) | (try revert y339)
        first | (have zv : Value := y340; clear zv; clear y340) | (try revert y340)
        first | (have zv : Value := y341; clear zv; clear y341) | (try revert y341)
        first | (have zv : Value := y342; clear zv; clear y342) | (try revert y342)
        first | (have zv : Value := y343; clear zv; clear y343) | (try revert y343)
        first | (have zv : Value := y344; clear zv; clear y344) | (try revert y344)
        first | (have zv : Value := y345; clear zv; clear y345) | (try revert y345)
        first | (have zv : Value := y346; clear zv; clear y346) | (try revert y346)
        first | (have zv : Value := y347; clear zv; clear y347) | (try revert y347)
        first | (have zv : Value := y348; clear zv; clear y348) | (try revert y348)
        first | (have zv : Value := y349; clear zv; clear y349) | (try revert y349)
        first | (have zv : Value := y350; clear zv; clear y350) | (try revert y350)
        first | (have zv : Value := y351; clear zv; clear y351) | (try revert y351)
        first | (have zv : Value := y352; clear zv; clear y352) | (try revert y352)
        first | (have zv : Value := y353; clear zv; clear y353) | (try revert y353)
        first | (have zv : Value := y354; clear zv; clear y354) | (try revert y354)
        first | (have zv : Value := y355; clear zv; clear y355) | (try revert y355)
        first | (have zv : Value := y356; clear zv; clear y356) | (try revert y356)
        first | (have zv : Value := y357; clear zv; clear y357) | (try revert y357)
        first | (have zv : Value := y358; clear zv; clear y358) | (try revert y358)
        first | (have zv : Value := y359; clear zv; clear y359) | (try revert y359)
        first | (have zv : Value := y360; clear zv; clear y360) | (try revert y360)
        first | (have zv : Value := y361; clear zv; clear y361) | (try revert y361)
        first | (have zv : Value := y362; clear zv; clear y362) | (try revert y362)
        first | (have zv : Value := y363; clear zv; clear y363) | (try revert y363)
        first | (have zv : Value := y364; clear zv; clear y364) | (try revert y364)
        first | (have zv : Value := y365; clear zv; clear y365) | (try revert y365)
        first | (have zv : Value := y366; clear zv; clear y366) | (try revert y366)
        try revert a
        try revert now
        try revert x
        try revert f
        try revert hh
        try revert hnow
        try revert hlt
        try revert wc
        first | clear u21 | revert u21
        first | clear u22 | revert u22
        first | clear u83 | revert u83
        first | clear u84 | revert u84
        first | clear u85 | revert u85
        first | clear u86 | revert u86
        first | clear u87 | revert u87
        first | clear u88 | revert u88
        first | clear u89 | revert u89
        first | clear u90 | revert u90
        first | clear u91 | revert u91
        first | clear u92 | revert u92
        first | clear u93 | revert u93
        first | clear u94 | revert u94
        first | clear u95 | revert u95
        first | clear u96 | revert u96
        first | clear u97 | revert u97
        first | clear u98 | revert u98
        first | clear u99 | revert u99
        first | clear u100 | revert u100
        first | clear u101 | revert u101
        first | clear u102 | revert u102
        first | clear u103 | revert u103
        first | clear u104 | revert u104
        first | clear u105 | revert u105
        first | clear u106 | revert u106
        first | clear u107 | revert u107
        first | clear u108 | revert u108
        first | clear u203 | revert u203
        first | clear u204 | revert u204
        first | clear u205 | revert u205
        first | clear u206 | revert u206
        first | clear u207 | revert u207
        first | clear u208 | revert u208
        first | clear u209 | revert u209
        first | clear u210 | revert u210
        first | clear u211 | revert u211
        first | clear u212 | revert u212
        first | clear u213 | revert u213
        first | clear u214 | revert u214
        first | clear u215 | revert u215
        first | clear u216 | revert u216
        first | clear u217 | revert u217
        first | clear u218 | revert u218
        first | clear u219 | revert u219
        first | clear u220 | revert u220
        first | clear u221 | revert u221
        first | clear u222 | revert u222
        first | clear u223 | revert u223
        try revert a'
        try revert x'
        try revert ha'
        try revert HO
        try revert j1
        try revert w8
        try revert l8
        try revert va
        try revert vc
        try revert K
        try revert H8
        try revert wr
        first | clear u10 | revert u10
        first | clear u24 | revert u24
        first | clear u25 | revert u25
        first | clear u109 | revert u109
        first | clear u110 | revert u110
        first | clear u111 | revert u111
        first | clear u112 | revert u112
        first | clear u113 | revert u113
        first | clear u114 | revert u114
        first | clear u115 | revert u115
        first | clear u116 | revert u116
        first | clear u117 | revert u117
        first | clear u118 | revert u118
        first | clear u119 | revert u119
        first | clear u120 | revert u120
        first | clear u121 | revert u121
        first | clear u122 | revert u122
        first | clear u123 | revert u123
        first | clear u124 | revert u124
        first | clear u125 | revert u125
        first | clear u126 | revert u126
        first | clear u127 | revert u127
        first | clear u128 | revert u128
        first | clear u129 | revert u129
        first | clear u130 | revert u130
        first | clear u131 | revert u131
        first | clear u132 | revert u132
        first | clear u133 | revert u133
        first | clear u134 | revert u134
        first | clear u135 | revert u135
        first | clear u136 | revert u136
        first | clear u137 | revert u137
        first | clear u138 | revert u138
        first | clear u139 | revert u139
        first | clear u140 | revert u140
        first | clear u141 | revert u141
        first | clear u142 | revert u142
        first | clear u143 | revert u143
        first | clear u144 | revert u144
        first | clear u145 | revert u145
        first | clear u146 | revert u146
        first | clear u147 | revert u147
        first | clear u148 | revert u148
        first | clear u149 | revert u149
        first | clear u150 | revert u150
        first | clear u151 | revert u151
        first | clear u152 | revert u152
        first | clear u153 | revert u153
        first | clear u154 | revert u154
        first | clear u155 | revert u155
        first | clear u156 | revert u156
        first | clear u157 | revert u157
        first | clear u158 | revert u158
        first | clear u159 | revert u159
        first | clear u160 | revert u160
        first | clear u161 | revert u161
        first | clear u162 | revert u162
        first | clear u163 | revert u163
        first | clear u164 | revert u164
        first | clear u165 | revert u165
        first | clear u166 | revert u166
        first | clear u167 | revert u167
        first | clear u168 | revert u168
        first | clear u169 | revert u169
        first | clear u170 | revert u170
        first | clear u171 | revert u171
        first | clear u172 | revert u172
        first | clear u173 | revert u173
        first | clear u174 | revert u174
        first | clear u175 | revert u175
        first | clear u176 | revert u176
        first | clear u177 | revert u177
        first | clear u178 | revert u178
        first | clear u179 | revert u179
        first | clear u180 | revert u180
        first | clear u181 | revert u181
        first | clear u182 | revert u182
        first | clear u183 | revert u183
        first | clear u184 | revert u184
        first | clear u185 | revert u185
        first | clear u186 | revert u186
        first | clear u187 | revert u187
        first | clear u188 | revert u188
        first | clear u189 | revert u189
        first | clear u190 | revert u190
        first | clear u191 | revert u191
        first | clear u192 | revert u192
        first | clear u193 | revert u193
        first | clear u194 | revert u194
        first | clear u195 | revert u195
        first | clear u196 | revert u196
        first | clear u197 | revert u197
        first | clear u198 | revert u198
        first | clear u199 | revert u199
        first | clear u200 | revert u200
        first | clear u201 | revert u201
        first | clear u202 | revert u202
        try revert hrel
        try revert zq
        exact hD.out
  · obtain rfl : now = tk := by omega
    have hlen := HVV.out.1.len
    have CO := open_st HVV.out.2.st
    obtain ⟨L, hL⟩ : ∃ L, L = x.l.length := ⟨_, rfl⟩
    rw [← hL] at CO hlen
    have CO := Lib.hid CO
    have HK := Lib.hid (K1.out.trans HVV.out.2.st.kp)
    have j5 : (mn : Int) - (a : Int) = (L : Int) := by omega
    clear hL HVV HAW
    go_wp2_with fail
    go_at_call 15
    refine CO.out.mono ?_
    rintro e w' ⟨rfl, rfl⟩
    dsimp only
    go_wp2_with fail
    go_ret
    exact ⟨ret_bool (by simp), HK.out.below (fun _ _ h => h)⟩
end Go.Proofs.Ytnapokdipelmiaa
