/- WindowWaits: a part of the walk. (Written by wip/winparts.py.) -/
import Derived.Test.YtnapokdipelmiaaWwD
namespace Go.Proofs.Ytnapokdipelmiaa
open Go.RowKit Flt
set_option linter.unusedVariables false
set_option linter.unusedSimpArgs false
set_option maxHeartbeats 4000000 in
set_option maxRecDepth 20000 in
theorem wwF : wwD.1 := by
  intro y1 y2 y3 y4 y5 y6 y7 y8 y9 y10 y11 y12 y13 y14 y15 y16 y17 y18 y19 y20 y21 y22 y23 y24 y25 y26 y27 y28 y29 y30 y31 y32 y33 y34 y35 y36 y37 y38 y39 y40 y41 y42 y43 y44 y45 y46 y47 y48 y49 y50 y51 y52 y53 y54 y55 y56 y57 y58 y59 y60 y61 y62 y63 y64 y65 y66 y67 y68 y69 y70 y71 y72 y73 y74 y75 y76 y77 y78 y79 y80 y81 y82 y83 y84 y85 y86 y87 y88 y89 y90 y91 y92 y93 wa pj z1 n hwr cB aB gl j hh' f' q hqb y155 y94 y152 y95 y149 y147 y146 y145 y1 y2 y3 y4 y5 y6 y7 y8 y9 y10 y11 y12 y13 y14 y15 y16 y17 y18 y19 y20 y21 y22 y23 y24 y25 y26 y27 y28 y29 y30 y31 y32 y33 y34 y35 y36 y37 y38 y39 y40 y41 y42 y43 y44 y45 y46 y47 y48 y49 y50 y51 y52 y53 y54 y55 y56 y57 y58 y59 y60 y61 y62 y63 y64 y65 y66 y67 y68 y69 y70 y71 y72 y73 y74 y75 y76 y77 y78 y79 y80 y81 y82 y83 y84 y85 y86 y87 y88 y89 y90 y91 y92 y93 y94 y95 y96 y97 y98 y99 y100 y101 y102 y103 y104 y105 y106 y107 y108 y109 y110 y111 y112 y113 y114 y115 y116 y117 y118 y119 y120 y121 y122 y123 y124 y125 y126 y127 y128 y129 y130 y131 y132 y133 y134 y135 y136 y137 y138 y139 y140 y141 y142 y143 y144 k hk1 hMb hwM hk2 y148 hnl y156 y157 y158 y159 y160 y161 y162 y163 y164 y165 y166 y167 y168 y169 y170 y171 y172 y173 y174 y175 w3 t g2 s g1 y176 y177 y178 y179 y180 y181 y182 y183 y184 y185 y186 y187 y188 y189 y190 y191 y192 y193 y194 y195 y196 y197 y198 y199 y200 y201 y202 y203 y204 y205 y206 y207 y208 y209 y210 y211 y212 y213 y214 y215 y216 y217 g w2 w1 u hub mn huM HM3 j1 x2 p1 HM2 sz hszb hp1b hmnb H2 HW wh hwhb tk htkb p0 hp0b HM1 HEQ w y218 K1 n4 P4 n3 P3 n2 P2 n1 P1 n0 P0 y219 y220 y221 y222 y223 y224 y225 y226 y227 y228 y229 y230 y231 y232 y233 y234 y235 y236 y237 y238 y239 y240 y241 y242 y243 y244 y245 y246 y247 y248 y249 y250 y251 y252 y253 y254 y255 y256 y257 y258 y259 y260 y261 y262 y263 y264 y265 y266 y267 y268 y269 y270 y271 y272 y273 y274 y275 y276 y277 y278 y279 y280 y281 y282 y283 y284 y285 y286 y287 y288 y289 y290 y291 y292 y293 y294 y295 y296 y297 y298 y299 y300 y301 y302 y303 y304 y305 y306 y307 y308 y309 y310 y311 y312 y313 y314 y315 y316 y317 y318 y319 y320 y321 y322 y323 y324 y325 y326 y327 y328 y329 y330 y331 y332 y333 y334 y335 y336 y337 y338 y339 y340 y341 y342 y343 y344 y345 y346 y347 y348 y349 y350 y351 y352 y353 y354 y355 y356 y357 y358 y359 y360 y361 y362 y364 y366 zq now hnow hlt y150 hdue z3 z4 x f d1' z2 hh d2' HIV wc hsl htl a' ha' x1 x' HO hjl hxn hbd HPJ z5 w8 l8 hs1 hs2 vc y154 K hq hlq j2 H8 HWC wr HH HWA y96 y97 y98 y99 y100 y101 y102 y103 y104 y105 y106 y107 y108 y109 y110 y111 y112 y113 y114 y115 y116 y117 y118 y119 y120 y121 y122 y123 y124 y125 y126 y127 y128 y129 y130 y131 y132 y133 y134 y135 y136 y137 y138 y139 y140 y141 y142 y143 y144 y145 y146 y147 y148 y149 y150 y151 y152 y153 y154 y155 y156 y157 y158 y159 y160 y161 y162 y163 y164 y165 y166 y167 y168 y169 y170 y171 y172 y173 y174 y175 y176 y177 y178 y179 y180 y181 y182 y183 y184 y185 y186 y187 y188 y189 y190 y191 y192 y193 y194 y195 y196 y197 y198 y199 y200 y201 y202 y203 y204 y205 y206 y207 y208 y209 y210 y211 y212 y213 y214 y215 y216 y217 y218 y219 y220 y221 y222 y223 y224 y225 y226 y227 y228 y229 y230 y231 y232 y233 y234 y235 y236 y237 y238 y239 y240 y241 y363 y365 y242 y243 y244 y245 y151 y153 zzD y246 y247 y248 y249 y250 y251 y252 zzF
  rw [z2] at d1'
  have y1 : (0 : Int) ≤ (pj.att : Nat) := by omega
  have hwt2 : now = pj.att + pj.wt := by omega
  obtain ⟨AT, hAT⟩ : ∃ A, A = pj.att := ⟨_, rfl⟩
  obtain ⟨WT, hWT⟩ : ∃ A, A = pj.wt := ⟨_, rfl⟩
  obtain ⟨H, hH⟩ : ∃ H, H = hh n := ⟨_, rfl⟩
  rw [← hAT, ← hWT] at hwt2
  rw [← hAT] at d1' y1
  rw [← hH] at d2'
  have hb2 : 2 ≤ WT := by rw [hWT]; exact hbd.2.2 z1
  have y2 : (now : Int) - (AT : Int) = (WT : Int) := by omega
  have y3 : ¬ (WT : Int) < 2 := by omega
  have y4 : a' = 0 → ¬ (WT : Int) < H := fun h => by rw [hH, hWT]; have := (z5 h).1; omega
  have HZ := Lib.hid z1
  have HWT := Lib.hid hWT
  have y1c : decide (0 ≤ (AT : Int)) = true := decide_eq_true y1
  have y3b : decide ((WT : Int) < 2) = false := decide_eq_false y3
  have y7 : ∀ nq (v : Value), ((wa.drewN nq).setCell ⟨t, n, none⟩ v).cell? ⟨s, n, none⟩ = some (.int .i64 (AT : Nat)) := fun nq v => (Kp.setCell (S := fun k => k = t) (Kp.refl _ (wa.drewN nq)) (p := ⟨t, n, none⟩) (fun _ => rfl) v).cell (((Kp.refl (fun _ => False) wa).drewN nq).cell d1' (fun h => h)) (fun e => HWC.out.1.ne e)
  have y8 : ∀ nq, ((wa.drewN nq).setCell ⟨t, n, none⟩ (.int .i64 (WT : Nat))).frozen? ⟨s, n, none⟩ = false := fun nq => AtF.frozen ((HWC.out.1.kp0 ((Kp.refl _ wa).drewN nq)).setT n (WT : Nat)).hs n
  clear z1 z2 z3 z4 z5 hwt2 hAT hWT hH hbd
  by_cases ha0 : a' = 0
  · have y5 := y4 ha0
    have y5b : decide ((WT : Int) < H) = false := decide_eq_false y5
    have y6b : ((a' : Int) == 0) = true := by simpa using ha0
    have HA0 := Lib.hid ha0
    clear y4 ha0
    go_wp2_with fail
    go_quiet (fail)
    go_wp2_with fail
    go_roundw
    case rel => exact ⟨q + 1, updI f' n (now : Nat), updI hh' n (WT : Nat), by omega, by go_num, HH.out.2.2.2.1 _ _ (updI_same _ _ _) (fun _ => ⟨fun _ => by rw [updI_same, ← HPJ.out, ← HWT.out]; omega, fun e => by rw [← HPJ.out] at e; have := HZ.out; omega⟩) (fun m hm => ⟨updI_ne _ _ hm, updI_ne _ _ hm⟩), ((HWC.out.1.kp0 (by first | exact Kp.refl _ _ | exact (Kp.refl _ _).drew | exact (Kp.refl _ _).drewN _)).setT n _).setS n _, OwnT.kpN (S := fun k => k = s ∨ k = t) (HWC.out.2.kp0 (by first | exact Kp.refl _ _ | exact (Kp.refl _ _).drew | exact (Kp.refl _ _).drewN _)) (Kp.setCell (S := fun k => k = s ∨ k = t) (Kp.setCell (S := fun k => k = s ∨ k = t) (Kp.refl _ _) (p := ⟨t, n, none⟩) (fun _ => .inr rfl) _) (p := ⟨s, n, none⟩) (fun _ => .inl rfl) _) (fun g e => by rcases e with e | e <;> (rw [e]; assumption))⟩
    case measure => simp [intOf]; omega
  · have y6 : ¬ (a' : Int) = 0 := by omega
    have y6b : ((a' : Int) == 0) = false := by simpa using y6
    clear y4
    go_wp2_with fail
    go_quiet (fail)
    go_wp2_with fail
    go_roundw
    case rel => exact ⟨q + 1, updI f' n (now : Nat), updI hh' n (WT : Nat), by omega, by go_num, HH.out.2.2.2.1 _ _ (updI_same _ _ _) (fun _ => ⟨fun _ => by rw [updI_same, ← HPJ.out, ← HWT.out]; omega, fun e => by rw [← HPJ.out] at e; have := HZ.out; omega⟩) (fun m hm => ⟨updI_ne _ _ hm, updI_ne _ _ hm⟩), ((HWC.out.1.kp0 (by first | exact Kp.refl _ _ | exact (Kp.refl _ _).drew | exact (Kp.refl _ _).drewN _)).setT n _).setS n _, OwnT.kpN (S := fun k => k = s ∨ k = t) (HWC.out.2.kp0 (by first | exact Kp.refl _ _ | exact (Kp.refl _ _).drew | exact (Kp.refl _ _).drewN _)) (Kp.setCell (S := fun k => k = s ∨ k = t) (Kp.setCell (S := fun k => k = s ∨ k = t) (Kp.refl _ _) (p := ⟨t, n, none⟩) (fun _ => .inr rfl) _) (p := ⟨s, n, none⟩) (fun _ => .inl rfl) _) (fun g e => by rcases e with e | e <;> (rw [e]; assumption))⟩
    case measure => simp [intOf]; omega
end Go.Proofs.Ytnapokdipelmiaa
