/- Package chunk: a cutter. (Written by wip/chkvgen.py.) -/
import Derived.Test.YtlabkldpcbmjbaaChkT
namespace Go.Proofs.Ytlabkldpcbmjbaa
open Go.RowKit
set_option linter.unusedVariables false
set_option linter.unusedSimpArgs false
attribute [local go_sem] Oper.semAt_some
/-- What lies behind a cutter's edge. -/
def cutT (left : Value) (made over : Bool) : List Value := [left, .bool made, .bool over]
theorem edge_tail {w : World} {b : Nat} {cur : List Int} {T : List Value} (h : EdgeAt w b cur T) (i : Nat) : w.cell? ⟨b, 20 + i, none⟩ = T[i]? ∧ w.frozen? ⟨b, 20 + i, none⟩ = false := by
  obtain ⟨r, n, s, h, hi⟩ := h
  refine ⟨?_, h.frozen _⟩
  rw [h.cell, List.getElem?_append_right (by rw [rollT_len hi.len]; omega), rollT_len hi.len, show 20 + i - 19 = i + 1 by omega]; rfl
theorem EdgeAt.setTail {w : World} {b : Nat} {cur : List Int} {T : List Value} (h : EdgeAt w b cur T) (i : Nat) (v : Value) : EdgeAt (w.setCell ⟨b, 20 + i, none⟩ v) b cur (T.set i v) := by
  obtain ⟨r, n, s, h, hi⟩ := h
  refine ⟨r, n, s, ?_, hi⟩
  have := h.set (20 + i) v
  rw [List.set_append_right _ _ (by rw [rollT_len hi.len]; omega), rollT_len hi.len, show 20 + i - 19 = i + 1 by omega] at this
  exact this
theorem EdgeAt.notBlk {p : Value → Prop} {w : World} {b : Nat} {cur : List Int} {T : List Value} {u : Value} (h : EdgeAt w b cur T) (hu : BlkP p w u) (hp : ∀ m, ¬ p (.int .i64 m)) : u.ownBlock ≠ some b := fun e => by
  obtain ⟨r, n, s, h, hi⟩ := h
  obtain ⟨cs, ha, hc⟩ := hu b e
  have e2 := h.inj ha
  exact hp _ (hc (.int .i64 cur.length) (by rw [← e2]; simp))
theorem EdgeAt.notB {w : World} {b : Nat} {cur : List Int} {T : List Value} {u : Value} {l : List Int} (h : EdgeAt w b cur T) (hu : OwnB w u l) : u.ownBlock ≠ some b :=
  h.notBlk hu.blk (fun m ⟨k, e, _⟩ => by cases e)
theorem EdgeAt.notS {B : Nat} {w : World} {b : Nat} {cur : List Int} {T : List Value} {v : Value} {ls : List (List Int)} {vs : List Value} (h : EdgeAt w b cur T) (hv : LLs B w v ls vs) : v.ownBlock ≠ some b :=
  h.notBlk hv.blk (fun m ⟨a, n, c, e⟩ => by cases e)
theorem out_at (cb : Nat) (cur : List Int) (left : Value) (made over : Bool) (w : World) (h : EdgeAt w cb cur (cutT left made over)) :
    Calls Try.prog 36 #[.pointer (some ⟨cb, 0, none⟩)] w fun e w' => e = .returned (.int .i64 (if made then (if over then 9 else 0) else 1)) ∧ w = w' := by
  have c1 := (edge_tail h 1).1
  have c2 := (edge_tail h 2).1
  have c1 : w.cell? ⟨cb, 21, none⟩ = some (.bool made) := c1
  have c2 : w.cell? ⟨cb, 22, none⟩ = some (.bool over) := c2
  cases made <;> cases over
  all_goals (go_enter Try.func36, Try.ntmps36; go_wp2; go_ret; exact ⟨rfl, rfl⟩)
theorem out_nil (w : World) :
    Calls Try.prog 36 #[.pointer none] w fun e w' => e = .returned (.int .i64 1) ∧ w = w' := by
  go_enter Try.func36, Try.ntmps36
  go_wp2
  go_ret
  exact ⟨rfl, rfl⟩
set_option maxHeartbeats 4000000 in
set_option maxRecDepth 20000 in
theorem push_cut (cb : Nat) (cur : List Int) (left0 : Value) (a : Option Addr) (cap : Nat) (l : List Int) (w : World) (hE0 : EdgeAt w cb cur (cutT left0 true false)) (ho0 : OwnB w left0 cur) (hop : Open cur)
    (h : RdB w a l) (hl : l.length ≤ 100000) (hcap : l.length ≤ cap) (hcm : cap ≤ maxLen) (hap : l ≠ [] → ∀ y, a = some y → y.block ≠ cb ∧ left0.ownBlock ≠ some y.block) :
    Calls Try.prog 26 #[.pointer (some ⟨cb, 0, none⟩), .slice a l.length cap] w fun e w' => ∃ v vs left, e = .returned (.tuple #[v, .int .i64 0]) ∧ LLs 0 w' v (chs cur l).1 vs ∧
      EdgeAt w' cb (chs cur l).2 (cutT left true false) ∧ OwnB w' left (chs cur l).2 ∧ (∀ g, v.ownBlock = some g → w.heap.size ≤ g) ∧ (∀ i g, i < (chs cur l).1.length → (vs.getD i undef).ownBlock = some g → w.heap.size ≤ g ∨ left0.ownBlock = some g) ∧
      (∀ g, left.ownBlock = some g → (w.heap.size ≤ g ∨ left0.ownBlock = some g) ∧ ∀ i, i < (chs cur l).1.length → (vs.getD i undef).ownBlock ≠ some g) ∧ Kp (fun i => i = cb ∨ left0.ownBlock = some i) w w' := by
  refine (callsIn_wide (n := 5)).1 ?_
  refine callsIn_of_wp_marks Try.func26 rfl trivial ?_ rfl
  simp only [Try.ntmps26, List.size_toArray, List.length_cons, List.length_nil, Nat.reduceAdd, Nat.reduceSub, Array.replicate_succ, Array.replicate_zero, List.push_toArray, List.append_toArray, List.nil_append, List.cons_append]
  refine wpIn_wide.2 ?_
  have HR := Lib.hid h
  obtain ⟨n, hn⟩ : ∃ n, n = l.length := ⟨_, rfl⟩
  rw [← hn] at hl hcap ⊢
  have HN := Lib.hid hn
  have HE0 := Lib.hid (And.intro hE0 (And.intro ho0 (And.intro hop hap)))
  have COUT := Lib.hid (fun w' (k : Kp (fun _ => False) w w') => out_at cb cur left0 true false w' (hE0.kp k (fun h => h)))
  clear hn h hE0 ho0 hop hap
  go_upto_region 1 with fail
  refine wp_world (fun wx => At wx w.heap.size [.pointer (some ⟨cb, 0, none⟩)] ∧ At wx (w.heap.size + 1) [.slice a n cap] ∧ Kp (fun _ => False) w wx ∧ wx.heap.size = w.heap.size + 2) ⟨(At.new w [.pointer (some ⟨cb, 0, none⟩)] _).alloc _, by have := At.new (w.alloc (.cells #[.pointer (some ⟨cb, 0, none⟩)] 37)) [.slice a n cap] 22; rwa [World.size_alloc] at this, ((Kp.refl _ w).alloc _).alloc _, by simp⟩ ?_
  rintro w1 ⟨hc1, hb1, k1, hs1⟩
  have cc := (hc1.cell 0).trans (show _ = some (.pointer (some ⟨cb, 0, none⟩)) from rfl)
  have CO := Lib.hid (COUT.out w1 k1)
  have H1 := Lib.hid (And.intro hc1 (And.intro hb1 (And.intro k1 hs1)))
  clear hc1 hb1 k1 hs1
  go_upto_region 6 with (go_at_call 36; (with_reducible refine CO.out.mono ?_); rintro e w' ⟨rfl, rfl⟩)
  generalize hbo : w1.heap.size = bo at *
  refine wp_world (fun wx => At wx w.heap.size [.pointer (some ⟨cb, 0, none⟩)] ∧ At wx (w.heap.size + 1) [.slice a n cap] ∧ At wx bo [.slice none 0 0] ∧ At wx (bo + 1) [.int .i64 0] ∧ Kp (fun _ => False) w wx ∧ wx.heap.size = bo + 2) ?_ ?_
  · have h3 := (At.new w1 [.slice none 0 0] 24).alloc (.cells #[.int .i64 0] 3)
    have h4 := At.new (w1.alloc (.cells #[.slice none 0 0] 24)) [.int .i64 0] 3
    rw [World.size_alloc] at h4
    rw [hbo] at h3 h4
    have kk := ((Kp.refl (fun _ => False) w1).alloc (.cells #[.slice none 0 0] 24)).alloc (.cells #[.int .i64 0] 3)
    exact ⟨kk.at H1.out.1 (fun h => h), kk.at H1.out.2.1 (fun h => h), h3, h4, H1.out.2.2.1.trans kk, by simp [hbo]⟩
  rintro w2 ⟨hc2, hb2, ho2, ha2, k2, hs2⟩
  have HBO := Lib.hid H1.out.2.2.2
  have cc2 := (hc2.cell 0).trans (show _ = some (.pointer (some ⟨cb, 0, none⟩)) from rfl)
  have cb2 := (hb2.cell 0).trans (show _ = some (.slice a n cap) from rfl)
  have H2 := Lib.hid (And.intro hc2 (And.intro hb2 (And.intro ho2 (And.intro ha2 (And.intro k2 hs2)))))
  clear hc2 hb2 ho2 ha2 k2 hs2 cc H1 CO COUT hbo
  refine region_N (S := fun w' => w'.cell? ⟨w.heap.size, 0, none⟩ = some (.pointer (some ⟨cb, 0, none⟩)) ∧ w'.cell? ⟨w.heap.size + 1, 0, none⟩ = some (.slice a n cap)) [] rfl ?_
  have hSd : ∀ (w' : World) (n' : Nat), (w'.cell? ⟨w.heap.size, 0, none⟩ = some (.pointer (some ⟨cb, 0, none⟩)) ∧ w'.cell? ⟨w.heap.size + 1, 0, none⟩ = some (.slice a n cap)) → ((w'.drewN n').cell? ⟨w.heap.size, 0, none⟩ = some (.pointer (some ⟨cb, 0, none⟩)) ∧ (w'.drewN n').cell? ⟨w.heap.size + 1, 0, none⟩ = some (.slice a n cap)) := fun w' n' h => h
  have hS1 : w2.drew.cell? ⟨w.heap.size, 0, none⟩ = some (.pointer (some ⟨cb, 0, none⟩)) ∧ w2.drew.cell? ⟨w.heap.size + 1, 0, none⟩ = some (.slice a n cap) := ⟨cc2, cb2⟩
  refine anyL_takeD (i := 0) (d := 15) (v := .pointer (some ⟨cb, 0, none⟩)) rfl rfl (by kernel_rfl) (by kernel_rfl) (by kernel_rfl) (fun _ _ _ h => h) hSd (by kernel_rfl) (.inl (.inl ⟨rfl, fun w' hS => by have hc := hS.1; go_simp⟩)) hS1 ?_
  try simp only [List.setIfInBounds_toArray, List.set_cons_succ, List.set_cons_zero]
  refine anyL_takeD (i := 1) (d := 16) (v := .pointer (some ⟨cb, 0, none⟩)) rfl rfl (by kernel_rfl) (by kernel_rfl) (by kernel_rfl) (fun _ _ _ h => h) hSd (by kernel_rfl) (.inl (.inl ⟨rfl, fun w' hS => by go_simp⟩)) hS1 ?_
  try simp only [List.setIfInBounds_toArray, List.set_cons_succ, List.set_cons_zero]
  refine anyL_takeD (i := 2) (d := 17) (v := .pointer (some ⟨cb, 0, none⟩)) rfl rfl (by kernel_rfl) (by kernel_rfl) (by kernel_rfl) (fun _ _ _ h => h) hSd (by kernel_rfl) (.inl (.inl ⟨rfl, fun w' hS => by go_simp⟩)) hS1 ?_
  try simp only [List.setIfInBounds_toArray, List.set_cons_succ, List.set_cons_zero]
  refine anyL_takeD (i := 3) (d := 18) (v := .slice a n cap) rfl rfl (by kernel_rfl) (by kernel_rfl) (by kernel_rfl) (fun _ _ _ h => h) hSd (by kernel_rfl) (.inl (.inl ⟨rfl, fun w' hS => by have hc := hS.2; go_simp⟩)) hS1 ?_
  try simp only [List.setIfInBounds_toArray, List.set_cons_succ, List.set_cons_zero]
  refine anyL_all (rs := [4]) (by kernel_rfl) (by simp) ?_
  intro n4 i hi
  simp only [List.mem_cons, List.not_mem_nil, or_false] at hi
  obtain rfl := hi
  refine wpOp_of rfl rfl ?_
  go_simp
  refine (cuts_any cb a n cap _).mono ?_
  rintro e w5 ⟨rfl, p1, p2, k5, s5⟩
  have k25 : Kp (fun _ => False) w2 w5 := ((Kp.refl (fun _ => False) w2).drewN _).trans k5
  dsimp only
  refine ⟨fun _ => ⟨k25.cell cc2 (fun h => h), k25.cell cb2 (fun h => h)⟩, anyL_done (by kernel_rfl) (fun nn => ?_) _⟩
  have H5 := Lib.hid (And.intro (p1.drewN nn) (And.intro (p2.drewN nn) (And.intro (k25.drewN nn) (show (w5.drewN nn).heap.size = w2.heap.size + 2 from s5))))
  clear p1 p2 k5 s5 k25 hS1 hSd
  dsimp only [onlyN]
  rw [show (w2.drewN (1 + n4)).heap.size = w2.heap.size from rfl]
  generalize w5.drewN nn = w5 at H5 ⊢
  go_wp2
  have hbo2 : w.heap.size + 2 ≤ bo := Nat.le_of_eq HBO.out.symm
  have hbo3 : bo ≤ w.heap.size + 2 := Nat.le_of_eq HBO.out
  have hs2 : bo + 2 ≤ w2.heap.size := Nat.le_of_eq H2.out.2.2.2.2.2.symm
  have hs5 : w5.heap.size = w2.heap.size + 2 := H5.out.2.2.2
  have k05 : Kp (fun _ => False) w w5 := H2.out.2.2.2.2.1.trans H5.out.2.2.1
  have hL : RdB w5 a l := HR.out.kp0 k05 (fun _ _ h => h)
  have hcbw : cb < w.heap.size := HE0.out.1.lt
  have hlo : ∀ g, left0.ownBlock = some g → g < w.heap.size := HE0.out.2.1.lt
  have hsa : l ≠ [] → ∀ y, a = some y → y.block < w.heap.size := fun hne y hy => by
    obtain ⟨b, o, e, hc⟩ := HR.out.cell 0 (by cases l with | nil => exact absurd rfl hne | cons => simp)
    rw [e] at hy; cases hy
    exact World.block_lt_of_cell? w _ hc
  refine (wpIn_wide (n := 5)).1 ?_
  refine wpIn_rng (S := (· = cb)) rfl (by omega) (gf := 39) (lb := #[.pointer (some ⟨w2.heap.size + 1, 0, none⟩), .pointer (some ⟨w2.heap.size, 0, none⟩)]) rfl trivial (enters_of Try.func39 (by kernel_rfl) rfl)
    (cuts_gives 4 (by omega) cb (w2.heap.size + 1) w2.heap.size a cap l cur (by omega) (by omega) (fun hne y hy => (HE0.out.2.2.2 hne y hy).1) (by rw [← HN.out]; omega) HE0.out.2.2.1) (fun h => h.1) (fun i hi => by omega) (fun _ => rfl)
    (fun pre W => ∃ v vs left, LLs 0 W v ((chs cur l).1.take pre.length) vs ∧ At W bo [v] ∧ At W (bo + 1) [.int .i64 (lastP pre : Nat)] ∧ (∃ cu, EdgeAt W cb cu (cutT left true false)) ∧ OwnB W left (if pre = [] then cur else []) ∧
      (∀ g, v.ownBlock = some g → w5.heap.size ≤ g) ∧ (∀ i g, i < pre.length → (vs.getD i undef).ownBlock = some g → w5.heap.size ≤ g ∨ left0.ownBlock = some g) ∧
      (left = left0 ∧ pre = [] ∨ left = .slice none 0 0) ∧ Kp (fun i => i = bo ∨ i = bo + 1 ∨ i = cb ∨ left0.ownBlock = some i) w5 W)
    (fun _ _ _ => False)
    ?hI (fun _ _ _ _ h _ => h) ?hT ?hE ?hIS (fun _ _ _ _ h _ => h) ?h0 ?hT0
    (fun x => { tmps := #[.pointer (some ⟨cb, 0, none⟩), .slice a n cap, .pointer (some ⟨w.heap.size, 0, none⟩), .pointer (some ⟨w.heap.size + 1, 0, none⟩), .slice none 0 0, .int .i64 0, .int .i64 0, .pointer (some ⟨bo, 0, none⟩), .pointer (some ⟨bo + 1, 0, none⟩), .int .i64 (x : Nat),
      .pointer (some ⟨cb, 0, none⟩), .int .i64 0, .int .i64 0, .bool false, undef, .pointer (some ⟨cb, 0, none⟩), .pointer (some ⟨cb, 0, none⟩), .pointer (some ⟨cb, 0, none⟩), .slice a n cap,
      .func (.func 39) #[] #[.pointer (some ⟨w2.heap.size + 1, 0, none⟩), .pointer (some ⟨w2.heap.size, 0, none⟩)], .int .i64 (x : Nat), undef, undef, undef, undef, undef, undef, undef, undef, undef, undef, undef, undef, undef, undef, undef, undef, undef, undef, undef, undef, undef, undef, undef, undef, undef, undef, undef, undef], defers := [] }) ?assign ?body ?done ?stop
  case hI =>
    rintro pre A' A'' ⟨v, vs, left, h1, h2, h3, ⟨cu, h4⟩, h5, h6, h7, h8, h9⟩ k
    exact ⟨v, vs, left, h1.abd k, k.at h2 (NC.not h2), k.at h3 (NC.not h3), ⟨cu, h4.abd k⟩, h5.kp k h5.own.notNC, h6, h7, h8, h9.then k (fun i hi e => by have := e.1; omega)⟩
  case hT => exact fun pre A' A'' h k => h.abd k hL (Nat.le_refl _) (by omega) (by omega)
  case hE => exact fun _ A' A'' h k => h.abd k hL (Nat.le_refl _) (by omega) (by omega)
  case hIS =>
    rintro pre A' A'' ⟨v, vs, left, h1, h2, h3, ⟨cu, h4⟩, h5, h6, h7, h8, h9⟩ ⟨k, kt⟩
    obtain ⟨cu', h4'⟩ := kt _ _ h4
    exact ⟨v, vs, left, h1.kp k (fun g hg e => h4.notS h1 (by rw [hg, e])) (fun i g hi hg e => h4.notB (h1.each i hi) (by rw [hg, e])), k.at h2 (by omega), k.at h3 (by omega), ⟨cu', h4'⟩, h5.kp k (fun g hg e => h4.notB h5 (by rw [hg, e])), h6, h7, h8, h9.trans (k.mono (fun i _ e => .inr (.inr (.inl e))))⟩
  case h0 =>
    refine ⟨_, _, left0, LLs.nil _ _, H5.out.2.2.1.at H2.out.2.2.1 (fun h => h), H5.out.2.2.1.at H2.out.2.2.2.1 (fun h => h), ⟨cur, HE0.out.1.kp k05 (fun h => h)⟩, ?_, fun g hg => by simp [Value.ownBlock] at hg, fun i g hi => by simp at hi, .inl ⟨rfl, rfl⟩, Kp.refl _ _⟩
    rw [if_pos rfl]; exact HE0.out.2.1.kp k05 (fun _ _ h => h)
  case hT0 =>
    rw [if_pos rfl]
    exact ⟨⟨_, HE0.out.1.kp k05 (fun h => h)⟩, by rw [← HN.out]; exact (H5.out.2.1.cell 0).trans rfl, (H5.out.1.cell 0).trans rfl, hL⟩
  case assign =>
    intro yl x W K hK
    gi_wp2
    exact hK
  case stop =>
    rintro D c pre W _ _ h _
    exact h.elim
  case body =>
    rintro yl pre x W hpre ⟨v, vs, left, hll, hout, hat, ⟨cu, hed0⟩, hlf, hvB, hvE, hlk, hkp⟩ hti
    obtain ⟨p1, p2, p3⟩ := cuts_step hpre
    have hlne : l ≠ [] := fun e => by rw [e] at p2; simp at p2; omega
    have HT := Lib.hid hti
    obtain ⟨⟨T, hed⟩, _, _, hRW⟩ := hti
    rw [if_neg (by simp)] at hed
    have hTT := hed.tail hed0
    subst hTT
    obtain ⟨b1, o1, rfl, _⟩ := hRW.cell 0 (by omega)
    have hbb : b1 < w.heap.size := hsa hlne _ rfl
    have hbcb := HE0.out.2.2.2 hlne _ rfl
    have hlo2 : ∀ g, left.ownBlock = some g → g < w.heap.size ∧ left0.ownBlock = some g := fun g hg => by
      rcases hlk with ⟨rfl, _⟩ | rfl
      · exact ⟨hlo g hg, hg⟩
      · simp [Value.ownBlock] at hg
    have nS : ∀ i, i < w5.heap.size → i ≠ bo → i ≠ bo + 1 → i ≠ cb → left0.ownBlock ≠ some i → W.heap[i]? = w5.heap[i]? := fun i h1 h2 h3 h4 h5 => hkp.block i h1 (fun h => by rcases h with h | h | h | h; exact h2 h; exact h3 h; exact h4 h; exact h5 h)
    have nl : ∀ i, w.heap.size ≤ i → left0.ownBlock ≠ some i := fun i hi h => by have := hlo i h; omega
    have xc : W.cell? ⟨w.heap.size, 0, none⟩ = some (.pointer (some ⟨cb, 0, none⟩)) := hkp.cell (H5.out.2.2.1.cell cc2 (fun h => h)) (fun h => by rcases h with h | h | h | h <;> simp at h; omega; omega; omega; exact nl _ (by omega) h)
    have xb : W.cell? ⟨w.heap.size + 1, 0, none⟩ = some (.slice (some ⟨b1, o1, none⟩) n cap) := hkp.cell (H5.out.2.2.1.cell cb2 (fun h => h)) (fun h => by rcases h with h | h | h | h <;> simp at h; omega; omega; omega; exact nl _ (by omega) h)
    have xo : W.cell? ⟨bo, 0, none⟩ = some v := (hout.cell 0).trans rfl
    have xa : W.cell? ⟨bo + 1, 0, none⟩ = some (.int .i64 (lastP pre : Nat)) := (hat.cell 0).trans rfl
    have xl : W.cell? ⟨cb, 20, none⟩ = some left := (edge_tail hed 0).1
    have fo := hout.frozen 0
    have fa := hat.frozen 0
    have q1 : ((lastP pre : Nat) : Int) ≤ (x : Nat) := by omega
    have q2 : ((x : Nat) : Int) ≤ cap := by have := HN.out; omega
    have q3 : lastP pre < cap := by have := HN.out; omega
    generalize lastP pre = t at *
    gi_wp2
    refine region_L_in (S := fun w' => w'.cell? ⟨bo, 0, none⟩ = some v ∧ w'.cell? ⟨w.heap.size, 0, none⟩ = some (.pointer (some ⟨cb, 0, none⟩)) ∧ w'.cell? ⟨cb, 20, none⟩ = some left ∧ w'.cell? ⟨w.heap.size + 1, 0, none⟩ = some (.slice (some ⟨b1, o1, none⟩) n cap) ∧ w'.cell? ⟨bo + 1, 0, none⟩ = some (.int .i64 (t : Nat))) [12] rfl (by kernel_rfl) (fun ⟨_, _, h⟩ => h) ?_
    have hSd : ∀ (w' : World) (n' : Nat), (w'.cell? ⟨bo, 0, none⟩ = some v ∧ w'.cell? ⟨w.heap.size, 0, none⟩ = some (.pointer (some ⟨cb, 0, none⟩)) ∧ w'.cell? ⟨cb, 20, none⟩ = some left ∧ w'.cell? ⟨w.heap.size + 1, 0, none⟩ = some (.slice (some ⟨b1, o1, none⟩) n cap) ∧ w'.cell? ⟨bo + 1, 0, none⟩ = some (.int .i64 (t : Nat))) → ((w'.drewN n').cell? ⟨bo, 0, none⟩ = some v ∧ (w'.drewN n').cell? ⟨w.heap.size, 0, none⟩ = some (.pointer (some ⟨cb, 0, none⟩)) ∧ (w'.drewN n').cell? ⟨cb, 20, none⟩ = some left ∧ (w'.drewN n').cell? ⟨w.heap.size + 1, 0, none⟩ = some (.slice (some ⟨b1, o1, none⟩) n cap) ∧ (w'.drewN n').cell? ⟨bo + 1, 0, none⟩ = some (.int .i64 (t : Nat))) := fun w' n' h => h
    have hS1 : W.drew.cell? ⟨bo, 0, none⟩ = some v ∧ W.drew.cell? ⟨w.heap.size, 0, none⟩ = some (.pointer (some ⟨cb, 0, none⟩)) ∧ W.drew.cell? ⟨cb, 20, none⟩ = some left ∧ W.drew.cell? ⟨w.heap.size + 1, 0, none⟩ = some (.slice (some ⟨b1, o1, none⟩) n cap) ∧ W.drew.cell? ⟨bo + 1, 0, none⟩ = some (.int .i64 (t : Nat)) := ⟨xo, xc, xl, xb, xa⟩
    refine anyL_takeD (i := 0) (d := 21) (v := v) rfl rfl (by kernel_rfl) (by kernel_rfl) (by kernel_rfl) (fun _ _ _ h => h) hSd (by kernel_rfl) (.inl (.inl ⟨rfl, fun w' hS => by have hc := hS.1; go_simp⟩)) hS1 ?_
    try simp only [List.setIfInBounds_toArray, List.set_cons_succ, List.set_cons_zero]
    refine anyL_takeD (i := 1) (d := 22) (v := .pointer (some ⟨cb, 0, none⟩)) rfl rfl (by kernel_rfl) (by kernel_rfl) (by kernel_rfl) (fun _ _ _ h => h) hSd (by kernel_rfl) (.inl (.inl ⟨rfl, fun w' hS => by have hc := hS.2.1; go_simp⟩)) hS1 ?_
    try simp only [List.setIfInBounds_toArray, List.set_cons_succ, List.set_cons_zero]
    refine anyL_takeD (i := 2) (d := 23) (v := .pointer (some ⟨cb, 0, none⟩)) rfl rfl (by kernel_rfl) (by kernel_rfl) (by kernel_rfl) (fun _ _ _ h => h) hSd (by kernel_rfl) (.inl (.inl ⟨rfl, fun w' hS => by go_simp⟩)) hS1 ?_
    try simp only [List.setIfInBounds_toArray, List.set_cons_succ, List.set_cons_zero]
    refine anyL_takeD (i := 3) (d := 24) (v := .pointer (some ⟨cb, 20, none⟩)) rfl rfl (by kernel_rfl) (by kernel_rfl) (by kernel_rfl) (fun _ _ _ h => h) hSd (by kernel_rfl) (.inl (.inl ⟨rfl, fun w' hS => by go_simp⟩)) hS1 ?_
    try simp only [List.setIfInBounds_toArray, List.set_cons_succ, List.set_cons_zero]
    refine anyL_takeD (i := 4) (d := 25) (v := left) rfl rfl (by kernel_rfl) (by kernel_rfl) (by kernel_rfl) (fun _ _ _ h => h) hSd (by kernel_rfl) (.inl (.inl ⟨rfl, fun w' hS => by have hc := hS.2.2.1; go_simp⟩)) hS1 ?_
    try simp only [List.setIfInBounds_toArray, List.set_cons_succ, List.set_cons_zero]
    refine anyL_takeD (i := 5) (d := 26) (v := .slice (some ⟨b1, o1, none⟩) n cap) rfl rfl (by kernel_rfl) (by kernel_rfl) (by kernel_rfl) (fun _ _ _ h => h) hSd (by kernel_rfl) (.inl (.inl ⟨rfl, fun w' hS => by have hc := hS.2.2.2.1; go_simp⟩)) hS1 ?_
    try simp only [List.setIfInBounds_toArray, List.set_cons_succ, List.set_cons_zero]
    refine anyL_takeD (i := 6) (d := 27) (v := .int .i64 (t : Nat)) rfl rfl (by kernel_rfl) (by kernel_rfl) (by kernel_rfl) (fun _ _ _ h => h) hSd (by kernel_rfl) (.inl (.inl ⟨rfl, fun w' hS => by have hc := hS.2.2.2.2; go_simp⟩)) hS1 ?_
    try simp only [List.setIfInBounds_toArray, List.set_cons_succ, List.set_cons_zero]
    refine anyL_takeD (i := 7) (d := 28) (v := .int .i64 (x : Nat)) rfl rfl (by kernel_rfl) (by kernel_rfl) (by kernel_rfl) (fun _ _ _ h => h) hSd (by kernel_rfl) (.inl (.inl ⟨rfl, fun w' hS => rfl⟩)) hS1 ?_
    try simp only [List.setIfInBounds_toArray, List.set_cons_succ, List.set_cons_zero]
    refine anyL_takeD (i := 8) (d := 29) (v := .slice (some ⟨b1, o1 + t, none⟩) (x - t) (cap - t)) rfl rfl (by kernel_rfl) (by kernel_rfl) (by kernel_rfl) (fun _ _ _ h => h) hSd (by kernel_rfl) (.inl (.inl ⟨rfl, fun w' hS => by go_simp; omega⟩)) hS1 ?_
    try simp only [List.setIfInBounds_toArray, List.set_cons_succ, List.set_cons_zero]
    refine anyL_all (rs := [9]) (by kernel_rfl) (by simp) ?_
    intro n5 i hi
    simp only [List.mem_cons, List.not_mem_nil, or_false] at hi
    obtain rfl := hi
    obtain ⟨Lf, hLf⟩ : ∃ Lf, Lf = (if pre = [] then cur else []) := ⟨_, rfl⟩
    rw [← hLf] at hlf p3
    have hLfl : Lf.length ≤ 2000 := by
      rw [hLf]; split
      · have := HE0.out.2.2.1.lt; omega
      · simp
    have hcl : ((l.drop t).take (x - t)).length = x - t := by rw [List.length_take, List.length_drop]; omega
    have hRd : RdB (W.drew.drewN n5) (some ⟨b1, o1 + t, none⟩) ((l.drop t).take (x - t)) := (show RdB (W.drew.drewN n5) (some ⟨b1, o1, none⟩) l from ⟨hRW.cell, hRW.bd, hRW.len⟩).slice t (x - t)
    obtain ⟨u, w6, hr6, hu6, ku6, hb6⟩ := run_append_b (P := Try.prog) (t := 22) (tx := 22) (ty := 22) (W.drew.drewN n5) Try.underlying22 elem_u8 Try.underlying22 (hlf.kp (((Kp.refl (fun _ => False) W).drew).drewN n5) (fun _ _ h => h)) (a := some ⟨b1, o1 + t, none⟩) (c := cap - t) hRd (by have := HN.out; rw [hcl]; omega)
    rw [hcl] at hr6
    have k6 : Kp (fun k => left.ownBlock = some k) W w6 := ((Kp.refl _ W).drew.drewN n5).trans ku6
    have nlf : ∀ i, w.heap.size ≤ i → left.ownBlock ≠ some i := fun i hi h => by have := (hlo2 i h).1; omega
    have ncb : left.ownBlock ≠ some cb := hed.notB hlf
    have hug : ∀ g, u.ownBlock = some g → left.ownBlock = some g ∨ g = W.heap.size := fun g hg => by
      rcases hb6 with e | e
      · rw [e] at hg; exact .inl hg
      · rw [e] at hg; cases hg; exact .inr rfl
    obtain ⟨m6, hm6⟩ : ∃ m6, m6 = (Lf ++ (l.drop t).take (x - t)).length := ⟨_, rfl⟩
    obtain ⟨ua, uc, eu, _, _⟩ := hu6.form
    rw [← hm6] at eu
    subst eu
    clear hm6
    refine wpOp_of rfl rfl ?_
    refine wp_append_go hr6 rfl rfl rfl ?_
    refine ⟨fun _ => ⟨k6.cell xo (nlf _ (by simp; omega)), k6.cell xc (nlf _ (by simp)), k6.cell xl ncb, k6.cell xb (nlf _ (by simp)), k6.cell xa (nlf _ (by simp; omega))⟩, ?_⟩
    dsimp only [Act.put]
    try simp only [List.setIfInBounds_toArray, List.set_cons_succ, List.set_cons_zero]
    refine anyL_all (rs := [10]) (by kernel_rfl) (by simp) ?_
    intro n6 i hi
    simp only [List.mem_cons, List.not_mem_nil, or_false] at hi
    obtain rfl := hi
    refine wpOp_of rfl rfl ?_
    go_simp
    have k7 : Kp (fun _ => False) w6 ((w6.drewN n6).alloc (.cells #[.slice ua m6 uc] 22)) := ((Kp.refl (fun _ => False) w6).drewN n6).alloc _
    have hat7 : At ((w6.drewN n6).alloc (.cells #[.slice ua m6 uc] 22)) w6.heap.size [.slice ua m6 uc] := At.new (w6.drewN n6) [.slice ua m6 uc] _
    have k67 := k6.then k7 (fun _ _ h => h.elim)
    refine ⟨fun _ => ⟨k67.cell xo (nlf _ (by simp; omega)), k67.cell xc (nlf _ (by simp)), k67.cell xl ncb, k67.cell xb (nlf _ (by simp)), k67.cell xa (nlf _ (by simp; omega))⟩, ?_⟩
    refine anyL_world (J := fun w' => Kp (fun _ => False) w6 w' ∧ At w' w6.heap.size [.slice ua m6 uc]) ⟨k7, hat7⟩ ?_
    clear k7 hat7 k67
    rintro w7 ⟨k7, hat7⟩
    try dsimp only [Act.put]
    try simp only [List.setIfInBounds_toArray, List.set_cons_succ, List.set_cons_zero]
    refine anyL_all (rs := [11]) (by kernel_rfl) (by simp) ?_
    intro n7 i hi
    simp only [List.mem_cons, List.not_mem_nil, or_false] at hi
    obtain rfl := hi
    have hsz : w5.heap.size ≤ W.heap.size := hkp.size
    have k7n := k7.drewN n7
    have k67 := k6.then k7n (fun _ _ h => h.elim)
    have hpl : ((chs cur l).1.take pre.length).length = pre.length := by
      have := (cuts_spec l cur 0).1
      have := hpre.length_le
      rw [List.length_append, List.length_singleton] at this
      rw [List.length_take]; omega
    have hpn : pre.length + 1 ≤ 1000000 := by
      have := (cuts_spec l cur 0).1
      have h9 := hpre.length_le
      rw [List.length_append, List.length_singleton] at h9
      have := chs_len_le l cur
      have := HN.out
      omega
    have nvl : ∀ g, v.ownBlock = some g → left.ownBlock ≠ some g := fun g hg h => by have := hvB g hg; have := (hlo2 g h).1; omega
    have nel : ∀ i g, i < ((chs cur l).1.take pre.length).length → (vs.getD i undef).ownBlock = some g → left.ownBlock ≠ some g := fun i g hi hg h => by
      rcases hlk with ⟨_, e⟩ | rfl
      · rw [hpl, e] at hi; simp at hi
      · simp [Value.ownBlock] at h
    have hll7 : LLs 0 (w7.drewN n7) v ((chs cur l).1.take pre.length) vs := hll.kp k67 (fun g hg => nvl g hg) (fun i g hi hg => nel i g hi hg)
    obtain ⟨v8, w8, hr8, hll8, k8, hb8⟩ := hll7.app (P := Try.prog) (t := 24) (tx := 24) (ty := 24) Try.underlying24 elem_sl Try.underlying24 (by omega) (u := .slice ua m6 uc) (l := Lf ++ (l.drop t).take (x - t)) (hu6.kp k7n (fun _ _ h => h))
      (fun g hg => by
        rcases hug g hg with e | e
        · exact ⟨fun hg' => nvl g hg' e, Nat.zero_le _, fun i hi hg' => nel i g hi hg' e⟩
        · subst e
          exact ⟨fun hg' => absurd (hll.own.lt _ hg') (Nat.lt_irrefl _), Nat.zero_le _, fun i hi hg' => absurd (hll.ltE hi hg') (Nat.lt_irrefl _)⟩)
      (by rw [hpl]; omega) (Nat.zero_le _) (bx := w6.heap.size) (((Kp.refl (fun _ => False) w7).drewN n7).at hat7 (fun h => h))
    obtain ⟨N8, hN8⟩ : ∃ N8, N8 = ((chs cur l).1.take pre.length ++ [Lf ++ (l.drop t).take (x - t)]).length := ⟨_, rfl⟩
    obtain ⟨A8, c8, e8, _, _⟩ := hll8.own.form
    rw [← hN8] at e8
    subst e8
    clear hN8
    have hv8 : ∀ g, (Value.slice A8 N8 c8).ownBlock = some g → w5.heap.size ≤ g := fun g hg => by
      rcases hb8 with e | e
      · rw [e] at hg; exact hvB g hg
      · rw [e] at hg; cases hg; have := k67.size; omega
    refine wpOp_of rfl rfl ?_
    refine wp_append_go hr8 rfl rfl rfl ?_
    have k68 : Kp (fun i => left.ownBlock = some i ∨ v.ownBlock = some i) W w8 := (k67.mono (fun _ _ h => .inl h)).then k8 (fun _ _ h => .inr h)
    have n68 : ∀ i, w.heap.size ≤ i → i < w5.heap.size → ¬ (left.ownBlock = some i ∨ v.ownBlock = some i) := fun i h1 h2 h => h.elim (fun h => nlf i h1 h) (fun h => by have := hvB i h; omega)
    have c68 : ¬ (left.ownBlock = some cb ∨ v.ownBlock = some cb) := fun h => h.elim ncb (fun h => by have := hvB _ h; omega)
    have xo8 : w8.cell? ⟨bo, 0, none⟩ = some v := k68.cell xo (n68 _ (by simp; omega) (by simp; omega))
    have hout8 := k68.at hout (n68 _ (by omega) (by omega))
    have fo8 := hout8.frozen 0
    refine ⟨fun _ => ⟨xo8, k68.cell xc (n68 _ (by simp) (by simp; omega)), k68.cell xl c68, k68.cell xb (n68 _ (by simp) (by simp; omega)), k68.cell xa (n68 _ (by simp; omega) (by simp; omega))⟩, ?_⟩
    dsimp only [Act.put]
    try simp only [List.setIfInBounds_toArray, List.set_cons_succ, List.set_cons_zero]
    refine anyL_all (rs := [12]) (by kernel_rfl) (by simp) ?_
    intro n9 i hi
    simp only [List.mem_cons, List.not_mem_nil, or_false] at hi
    obtain rfl := hi
    refine wpOp_of rfl rfl ?_
    go_simp
    refine ⟨fun h => Bool.noConfusion (show false = true from h), anyL_done (by kernel_rfl) (fun nn => ?_) _⟩
    have ks := (((Kp.refl (fun i => i = bo) w8).drewN n9).setCell (p := ⟨bo, 0, none⟩) (fun _ => rfl) (.slice A8 N8 c8)).drewN nn
    have hll9 := hll8.kp ks (fun g hg e => by have := hv8 g hg; omega) (fun i g hi hg e => by
      rw [List.length_append, List.length_singleton] at hi
      by_cases hi2 : i < ((chs cur l).1.take pre.length).length
      · rw [getD_snoc_lt _ _ _ _ (by rw [hll.len]; exact hi2)] at hg
        rcases hvE i g (by omega) hg with h | h
        · omega
        · exact nl g (by omega) h
      · obtain rfl : i = vs.length := by rw [hll.len]; omega
        rw [getD_snoc_at] at hg
        rcases hug g hg with h | h
        · exact nlf g (by omega) h
        · omega)
    have hout9 := ((show At (w8.drewN n9) bo [v] from hout8).set 0 (.slice A8 N8 c8)).drewN nn
    have k9 : Kp (fun i => i = bo ∨ left.ownBlock = some i ∨ v.ownBlock = some i) W _ := (k68.mono (fun _ _ h => .inr h)).then ks (fun _ _ h => .inl h)
    generalize (((w8.drewN n9).setCell ⟨bo, 0, none⟩ (.slice A8 N8 c8)).drewN nn) = wF at *
    have n9' : ∀ i, w.heap.size ≤ i → i < w5.heap.size → i ≠ bo → ¬ (i = bo ∨ left.ownBlock = some i ∨ v.ownBlock = some i) := fun i h1 h2 h3 h => h.elim h3 (n68 i h1 h2)
    have c9' : ¬ (cb = bo ∨ left.ownBlock = some cb ∨ v.ownBlock = some cb) := fun h => h.elim (fun h => by omega) c68
    have xc9 := k9.cell xc (n9' _ (by simp) (by simp; omega) (by simp; omega))
    have hed9 : EdgeAt wF cb [] (cutT left true false) := hed.kp k9 c9'
    have xl9 : wF.cell? ⟨cb, 20, none⟩ = some left := (edge_tail hed9 0).1
    have fl9 : wF.frozen? ⟨cb, 20, none⟩ = false := (edge_tail hed9 0).2
    have hat9 := k9.at hat (n9' _ (by omega) (by omega) (by omega))
    have xa9 : wF.cell? ⟨bo + 1, 0, none⟩ = some (.int .i64 (t : Nat)) := (hat9.cell 0).trans rfl
    have fa9 := hat9.frozen 0
    have H9 := Lib.hid (And.intro hll9 (And.intro hout9 (And.intro hat9 (And.intro hed9 k9))))
    have HX := Lib.hid (And.intro hvE (And.intro hvB (And.intro hkp (And.intro hug (And.intro hv8 (And.intro hed hRW))))))
    clear hll9 hout9 hat9 hed9 hll8 k8 k68 hout8 xo8 fo8 hll7 hS1 hSd ks hr8 hr6 hu6 hat7
    gi_wp2
    have hEl : ∀ i g, i < pre.length + 1 → ((vs ++ [Value.slice ua m6 uc]).getD i undef).ownBlock = some g → w5.heap.size ≤ g ∨ left0.ownBlock = some g := fun i g hi hg => by
      by_cases hi2 : i < pre.length
      · rw [getD_snoc_lt _ _ _ _ (by rw [hll.len, hpl]; exact hi2)] at hg
        exact HX.out.1 i g hi2 hg
      · obtain rfl : i = vs.length := by rw [hll.len, hpl]; omega
        rw [getD_snoc_at] at hg
        rcases HX.out.2.2.2.1 g hg with h | h
        · exact .inr (hlo2 g h).2
        · exact .inl (by omega)
    have hlen2 : ((chs cur l).1.take pre.length ++ [Lf ++ (l.drop t).take (x - t)]).length = pre.length + 1 := by rw [List.length_append, List.length_singleton, hpl]
    have ka := (Kp.refl (fun i => i = cb) wF).setCell (p := ⟨cb, 20, none⟩) (fun _ => rfl) (.slice none 0 0)
    have ea : EdgeAt (wF.setCell ⟨cb, 20, none⟩ (.slice none 0 0)) cb [] (cutT (.slice none 0 0) true false) := H9.out.2.2.2.1.setTail 0 (.slice none 0 0)
    have la := H9.out.1.kp ka (fun g hg e => H9.out.2.2.2.1.notS H9.out.1 (by rw [hg, e])) (fun i g hi hg e => H9.out.2.2.2.1.notB (H9.out.1.each i hi) (by rw [hg, e]))
    have oa := ka.at H9.out.2.1 (by omega)
    have ta := ka.at H9.out.2.2.1 (by omega)
    have kA : Kp (fun i => i = cb ∨ i = bo ∨ left.ownBlock = some i ∨ v.ownBlock = some i) W _ := (H9.out.2.2.2.2.mono (fun _ _ h => .inr h)).then ka (fun _ _ h => .inl h)
    generalize wF.setCell ⟨cb, 20, none⟩ (.slice none 0 0) = wG at *
    have kb := (Kp.refl (fun i => i = bo + 1) wG).setCell (p := ⟨bo + 1, 0, none⟩) (fun _ => rfl) (.int .i64 (x : Nat))
    have eb := ea.kp kb (by omega)
    have lb := la.kp kb (fun g hg e => by have := HX.out.2.2.2.2.1 g hg; omega) (fun i g hi hg e => by
      rcases hEl i g (by rw [← hlen2]; exact hi) hg with h | h
      · omega
      · exact nl g (by omega) h)
    have kB : Kp (fun i => i = bo + 1 ∨ i = cb ∨ i = bo ∨ left.ownBlock = some i ∨ v.ownBlock = some i) W _ := (kA.mono (fun _ _ h => .inr h)).then kb (fun _ _ h => .inl h)
    have ob := kb.at oa (by omega)
    have tb := ta.set 0 (.int .i64 (x : Nat))
    generalize wG.setCell ⟨bo + 1, 0, none⟩ (.int .i64 (x : Nat)) = wH at *
    have hfin : KeepsFrom w5.heap.size W wH ∧ (∃ v vs left, LLs 0 wH v ((chs cur l).1.take (pre ++ [x]).length) vs ∧ At wH bo [v] ∧ At wH (bo + 1) [.int .i64 (lastP (pre ++ [x]) : Nat)] ∧ (∃ cu, EdgeAt wH cb cu (cutT left true false)) ∧ OwnB wH left (if pre ++ [x] = [] then cur else []) ∧
        (∀ g, v.ownBlock = some g → w5.heap.size ≤ g) ∧ (∀ i g, i < (pre ++ [x]).length → (vs.getD i undef).ownBlock = some g → w5.heap.size ≤ g ∨ left0.ownBlock = some g) ∧
        (left = left0 ∧ pre ++ [x] = [] ∨ left = .slice none 0 0) ∧ Kp (fun i => i = bo ∨ i = bo + 1 ∨ i = cb ∨ left0.ownBlock = some i) w5 wH) ∧ TI cb (w2.heap.size + 1) w2.heap.size (some ⟨b1, o1, none⟩) cap l (if pre ++ [x] = [] then cur else []) wH := by
      refine ⟨KeepsFrom.of_kp kB (fun i h => ?_), ⟨.slice A8 N8 c8, vs ++ [.slice ua m6 uc], .slice none 0 0, ?_, ob, ?_, ⟨[], eb⟩, ?_, HX.out.2.2.2.2.1, ?_, .inr rfl, ?_⟩, ?_⟩
      · rcases h with h | h | h | h | h
        · left; omega
        · left; omega
        · left; omega
        · left; have := hlo2 i h; omega
        · exact .inr (hll.own.at' h)
      · rw [List.length_append, List.length_singleton, p3]; exact lb
      · rw [lastP_snoc]; exact tb
      · rw [if_neg (by simp)]; exact OwnB.nil' _
      · rw [List.length_append, List.length_singleton]; exact hEl
      · exact HX.out.2.2.1.then kB (fun i hi h => by
          rcases h with h | h | h | h | h
          · exact .inr (.inl h)
          · exact .inr (.inr (.inl h))
          · exact .inl h
          · exact .inr (.inr (.inr (hlo2 i h).2))
          · have := HX.out.2.1 i h; omega)
      · rw [if_neg (by simp)]
        have nB : ∀ i, w.heap.size ≤ i → i < w5.heap.size → i ≠ bo → i ≠ bo + 1 → i ≠ cb → ¬ (i = bo + 1 ∨ i = cb ∨ i = bo ∨ left.ownBlock = some i ∨ v.ownBlock = some i) := fun i h1 h2 h3 h4 h5 h => by
          rcases h with h | h | h | h | h
          · exact h4 h
          · exact h5 h
          · exact h3 h
          · have := hlo2 i h; omega
          · have := HX.out.2.1 i h; omega
        refine ⟨⟨_, eb⟩, kB.cell HT.out.2.1 (nB _ (by simp; omega) (by simp; omega) (by simp; omega) (by simp; omega) (by simp; omega)), kB.cell HT.out.2.2.1 (nB _ (by simp; omega) (by simp; omega) (by simp; omega) (by simp; omega) (by simp; omega)), HX.out.2.2.2.2.2.2.kp kB (fun y hy => ?_)⟩
        cases hy
        intro h
        rcases h with h | h | h | h | h
        · simp at h; omega
        · exact hbcb.1 h
        · simp at h; omega
        · exact hbcb.2 (hlo2 _ h).2
        · have := HX.out.2.1 _ h; simp at this; omega
    exact hfin
  case done =>
    rintro D W hD ⟨v, vs, left, hll, hout, hat, ⟨cu, hed0⟩, hlf, hvB, hvE, hlk, hkp⟩ hE hd
    obtain ⟨p1, p2, p3⟩ := cuts_end l cur
    have p4 := (cuts_spec l cur 0).1
    rw [p1] at hll
    obtain ⟨⟨T, hed⟩, _, _, hRW⟩ := hE
    have hTT := hed.tail hed0
    subst hTT
    clear hed0
    obtain ⟨Lf, hLf⟩ : ∃ Lf, Lf = (if cutsAt cur l 0 = [] then cur else []) := ⟨_, rfl⟩
    rw [← hLf] at hlf p3
    have hLfl : Lf.length ≤ 2000 := by
      rw [hLf]; split
      · have := HE0.out.2.2.1.lt; omega
      · simp
    have hlo2 : ∀ g, left.ownBlock = some g → g < w.heap.size ∧ left0.ownBlock = some g := fun g hg => by
      rcases hlk with ⟨rfl, _⟩ | rfl
      · exact ⟨hlo g hg, hg⟩
      · simp [Value.ownBlock] at hg
    have nl : ∀ i, w.heap.size ≤ i → left0.ownBlock ≠ some i := fun i hi h => by have := hlo i h; omega
    have nlf : ∀ i, w.heap.size ≤ i → left.ownBlock ≠ some i := fun i hi h => by have := (hlo2 i h).1; omega
    have ncb : left.ownBlock ≠ some cb := hed.notB hlf
    have xc : W.cell? ⟨w.heap.size, 0, none⟩ = some (.pointer (some ⟨cb, 0, none⟩)) := hkp.cell (H5.out.2.2.1.cell cc2 (fun h => h)) (fun h => by rcases h with h | h | h | h <;> simp at h; omega; omega; omega; exact nl _ (by omega) h)
    have xb : W.cell? ⟨w.heap.size + 1, 0, none⟩ = some (.slice a n cap) := hkp.cell (H5.out.2.2.1.cell cb2 (fun h => h)) (fun h => by rcases h with h | h | h | h <;> simp at h; omega; omega; omega; exact nl _ (by omega) h)
    have xo : W.cell? ⟨bo, 0, none⟩ = some v := (hout.cell 0).trans rfl
    have xa : W.cell? ⟨bo + 1, 0, none⟩ = some (.int .i64 (lastP (cutsAt cur l 0) : Nat)) := (hat.cell 0).trans rfl
    have xl : W.cell? ⟨cb, 20, none⟩ = some left := (edge_tail hed 0).1
    generalize lastP (cutsAt cur l 0) = t at *
    have q1 : (t : Int) ≤ (n : Int) := by have := HN.out; omega
    have q2 : (n : Int) ≤ cap := by omega
    have hcl : (l.drop t).length = n - t := by rw [List.length_drop, HN.out]
    have hRd0 : RdB W (if cap = t then a else a.map (fun x => x.add t)) (l.drop t) := by
      by_cases hct : cap = t
      · rw [List.drop_of_length_le (by have := HN.out; omega)]; exact RdB.nil _ _
      · rw [if_neg hct]
        by_cases hl0 : l = []
        · rw [hl0, List.drop_nil]; exact RdB.nil _ _
        · obtain ⟨b1, o1, e, _⟩ := hRW.cell 0 (by cases l with | nil => exact absurd rfl hl0 | cons => simp)
          rw [e] at hRW ⊢
          have := hRW.slice t (n - t)
          rw [List.take_of_length_le (by omega)] at this
          rw [Option.map_some, Addr.add_mid]; exact this
    obtain ⟨A', hA'⟩ : ∃ A', A' = (if cap = t then a else a.map (fun x => x.add t)) := ⟨_, rfl⟩
    rw [← hA'] at hRd0
    have HA' := Lib.hid hA'
    clear hA'
    go_wp2
    refine region_N (S := fun w' => w'.cell? ⟨w.heap.size, 0, none⟩ = some (.pointer (some ⟨cb, 0, none⟩)) ∧ w'.cell? ⟨cb, 20, none⟩ = some left ∧ w'.cell? ⟨w.heap.size + 1, 0, none⟩ = some (.slice a n cap) ∧ w'.cell? ⟨bo + 1, 0, none⟩ = some (.int .i64 (t : Nat))) [11] rfl ?_
    have hSd : ∀ (w' : World) (n' : Nat), (w'.cell? ⟨w.heap.size, 0, none⟩ = some (.pointer (some ⟨cb, 0, none⟩)) ∧ w'.cell? ⟨cb, 20, none⟩ = some left ∧ w'.cell? ⟨w.heap.size + 1, 0, none⟩ = some (.slice a n cap) ∧ w'.cell? ⟨bo + 1, 0, none⟩ = some (.int .i64 (t : Nat))) → ((w'.drewN n').cell? ⟨w.heap.size, 0, none⟩ = some (.pointer (some ⟨cb, 0, none⟩)) ∧ (w'.drewN n').cell? ⟨cb, 20, none⟩ = some left ∧ (w'.drewN n').cell? ⟨w.heap.size + 1, 0, none⟩ = some (.slice a n cap) ∧ (w'.drewN n').cell? ⟨bo + 1, 0, none⟩ = some (.int .i64 (t : Nat))) := fun w' n' h => h
    have hS1 : W.drew.cell? ⟨w.heap.size, 0, none⟩ = some (.pointer (some ⟨cb, 0, none⟩)) ∧ W.drew.cell? ⟨cb, 20, none⟩ = some left ∧ W.drew.cell? ⟨w.heap.size + 1, 0, none⟩ = some (.slice a n cap) ∧ W.drew.cell? ⟨bo + 1, 0, none⟩ = some (.int .i64 (t : Nat)) := ⟨xc, xl, xb, xa⟩
    refine anyL_takeD (i := 0) (d := 37) (v := .pointer (some ⟨cb, 0, none⟩)) rfl rfl (by kernel_rfl) (by kernel_rfl) (by kernel_rfl) (fun _ _ _ h => h) hSd (by kernel_rfl) (.inl (.inl ⟨rfl, fun w' hS => by have hc := hS.1; go_simp⟩)) hS1 ?_
    try simp only [List.setIfInBounds_toArray, List.set_cons_succ, List.set_cons_zero]
    refine anyL_takeD (i := 1) (d := 38) (v := .pointer (some ⟨cb, 0, none⟩)) rfl rfl (by kernel_rfl) (by kernel_rfl) (by kernel_rfl) (fun _ _ _ h => h) hSd (by kernel_rfl) (.inl (.inl ⟨rfl, fun w' hS => by have hc := hS.1; go_simp⟩)) hS1 ?_
    try simp only [List.setIfInBounds_toArray, List.set_cons_succ, List.set_cons_zero]
    refine anyL_takeD (i := 2) (d := 39) (v := .pointer (some ⟨cb, 0, none⟩)) rfl rfl (by kernel_rfl) (by kernel_rfl) (by kernel_rfl) (fun _ _ _ h => h) hSd (by kernel_rfl) (.inl (.inl ⟨rfl, fun w' hS => by go_simp⟩)) hS1 ?_
    try simp only [List.setIfInBounds_toArray, List.set_cons_succ, List.set_cons_zero]
    refine anyL_takeD (i := 3) (d := 40) (v := .pointer (some ⟨cb, 20, none⟩)) rfl rfl (by kernel_rfl) (by kernel_rfl) (by kernel_rfl) (fun _ _ _ h => h) hSd (by kernel_rfl) (.inl (.inl ⟨rfl, fun w' hS => by go_simp⟩)) hS1 ?_
    try simp only [List.setIfInBounds_toArray, List.set_cons_succ, List.set_cons_zero]
    refine anyL_takeD (i := 4) (d := 41) (v := left) rfl rfl (by kernel_rfl) (by kernel_rfl) (by kernel_rfl) (fun _ _ _ h => h) hSd (by kernel_rfl) (.inl (.inl ⟨rfl, fun w' hS => by have hc := hS.2.1; go_simp⟩)) hS1 ?_
    try simp only [List.setIfInBounds_toArray, List.set_cons_succ, List.set_cons_zero]
    refine anyL_takeD (i := 5) (d := 42) (v := .slice a n cap) rfl rfl (by kernel_rfl) (by kernel_rfl) (by kernel_rfl) (fun _ _ _ h => h) hSd (by kernel_rfl) (.inl (.inl ⟨rfl, fun w' hS => by have hc := hS.2.2.1; go_simp⟩)) hS1 ?_
    try simp only [List.setIfInBounds_toArray, List.set_cons_succ, List.set_cons_zero]
    refine anyL_takeD (i := 6) (d := 43) (v := .int .i64 (t : Nat)) rfl rfl (by kernel_rfl) (by kernel_rfl) (by kernel_rfl) (fun _ _ _ h => h) hSd (by kernel_rfl) (.inl (.inl ⟨rfl, fun w' hS => by have hc := hS.2.2.2; go_simp⟩)) hS1 ?_
    try simp only [List.setIfInBounds_toArray, List.set_cons_succ, List.set_cons_zero]
    refine anyL_takeD (i := 7) (d := 44) (v := .slice A' (n - t) (cap - t)) rfl rfl (by kernel_rfl) (by kernel_rfl) (by kernel_rfl) (fun _ _ _ h => h) hSd (by kernel_rfl) (.inl (.inl ⟨rfl, fun w' hS => by rw [HA'.out]; go_simp⟩)) hS1 ?_
    try simp only [List.setIfInBounds_toArray, List.set_cons_succ, List.set_cons_zero]
    refine anyL_all (rs := [8]) (by kernel_rfl) (by simp) ?_
    intro n4 i hi
    simp only [List.mem_cons, List.not_mem_nil, or_false] at hi
    obtain rfl := hi
    have hRd : RdB (W.drew.drewN n4) A' (l.drop t) := ⟨hRd0.cell, hRd0.bd, hRd0.len⟩
    obtain ⟨u, w6, hr6, hu6, ku6, hb6⟩ := run_append_b (P := Try.prog) (t := 22) (tx := 22) (ty := 22) (W.drew.drewN n4) Try.underlying22 elem_u8 Try.underlying22 (hlf.kp (((Kp.refl (fun _ => False) W).drew).drewN n4) (fun _ _ h => h)) (a := A') (c := cap - t) hRd (by rw [hcl]; omega)
    rw [hcl] at hr6
    rw [← p3] at hu6
    have k6 : Kp (fun k => left.ownBlock = some k) W w6 := ((Kp.refl _ W).drew.drewN n4).trans ku6
    have hug : ∀ g, u.ownBlock = some g → left.ownBlock = some g ∨ g = W.heap.size := fun g hg => by
      rcases hb6 with e | e
      · rw [e] at hg; exact .inl hg
      · rw [e] at hg; cases hg; exact .inr rfl
    obtain ⟨m6, hm6⟩ : ∃ m6, m6 = (chs cur l).2.length := ⟨_, rfl⟩
    obtain ⟨ua, uc, eu, _, _⟩ := hu6.form
    rw [← hm6] at eu
    subst eu
    clear hm6
    have nvl : ∀ g, v.ownBlock = some g → left.ownBlock ≠ some g := fun g hg h => by have := hvB g hg; have := (hlo2 g h).1; omega
    have nel : ∀ i g, i < (chs cur l).1.length → (vs.getD i undef).ownBlock = some g → left.ownBlock ≠ some g := fun i g hi hg h => by
      rcases hlk with ⟨_, e⟩ | rfl
      · rw [e] at p4; simp at p4; omega
      · simp [Value.ownBlock] at h
    have hll6 := hll.kp k6 (fun g hg => nvl g hg) (fun i g hi hg => nel i g hi hg)
    have hed6 := hed.kp k6 ncb
    have xl6 : w6.cell? ⟨cb, 20, none⟩ = some left := (edge_tail hed6 0).1
    have fl6 : w6.frozen? ⟨cb, 20, none⟩ = false := (edge_tail hed6 0).2
    refine wpOp_of rfl rfl ?_
    refine wp_append_go hr6 rfl rfl rfl ?_
    have hS6 : w6.cell? ⟨w.heap.size, 0, none⟩ = some (.pointer (some ⟨cb, 0, none⟩)) ∧ w6.cell? ⟨cb, 20, none⟩ = some left ∧ w6.cell? ⟨w.heap.size + 1, 0, none⟩ = some (.slice a n cap) ∧ w6.cell? ⟨bo + 1, 0, none⟩ = some (.int .i64 (t : Nat)) := ⟨k6.cell xc (nlf _ (by simp)), xl6, k6.cell xb (nlf _ (by simp)), k6.cell xa (nlf _ (by simp; omega))⟩
    refine ⟨fun _ => hS6, ?_⟩
    dsimp only [Act.put]
    try simp only [List.setIfInBounds_toArray, List.set_cons_succ, List.set_cons_zero]
    refine anyL_takeF (i := 9) (d := 46) (v := .pointer (some ⟨cb, 0, none⟩)) rfl rfl (by kernel_rfl) (by kernel_rfl) (by kernel_rfl) (fun _ _ _ h => h) hSd (by kernel_rfl) (.inl (.inl ⟨rfl, fun w' hS => by go_simp⟩)) (fun h => hS6) ?_
    try simp only [List.setIfInBounds_toArray, List.set_cons_succ, List.set_cons_zero]
    refine anyL_takeF (i := 10) (d := 47) (v := .pointer (some ⟨cb, 20, none⟩)) rfl rfl (by kernel_rfl) (by kernel_rfl) (by kernel_rfl) (fun _ _ _ h => h) hSd (by kernel_rfl) (.inl (.inl ⟨rfl, fun w' hS => by go_simp⟩)) (fun h => hS6) ?_
    try simp only [List.setIfInBounds_toArray, List.set_cons_succ, List.set_cons_zero]
    refine anyL_all (rs := [11]) (by kernel_rfl) (by simp) ?_
    intro n11 i hi
    simp only [List.mem_cons, List.not_mem_nil, or_false] at hi
    obtain rfl := hi
    refine wpOp_of rfl rfl ?_
    go_simp
    refine ⟨fun h => Bool.noConfusion (show false = true from h), anyL_done (by kernel_rfl) (fun nn => ?_) _⟩
    have ks := (((Kp.refl (fun i => i = cb) w6).drewN n11).setCell (p := ⟨cb, 20, none⟩) (fun _ => rfl) (.slice ua m6 uc)).drewN nn
    have hed9 : EdgeAt (((w6.drewN n11).setCell ⟨cb, 20, none⟩ (.slice ua m6 uc)).drewN nn) cb (chs cur l).2 (cutT (.slice ua m6 uc) true false) :=
      ((hed6.kp ((Kp.refl (fun _ => False) w6).drewN n11) (fun h => h)).setTail 0 (.slice ua m6 uc)).kp ((Kp.refl (fun _ => False) _).drewN nn) (fun h => h)
    have hll9 := hll6.kp ks (fun g hg e => hed6.notS hll6 (by rw [hg, e])) (fun i g hi hg e => hed6.notB (hll6.each i hi) (by rw [hg, e]))
    have hu9 := hu6.kp ks (fun g hg e => hed6.notB hu6 (by rw [hg, e]))
    have k9 : Kp (fun i => i = cb ∨ left.ownBlock = some i) W _ := (k6.mono (fun _ _ h => .inr h)).then ks (fun _ _ h => .inl h)
    have x9 := k9.cell xo (fun h => by rcases h with h | h; simp at h; omega; exact nlf _ (by simp; omega) h)
    have hd9 := (KeepsFrom.of_kp (B := w5.heap.size) k9 (fun i h => h.elim (fun h => .inl (by omega)) (fun h => .inl (by have := (hlo2 i h).1; omega)))).same D _ hD hd rfl
    dsimp only [onlyN]
    generalize (((w6.drewN n11).setCell ⟨cb, 20, none⟩ (.slice ua m6 uc)).drewN nn) = w9 at *
    have kF : Kp (fun i => i = cb ∨ left0.ownBlock = some i) w w9 := (k05.mono (fun _ _ h => h.elim)).then (hkp.then k9 (S' := fun i => i = cb ∨ left.ownBlock = some i) (fun i hi h => h.elim (fun h => .inr (.inr (.inl h))) (fun h => .inr (.inr (.inr (hlo2 i h).2))))) (fun i hi h => by rcases h with h | h | h | h; omega; omega; exact .inl h; exact .inr h)
    have HF := Lib.hid (And.intro hll9 (And.intro hed9 (And.intro hu9 kF)))
    have HG := Lib.hid (And.intro hug (And.intro nel hll))
    have hsz : w5.heap.size ≤ W.heap.size := hkp.size
    clear hll9 hed9 hu9 k9 ks hll6 hed6 hu6 xl6 fl6 hS6 hS1 hSd hr6 k6 ku6
    go_wp2
    have kx := Kp.putNC hD hd9 rfl (.deferred none)
    refine ⟨by simp, .inl ⟨_, _, rfl, run_takeDeferred hd9, ?_⟩⟩
    refine ⟨_, results_tmp2 rfl _ _ _, v, vs, .slice ua m6 uc, rfl, HF.out.1.abd kx, HF.out.2.1.abd kx, HF.out.2.2.1.kp kx HF.out.2.2.1.own.notNC, fun g hg => by have := hvB g hg; omega, fun i g hi hg => ?_, fun g hg => ⟨?_, fun i hi hg' => ?_⟩, HF.out.2.2.2.thenNC kx (by omega)⟩
    · rcases hvE i g (by rw [p4]; exact hi) hg with h | h
      · left; omega
      · exact .inr h
    · rcases HG.out.1 g hg with h | h
      · exact .inr (hlo2 g h).2
      · left; omega
    · rcases HG.out.1 g hg with h | h
      · exact HG.out.2.1 i g hi hg' h
      · subst h; exact absurd (HG.out.2.2.ltE hi hg') (Nat.lt_irrefl _)
end Go.Proofs.Ytlabkldpcbmjbaa
