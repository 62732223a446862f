/- The document's window (satchelref13) in memory. -/
import Derived.Test.YtokembhfebnjpaaGreatQRegL
import Derived.Test.YtokembhfebnjpaaGreatQKt0M
import Derived.Test.YtokembhfebnjpaaGreatQWnBM
import Derived.Test.YtokembhfebnjpaaGreatQWnDM
import Derived.Deep.CutBlock
namespace Go.Proofs.YtokembhfebnjpaaGreat
set_option maxRecDepth 20000
open Go.RowKit Flt
set_option linter.unusedVariables false
structure Dr where
 seq : Nat
 B : Value
 body : List Int
 times : Nat
 att : Nat
 wt : Nat
instance : Inhabited Dr := ⟨⟨0, .slice none 0 0, [], 0, 0, 0⟩⟩
def dr (D : List Dr) (i : Nat) : Dr := D.getD i default
def drC (d : Dr) : List Value := [.int .i64 d.seq, d.B, .int .i64 d.times, .int .i64 d.att, .int .i64 d.wt]
def dsC : List Dr → List Value
 | [] => []
 | d :: D => drC d ++ dsC D
theorem dsC_len : ∀ D : List Dr, (dsC D).length = D.length * 5
 | [] => rfl
 | d :: D => by simp [dsC, drC, dsC_len D]; omega
theorem dsC_app : ∀ D E : List Dr, dsC (D ++ E) = dsC D ++ dsC E
 | [], E => rfl
 | d :: D, E => by simp [dsC, dsC_app D E]
theorem dsC_get : ∀ (D : List Dr) (i : Nat), i < D.length → ∀ j, j < 5 → (dsC D)[i * 5 + j]? = (drC (dr D i))[j]?
 | [], i, h, _, _ => by simp at h
 | d :: D, 0, _, j, hj => by
  rw [Nat.zero_mul, Nat.zero_add]
  show (drC d ++ dsC D)[j]? = _
  rw [List.getElem?_append_left (by simp [drC]; omega)]
  rfl
 | d :: D, i + 1, h, j, hj => by
  show (drC d ++ dsC D)[(i + 1) * 5 + j]? = _
  have hl : (drC d).length = 5 := rfl
  rw [List.getElem?_append_right (by omega), hl, show (i + 1) * 5 + j - 5 = i * 5 + j by omega, dsC_get D i (by simpa using h) j hj]
  rfl
theorem drop_past {α : Type} (l r : List α) (n k : Nat) (h : l.length = n) : (l ++ r).drop (n + k) = r.drop k := by
 rw [List.drop_append, h, List.drop_of_length_le (by omega), List.nil_append, Nat.add_sub_cancel_left]
theorem take_past {α : Type} (l r : List α) (n k : Nat) (h : l.length = n) : (l ++ r).take (n + k) = l ++ r.take k := by
 rw [List.take_append, h, List.take_of_length_le (by omega), Nat.add_sub_cancel_left]
theorem dsC_set : ∀ (D : List Dr) (k : Nat) (d : Dr), k < D.length → dsC (D.set k d) = (dsC D).take (k * 5) ++ drC d ++ (dsC D).drop ((k + 1) * 5)
 | [], k, d, h => by simp at h
 | e :: D, 0, d, _ => by
  show drC d ++ dsC D = (drC e ++ dsC D).take 0 ++ drC d ++ (drC e ++ dsC D).drop (5 + 0)
  rw [drop_past _ _ 5 _ rfl]
  simp
 | e :: D, k + 1, d, h => by
  rw [List.set_cons_succ]
  show drC e ++ dsC (D.set k d) = (drC e ++ dsC D).take ((k + 1) * 5) ++ drC d ++ (drC e ++ dsC D).drop ((k + 1 + 1) * 5)
  rw [dsC_set D k d (by simpa using h), show (k + 1) * 5 = 5 + k * 5 by omega, show (k + 1 + 1) * 5 = 5 + (k + 1) * 5 by omega, take_past _ _ 5 _ rfl, drop_past _ _ 5 _ rfl]
  simp only [List.append_assoc, show 5 + k * 5 = (k + 1) * 5 by omega]
structure Sm (d : Dr) (p : Pk) : Prop where
 seq : d.seq = p.seq
 body : d.body = p.body
 times : d.times = p.times
 sent : p.times ≠ 0 → d.att = p.att ∧ d.wt = p.wt
def Sl (w : World) (v : Value) (D : List Dr) : Prop := (D = [] ∧ ∃ a c, v = .slice a 0 c ∧ ∀ y, a = some y → y.block < w.heap.size) ∨
 ∃ g pre post c, v = .slice (some ⟨g, pre.length, none⟩) D.length c ∧ At w g (pre ++ dsC D ++ post) ∧ D.length ≤ c ∧ c ≤ maxLen
def SlB (v : Value) (k : Nat) : Prop := v.ownBlock = some k
theorem Sl.form {w : World} {v : Value} {D : List Dr} (h : Sl w v D) : ∃ a c, v = .slice a D.length c := by
 rcases h with ⟨rfl, a, c, e, _⟩ | ⟨g, pre, post, c, e, _⟩
 · exact ⟨a, c, e⟩
 · exact ⟨_, _, e⟩
theorem Sl.kp {S : Nat → Prop} {w w' : World} {v : Value} {D : List Dr} (h : Sl w v D) (k : Kp S w w') (hs : ∀ g, SlB v g → ¬ S g) : Sl w' v D := by
 rcases h with ⟨rfl, a, c, e, hl⟩ | ⟨g, pre, post, c, e, hat, h1, h2⟩
 · exact .inl ⟨rfl, a, c, e, fun y hy => Nat.lt_of_lt_of_le (hl y hy) k.size⟩
 · exact .inr ⟨g, pre, post, c, e, k.at hat (hs g (by unfold SlB; rw [e]; rfl)), h1, h2⟩
theorem Sl.lt {w : World} {v : Value} {D : List Dr} (h : Sl w v D) (g : Nat) (hg : SlB v g) : g < w.heap.size := by
 rcases h with ⟨rfl, a, c, e, hl⟩ | ⟨g', pre, post, c, e, hat, h1, h2⟩
 · unfold SlB at hg; rw [e] at hg
   cases a with
   | none => cases hg
   | some y => cases hg; exact hl y rfl
 · unfold SlB at hg; rw [e] at hg; cases hg; exact hat.lt
theorem Sl.rd {w : World} {a : Option Addr} {n c : Nat} {D : List Dr} (h : Sl w (.slice a n c) D) : Rd w a (dsC D) := by
 rcases h with ⟨rfl, _⟩ | ⟨g, pre, post, c', e, hat, h1, h2⟩
 · intro i hi; cases hi
 · simp only [Value.slice.injEq] at e
   rw [e.1]
   exact Rd.of_at hat
def RwF (b : Nat) (v : Value) (D : List Dr) (k : Nat) : Prop := k = b ∨ SlB v k ∨ ∃ i, i < D.length ∧ (dr D i).B.ownBlock = some k
structure RwC (w : World) (b : Nat) (x : Wn) (v : Value) (D : List Dr) : Prop where
 hat : At w b [.int .i64 x.size, v, .int .i64 x.last, .float .f64 x.m, .float .f64 x.s, .int .i64 x.now]
 sl : Sl w v D
 len : D.length = x.l.length
 sm : ∀ i, i < D.length → Sm (dr D i) (pk x.l i)
 bod : ∀ i, i < D.length → OwnB w (dr D i).B (dr D i).body
 vb : ¬ SlB v b
 bb : ∀ i, i < D.length → (dr D i).B.ownBlock ≠ some b
 bv : ∀ i g, i < D.length → (dr D i).B.ownBlock = some g → ¬ SlB v g
theorem RwC.kp {S : Nat → Prop} {w w' : World} {b : Nat} {x : Wn} {v : Value} {D : List Dr} (h : RwC w b x v D) (k : Kp S w w') (hs : ∀ g, RwF b v D g → ¬ S g) : RwC w' b x v D :=
 { h with hat := k.at h.hat (hs b (.inl rfl)), sl := h.sl.kp k (fun g hg => hs g (.inr (.inl hg))), bod := fun i hi => (h.bod i hi).kp k (fun g hg => hs g (.inr (.inr ⟨i, hi, hg⟩))) }
theorem RwC.kp0 {w w' : World} {b : Nat} {x : Wn} {v : Value} {D : List Dr} (h : RwC w b x v D) (k : Kp (fun _ => False) w w') : RwC w' b x v D := h.kp k (fun _ _ h => h)
theorem RwC.lt {w : World} {b : Nat} {x : Wn} {v : Value} {D : List Dr} (h : RwC w b x v D) (k : Nat) (hk : RwF b v D k) : k < w.heap.size := by
 rcases hk with rfl | hk | ⟨i, hi, hk⟩
 · exact h.hat.lt
 · exact h.sl.lt k hk
 · exact (h.bod i hi).own.lt k hk
theorem RwC.same {w : World} {b : Nat} {x x' : Wn} {v : Value} {D : List Dr} (h : RwC w b x v D) (h1 : x'.size = x.size) (h2 : x'.last = x.last) (h3 : x'.l = x.l) (h4 : x'.m = x.m) (h5 : x'.s = x.s) (h6 : x'.now = x.now) : RwC w b x' v D :=
 { h with hat := by rw [h1, h2, h4, h5, h6]; exact h.hat, len := by rw [h3]; exact h.len, sm := by rw [h3]; exact h.sm }
theorem rwnew_bad (s : Int) (w : World) (h : s < 1 ∨ 64 < s) : Calls Tryz.prog 76 #[.int .i64 s] w fun e w' => e = .returned (.tuple #[.pointer none, .int .i64 2]) ∧ w = w' := by
 by_cases h1 : s < 1
 · go_enter Tryz.func76, Tryz.ntmps76
   go_wp2
   go_ret2
   exact ⟨rfl, rfl⟩
 · have h2 : 64 < s := h.resolve_left h1
   clear h
   go_enter Tryz.func76, Tryz.ntmps76
   go_wp2
   go_ret2
   exact ⟨rfl, rfl⟩
theorem rwnew_ok (s : Nat) (w : World) (hs : 1 ≤ s ∧ s ≤ 64) : Calls Tryz.prog 76 #[.int .i64 s] w fun e w' => e = .returned (.tuple #[.pointer (some ⟨w.heap.size, 0, none⟩), .int .i64 0]) ∧ RwC w' w.heap.size (wnew s) (.slice none 0 0) [] ∧ Kp (fun _ => False) w w' := by
 have h1 : ¬ (s : Int) < 1 := by omega
 have h2 : ¬ (s : Int) > 64 := by omega
 go_enter Tryz.func76, Tryz.ntmps76
 go_wp2
 go_ret2
 exact ⟨rfl, ⟨At.new w [.int .i64 s, .slice none 0 0, .int .i64 0, .float .f64 4616189618054758400, .float .f64 4607182418800017408, .int .i64 0] _, .inl ⟨rfl, none, 0, rfl, fun y hy => (by cases hy)⟩, rfl, fun i hi => (by cases hi), fun i hi => (by cases hi), fun e => (by cases e), fun i hi => (by cases hi), fun i g hi => (by cases hi)⟩, (Kp.refl _ w).alloc _⟩
theorem rwtime_any {w : World} {b : Nat} {x : Wn} {v : Value} {D : List Dr} (h : RwC w b x v D) (hn : x.now ≤ 2147483647) (now : Int) :
 Calls Tryz.prog 54 #[.pointer (some ⟨b, 0, none⟩), .int .i64 now] w fun e w' => e = .returned (.bool (timeB now)) ∧ RwC w' b (if timeB now then { x with now := max x.now now.toNat } else x) v D ∧ Kp (· = b) w w' := by
 have c5 : w.cell? ⟨b, 5, none⟩ = some (.int .i64 x.now) := h.hat.cell 5
 have f5 := h.hat.frozen 5
 by_cases h1 : now < 0
 · have e : timeB now = false := by unfold timeB; simp; omega
   rw [e]
   have H := Lib.hid h
   clear h e
   go_enter Tryz.func54, Tryz.ntmps54
   go_wp2
   go_ret
   exact ⟨rfl, H.out, Kp.refl _ _⟩
 · by_cases h2 : now > 2147483647
   · have e : timeB now = false := by unfold timeB; simp; omega
     rw [e]
     have H := Lib.hid h
     clear h e
     go_enter Tryz.func54, Tryz.ntmps54
     go_wp2
     go_ret
     exact ⟨rfl, H.out, Kp.refl _ _⟩
   · have e : timeB now = true := by unfold timeB; simp; omega
     obtain ⟨m, hm⟩ : ∃ m : Nat, m = max x.now now.toNat := ⟨_, rfl⟩
     rw [e, if_pos rfl, ← hm]
     have H := Lib.hid h
     have HM := Lib.hid (show max (x.now : Int) now = (m : Int) by omega)
     have HS := Lib.hid (h.hat.set 5 (.int .i64 (m : Nat)))
     clear h e hm
     go_enter Tryz.func54, Tryz.ntmps54
     go_upto_region 3 with fail
     go_cut [] (fun wx => w.setCell ⟨b, 5, none⟩ (.int .i64 (m : Nat)) = wx)
     case first =>
      go_wp2_with fail
      all_goals
       go_meet
       exact congrArg (fun z => w.setCell ⟨b, 5, none⟩ (.int .i64 z)) (by have := HM.out; omega)
     case rest =>
      obtain rfl := hcut
      go_wp2_with fail
      go_ret
      have ks := Kp.setCell (S := fun k => k = b) (Kp.refl _ w) (p := ⟨b, 5, none⟩) (fun _ => rfl) (.int .i64 (m : Nat))
      have h := H.out
      exact ⟨rfl, { h with hat := HS.out, sl := h.sl.kp ks (fun g hg e => h.vb (by have e : g = b := e; exact e ▸ hg)), bod := fun i hi => (h.bod i hi).kp ks (fun g hg e => h.bb i hi (by have e : g = b := e; exact e ▸ hg)) }, ks⟩
set_option linter.unusedSimpArgs false
theorem RdB.kpn {S : Nat → Prop} {w w' : World} {a : Option Addr} {l : List Int} (h : RdB w a l) (hk : Kp S w w') (ho : l ≠ [] → Off S a) : RdB w' a l := by
 cases l with
 | nil => exact RdB.nil _ _
 | cons x r => exact h.kp hk (ho (by simp))
theorem elem_rw : Elem Tryz.prog 102 (.agg #[.int .i64 0, .slice none 0 0, .int .i64 0, .int .i64 0, .int .i64 0]) 5 56 := Elem.mk' (by kernel_rfl) rfl (by omega) (by intro u hu; simp [Value.cells] at hu; rcases hu with rfl | rfl | rfl | rfl | rfl <;> rfl)
theorem wp_append_rw {P : Program} {o : Oper} {a : Act} {w w' : World} {K : Act → World → Prop} {Q : Exit → Act → World → Prop} {s x : Operand} {t tx : TypeId} {v X v' : Value}
 (hrun : (Builtin.append_ #[t, tx] o.type #[v, X]).run P w = .ok v' w') (ho : o.op = .call { callee := .builtin .append, args := #[s, x], argTypes := #[t, tx] })
 (hs : a.eval s = v) (hx : a.eval x = X) (h : K (a.put o.dst v') w') : Oper.wp P o a w K Q := by
 unfold Oper.wp execOp
 simp only [ho, resolve, invoke, builtin, Sem.run_bind, Sem.run_pure, Result.andThen_ok, List.map_toArray, List.map_cons, List.map_nil, hs, hx, hrun]
 exact h
theorem one_dr {D : List Dr} (h : ∀ i, i < D.length → ∃ a n c, (dr D i).B = .slice a n c) : ∀ u ∈ dsC D, u.oneCell' = true := by
 induction D with
 | nil => intro u hu; cases hu
 | cons d D ih =>
  intro u hu
  have hu : u ∈ drC d ++ dsC D := hu
  rcases List.mem_append.1 hu with hu | hu
  · obtain ⟨a, n, c, e⟩ := h 0 (by simp)
    have e : d.B = .slice a n c := e
    simp only [drC, List.mem_cons, List.not_mem_nil, or_false] at hu
    rcases hu with rfl | rfl | rfl | rfl | rfl <;> first | rfl | (rw [e]; rfl)
  · exact ih (fun i hi => h (i + 1) (by simpa using hi)) u hu
theorem RwC.one {w : World} {b : Nat} {x : Wn} {v : Value} {D : List Dr} (h : RwC w b x v D) : ∀ u ∈ dsC D, u.oneCell' = true :=
 one_dr fun i hi => by obtain ⟨a, c, e, _⟩ := (h.bod i hi).form; exact ⟨a, _, c, e⟩
theorem own0 {w : World} {g : Nat} (size : Nat) (h : At w g []) : Own w (.slice (some ⟨g, 0, none⟩) 0 0) 0 size [] := ⟨by simp, .inr ⟨g, 0, [], rfl, h, by simp, by simp, by simp⟩⟩
theorem ownB0 {w : World} {g : Nat} (h : At w g []) : OwnB w (.slice (some ⟨g, 0, none⟩) 0 0) [] :=
 ⟨own0 1 h, fun g' hg => ⟨[], (by cases hg; exact h), by simp⟩, fun x hx => (by cases hx), by simp⟩
theorem rw_cat {w : World} {g : Nat} (h0 : At w g []) {a : Option Addr} {n c : Nat} {D : List Dr} (hs : Sl w (.slice a n c) D) (hn : n = D.length) (hl : n ≤ 64) (h1 : ∀ u ∈ dsC D, u.oneCell' = true) :
 ∃ va vc w', (Builtin.append_ #[91, 91] 91 #[.slice (some ⟨g, 0, none⟩) 0 0, .slice a n c]).run Tryz.prog w = .ok (.slice va n vc) w' ∧ Own w' (.slice va n vc) n 5 (dsC D) ∧ Kp (fun k => k = g) w w' ∧ ((Value.slice va n vc).ownBlock = some g ∨ (Value.slice va n vc).ownBlock = some w.heap.size) := by
 obtain ⟨v', w', r1, r2, r3, r4, _⟩ := run_append_at (P := Tryz.prog) (ty := 91) w Tryz.underlying91 elem_rw Tryz.underlying91 (own0 5 h0) (a := a) (m := n) (c := c) (news := dsC D) (by rw [dsC_len, hn]) hs.rd h1 (by unfold maxLen; omega) (by omega)
 rw [Nat.zero_add, List.nil_append] at r2
 obtain ⟨va, vc, rfl, _⟩ := r2.form
 exact ⟨va, vc, w', r1, r2, r3.mono (fun i _ e => by cases e; rfl), r4⟩
theorem rw_byt {w : World} {g : Nat} (h0 : At w g []) {a : Option Addr} {n c : Nat} {l : List Int} (hr : RdB w a l) (hn : n = l.length) (hl : n ≤ 1000000) :
 ∃ va vc w', (Builtin.append_ #[32, 32] 32 #[.slice (some ⟨g, 0, none⟩) 0 0, .slice a n c]).run Tryz.prog w = .ok (.slice va n vc) w' ∧ OwnB w' (.slice va n vc) l ∧ Kp (fun k => k = g) w w' ∧ ((Value.slice va n vc).ownBlock = some g ∨ (Value.slice va n vc).ownBlock = some w.heap.size) := by
 subst hn
 obtain ⟨v', w', r1, r2, r3, r4⟩ := run_append_b (P := Tryz.prog) (ty := 32) w Tryz.underlying32 elem_u8 Tryz.underlying32 (ownB0 h0) (a := a) (c := c) (m := l) hr (by simp; omega)
 rw [List.nil_append] at r2
 obtain ⟨va, vc, rfl, _⟩ := r2.form
 exact ⟨va, vc, w', r1, r2, r3.mono (fun i _ e => by cases e; rfl), r4⟩
theorem rw_one {w : World} {a : Option Addr} {n c : Nat} {D : List Dr} (ho : Own w (.slice a n c) n 5 (dsC D)) (hl : n ≤ 64) (d : Dr) (gr : Nat) (hr : At w gr (drC d)) (hB : ∃ a n c, d.B = .slice a n c) :
 ∃ va vc w', (Builtin.append_ #[91, 91] 91 #[.slice a n c, .slice (some ⟨gr, 0, none⟩) 1 1]).run Tryz.prog w = .ok (.slice va (n + 1) vc) w' ∧ Own w' (.slice va (n + 1) vc) (n + 1) 5 (dsC (D ++ [d])) ∧ Kp (fun k => (Value.slice a n c).ownBlock = some k) w w' ∧ ((Value.slice va (n + 1) vc).ownBlock = (Value.slice a n c).ownBlock ∨ (Value.slice va (n + 1) vc).ownBlock = some w.heap.size) := by
 have hrd : Rd w (some ⟨gr, 0, none⟩) (drC d) := Rd.of_at (pre := []) (post := []) (by simpa using hr)
 obtain ⟨v', w', r1, r2, r3, r4, _⟩ := run_append_at (P := Tryz.prog) (ty := 91) w Tryz.underlying91 elem_rw Tryz.underlying91 ho (a := some ⟨gr, 0, none⟩) (m := 1) (c := 1) (news := drC d) rfl hrd (fun u hu => by
  obtain ⟨a, n, c, e⟩ := hB
  simp only [drC, List.mem_cons, List.not_mem_nil, or_false] at hu
  rcases hu with rfl | rfl | rfl | rfl | rfl <;> first | rfl | (rw [e]; rfl)) (by unfold maxLen; omega) (by omega)
 rw [show dsC D ++ drC d = dsC (D ++ [d]) by rw [dsC_app]; simp [dsC]] at r2
 obtain ⟨va, vc, rfl, _⟩ := r2.form
 exact ⟨va, vc, w', r1, r2, r3, r4⟩
theorem own_sl {w : World} {v : Value} {D : List Dr} (h : Own w v D.length 5 (dsC D)) : Sl w v D := by
 rcases h.2 with ⟨rfl, h0⟩ | ⟨g, cap, sp, rfl, hat, _, h1, h2⟩
 · exact .inl ⟨List.eq_nil_of_length_eq_zero h0, none, 0, rfl, fun y hy => (by cases hy)⟩
 · exact .inr ⟨g, [], sp, cap, rfl, by simpa using hat, h1, h2⟩
theorem fin_push {w w2 z : World} {b m n la : Nat} {x : Wn} {v : Value} {D : List Dr} {l : List Int} {v36a v39a : Option Addr} {v36c v39c : Nat} (h : RwC w b x v D) (hm : m = D.length) (hla : la = x.last) (hmb : m < 64)
 (hat2 : At w2 b [.int .i64 x.size, v, .int .i64 (la + 1 : Nat), .float .f64 x.m, .float .f64 x.s, .int .i64 x.now]) (k2 : Kp (fun k => k = b) w w2) (kz : Kp (fun _ => False) w2 z) (o39 : Own z (.slice v39a (m + 1) v39c) (m + 1) 5 (dsC (D ++ [⟨la + 1, .slice v36a n v36c, l, 0, 0, 0⟩]))) (o36 : OwnB z (.slice v36a n v36c) l)
 (l36 : ∀ g, (Value.slice v36a n v36c).ownBlock = some g → w2.heap.size ≤ g) (l39 : ∀ g, (Value.slice v39a (m + 1) v39c).ownBlock = some g → w2.heap.size ≤ g) (d39 : ∀ g, (Value.slice v36a n v36c).ownBlock = some g → (Value.slice v39a (m + 1) v39c).ownBlock ≠ some g) (nn : Nat) :
 ∃ v' d, d.seq = la + 1 ∧ d.body = l ∧ d.times = 0 ∧ d.att = 0 ∧ d.wt = 0 ∧
  (∀ x' : Wn, x'.size = x.size → x'.last = la + 1 → x'.m = x.m → x'.s = x.s → x'.now = x.now → (∃ p : Pk, x'.l = x.l ++ [p] ∧ p.seq = la + 1 ∧ p.body = l ∧ p.times = 0) → RwC ((z.setCell ⟨b, 1, none⟩ (.slice v39a (m + 1) v39c)).drewN nn) b x' v' (D ++ [d])) ∧ (∀ k, RwF b v' (D ++ [d]) k → RwF b v D k ∨ w.heap.size ≤ k) ∧ Kp (fun k => k = b) w ((z.setCell ⟨b, 1, none⟩ (.slice v39a (m + 1) v39c)).drewN nn) := by
 have hb2 := hat2.lt
 have ks : Kp (fun k => k = b) z ((z.setCell ⟨b, 1, none⟩ (.slice v39a (m + 1) v39c)).drewN nn) := (Kp.setCell (S := fun k => k = b) (Kp.refl _ z) (p := ⟨b, 1, none⟩) (fun _ => rfl) _).drewN nn
 have hsz := k2.size
 have nb : ∀ g, w2.heap.size ≤ g → ¬ g = b := fun g hg e => by omega
 have dl : ∀ d : Dr, (D ++ [d]).length = D.length + 1 := fun d => by simp
 have dlt : ∀ (d : Dr) i, i < D.length → dr (D ++ [d]) i = dr D i := fun d i hi => by unfold dr; rw [List.getD_eq_getElem?_getD, List.getElem?_append_left hi, List.getD_eq_getElem?_getD]
 have dat : ∀ d : Dr, dr (D ++ [d]) D.length = d := fun d => by unfold dr; rw [List.getD_eq_getElem?_getD, List.getElem?_append_right (Nat.le_refl _)]; simp
 have hbo : ∀ i, i < D.length → OwnB ((z.setCell ⟨b, 1, none⟩ (.slice v39a (m + 1) v39c)).drewN nn) (dr D i).B (dr D i).body := fun i hi => (((h.bod i hi).kp k2 (fun g hg e => h.bb i hi (by have e : g = b := e; exact e ▸ hg))).kp kz (fun _ _ h => h)).kp ks (fun g hg e => h.bb i hi (by have e : g = b := e; exact e ▸ hg))
 refine ⟨.slice v39a (m + 1) v39c, ⟨la + 1, .slice v36a n v36c, l, 0, 0, 0⟩, rfl, rfl, rfl, rfl, rfl, fun x' e1 e2 e3 e4 e5 ⟨p, e6, e7, e8, e9⟩ => ?_, fun k hk => ?_, (k2.trans (kz.mono (fun _ _ h => h.elim))).trans ks⟩
 · refine ⟨?_, ?_, by rw [dl, e6, h.len]; simp, fun i hi => ?_, fun i hi => ?_, fun e => nb b (l39 b e) rfl, fun i hi e => ?_, fun i g hi e e' => ?_⟩
   · rw [e1, e2, e3, e4, e5]
     exact (((kz.at hat2 (fun h => h)).set 1 (.slice v39a (m + 1) v39c)).drewN nn)
   · refine own_sl ?_
     rw [dl, ← hm]
     exact o39.kp ks (fun g hg e => nb g (l39 g hg) e)
   · rw [dl] at hi
     by_cases hi' : i < D.length
     · rw [dlt _ i hi', e6, pk_app_lt (by rw [← h.len]; exact hi')]; exact h.sm i hi'
     · obtain rfl : i = D.length := by omega
       rw [dat, e6, h.len, pk_app_at]
       exact ⟨e7.symm, e8.symm, e9.symm, fun h => absurd e9 h⟩
   · rw [dl] at hi
     by_cases hi' : i < D.length
     · rw [dlt _ i hi']; exact hbo i hi'
     · obtain rfl : i = D.length := by omega
       rw [dat]
       exact o36.kp ks (fun g hg e => nb g (l36 g hg) e)
   · rw [dl] at hi
     by_cases hi' : i < D.length
     · rw [dlt _ i hi'] at e; exact h.bb i hi' e
     · obtain rfl : i = D.length := by omega
       rw [dat] at e
       exact nb b (l36 b e) rfl
   · rw [dl] at hi
     by_cases hi' : i < D.length
     · rw [dlt _ i hi'] at e
       have := (h.bod i hi').own.lt g e
       have := l39 g e'
       omega
     · obtain rfl : i = D.length := by omega
       rw [dat] at e
       exact d39 g e e'
 · rcases hk with hk | hk | ⟨i, hi, hk⟩
   · exact .inl (.inl hk)
   · exact .inr (by have := l39 k hk; omega)
   · rw [dl] at hi
     by_cases hi' : i < D.length
     · rw [dlt _ i hi'] at hk; exact .inl (.inr (.inr ⟨i, hi', hk⟩))
     · obtain rfl : i = D.length := by omega
       rw [dat] at hk
       exact .inr (by have := l36 k hk; omega)
section
variable {w : World} {b : Nat} {x : Wn} {v : Value} {D : List Dr}
theorem rwpush_full (h : RwC w b x v D) (hf : x.size ≤ x.l.length) (hb : x.l.length ≤ 64) (a : Option Addr) (n c : Nat) :
 Calls Tryz.prog 36 #[.pointer (some ⟨b, 0, none⟩), .slice a n c] w fun e w' => e = .returned (.tuple #[.int .i64 0, .int .i64 8]) ∧ Kp (fun _ => False) w w' := by
 obtain ⟨va, vc, e⟩ := h.sl.form
 rw [h.len] at e
 have c0 : w.cell? ⟨b, 0, none⟩ = some (.int .i64 x.size) := h.hat.cell 0
 have c1 : w.cell? ⟨b, 1, none⟩ = some v := h.hat.cell 1
 rw [e] at c1
 generalize x.l.length = m at *
 generalize x.size = z at *
 have hd : decide (z ≤ m) = true := by simpa using hf
 have hd2 : decide ((z : Int) ≤ m) = true := by simpa using hf
 clear h e
 go_enter Tryz.func36, Tryz.ntmps36
 go_wp2_with fail
 go_quiet (fail)
 go_wp2_with fail
 go_ret2
 exact ⟨rfl, (Kp.refl _ _).drewN _⟩
set_option maxHeartbeats 4000000 in
theorem rwpush_ok (h : RwC w b x v D) (hf : x.l.length < x.size) (hsz : x.size ≤ 64) (hla : x.last ≤ 1000000) (a : Option Addr) (n c : Nat) (l : List Int) (hn : n = l.length) (hr : RdB w a l) (hoff : l ≠ [] → ∀ y, a = some y → y.block ≠ b) (hnb : n ≤ 1000000) :
 Calls Tryz.prog 36 #[.pointer (some ⟨b, 0, none⟩), .slice a n c] w fun e w' => e = .returned (.tuple #[.int .i64 (x.last + 1 : Nat), .int .i64 0]) ∧ ∃ v' d, d.seq = x.last + 1 ∧ d.body = l ∧ d.times = 0 ∧ d.att = 0 ∧ d.wt = 0 ∧
  (∀ x' : Wn, x'.size = x.size → x'.last = x.last + 1 → x'.m = x.m → x'.s = x.s → x'.now = x.now → (∃ p : Pk, x'.l = x.l ++ [p] ∧ p.seq = x.last + 1 ∧ p.body = l ∧ p.times = 0) → RwC w' b x' v' (D ++ [d])) ∧ (∀ k, RwF b v' (D ++ [d]) k → RwF b v D k ∨ w.heap.size ≤ k) ∧ Kp (fun k => k = b) w w' := by
 obtain ⟨va, vc, e⟩ := h.sl.form
 have hlen := h.len
 have c0 : w.cell? ⟨b, 0, none⟩ = some (.int .i64 x.size) := h.hat.cell 0
 have c1 : w.cell? ⟨b, 1, none⟩ = some v := h.hat.cell 1
 have c2 : w.cell? ⟨b, 2, none⟩ = some (.int .i64 x.last) := h.hat.cell 2
 have f2 := h.hat.frozen 2
 obtain ⟨m, hm⟩ : ∃ m, m = D.length := ⟨_, rfl⟩
 rw [← hm] at e hlen
 have hmb : m < 64 := by omega
 have HE := Lib.hid e
 rw [e] at c1
 obtain ⟨z, hz⟩ : ∃ z, z = x.size := ⟨_, rfl⟩
 obtain ⟨la, hl⟩ : ∃ la, la = x.last := ⟨_, rfl⟩
 rw [← hz] at c0
 rw [← hl] at c2 ⊢
 have hd : decide (z ≤ m) = false := by simp; omega
 have hd2 : decide ((z : Int) ≤ m) = false := by simp; omega
 have hw : IntKind.i64.wrap ((la : Int) + 1) = ((la + 1 : Nat) : Int) := by rw [IntWalk.i64_in _ (by omega)]; omega
 have HH := Lib.hid (And.intro h (And.intro hm (And.intro hn (And.intro hr (And.intro hlen hl)))))
 have HOF := Lib.hid hoff
 clear h hm hn hr hz hl e hf hsz hlen hoff
 go_enter Tryz.func36, Tryz.ntmps36
 go_wp2_with fail
 go_quiet (fail)
 go_upto_region 4 with fail
 refine wp_world (fun wx => At wx b [.int .i64 x.size, v, .int .i64 ((la : Int) + 1), .float .f64 x.m, .float .f64 x.s, .int .i64 x.now] ∧ Kp (fun k => k = b) w wx) ⟨(HH.out.1.hat.drewN _).set 2 (.int .i64 ((la : Int) + 1)), Kp.setCell (S := fun k => k = b) ((Kp.refl _ w).drewN _) (p := ⟨b, 2, none⟩) (fun _ => rfl) _⟩ ?_
 rintro w2 ⟨hat2, k2⟩
 rw [show ((la : Int) + 1) = ((la + 1 : Nat) : Int) by omega] at hat2
 clear c0 c1 c2 f2
 have e1 : w2.cell? ⟨b, 1, none⟩ = some (.slice va m vc) := by rw [hat2.cell, HE.out]; rfl
 have e2 : w2.cell? ⟨b, 2, none⟩ = some (.int .i64 (la + 1 : Nat)) := hat2.cell 2
 have hsl : Sl w2 (.slice va m vc) D := by
  have := HH.out.1.sl.kp k2 (fun g hg e => HH.out.1.vb (e ▸ hg))
  rwa [HE.out] at this
 have hrb : RdB w2 a l := HH.out.2.2.2.1.kpn k2 (fun q y hy e => HOF.out q y hy e)
 refine region_L (S := fun w' => Kp (fun _ => False) w2 w') [19] rfl ?_
 have hSd : ∀ (w' : World) (n' : Nat), Kp (fun _ => False) w2 w' → Kp (fun _ => False) w2 (w'.drewN n') := fun w' n' h => h.drewN n'
 have hS0 : Kp (fun _ => False) w2 w2.drew := (Kp.refl _ w2).drew
 refine anyL_world (fun w' => Kp (fun _ => False) w2 w') hS0 ?_
 clear hS0
 intro x0 kx0
 refine tF 0 23 (.pointer (some ⟨b, 0, none⟩)) rfl rfl hSd (fun _ => kx0) ?_
 try simp only [sC]
 refine tF 2 25 (.pointer (some ⟨b, 0, none⟩)) rfl rfl hSd (fun _ => kx0) ?_
 try simp only [sC]
 refine tF 3 26 (.pointer (some ⟨b, 0, none⟩)) rfl rfl hSd (fun _ => kx0) ?_
 try simp only [sC]
 refine tF 4 27 (.pointer (some ⟨b, 1, none⟩)) rfl rfl hSd (fun _ => kx0) ?_
 try simp only [sC]
 refine tD 5 28 (.slice va m vc) rfl rfl hSd (.inl (.inl ⟨rfl, fun w' hS => by have h := hS.cell e1 (fun h => h); go_simp⟩)) kx0 ?_
 try simp only [sC]
 refine tF 7 30 (.pointer (some ⟨b, 0, none⟩)) rfl rfl hSd (fun _ => kx0) ?_
 try simp only [sC]
 refine tF 8 31 (.pointer (some ⟨b, 0, none⟩)) rfl rfl hSd (fun _ => kx0) ?_
 try simp only [sC]
 refine tF 9 32 (.pointer (some ⟨b, 2, none⟩)) rfl rfl hSd (fun _ => kx0) ?_
 try simp only [sC]
 refine tD 10 33 (.int .i64 (la + 1 : Nat)) rfl rfl hSd (.inl (.inl ⟨rfl, fun w' hS => by have h := hS.cell e2 (fun h => h); go_simp⟩)) kx0 ?_
 try simp only [sC]
 refine tF 12 35 (.slice a n c) rfl rfl hSd (fun _ => kx0) ?_
 try simp only [sC]
 refine anyL_all (rs := [1, 11]) (by kernel_rfl) (by simp) ?_
 intro n1 i' hi'
 simp only [mC, or_false] at hi'
 rcases hi' with rfl | rfl
 · refine wpOp_of rfl rfl ?_
   go_simp
   try dsimp only
   refine ⟨fun _ => (kx0.drewN n1).alloc _, ?_⟩
   try rw [show (x0.drewN n1).heap.size = x0.heap.size from rfl]
   try simp only [sC]
   refine anyL_world (fun wx => At wx x0.heap.size [] ∧ Kp (fun _ => False) x0 wx) ⟨At.new (x0.drewN n1) [] _, ((Kp.refl _ x0).drewN n1).alloc _⟩ ?_
   rintro z2 ⟨hga, jz2⟩
   have lga : w2.heap.size ≤ x0.heap.size := kx0.size
   have kz2 : Kp (fun _ => False) w2 z2 := kx0.trans jz2
   have sz2 : x0.heap.size < z2.heap.size := hga.lt
   obtain ⟨ga, ega⟩ : ∃ g, g = x0.heap.size := ⟨_, rfl⟩
   rw [← ega] at hga lga sz2 ⊢
   have tga : ga < z2.heap.size := sz2
   clear ega
   refine anyL_all (rs := [6, 11]) (by kernel_rfl) (by simp) ?_
   intro n3 i' hi'
   simp only [mC, or_false] at hi'
   rcases hi' with rfl | rfl
   · have hga' := ((Kp.refl (fun _ => False) z2).drewN n3).at hga (fun h => h)
     obtain ⟨v29a, v29c, z4, hr6, o29, j6, b6⟩ := rw_cat (w := z2.drewN n3) hga' ((hsl.kp kz2 (fun _ _ h => h)).kp ((Kp.refl (fun _ => False) z2).drewN n3) (fun _ _ h => h)) HH.out.2.1 (by omega) HH.out.1.one
     refine wpOp_of rfl rfl ?_
     refine wp_append_rw hr6 rfl rfl rfl ?_
     have kz4 : Kp (fun _ => False) w2 z4 := (kz2.drewN n3).then j6 (fun i hi e => by have e : i = ga := e; omega)
     refine ⟨fun _ => kz4, ?_⟩
     try simp only [sC]
     have sz4 : z2.heap.size ≤ z4.heap.size := j6.size
     have b6 : (Value.slice v29a m v29c).ownBlock = some ga ∨ (Value.slice v29a m v29c).ownBlock = some z2.heap.size := b6
     have l29 : ∀ g, (Value.slice v29a m v29c).ownBlock = some g → w2.heap.size ≤ g := fun g hg => by
      have := kz2.size
      rcases b6 with e | e <;> (rw [e] at hg; cases hg; omega)
     have t29 : ∀ g, (Value.slice v29a m v29c).ownBlock = some g → g < z4.heap.size := fun g hg => o29.lt g hg
     clear hr6 j6 b6 hga' hga
     refine tA 11 ?_
     intro n5
     refine wpOp_of rfl rfl ?_
     go_simp
     try dsimp only
     refine ⟨fun _ => (kz4.drewN n5).alloc _, ?_⟩
     try rw [show (z4.drewN n5).heap.size = z4.heap.size from rfl]
     try simp only [sC]
     refine anyL_world (fun wx => At wx z4.heap.size [] ∧ Kp (fun _ => False) z4 wx) ⟨At.new (z4.drewN n5) [] _, ((Kp.refl _ z4).drewN n5).alloc _⟩ ?_
     rintro z6 ⟨hgb, jz6⟩
     have lgb : w2.heap.size ≤ z4.heap.size := kz4.size
     have kz6 : Kp (fun _ => False) w2 z6 := kz4.trans jz6
     have sz6 : z4.heap.size < z6.heap.size := hgb.lt
     have o29 := o29.kp jz6 (fun _ _ h => h)
     have hap : ∀ g, (Value.slice v29a m v29c).ownBlock = some g → g ≠ z4.heap.size := fun g hg => by have := t29 g hg; omega
     have t29 : ∀ g, (Value.slice v29a m v29c).ownBlock = some g → g < z6.heap.size := fun g hg => by have := t29 g hg; omega
     obtain ⟨gb, egb⟩ : ∃ g, g = z4.heap.size := ⟨_, rfl⟩
     rw [← egb] at hgb lgb sz6 hap ⊢
     have tgb : gb < z6.heap.size := sz6
     clear egb
     refine tA 13 ?_
     intro n7
     have hgb' := ((Kp.refl (fun _ => False) z6).drewN n7).at hgb (fun h => h)
     obtain ⟨v36a, v36c, z8, hr13, o36, j13, b13⟩ := rw_byt (w := z6.drewN n7) hgb' ((hrb.kp kz6 (fun _ _ h => h)).kp ((Kp.refl (fun _ => False) z6).drewN n7) (fun _ _ h => h)) HH.out.2.2.1 hnb (c := c)
     refine wpOp_of rfl rfl ?_
     refine wp_append_rw hr13 rfl rfl rfl ?_
     have kz8 : Kp (fun _ => False) w2 z8 := (kz6.drewN n7).then j13 (fun i hi e => by have e : i = gb := e; omega)
     refine ⟨fun _ => kz8, ?_⟩
     try simp only [sC]
     have b13 : (Value.slice v36a n v36c).ownBlock = some gb ∨ (Value.slice v36a n v36c).ownBlock = some z6.heap.size := b13
     have l36 : ∀ g, (Value.slice v36a n v36c).ownBlock = some g → w2.heap.size ≤ g := fun g hg => by
      have := kz6.size
      rcases b13 with e | e <;> (rw [e] at hg; cases hg; omega)
     have o29 := (o29.kp ((Kp.refl (fun _ => False) z6).drewN n7) (fun _ _ h => h)).kp j13 (fun g hg e => hap g hg (by have e : g = gb := e; exact e))
     have d36 : ∀ g, (Value.slice v36a n v36c).ownBlock = some g → (Value.slice v29a m v29c).ownBlock ≠ some g := fun g hg hg' => by
      have h1 := hap g hg'
      have h2 := t29 g hg'
      rcases b13 with e | e <;> (rw [e] at hg; cases hg; omega)
     clear hr13 b13 hgb' hgb hap t29 j13
     refine tF 14 37 (.agg #[.int .i64 (la + 1 : Nat), .slice v36a n v36c, .int .i64 0, .int .i64 0, .int .i64 0]) rfl rfl hSd (fun _ => kz8) ?_
     try simp only [sC]
     refine tA 15 ?_
     intro n10
     refine wpOp_of rfl rfl ?_
     go_simp
     try dsimp only
     refine ⟨fun _ => (kz8.drewN n10).alloc _, ?_⟩
     try rw [show (z8.drewN n10).heap.size = z8.heap.size from rfl]
     try simp only [sC]
     refine anyL_world (fun wx => At wx z8.heap.size (drC ⟨la + 1, .slice v36a n v36c, l, 0, 0, 0⟩) ∧ Kp (fun _ => False) z8 wx) ⟨At.new (z8.drewN n10) (drC ⟨la + 1, .slice v36a n v36c, l, 0, 0, 0⟩) _, ((Kp.refl _ z8).drewN n10).alloc _⟩ ?_
     rintro z11 ⟨hrow, jz11⟩
     have kz11 : Kp (fun _ => False) w2 z11 := kz8.trans jz11
     have o29 := o29.kp jz11 (fun _ _ h => h)
     have o36 := o36.kp jz11 (fun _ _ h => h)
     obtain ⟨gr, egr⟩ : ∃ g, g = z8.heap.size := ⟨_, rfl⟩
     rw [← egr] at hrow ⊢
     have lgr : w2.heap.size ≤ gr := by have := kz8.size; omega
     clear egr jz11
     refine tA 16 ?_
     intro n12
     obtain ⟨v39a, v39c, z13, hr16, o39, j16, b16⟩ := rw_one (w := z11.drewN n12) (o29.kp ((Kp.refl (fun _ => False) z11).drewN n12) (fun _ _ h => h)) (by omega) ⟨la + 1, .slice v36a n v36c, l, 0, 0, 0⟩ gr (((Kp.refl (fun _ => False) z11).drewN n12).at hrow (fun h => h)) ⟨_, _, _, rfl⟩
     refine wpOp_of rfl rfl ?_
     refine wp_append_rw hr16 rfl rfl rfl ?_
     have kz13 : Kp (fun _ => False) w2 z13 := (kz11.drewN n12).then j16 (fun i hi e => by have := l29 i e; omega)
     refine ⟨fun _ => kz13, ?_⟩
     try simp only [sC]
     have b16 : (Value.slice v39a (m + 1) v39c).ownBlock = (Value.slice v29a m v29c).ownBlock ∨ (Value.slice v39a (m + 1) v39c).ownBlock = some z11.heap.size := b16
     have l39 : ∀ g, (Value.slice v39a (m + 1) v39c).ownBlock = some g → w2.heap.size ≤ g := fun g hg => by
      rcases b16 with e | e
      · exact l29 g (e ▸ hg)
      · have := kz11.size; rw [e] at hg; cases hg; omega
     have d39 : ∀ g, (Value.slice v36a n v36c).ownBlock = some g → (Value.slice v39a (m + 1) v39c).ownBlock ≠ some g := fun g hg hg' => by
      rcases b16 with e | e
      · exact d36 g hg (e ▸ hg')
      · have := o36.own.lt g hg; rw [e] at hg'; cases hg'; omega
     have o36 := (o36.kp ((Kp.refl (fun _ => False) z11).drewN n12) (fun _ _ h => h)).kp j16 (fun g hg e => d36 g hg e)
     clear hr16 j16 b16 o29 l29 d36 hrow lgr
     refine tF 17 40 (.pointer (some ⟨b, 0, none⟩)) rfl rfl hSd (fun _ => kz13) ?_
     try simp only [sC]
     refine tF 18 41 (.pointer (some ⟨b, 1, none⟩)) rfl rfl hSd (fun _ => kz13) ?_
     try simp only [sC]
     refine tA 19 ?_
     intro n16
     have hat9 := (kz13.drewN n16).at hat2 (fun h => h)
     have c9 : (z13.drewN n16).cell? ⟨b, 1, none⟩ = some (.slice va m vc) := by rw [hat9.cell, HE.out]; rfl
     have f9 : (z13.drewN n16).frozen? ⟨b, 1, none⟩ = false := hat9.frozen 1
     refine wpOp_of rfl rfl ?_
     go_simp
     try dsimp only
     refine ⟨fun h => Bool.noConfusion (show false = true from h), ?_⟩
     try simp only [sC]
     refine anyL_done (by kernel_rfl) (fun nn => ?_) _
     have HFIN := Lib.hid (fin_push HH.out.1 HH.out.2.1 HH.out.2.2.2.2.2 hmb hat2 k2 ((kz13.drewN n16)) (o39.kp ((Kp.refl (fun _ => False) z13).drewN n16) (fun _ _ h => h)) (o36.kp ((Kp.refl (fun _ => False) z13).drewN n16) (fun _ _ h => h)) l36 l39 d39 nn)
     have c2 : (((z13.drewN n16).setCell ⟨b, 1, none⟩ (.slice v39a (m + 1) v39c)).drewN nn).cell? ⟨b, 2, none⟩ = some (.int .i64 (la + 1 : Nat)) := (((hat9.set 1 (.slice v39a (m + 1) v39c)).drewN nn).cell 2).trans rfl
     clear hat9 c9 f9 o39 o36 l36 l39 d39 kz13 hSd
     go_wp2_with fail
     go_ret2
     exact ⟨rfl, HFIN.out⟩
   · refine wpOp_of rfl rfl ?_
     go_simp
     try dsimp only
     refine ⟨fun _ => (kz2.drewN n3).alloc _, ?_⟩
     try rw [show (z2.drewN n3).heap.size = z2.heap.size from rfl]
     try simp only [sC]
     refine anyL_world (fun wx => At wx z2.heap.size [] ∧ Kp (fun _ => False) z2 wx) ⟨At.new (z2.drewN n3) [] _, ((Kp.refl _ z2).drewN n3).alloc _⟩ ?_
     rintro z17 ⟨hgb, jz17⟩
     have lgb : w2.heap.size ≤ z2.heap.size := kz2.size
     have kz17 : Kp (fun _ => False) w2 z17 := kz2.trans jz17
     have sz17 : z2.heap.size < z17.heap.size := hgb.lt
     have hga := jz17.at hga (fun h => h)
     have hne : ga ≠ z2.heap.size := by omega
     have tga : ga < z17.heap.size := by omega
     obtain ⟨gb, egb⟩ : ∃ g, g = z2.heap.size := ⟨_, rfl⟩
     rw [← egb] at hgb lgb sz17 hne ⊢
     have tgb : gb < z17.heap.size := sz17
     clear egb
     refine tA 6 ?_
     intro n18
     have hga' := ((Kp.refl (fun _ => False) z17).drewN n18).at hga (fun h => h)
     obtain ⟨v29a, v29c, z19, hr6, o29, j6, b6⟩ := rw_cat (w := z17.drewN n18) hga' ((hsl.kp kz17 (fun _ _ h => h)).kp ((Kp.refl (fun _ => False) z17).drewN n18) (fun _ _ h => h)) HH.out.2.1 (by omega) HH.out.1.one
     refine wpOp_of rfl rfl ?_
     refine wp_append_rw hr6 rfl rfl rfl ?_
     have kz19 : Kp (fun _ => False) w2 z19 := (kz17.drewN n18).then j6 (fun i hi e => by have e : i = ga := e; omega)
     refine ⟨fun _ => kz19, ?_⟩
     try simp only [sC]
     have sz19 : z17.heap.size ≤ z19.heap.size := j6.size
     have b6 : (Value.slice v29a m v29c).ownBlock = some ga ∨ (Value.slice v29a m v29c).ownBlock = some z17.heap.size := b6
     have l29 : ∀ g, (Value.slice v29a m v29c).ownBlock = some g → w2.heap.size ≤ g := fun g hg => by
      have := kz17.size
      rcases b6 with e | e <;> (rw [e] at hg; cases hg; omega)
     have t29 : ∀ g, (Value.slice v29a m v29c).ownBlock = some g → g < z19.heap.size := fun g hg => o29.lt g hg
     have hap : ∀ g, (Value.slice v29a m v29c).ownBlock = some g → g ≠ gb := fun g hg => by
      rcases b6 with e | e <;> (rw [e] at hg; cases hg; omega)
     have hgb := j6.at (((Kp.refl (fun _ => False) z17).drewN n18).at hgb (fun h => h)) (fun e => by have e : gb = ga := e; omega)
     have tgb : gb < z19.heap.size := by omega
     clear hr6 j6 b6 hga' hga
     refine tA 13 ?_
     intro n20
     have hgb' := ((Kp.refl (fun _ => False) z19).drewN n20).at hgb (fun h => h)
     obtain ⟨v36a, v36c, z21, hr13, o36, j13, b13⟩ := rw_byt (w := z19.drewN n20) hgb' ((hrb.kp kz19 (fun _ _ h => h)).kp ((Kp.refl (fun _ => False) z19).drewN n20) (fun _ _ h => h)) HH.out.2.2.1 hnb (c := c)
     refine wpOp_of rfl rfl ?_
     refine wp_append_rw hr13 rfl rfl rfl ?_
     have kz21 : Kp (fun _ => False) w2 z21 := (kz19.drewN n20).then j13 (fun i hi e => by have e : i = gb := e; omega)
     refine ⟨fun _ => kz21, ?_⟩
     try simp only [sC]
     have b13 : (Value.slice v36a n v36c).ownBlock = some gb ∨ (Value.slice v36a n v36c).ownBlock = some z19.heap.size := b13
     have l36 : ∀ g, (Value.slice v36a n v36c).ownBlock = some g → w2.heap.size ≤ g := fun g hg => by
      have := kz19.size
      rcases b13 with e | e <;> (rw [e] at hg; cases hg; omega)
     have o29 := (o29.kp ((Kp.refl (fun _ => False) z19).drewN n20) (fun _ _ h => h)).kp j13 (fun g hg e => hap g hg (by have e : g = gb := e; exact e))
     have d36 : ∀ g, (Value.slice v36a n v36c).ownBlock = some g → (Value.slice v29a m v29c).ownBlock ≠ some g := fun g hg hg' => by
      have h1 := hap g hg'
      have h2 := t29 g hg'
      rcases b13 with e | e <;> (rw [e] at hg; cases hg; omega)
     clear hr13 b13 hgb' hgb hap t29 j13
     refine tF 14 37 (.agg #[.int .i64 (la + 1 : Nat), .slice v36a n v36c, .int .i64 0, .int .i64 0, .int .i64 0]) rfl rfl hSd (fun _ => kz21) ?_
     try simp only [sC]
     refine tA 15 ?_
     intro n23
     refine wpOp_of rfl rfl ?_
     go_simp
     try dsimp only
     refine ⟨fun _ => (kz21.drewN n23).alloc _, ?_⟩
     try rw [show (z21.drewN n23).heap.size = z21.heap.size from rfl]
     try simp only [sC]
     refine anyL_world (fun wx => At wx z21.heap.size (drC ⟨la + 1, .slice v36a n v36c, l, 0, 0, 0⟩) ∧ Kp (fun _ => False) z21 wx) ⟨At.new (z21.drewN n23) (drC ⟨la + 1, .slice v36a n v36c, l, 0, 0, 0⟩) _, ((Kp.refl _ z21).drewN n23).alloc _⟩ ?_
     rintro z24 ⟨hrow, jz24⟩
     have kz24 : Kp (fun _ => False) w2 z24 := kz21.trans jz24
     have o29 := o29.kp jz24 (fun _ _ h => h)
     have o36 := o36.kp jz24 (fun _ _ h => h)
     obtain ⟨gr, egr⟩ : ∃ g, g = z21.heap.size := ⟨_, rfl⟩
     rw [← egr] at hrow ⊢
     have lgr : w2.heap.size ≤ gr := by have := kz21.size; omega
     clear egr jz24
     refine tA 16 ?_
     intro n25
     obtain ⟨v39a, v39c, z26, hr16, o39, j16, b16⟩ := rw_one (w := z24.drewN n25) (o29.kp ((Kp.refl (fun _ => False) z24).drewN n25) (fun _ _ h => h)) (by omega) ⟨la + 1, .slice v36a n v36c, l, 0, 0, 0⟩ gr (((Kp.refl (fun _ => False) z24).drewN n25).at hrow (fun h => h)) ⟨_, _, _, rfl⟩
     refine wpOp_of rfl rfl ?_
     refine wp_append_rw hr16 rfl rfl rfl ?_
     have kz26 : Kp (fun _ => False) w2 z26 := (kz24.drewN n25).then j16 (fun i hi e => by have := l29 i e; omega)
     refine ⟨fun _ => kz26, ?_⟩
     try simp only [sC]
     have b16 : (Value.slice v39a (m + 1) v39c).ownBlock = (Value.slice v29a m v29c).ownBlock ∨ (Value.slice v39a (m + 1) v39c).ownBlock = some z24.heap.size := b16
     have l39 : ∀ g, (Value.slice v39a (m + 1) v39c).ownBlock = some g → w2.heap.size ≤ g := fun g hg => by
      rcases b16 with e | e
      · exact l29 g (e ▸ hg)
      · have := kz24.size; rw [e] at hg; cases hg; omega
     have d39 : ∀ g, (Value.slice v36a n v36c).ownBlock = some g → (Value.slice v39a (m + 1) v39c).ownBlock ≠ some g := fun g hg hg' => by
      rcases b16 with e | e
      · exact d36 g hg (e ▸ hg')
      · have := o36.own.lt g hg; rw [e] at hg'; cases hg'; omega
     have o36 := (o36.kp ((Kp.refl (fun _ => False) z24).drewN n25) (fun _ _ h => h)).kp j16 (fun g hg e => d36 g hg e)
     clear hr16 j16 b16 o29 l29 d36 hrow lgr
     refine tF 17 40 (.pointer (some ⟨b, 0, none⟩)) rfl rfl hSd (fun _ => kz26) ?_
     try simp only [sC]
     refine tF 18 41 (.pointer (some ⟨b, 1, none⟩)) rfl rfl hSd (fun _ => kz26) ?_
     try simp only [sC]
     refine tA 19 ?_
     intro n29
     have hat9 := (kz26.drewN n29).at hat2 (fun h => h)
     have c9 : (z26.drewN n29).cell? ⟨b, 1, none⟩ = some (.slice va m vc) := by rw [hat9.cell, HE.out]; rfl
     have f9 : (z26.drewN n29).frozen? ⟨b, 1, none⟩ = false := hat9.frozen 1
     refine wpOp_of rfl rfl ?_
     go_simp
     try dsimp only
     refine ⟨fun h => Bool.noConfusion (show false = true from h), ?_⟩
     try simp only [sC]
     refine anyL_done (by kernel_rfl) (fun nn => ?_) _
     have HFIN := Lib.hid (fin_push HH.out.1 HH.out.2.1 HH.out.2.2.2.2.2 hmb hat2 k2 ((kz26.drewN n29)) (o39.kp ((Kp.refl (fun _ => False) z26).drewN n29) (fun _ _ h => h)) (o36.kp ((Kp.refl (fun _ => False) z26).drewN n29) (fun _ _ h => h)) l36 l39 d39 nn)
     have c2 : (((z26.drewN n29).setCell ⟨b, 1, none⟩ (.slice v39a (m + 1) v39c)).drewN nn).cell? ⟨b, 2, none⟩ = some (.int .i64 (la + 1 : Nat)) := (((hat9.set 1 (.slice v39a (m + 1) v39c)).drewN nn).cell 2).trans rfl
     clear hat9 c9 f9 o39 o36 l36 l39 d39 kz26 hSd
     go_wp2_with fail
     go_ret2
     exact ⟨rfl, HFIN.out⟩
 · refine wpOp_of rfl rfl ?_
   go_simp
   try dsimp only
   refine ⟨fun _ => (kx0.drewN n1).alloc _, ?_⟩
   try rw [show (x0.drewN n1).heap.size = x0.heap.size from rfl]
   try simp only [sC]
   refine anyL_world (fun wx => At wx x0.heap.size [] ∧ Kp (fun _ => False) x0 wx) ⟨At.new (x0.drewN n1) [] _, ((Kp.refl _ x0).drewN n1).alloc _⟩ ?_
   rintro z30 ⟨hgb, jz30⟩
   have lgb : w2.heap.size ≤ x0.heap.size := kx0.size
   have kz30 : Kp (fun _ => False) w2 z30 := kx0.trans jz30
   have sz30 : x0.heap.size < z30.heap.size := hgb.lt
   obtain ⟨gb, egb⟩ : ∃ g, g = x0.heap.size := ⟨_, rfl⟩
   rw [← egb] at hgb lgb sz30 ⊢
   have tgb : gb < z30.heap.size := sz30
   clear egb
   refine tA 1 ?_
   intro n31
   refine wpOp_of rfl rfl ?_
   go_simp
   try dsimp only
   refine ⟨fun _ => (kz30.drewN n31).alloc _, ?_⟩
   try rw [show (z30.drewN n31).heap.size = z30.heap.size from rfl]
   try simp only [sC]
   refine anyL_world (fun wx => At wx z30.heap.size [] ∧ Kp (fun _ => False) z30 wx) ⟨At.new (z30.drewN n31) [] _, ((Kp.refl _ z30).drewN n31).alloc _⟩ ?_
   rintro z32 ⟨hga, jz32⟩
   have lga : w2.heap.size ≤ z30.heap.size := kz30.size
   have kz32 : Kp (fun _ => False) w2 z32 := kz30.trans jz32
   have sz32 : z30.heap.size < z32.heap.size := hga.lt
   have hgb := jz32.at hgb (fun h => h)
   have hne : z30.heap.size ≠ gb := by omega
   have tgb : gb < z32.heap.size := by omega
   obtain ⟨ga, ega⟩ : ∃ g, g = z30.heap.size := ⟨_, rfl⟩
   rw [← ega] at hga lga sz32 hne ⊢
   have tga : ga < z32.heap.size := sz32
   clear ega
   refine tA 6 ?_
   intro n33
   have hga' := ((Kp.refl (fun _ => False) z32).drewN n33).at hga (fun h => h)
   obtain ⟨v29a, v29c, z34, hr6, o29, j6, b6⟩ := rw_cat (w := z32.drewN n33) hga' ((hsl.kp kz32 (fun _ _ h => h)).kp ((Kp.refl (fun _ => False) z32).drewN n33) (fun _ _ h => h)) HH.out.2.1 (by omega) HH.out.1.one
   refine wpOp_of rfl rfl ?_
   refine wp_append_rw hr6 rfl rfl rfl ?_
   have kz34 : Kp (fun _ => False) w2 z34 := (kz32.drewN n33).then j6 (fun i hi e => by have e : i = ga := e; omega)
   refine ⟨fun _ => kz34, ?_⟩
   try simp only [sC]
   have sz34 : z32.heap.size ≤ z34.heap.size := j6.size
   have b6 : (Value.slice v29a m v29c).ownBlock = some ga ∨ (Value.slice v29a m v29c).ownBlock = some z32.heap.size := b6
   have l29 : ∀ g, (Value.slice v29a m v29c).ownBlock = some g → w2.heap.size ≤ g := fun g hg => by
    have := kz32.size
    rcases b6 with e | e <;> (rw [e] at hg; cases hg; omega)
   have t29 : ∀ g, (Value.slice v29a m v29c).ownBlock = some g → g < z34.heap.size := fun g hg => o29.lt g hg
   have hap : ∀ g, (Value.slice v29a m v29c).ownBlock = some g → g ≠ gb := fun g hg => by
    rcases b6 with e | e <;> (rw [e] at hg; cases hg; omega)
   have hgb := j6.at (((Kp.refl (fun _ => False) z32).drewN n33).at hgb (fun h => h)) (fun e => by have e : gb = ga := e; omega)
   have tgb : gb < z34.heap.size := by omega
   clear hr6 j6 b6 hga' hga
   refine tA 13 ?_
   intro n35
   have hgb' := ((Kp.refl (fun _ => False) z34).drewN n35).at hgb (fun h => h)
   obtain ⟨v36a, v36c, z36, hr13, o36, j13, b13⟩ := rw_byt (w := z34.drewN n35) hgb' ((hrb.kp kz34 (fun _ _ h => h)).kp ((Kp.refl (fun _ => False) z34).drewN n35) (fun _ _ h => h)) HH.out.2.2.1 hnb (c := c)
   refine wpOp_of rfl rfl ?_
   refine wp_append_rw hr13 rfl rfl rfl ?_
   have kz36 : Kp (fun _ => False) w2 z36 := (kz34.drewN n35).then j13 (fun i hi e => by have e : i = gb := e; omega)
   refine ⟨fun _ => kz36, ?_⟩
   try simp only [sC]
   have b13 : (Value.slice v36a n v36c).ownBlock = some gb ∨ (Value.slice v36a n v36c).ownBlock = some z34.heap.size := b13
   have l36 : ∀ g, (Value.slice v36a n v36c).ownBlock = some g → w2.heap.size ≤ g := fun g hg => by
    have := kz34.size
    rcases b13 with e | e <;> (rw [e] at hg; cases hg; omega)
   have o29 := (o29.kp ((Kp.refl (fun _ => False) z34).drewN n35) (fun _ _ h => h)).kp j13 (fun g hg e => hap g hg (by have e : g = gb := e; exact e))
   have d36 : ∀ g, (Value.slice v36a n v36c).ownBlock = some g → (Value.slice v29a m v29c).ownBlock ≠ some g := fun g hg hg' => by
    have h1 := hap g hg'
    have h2 := t29 g hg'
    rcases b13 with e | e <;> (rw [e] at hg; cases hg; omega)
   clear hr13 b13 hgb' hgb hap t29 j13
   refine tF 14 37 (.agg #[.int .i64 (la + 1 : Nat), .slice v36a n v36c, .int .i64 0, .int .i64 0, .int .i64 0]) rfl rfl hSd (fun _ => kz36) ?_
   try simp only [sC]
   refine tA 15 ?_
   intro n38
   refine wpOp_of rfl rfl ?_
   go_simp
   try dsimp only
   refine ⟨fun _ => (kz36.drewN n38).alloc _, ?_⟩
   try rw [show (z36.drewN n38).heap.size = z36.heap.size from rfl]
   try simp only [sC]
   refine anyL_world (fun wx => At wx z36.heap.size (drC ⟨la + 1, .slice v36a n v36c, l, 0, 0, 0⟩) ∧ Kp (fun _ => False) z36 wx) ⟨At.new (z36.drewN n38) (drC ⟨la + 1, .slice v36a n v36c, l, 0, 0, 0⟩) _, ((Kp.refl _ z36).drewN n38).alloc _⟩ ?_
   rintro z39 ⟨hrow, jz39⟩
   have kz39 : Kp (fun _ => False) w2 z39 := kz36.trans jz39
   have o29 := o29.kp jz39 (fun _ _ h => h)
   have o36 := o36.kp jz39 (fun _ _ h => h)
   obtain ⟨gr, egr⟩ : ∃ g, g = z36.heap.size := ⟨_, rfl⟩
   rw [← egr] at hrow ⊢
   have lgr : w2.heap.size ≤ gr := by have := kz36.size; omega
   clear egr jz39
   refine tA 16 ?_
   intro n40
   obtain ⟨v39a, v39c, z41, hr16, o39, j16, b16⟩ := rw_one (w := z39.drewN n40) (o29.kp ((Kp.refl (fun _ => False) z39).drewN n40) (fun _ _ h => h)) (by omega) ⟨la + 1, .slice v36a n v36c, l, 0, 0, 0⟩ gr (((Kp.refl (fun _ => False) z39).drewN n40).at hrow (fun h => h)) ⟨_, _, _, rfl⟩
   refine wpOp_of rfl rfl ?_
   refine wp_append_rw hr16 rfl rfl rfl ?_
   have kz41 : Kp (fun _ => False) w2 z41 := (kz39.drewN n40).then j16 (fun i hi e => by have := l29 i e; omega)
   refine ⟨fun _ => kz41, ?_⟩
   try simp only [sC]
   have b16 : (Value.slice v39a (m + 1) v39c).ownBlock = (Value.slice v29a m v29c).ownBlock ∨ (Value.slice v39a (m + 1) v39c).ownBlock = some z39.heap.size := b16
   have l39 : ∀ g, (Value.slice v39a (m + 1) v39c).ownBlock = some g → w2.heap.size ≤ g := fun g hg => by
    rcases b16 with e | e
    · exact l29 g (e ▸ hg)
    · have := kz39.size; rw [e] at hg; cases hg; omega
   have d39 : ∀ g, (Value.slice v36a n v36c).ownBlock = some g → (Value.slice v39a (m + 1) v39c).ownBlock ≠ some g := fun g hg hg' => by
    rcases b16 with e | e
    · exact d36 g hg (e ▸ hg')
    · have := o36.own.lt g hg; rw [e] at hg'; cases hg'; omega
   have o36 := (o36.kp ((Kp.refl (fun _ => False) z39).drewN n40) (fun _ _ h => h)).kp j16 (fun g hg e => d36 g hg e)
   clear hr16 j16 b16 o29 l29 d36 hrow lgr
   refine tF 17 40 (.pointer (some ⟨b, 0, none⟩)) rfl rfl hSd (fun _ => kz41) ?_
   try simp only [sC]
   refine tF 18 41 (.pointer (some ⟨b, 1, none⟩)) rfl rfl hSd (fun _ => kz41) ?_
   try simp only [sC]
   refine tA 19 ?_
   intro n44
   have hat9 := (kz41.drewN n44).at hat2 (fun h => h)
   have c9 : (z41.drewN n44).cell? ⟨b, 1, none⟩ = some (.slice va m vc) := by rw [hat9.cell, HE.out]; rfl
   have f9 : (z41.drewN n44).frozen? ⟨b, 1, none⟩ = false := hat9.frozen 1
   refine wpOp_of rfl rfl ?_
   go_simp
   try dsimp only
   refine ⟨fun h => Bool.noConfusion (show false = true from h), ?_⟩
   try simp only [sC]
   refine anyL_done (by kernel_rfl) (fun nn => ?_) _
   have HFIN := Lib.hid (fin_push HH.out.1 HH.out.2.1 HH.out.2.2.2.2.2 hmb hat2 k2 ((kz41.drewN n44)) (o39.kp ((Kp.refl (fun _ => False) z41).drewN n44) (fun _ _ h => h)) (o36.kp ((Kp.refl (fun _ => False) z41).drewN n44) (fun _ _ h => h)) l36 l39 d39 nn)
   have c2 : (((z41.drewN n44).setCell ⟨b, 1, none⟩ (.slice v39a (m + 1) v39c)).drewN nn).cell? ⟨b, 2, none⟩ = some (.int .i64 (la + 1 : Nat)) := (((hat9.set 1 (.slice v39a (m + 1) v39c)).drewN nn).cell 2).trans rfl
   clear hat9 c9 f9 o39 o36 l36 l39 d39 kz41 hSd
   go_wp2_with fail
   go_ret2
   exact ⟨rfl, HFIN.out⟩
end
end Go.Proofs.YtokembhfebnjpaaGreat
