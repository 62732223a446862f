/- Chapter 15: a daemon's end takes a frame. (Written by wip/lni.py.) -/
import Derived.Test.YtokembhfebnjpaaQLnH
namespace Go.Proofs.Ytokembhfebnjpaa
set_option maxRecDepth 20000
open Go.RowKit Flt
set_option linter.unusedVariables false
set_option linter.unusedSimpArgs false
def intsV (l : List Nat) : List Value := l.map fun (k : Nat) => Value.int .i64 k
theorem intsV_at {l : List Nat} {i : Nat} (h : i < l.length) : (intsV l)[i]? = some (.int .i64 ((l.getD i 0 : Nat) : Int)) := by
  unfold intsV; simp [List.getD_eq_getElem?_getD, h]
theorem index_any (a : Option Addr) (n c : Nat) (l : List Nat) (v : Nat) (w : World) (hn : n = l.length) (h : Rd w a (intsV l)) (hb : n ≤ 1000) :
    Calls Try.prog 117 #[.slice a n c, .int .i64 (v : Nat)] w fun e w' => ∃ k : Int, e = .returned (.int .i64 k) ∧ (0 ≤ k ↔ v ∈ l) ∧ w = w' := by
  have H := Lib.hid (And.intro h hn)
  clear h hn
  go_enter Try.func117, Try.ntmps117
  go_wp2_with fail
  go_loopw [8] (fun iv wr => ∃ i : Nat, i ≤ n ∧ iv = .int .i64 i ∧ v ∉ l.take i ∧ w = wr) (fun iv _ => n - (intOf iv).toNat)
  case atStart => exact ⟨0, by omega, rfl, by simp, rfl⟩
  case round =>
    obtain ⟨i, hi, rfl, hno, rfl⟩ := hrel
    by_cases hlt : i < n
    · have j1 : (i : Int) < n := by omega
      have hil : i < l.length := by have := H.out.2; omega
      obtain ⟨b, off, ha, hc0⟩ := H.out.1 i (by unfold intsV; simpa using hil)
      have e1 := intsV_at hil
      have hc : w.cell? ⟨b, off + i, none⟩ = some (.int .i64 ((l.getD i 0 : Nat) : Int)) := by
        rw [hc0]
        unfold intsV
        simp [List.getD_eq_getElem?_getD, hil]
      have htk : l.take (i + 1) = l.take i ++ [l.getD i 0] := take_snoc l 0 i hil
      obtain ⟨u, hu⟩ : ∃ u, u = l.getD i 0 := ⟨_, rfl⟩
      rw [← hu] at hc htk
      have HX := Lib.hid (And.intro htk (And.intro hno (And.intro hu hil)))
      subst ha
      clear hc0 e1 htk hno hu hil
      by_cases hv : v = u
      · subst hv
        go_wp2_with fail
        go_ret
        refine ⟨_, rfl, ⟨fun _ => ?_, fun _ => by omega⟩, rfl⟩
        rw [HX.out.2.2.1, List.getD_eq_getElem?_getD, List.getElem?_eq_getElem HX.out.2.2.2]
        exact List.getElem_mem _
      · have hv2 : ¬ (v : Int) = (u : Int) := by omega
        have hv3 : ((v : Int) == (u : Int)) = false := by simpa using hv2
        go_wp2_with fail
        go_roundw
        case rel => exact ⟨i + 1, by omega, by go_num, by rw [HX.out.1]; intro hm; rcases List.mem_append.1 hm with h1 | h1; exact HX.out.2.1 h1; exact hv (List.mem_singleton.1 h1), by first | rfl | trivial⟩
        case measure => simp [intOf]; omega
    · obtain rfl : i = n := by omega
      have hal : v ∉ l := by rw [H.out.2, List.take_length] at hno; exact hno
      clear hno
      go_wp2_with fail
      go_ret
      exact ⟨-1, rfl, ⟨fun h => absurd h (by omega), fun h => absurd h hal⟩, rfl⟩
theorem contains_any (a : Option Addr) (n c : Nat) (l : List Nat) (v : Nat) (w : World) (hn : n = l.length) (h : Rd w a (intsV l)) (hb : n ≤ 1000) :
    Calls Try.prog 116 #[.slice a n c, .int .i64 (v : Nat)] w fun e w' => e = .returned (.bool (decide (v ∈ l))) ∧ w = w' := by
  have C := Lib.hid (index_any a n c l v w hn h hb)
  clear h hn
  go_enter Try.func116, Try.ntmps116
  go_wp2_with fail
  go_at_call 117
  refine C.out.mono ?_
  rintro e w' ⟨k, rfl, hk, rfl⟩
  by_cases hv : v ∈ l
  · have h0 := hk.2 hv
    have hd : decide (v ∈ l) = true := decide_eq_true hv
    have HD := Lib.hid hd
    clear hk hd C
    go_wp2_with fail
    go_ret
    exact ⟨ret_bool (by rw [HD.out]), rfl⟩
  · have h0 : ¬ 0 ≤ k := fun h => hv (hk.1 h)
    have hd : decide (v ∈ l) = false := decide_eq_false hv
    have HD := Lib.hid hd
    clear hk hd C
    go_wp2_with fail
    go_ret
    exact ⟨ret_bool (by rw [HD.out]; exact decide_eq_false (by omega)), rfl⟩
theorem elem_i64 : Elem Try.prog 3 (.int .i64 0) 1 8 := Elem.mk' (by kernel_rfl) rfl (by omega) (by simp [Value.cells, Value.oneCell'])
/-- A daemon's end: an end, whether it owes a Welcome, to which sessions it owes a Reset. -/
structure DmC (W : World) (o : Nat) (t : Tk) (wel : Bool) (rv : Value) (rs : List Nat) (I : Nat) : Prop where
  tk : TkC W o t [.bool wel, rv] I
  own : Own W rv rs.length 1 (intsV rs)
  ap : ∀ g, rv.ownBlock = some g → ¬ Me o t g
  len : rs.length ≤ 8
def MeD (o : Nat) (t : Tk) (rv : Value) (k : Nat) : Prop := Me o t k ∨ rv.ownBlock = some k
theorem DmC.kp {S : Nat → Prop} {W W' : World} {o I : Nat} {t : Tk} {wel : Bool} {rv : Value} {rs : List Nat} (h : DmC W o t wel rv rs I) (k : Kp S W W') (hs : ∀ j, MeD o t rv j → ¬ S j) : DmC W' o t wel rv rs I :=
  ⟨h.tk.kp k (fun j hj => hs j (.inl hj)), h.own.kp k (fun g hg => hs g (.inr hg)), h.ap, h.len⟩
theorem DmC.kp0 {W W' : World} {o I : Nat} {t : Tk} {wel : Bool} {rv : Value} {rs : List Nat} (h : DmC W o t wel rv rs I) (k : Kp (fun _ => False) W W') : DmC W' o t wel rv rs I := h.kp k (fun _ _ h => h)
def refL (rs : List Nat) (s : Nat) : List Nat := if s ∉ rs ∧ rs.length < 8 then rs ++ [s] else rs
set_option maxHeartbeats 1000000 in
theorem refuse_any {W : World} {o I : Nat} {t : Tk} {wel : Bool} {rv : Value} {rs : List Nat} (h : DmC W o t wel rv rs I) (s : Nat) :
    Calls Try.prog 115 #[.pointer (some ⟨o, 0, none⟩), .int .i64 (s : Nat)] W fun e w' => e = .returned (.tuple #[.slice none 0 0, .int .i64 6]) ∧ ∃ rv', DmC w' o t wel rv' (refL rs s) I ∧ (∀ g, rv'.ownBlock = some g → rv.ownBlock = some g ∨ W.heap.size ≤ g) ∧ Kp (MeD o t rv) W w' := by
  obtain ⟨ra, rc, hrv, hrc, _⟩ := h.own.form
  have h8 : W.cell? ⟨o, 8, none⟩ = some rv := h.tk.hat.cell 8
  have g8 := h.tk.hat.frozen 8
  have hlen := h.len
  have hrd : Rd W ra (intsV rs) := by have := h.own; rw [hrv] at this; exact this.rd
  have C := contains_any ra rs.length rc rs s W rfl hrd (by omega)
  rw [hrv] at h8
  obtain ⟨n, hn⟩ : ∃ n, n = rs.length := ⟨_, rfl⟩
  rw [← hn] at h8 C hlen hrv
  have H := Lib.hid (And.intro h (And.intro hrv hn))
  by_cases hm : s ∈ rs
  · rw [decide_eq_true hm] at C
    have C := Lib.hid C
    have hR : refL rs s = rs := by unfold refL; rw [if_neg (fun e => e.1 hm)]
    rw [hR]
    clear h hrv hn hrd hm hR
    go_enter Try.func115, Try.ntmps115
    go_wp2_with fail
    go_at_call 116
    refine C.out.mono ?_
    rintro e w' ⟨rfl, rfl⟩
    go_wp2_with fail
    go_ret2
    exact ⟨rfl, rv, H.out.1, fun g hg => .inl hg, Kp.refl _ _⟩
  · rw [decide_eq_false hm] at C
    have C := Lib.hid C
    by_cases hf : n < 8
    · have j1 : (n : Int) < 8 := by omega
      obtain ⟨w1, hw1⟩ : ∃ w1, w1 = W.alloc (.cells #[.int .i64 (s : Nat)] 3) := ⟨_, rfl⟩
      have k1 : Kp (fun _ => False) W w1 := by rw [hw1]; exact (Kp.refl _ W).alloc _
      have hat : At w1 W.heap.size [.int .i64 (s : Nat)] := by rw [hw1]; exact At.new W [.int .i64 (s : Nat)] _
      have hd1 := h.kp0 k1
      obtain ⟨v', w2, hr2, ho2, k2, hb2, _⟩ := run_append_at (P := Try.prog) (t := 50) (tx := 50) (ty := 50) w1 Try.underlying50 elem_i64 Try.underlying50 hd1.own (a := some ⟨W.heap.size, 0, none⟩) (m := 1) (c := 1) (news := [.int .i64 (s : Nat)]) (by simp) (fun i hi => by simp at hi; subst hi; exact ⟨_, _, rfl, by rw [hat.cell]; rfl⟩) (fun u hu => by simp at hu; subst hu; rfl) (by unfold maxLen; omega) (by omega)
      rw [hrv, hw1] at hr2
      have hR : refL rs s = rs ++ [s] := by unfold refL; rw [if_pos ⟨hm, by omega⟩]
      obtain ⟨a2, c2, e2, _, _⟩ := ho2.form
      subst e2
      have HR2 := Lib.hid hr2
      have H2 := Lib.hid (And.intro ho2 (And.intro k1 (And.intro k2 (And.intro hb2 (And.intro hR hd1)))))
      have hoat := k2.at hd1.tk.hat (fun e => h.ap o e (.inl rfl))
      have f8 := hoat.frozen 8
      have d8 : w2.cell? ⟨o, 8, none⟩ = some rv := hoat.cell 8
      have HO := Lib.hid hoat
      clear h hrv hn hrd hm hR hw1 k1 hat hd1 hr2 ho2 k2 hb2 hoat
      go_enter Try.func115, Try.ntmps115
      go_wp2_with fail
      go_at_call 116
      refine C.out.mono ?_
      rintro e w' ⟨rfl, rfl⟩
      go_wp2_with (at_builtin; refine wpList_append_run _ HR2.out rfl rfl rfl rfl ?_)
      go_ret2
      obtain ⟨ho2, k1, k2, hb2, hR, hd1⟩ := H2.out
      have hs1 : w1.heap.size = w1.heap.size := rfl
      have hol := H.out.1.tk.hat.lt
      have hWs := k1.size
      have hown : ∀ g, (Value.slice a2 (rs.length + 1) c2).ownBlock = some g → rv.ownBlock = some g ∨ W.heap.size ≤ g := fun g hg => by
        rcases hb2 with e | e
        · exact .inl (e ▸ hg)
        · rw [hg] at e; have := Option.some.inj e; right; omega
      have hne : ∀ g, (Value.slice a2 (rs.length + 1) c2).ownBlock = some g → ¬ Me o t g := fun g hg hm => by
        rcases hown g hg with e | e
        · exact H.out.1.ap g e hm
        · have := H.out.1.tk.lt hm; omega
      have k3 := Kp.setCell (S := fun k => k = o) (Kp.refl _ w2) (p := ⟨o, 8, none⟩) (fun _ => rfl) (Value.slice a2 (rs.length + 1) c2)
      have tk2 : TkC w2 o t [.bool wel, rv] I := hd1.tk.kp k2 (fun j hj e => hd1.ap j e hj)
      refine ⟨rfl, (Value.slice a2 (rs.length + 1) c2), ⟨tk2.extS (HO.out.set 8 (Value.slice a2 (rs.length + 1) c2)) k3, ?_, hne, ?_⟩, hown, ?_⟩
      · rw [hR, List.length_append, List.length_singleton]
        have e : intsV (rs ++ [s]) = intsV rs ++ [.int .i64 (s : Nat)] := by simp [intsV]
        rw [e]
        exact ho2.kp k3 (fun g hg e => hne g hg (.inl e))
      · rw [hR, List.length_append, List.length_singleton]; have := H.out.2.2; omega
      · exact ((k1.mono (fun _ _ h => h.elim)).trans (k2.mono (fun k _ e => .inr e))).trans (k3.mono (fun k _ e => .inl (.inl e)))
    · have j1 : ¬ (n : Int) < 8 := by omega
      have hR : refL rs s = rs := by unfold refL; rw [if_neg (fun e => by omega)]
      rw [hR]
      clear h hrv hn hrd hm hR
      go_enter Try.func115, Try.ntmps115
      go_wp2_with fail
      go_at_call 116
      refine C.out.mono ?_
      rintro e w' ⟨rfl, rfl⟩
      go_wp2_with fail
      go_ret2
      exact ⟨rfl, rv, H.out.1, fun g hg => .inl hg, Kp.refl _ _⟩
end Go.Proofs.Ytokembhfebnjpaa
