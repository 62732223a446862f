/- Chapter 15: Send, Open, Got at an end. (Written by wip/lnq.py.) -/
import Derived.Test.YtokembhfebnjpaaQLnO
namespace Go.Proofs.Ytokembhfebnjpaa
set_option maxRecDepth 20000
open Go.RowKit Flt
set_option linter.unusedVariables false
set_option linter.unusedSimpArgs false
/-- An end behind a body that is sent. -/
def sendT (t : Tk) (p : Pk) (V : Value) : Tk := { t with i := { t.i with x := { t.i.x with last := t.i.x.last + 1, V := V, l := t.i.x.l ++ [p] } } }
theorem TkC.sent {W W' : World} {o I : Nat} {t : Tk} {ext : List Value} (h : TkC W o t ext I) (hst : t.st = 2) {p : Pk} {V' : Value} (hp : p.times = 0) (hw : WinC W' t.i.g { t.i.x with last := t.i.x.last + 1, V := V', l := t.i.x.l ++ [p] })
    (hM : ∀ k, Mine t.i.g { t.i.x with last := t.i.x.last + 1, V := V', l := t.i.x.l ++ [p] } k → Mine t.i.g t.i.x k ∨ W.heap.size ≤ k) (k : Kp (Mine t.i.g t.i.x) W W') : TkC W' o (sendT t p V') ext (I + 1) := by
  have hu := h.up hst
  have hF : ∀ g, t.i.F g → g < W.heap.size := fun g hg => h.lt (.inr ⟨hst, .inr hg⟩)
  refine { h with hat := k.at h.hat (fun e => hu.oW e), up := fun _ => ?_ }
  have h1 := hu.last
  have h2 := hu.ll
  refine { hu with win := hw, ms := hu.ms, last := by show t.i.x.last + 1 ≤ I + 1; omega, ll := by show (t.i.x.l ++ [p]).length ≤ t.i.x.last + 1; rw [List.length_append, List.length_singleton]; omega, times := fun j hj => ?_, inb := hu.inb.kp k (fun g hg e => hu.ap g e hg), oW := fun hm => ?_, ap := fun j hj hF' => ?_ }
  · have hj : j < (t.i.x.l ++ [p]).length := hj
    show (pk (t.i.x.l ++ [p]) j).times ≤ I + 1
    rw [List.length_append, List.length_singleton] at hj
    by_cases hj' : j < t.i.x.l.length
    · rw [pk_app_lt hj']; have := hu.times j hj'; omega
    · obtain rfl : j = t.i.x.l.length := by omega
      rw [pk_app_at, hp]; omega
  · rcases hM _ hm with e | e
    · exact hu.oW e
    · have := h.hat.lt; omega
  · rcases hM _ hj with e | e
    · exact hu.ap j e hF'
    · have := hF j hF'; omega
theorem me_sent {W : World} {o : Nat} {t : Tk} {p : Pk} {V' : Value} (hM : ∀ k, Mine t.i.g { t.i.x with last := t.i.x.last + 1, V := V', l := t.i.x.l ++ [p] } k → Mine t.i.g t.i.x k ∨ W.heap.size ≤ k) {k : Nat} (hk : Me o (sendT t p V') k) : Me o t k ∨ W.heap.size ≤ k := by
  rcases hk with hk | ⟨e, hk | hk⟩
  · exact .inl (.inl hk)
  · rcases hM k hk with e1 | e1
    · exact .inl (.inr ⟨e, .inl e1⟩)
    · exact .inr e1
  · exact .inl (.inr ⟨e, .inr hk⟩)
theorem lsend_ashut {lb o I : Nat} {t : Tk} {ext : List Value} {w : World} (h : LkC w lb 54 o) (hk : TkC w o t ext I) (hst : ¬ t.st = 2) (a : Option Addr) (n c : Nat) : Calls Try.prog 12 #[.pointer (some ⟨lb, 0, none⟩), .slice a n c] w fun e w' => e = .returned (.int .i64 9) ∧ w = w' := by
  have c0 : w.cell? ⟨lb, 0, none⟩ = some (.iface 54 (.pointer (some ⟨o, 0, none⟩))) := h.cell 0
  have CN := Lib.hid (lnone_at lb _ o w c0)
  have CI := tis_any o t.st w hk.c.1
  rw [decide_eq_false hst] at CI
  have CI := Lib.hid CI
  have hm : ∀ (F : Nat) (w : World), (method (F + 1) 54 (.pointer (some ⟨o, 0, none⟩)) "satchel/link.talks").run Try.prog w = .ok (68, .pointer (some ⟨o, 0, none⟩)) w := fun F w => by kernel_rfl
  clear h hk hst
  go_enter Try.func12, Try.ntmps12
  go_wp2_with (first | (go_at_call 25; refine CN.out.mono ?_; rintro e w' ⟨rfl, rfl⟩) | (go_at_call 68; refine (talks_any o _).mono ?_; rintro e w' ⟨rfl, rfl⟩) | (go_at_call 26; refine CI.out.mono ?_; rintro e w' ⟨rfl, rfl⟩))
  go_ret
  exact ⟨rfl, rfl⟩
theorem lsend_along {lb o I : Nat} {t : Tk} {ext : List Value} {w : World} (h : LkC w lb 54 o) (hk : TkC w o t ext I) (hst : t.st = 2) (a : Option Addr) (n c : Nat) (hn : 1400 < n) (hnm : n ≤ 1000000000) : Calls Try.prog 12 #[.pointer (some ⟨lb, 0, none⟩), .slice a n c] w fun e w' => e = .returned (.int .i64 3) ∧ w = w' := by
  have c0 : w.cell? ⟨lb, 0, none⟩ = some (.iface 54 (.pointer (some ⟨o, 0, none⟩))) := h.cell 0
  have CN := Lib.hid (lnone_at lb _ o w c0)
  have CI := tis_any o t.st w hk.c.1
  rw [decide_eq_true hst] at CI
  have CI := Lib.hid CI
  have hm : ∀ (F : Nat) (w : World), (method (F + 1) 54 (.pointer (some ⟨o, 0, none⟩)) "satchel/link.talks").run Try.prog w = .ok (68, .pointer (some ⟨o, 0, none⟩)) w := fun F w => by kernel_rfl
  have j1 : (n : Int) > 1400 := by omega
  clear h hk hst
  go_enter Try.func12, Try.ntmps12
  go_wp2_with (first | (go_at_call 25; refine CN.out.mono ?_; rintro e w' ⟨rfl, rfl⟩) | (go_at_call 68; refine (talks_any o _).mono ?_; rintro e w' ⟨rfl, rfl⟩) | (go_at_call 26; refine CI.out.mono ?_; rintro e w' ⟨rfl, rfl⟩))
  go_ret
  exact ⟨rfl, rfl⟩
theorem lsend_afull {lb o I : Nat} {t : Tk} {ext : List Value} {w : World} (h : LkC w lb 54 o) (hk : TkC w o t ext I) (hst : t.st = 2) (a : Option Addr) (n c : Nat) (hn : n ≤ 1400) (hf : t.i.x.size ≤ t.i.x.l.length) : Calls Try.prog 12 #[.pointer (some ⟨lb, 0, none⟩), .slice a n c] w fun e w' => e = .returned (.int .i64 8) ∧ ∃ k, w' = w.drewN k := by
  have c0 : w.cell? ⟨lb, 0, none⟩ = some (.iface 54 (.pointer (some ⟨o, 0, none⟩))) := h.cell 0
  have CN := Lib.hid (lnone_at lb _ o w c0)
  have CI := tis_any o t.st w hk.c.1
  rw [decide_eq_true hst] at CI
  have CI := Lib.hid CI
  have hm : ∀ (F : Nat) (w : World), (method (F + 1) 54 (.pointer (some ⟨o, 0, none⟩)) "satchel/link.talks").run Try.prog w = .ok (68, .pointer (some ⟨o, 0, none⟩)) w := fun F w => by kernel_rfl
  have j1 : ¬ (n : Int) > 1400 := by omega
  have hu := h.cell 0
  have c4 := hk.c.2.2.2.2.1
  rw [(hk.up hst).wv] at c4
  have CP := Lib.hid (push_full (hk.up hst).win hf a n c)
  generalize t.i.g = g at *
  clear h hk hst hu hf
  go_enter Try.func12, Try.ntmps12
  go_wp2_with (first | (go_at_call 25; refine CN.out.mono ?_; rintro e w' ⟨rfl, rfl⟩) | (go_at_call 68; refine (talks_any o _).mono ?_; rintro e w' ⟨rfl, rfl⟩) | (go_at_call 26; refine CI.out.mono ?_; rintro e w' ⟨rfl, rfl⟩) | (go_at_call 27; refine CP.out.mono ?_; rintro e w' ⟨rfl, k, rfl⟩))
  go_ret
  exact ⟨rfl, _, rfl⟩
theorem lsend_aok {lb o I : Nat} {t : Tk} {ext : List Value} {w : World} (h : LkC w lb 54 o) (hk : TkC w o t ext I) (hst : t.st = 2) (hI : I ≤ 1000000) (a : Option Addr) (n c : Nat) (body : List Int) (hn : n = body.length) (hr : RdB w a body) (hnb : n ≤ 1400) (hf : t.i.x.l.length < t.i.x.size) : Calls Try.prog 12 #[.pointer (some ⟨lb, 0, none⟩), .slice a n c] w fun e w' => e = .returned (.int .i64 0) ∧ ∃ p V', p.seq = t.i.x.last + 1 ∧ p.body = body ∧ p.times = 0 ∧ TkC w' o (sendT t p V') ext (I + 1) ∧ (∀ k, Me o (sendT t p V') k → Me o t k ∨ w.heap.size ≤ k) ∧ Kp (Me o t) w w' := by
  have c0 : w.cell? ⟨lb, 0, none⟩ = some (.iface 54 (.pointer (some ⟨o, 0, none⟩))) := h.cell 0
  have CN := Lib.hid (lnone_at lb _ o w c0)
  have CI := tis_any o t.st w hk.c.1
  rw [decide_eq_true hst] at CI
  have CI := Lib.hid CI
  have hm : ∀ (F : Nat) (w : World), (method (F + 1) 54 (.pointer (some ⟨o, 0, none⟩)) "satchel/link.talks").run Try.prog w = .ok (68, .pointer (some ⟨o, 0, none⟩)) w := fun F w => by kernel_rfl
  have j1 : ¬ (n : Int) > 1400 := by omega
  have c4 := hk.c.2.2.2.2.1
  rw [(hk.up hst).wv] at c4
  have CP := push_ok (hk.up hst).win hf (by have := (hk.up hst).last; omega) a n c body hn hr (by omega)
  have HK := Lib.hid (And.intro hk hst)
  obtain ⟨g, hg⟩ : ∃ g, g = t.i.g := ⟨_, rfl⟩
  rw [← hg] at c4 CP
  have CP := Lib.hid CP
  have HG := Lib.hid hg
  clear h hk hst hf hr hn hg
  go_enter Try.func12, Try.ntmps12
  go_wp2_with (first | (go_at_call 25; refine CN.out.mono ?_; rintro e w' ⟨rfl, rfl⟩) | (go_at_call 68; refine (talks_any o _).mono ?_; rintro e w' ⟨rfl, rfl⟩) | (go_at_call 26; refine CI.out.mono ?_; rintro e w' ⟨rfl, rfl⟩))
  go_at_call 27
  refine CP.out.mono ?_
  rintro e w1 ⟨rfl, p, V', h1, h2, h3, h4, h5, h6⟩
  rw [HG.out] at h4 h5 h6
  have H := Lib.hid (And.intro h1 (And.intro h2 (And.intro h3 (And.intro (HK.out.1.sent HK.out.2 h3 h4 h5 h6) (And.intro (fun k (hk : Me o (sendT t p V') k) => me_sent h5 hk) (h6.mono (S' := Me o t) (fun k _ hk => Or.inr ⟨HK.out.2, Or.inl hk⟩)))))))
  clear h1 h2 h3 h4 h5 h6
  go_wp2_with fail
  go_ret
  exact ⟨rfl, p, V', H.out.1, H.out.2.1, H.out.2.2.1, H.out.2.2.2.1, H.out.2.2.2.2.1, H.out.2.2.2.2.2⟩
theorem lopen_ano {lb o I : Nat} {t : Tk} {ext : List Value} {w : World} (h : LkC w lb 54 o) (hk : TkC w o t ext I) (hst : ¬ t.st = 2) : Calls Try.prog 22 #[.pointer (some ⟨lb, 0, none⟩)] w fun e w' => e = .returned (.int .i64 0) ∧ w = w' := by
  have c0 : w.cell? ⟨lb, 0, none⟩ = some (.iface 54 (.pointer (some ⟨o, 0, none⟩))) := h.cell 0
  have CN := Lib.hid (lnone_at lb _ o w c0)
  have CI := tis_any o t.st w hk.c.1
  rw [decide_eq_false hst] at CI
  have CI := Lib.hid CI
  have hm : ∀ (F : Nat) (w : World), (method (F + 1) 54 (.pointer (some ⟨o, 0, none⟩)) "satchel/link.talks").run Try.prog w = .ok (68, .pointer (some ⟨o, 0, none⟩)) w := fun F w => by kernel_rfl
  clear h hk hst
  go_enter Try.func22, Try.ntmps22
  go_wp2_with (first | (go_at_call 25; refine CN.out.mono ?_; rintro e w' ⟨rfl, rfl⟩) | (go_at_call 68; refine (talks_any o _).mono ?_; rintro e w' ⟨rfl, rfl⟩) | (go_at_call 26; refine CI.out.mono ?_; rintro e w' ⟨rfl, rfl⟩))
  go_ret
  exact ⟨rfl, rfl⟩
theorem lgot_ano {lb o I : Nat} {t : Tk} {ext : List Value} {w : World} (h : LkC w lb 54 o) (hk : TkC w o t ext I) (hst : ¬ t.st = 2) : Calls Try.prog 17 #[.pointer (some ⟨lb, 0, none⟩)] w fun e w' => e = .returned (.int .i64 0) ∧ w = w' := by
  have c0 : w.cell? ⟨lb, 0, none⟩ = some (.iface 54 (.pointer (some ⟨o, 0, none⟩))) := h.cell 0
  have CN := Lib.hid (lnone_at lb _ o w c0)
  have CI := tis_any o t.st w hk.c.1
  rw [decide_eq_false hst] at CI
  have CI := Lib.hid CI
  have hm : ∀ (F : Nat) (w : World), (method (F + 1) 54 (.pointer (some ⟨o, 0, none⟩)) "satchel/link.talks").run Try.prog w = .ok (68, .pointer (some ⟨o, 0, none⟩)) w := fun F w => by kernel_rfl
  clear h hk hst
  go_enter Try.func17, Try.ntmps17
  go_wp2_with (first | (go_at_call 25; refine CN.out.mono ?_; rintro e w' ⟨rfl, rfl⟩) | (go_at_call 68; refine (talks_any o _).mono ?_; rintro e w' ⟨rfl, rfl⟩) | (go_at_call 26; refine CI.out.mono ?_; rintro e w' ⟨rfl, rfl⟩))
  go_ret
  exact ⟨rfl, rfl⟩
theorem lopen_aup {lb o I : Nat} {t : Tk} {ext : List Value} {w : World} (h : LkC w lb 54 o) (hk : TkC w o t ext I) (hst : t.st = 2) : Calls Try.prog 22 #[.pointer (some ⟨lb, 0, none⟩)] w fun e w' => e = .returned (.int .i64 t.i.x.l.length) ∧ w = w' := by
  have c0 : w.cell? ⟨lb, 0, none⟩ = some (.iface 54 (.pointer (some ⟨o, 0, none⟩))) := h.cell 0
  have CN := Lib.hid (lnone_at lb _ o w c0)
  have CI := tis_any o t.st w hk.c.1
  rw [decide_eq_true hst] at CI
  have CI := Lib.hid CI
  have hm : ∀ (F : Nat) (w : World), (method (F + 1) 54 (.pointer (some ⟨o, 0, none⟩)) "satchel/link.talks").run Try.prog w = .ok (68, .pointer (some ⟨o, 0, none⟩)) w := fun F w => by kernel_rfl
  have c4 := hk.c.2.2.2.2.1
  rw [(hk.up hst).wv] at c4
  have CO := wopen_any (hk.up hst).win
  generalize t.i.x.l.length = n at *
  have CO := Lib.hid CO
  generalize t.i.g = g at *
  clear h hk hst
  go_enter Try.func22, Try.ntmps22
  go_wp2_with (first | (go_at_call 25; refine CN.out.mono ?_; rintro e w' ⟨rfl, rfl⟩) | (go_at_call 68; refine (talks_any o _).mono ?_; rintro e w' ⟨rfl, rfl⟩) | (go_at_call 26; refine CI.out.mono ?_; rintro e w' ⟨rfl, rfl⟩) | (go_at_call 35; refine CO.out.mono ?_; rintro e w' ⟨rfl, rfl⟩))
  go_ret
  exact ⟨rfl, rfl⟩
theorem lgot_aup {lb o I : Nat} {t : Tk} {ext : List Value} {w : World} (h : LkC w lb 54 o) (hk : TkC w o t ext I) (hst : t.st = 2) (hn : 1 ≤ t.i.n ∧ t.i.n ≤ 1000000000) : Calls Try.prog 17 #[.pointer (some ⟨lb, 0, none⟩)] w fun e w' => e = .returned (.int .i64 (t.i.n - 1 : Nat)) ∧ w = w' := by
  have c0 : w.cell? ⟨lb, 0, none⟩ = some (.iface 54 (.pointer (some ⟨o, 0, none⟩))) := h.cell 0
  have CN := Lib.hid (lnone_at lb _ o w c0)
  have CI := tis_any o t.st w hk.c.1
  rw [decide_eq_true hst] at CI
  have CI := Lib.hid CI
  have hm : ∀ (F : Nat) (w : World), (method (F + 1) 54 (.pointer (some ⟨o, 0, none⟩)) "satchel/link.talks").run Try.prog w = .ok (68, .pointer (some ⟨o, 0, none⟩)) w := fun F w => by kernel_rfl
  have c5 := hk.c.2.2.2.2.2.1
  rw [(hk.up hst).xv] at c5
  have CX := (hk.up hst).inb.1.elim fun c hc => hc.next
  obtain ⟨n, hnn⟩ : ∃ n, t.i.n = n + 1 := ⟨t.i.n - 1, by omega⟩
  rw [hnn] at CX ⊢
  have hnb : n ≤ 1000000000 := by omega
  have CX := Lib.hid CX
  generalize t.i.b = b at *
  clear h hk hst hn hnn
  go_enter Try.func17, Try.ntmps17
  go_wp2_with (first | (go_at_call 25; refine CN.out.mono ?_; rintro e w' ⟨rfl, rfl⟩) | (go_at_call 68; refine (talks_any o _).mono ?_; rintro e w' ⟨rfl, rfl⟩) | (go_at_call 26; refine CI.out.mono ?_; rintro e w' ⟨rfl, rfl⟩) | (go_at_call 33; refine CX.out.mono ?_; rintro e w' ⟨rfl, rfl⟩))
  go_ret
  exact ⟨by go_num, rfl⟩
theorem lsend_dshut {lb o I : Nat} {t : Tk} {ext : List Value} {w : World} (h : LkC w lb 61 o) (hk : TkC w o t ext I) (hst : ¬ t.st = 2) (a : Option Addr) (n c : Nat) : Calls Try.prog 12 #[.pointer (some ⟨lb, 0, none⟩), .slice a n c] w fun e w' => e = .returned (.int .i64 9) ∧ w = w' := by
  have c0 : w.cell? ⟨lb, 0, none⟩ = some (.iface 61 (.pointer (some ⟨o, 0, none⟩))) := h.cell 0
  have CN := Lib.hid (lnone_at lb _ o w c0)
  have CI := tis_any o t.st w hk.c.1
  rw [decide_eq_false hst] at CI
  have CI := Lib.hid CI
  have hm : ∀ (F : Nat) (w : World), (method (F + 1) 61 (.pointer (some ⟨o, 0, none⟩)) "satchel/link.talks").run Try.prog w = .ok (68, .pointer (some ⟨o, 0, none⟩)) w := fun F w => by kernel_rfl
  clear h hk hst
  go_enter Try.func12, Try.ntmps12
  go_wp2_with (first | (go_at_call 25; refine CN.out.mono ?_; rintro e w' ⟨rfl, rfl⟩) | (go_at_call 68; refine (talks_any o _).mono ?_; rintro e w' ⟨rfl, rfl⟩) | (go_at_call 26; refine CI.out.mono ?_; rintro e w' ⟨rfl, rfl⟩))
  go_ret
  exact ⟨rfl, rfl⟩
theorem lsend_dlong {lb o I : Nat} {t : Tk} {ext : List Value} {w : World} (h : LkC w lb 61 o) (hk : TkC w o t ext I) (hst : t.st = 2) (a : Option Addr) (n c : Nat) (hn : 1400 < n) (hnm : n ≤ 1000000000) : Calls Try.prog 12 #[.pointer (some ⟨lb, 0, none⟩), .slice a n c] w fun e w' => e = .returned (.int .i64 3) ∧ w = w' := by
  have c0 : w.cell? ⟨lb, 0, none⟩ = some (.iface 61 (.pointer (some ⟨o, 0, none⟩))) := h.cell 0
  have CN := Lib.hid (lnone_at lb _ o w c0)
  have CI := tis_any o t.st w hk.c.1
  rw [decide_eq_true hst] at CI
  have CI := Lib.hid CI
  have hm : ∀ (F : Nat) (w : World), (method (F + 1) 61 (.pointer (some ⟨o, 0, none⟩)) "satchel/link.talks").run Try.prog w = .ok (68, .pointer (some ⟨o, 0, none⟩)) w := fun F w => by kernel_rfl
  have j1 : (n : Int) > 1400 := by omega
  clear h hk hst
  go_enter Try.func12, Try.ntmps12
  go_wp2_with (first | (go_at_call 25; refine CN.out.mono ?_; rintro e w' ⟨rfl, rfl⟩) | (go_at_call 68; refine (talks_any o _).mono ?_; rintro e w' ⟨rfl, rfl⟩) | (go_at_call 26; refine CI.out.mono ?_; rintro e w' ⟨rfl, rfl⟩))
  go_ret
  exact ⟨rfl, rfl⟩
theorem lsend_dfull {lb o I : Nat} {t : Tk} {ext : List Value} {w : World} (h : LkC w lb 61 o) (hk : TkC w o t ext I) (hst : t.st = 2) (a : Option Addr) (n c : Nat) (hn : n ≤ 1400) (hf : t.i.x.size ≤ t.i.x.l.length) : Calls Try.prog 12 #[.pointer (some ⟨lb, 0, none⟩), .slice a n c] w fun e w' => e = .returned (.int .i64 8) ∧ ∃ k, w' = w.drewN k := by
  have c0 : w.cell? ⟨lb, 0, none⟩ = some (.iface 61 (.pointer (some ⟨o, 0, none⟩))) := h.cell 0
  have CN := Lib.hid (lnone_at lb _ o w c0)
  have CI := tis_any o t.st w hk.c.1
  rw [decide_eq_true hst] at CI
  have CI := Lib.hid CI
  have hm : ∀ (F : Nat) (w : World), (method (F + 1) 61 (.pointer (some ⟨o, 0, none⟩)) "satchel/link.talks").run Try.prog w = .ok (68, .pointer (some ⟨o, 0, none⟩)) w := fun F w => by kernel_rfl
  have j1 : ¬ (n : Int) > 1400 := by omega
  have hu := h.cell 0
  have c4 := hk.c.2.2.2.2.1
  rw [(hk.up hst).wv] at c4
  have CP := Lib.hid (push_full (hk.up hst).win hf a n c)
  generalize t.i.g = g at *
  clear h hk hst hu hf
  go_enter Try.func12, Try.ntmps12
  go_wp2_with (first | (go_at_call 25; refine CN.out.mono ?_; rintro e w' ⟨rfl, rfl⟩) | (go_at_call 68; refine (talks_any o _).mono ?_; rintro e w' ⟨rfl, rfl⟩) | (go_at_call 26; refine CI.out.mono ?_; rintro e w' ⟨rfl, rfl⟩) | (go_at_call 27; refine CP.out.mono ?_; rintro e w' ⟨rfl, k, rfl⟩))
  go_ret
  exact ⟨rfl, _, rfl⟩
theorem lsend_dok {lb o I : Nat} {t : Tk} {ext : List Value} {w : World} (h : LkC w lb 61 o) (hk : TkC w o t ext I) (hst : t.st = 2) (hI : I ≤ 1000000) (a : Option Addr) (n c : Nat) (body : List Int) (hn : n = body.length) (hr : RdB w a body) (hnb : n ≤ 1400) (hf : t.i.x.l.length < t.i.x.size) : Calls Try.prog 12 #[.pointer (some ⟨lb, 0, none⟩), .slice a n c] w fun e w' => e = .returned (.int .i64 0) ∧ ∃ p V', p.seq = t.i.x.last + 1 ∧ p.body = body ∧ p.times = 0 ∧ TkC w' o (sendT t p V') ext (I + 1) ∧ (∀ k, Me o (sendT t p V') k → Me o t k ∨ w.heap.size ≤ k) ∧ Kp (Me o t) w w' := by
  have c0 : w.cell? ⟨lb, 0, none⟩ = some (.iface 61 (.pointer (some ⟨o, 0, none⟩))) := h.cell 0
  have CN := Lib.hid (lnone_at lb _ o w c0)
  have CI := tis_any o t.st w hk.c.1
  rw [decide_eq_true hst] at CI
  have CI := Lib.hid CI
  have hm : ∀ (F : Nat) (w : World), (method (F + 1) 61 (.pointer (some ⟨o, 0, none⟩)) "satchel/link.talks").run Try.prog w = .ok (68, .pointer (some ⟨o, 0, none⟩)) w := fun F w => by kernel_rfl
  have j1 : ¬ (n : Int) > 1400 := by omega
  have c4 := hk.c.2.2.2.2.1
  rw [(hk.up hst).wv] at c4
  have CP := push_ok (hk.up hst).win hf (by have := (hk.up hst).last; omega) a n c body hn hr (by omega)
  have HK := Lib.hid (And.intro hk hst)
  obtain ⟨g, hg⟩ : ∃ g, g = t.i.g := ⟨_, rfl⟩
  rw [← hg] at c4 CP
  have CP := Lib.hid CP
  have HG := Lib.hid hg
  clear h hk hst hf hr hn hg
  go_enter Try.func12, Try.ntmps12
  go_wp2_with (first | (go_at_call 25; refine CN.out.mono ?_; rintro e w' ⟨rfl, rfl⟩) | (go_at_call 68; refine (talks_any o _).mono ?_; rintro e w' ⟨rfl, rfl⟩) | (go_at_call 26; refine CI.out.mono ?_; rintro e w' ⟨rfl, rfl⟩))
  go_at_call 27
  refine CP.out.mono ?_
  rintro e w1 ⟨rfl, p, V', h1, h2, h3, h4, h5, h6⟩
  rw [HG.out] at h4 h5 h6
  have H := Lib.hid (And.intro h1 (And.intro h2 (And.intro h3 (And.intro (HK.out.1.sent HK.out.2 h3 h4 h5 h6) (And.intro (fun k (hk : Me o (sendT t p V') k) => me_sent h5 hk) (h6.mono (S' := Me o t) (fun k _ hk => Or.inr ⟨HK.out.2, Or.inl hk⟩)))))))
  clear h1 h2 h3 h4 h5 h6
  go_wp2_with fail
  go_ret
  exact ⟨rfl, p, V', H.out.1, H.out.2.1, H.out.2.2.1, H.out.2.2.2.1, H.out.2.2.2.2.1, H.out.2.2.2.2.2⟩
theorem lopen_dno {lb o I : Nat} {t : Tk} {ext : List Value} {w : World} (h : LkC w lb 61 o) (hk : TkC w o t ext I) (hst : ¬ t.st = 2) : Calls Try.prog 22 #[.pointer (some ⟨lb, 0, none⟩)] w fun e w' => e = .returned (.int .i64 0) ∧ w = w' := by
  have c0 : w.cell? ⟨lb, 0, none⟩ = some (.iface 61 (.pointer (some ⟨o, 0, none⟩))) := h.cell 0
  have CN := Lib.hid (lnone_at lb _ o w c0)
  have CI := tis_any o t.st w hk.c.1
  rw [decide_eq_false hst] at CI
  have CI := Lib.hid CI
  have hm : ∀ (F : Nat) (w : World), (method (F + 1) 61 (.pointer (some ⟨o, 0, none⟩)) "satchel/link.talks").run Try.prog w = .ok (68, .pointer (some ⟨o, 0, none⟩)) w := fun F w => by kernel_rfl
  clear h hk hst
  go_enter Try.func22, Try.ntmps22
  go_wp2_with (first | (go_at_call 25; refine CN.out.mono ?_; rintro e w' ⟨rfl, rfl⟩) | (go_at_call 68; refine (talks_any o _).mono ?_; rintro e w' ⟨rfl, rfl⟩) | (go_at_call 26; refine CI.out.mono ?_; rintro e w' ⟨rfl, rfl⟩))
  go_ret
  exact ⟨rfl, rfl⟩
theorem lgot_dno {lb o I : Nat} {t : Tk} {ext : List Value} {w : World} (h : LkC w lb 61 o) (hk : TkC w o t ext I) (hst : ¬ t.st = 2) : Calls Try.prog 17 #[.pointer (some ⟨lb, 0, none⟩)] w fun e w' => e = .returned (.int .i64 0) ∧ w = w' := by
  have c0 : w.cell? ⟨lb, 0, none⟩ = some (.iface 61 (.pointer (some ⟨o, 0, none⟩))) := h.cell 0
  have CN := Lib.hid (lnone_at lb _ o w c0)
  have CI := tis_any o t.st w hk.c.1
  rw [decide_eq_false hst] at CI
  have CI := Lib.hid CI
  have hm : ∀ (F : Nat) (w : World), (method (F + 1) 61 (.pointer (some ⟨o, 0, none⟩)) "satchel/link.talks").run Try.prog w = .ok (68, .pointer (some ⟨o, 0, none⟩)) w := fun F w => by kernel_rfl
  clear h hk hst
  go_enter Try.func17, Try.ntmps17
  go_wp2_with (first | (go_at_call 25; refine CN.out.mono ?_; rintro e w' ⟨rfl, rfl⟩) | (go_at_call 68; refine (talks_any o _).mono ?_; rintro e w' ⟨rfl, rfl⟩) | (go_at_call 26; refine CI.out.mono ?_; rintro e w' ⟨rfl, rfl⟩))
  go_ret
  exact ⟨rfl, rfl⟩
theorem lopen_dup {lb o I : Nat} {t : Tk} {ext : List Value} {w : World} (h : LkC w lb 61 o) (hk : TkC w o t ext I) (hst : t.st = 2) : Calls Try.prog 22 #[.pointer (some ⟨lb, 0, none⟩)] w fun e w' => e = .returned (.int .i64 t.i.x.l.length) ∧ w = w' := by
  have c0 : w.cell? ⟨lb, 0, none⟩ = some (.iface 61 (.pointer (some ⟨o, 0, none⟩))) := h.cell 0
  have CN := Lib.hid (lnone_at lb _ o w c0)
  have CI := tis_any o t.st w hk.c.1
  rw [decide_eq_true hst] at CI
  have CI := Lib.hid CI
  have hm : ∀ (F : Nat) (w : World), (method (F + 1) 61 (.pointer (some ⟨o, 0, none⟩)) "satchel/link.talks").run Try.prog w = .ok (68, .pointer (some ⟨o, 0, none⟩)) w := fun F w => by kernel_rfl
  have c4 := hk.c.2.2.2.2.1
  rw [(hk.up hst).wv] at c4
  have CO := wopen_any (hk.up hst).win
  generalize t.i.x.l.length = n at *
  have CO := Lib.hid CO
  generalize t.i.g = g at *
  clear h hk hst
  go_enter Try.func22, Try.ntmps22
  go_wp2_with (first | (go_at_call 25; refine CN.out.mono ?_; rintro e w' ⟨rfl, rfl⟩) | (go_at_call 68; refine (talks_any o _).mono ?_; rintro e w' ⟨rfl, rfl⟩) | (go_at_call 26; refine CI.out.mono ?_; rintro e w' ⟨rfl, rfl⟩) | (go_at_call 35; refine CO.out.mono ?_; rintro e w' ⟨rfl, rfl⟩))
  go_ret
  exact ⟨rfl, rfl⟩
theorem lgot_dup {lb o I : Nat} {t : Tk} {ext : List Value} {w : World} (h : LkC w lb 61 o) (hk : TkC w o t ext I) (hst : t.st = 2) (hn : 1 ≤ t.i.n ∧ t.i.n ≤ 1000000000) : Calls Try.prog 17 #[.pointer (some ⟨lb, 0, none⟩)] w fun e w' => e = .returned (.int .i64 (t.i.n - 1 : Nat)) ∧ w = w' := by
  have c0 : w.cell? ⟨lb, 0, none⟩ = some (.iface 61 (.pointer (some ⟨o, 0, none⟩))) := h.cell 0
  have CN := Lib.hid (lnone_at lb _ o w c0)
  have CI := tis_any o t.st w hk.c.1
  rw [decide_eq_true hst] at CI
  have CI := Lib.hid CI
  have hm : ∀ (F : Nat) (w : World), (method (F + 1) 61 (.pointer (some ⟨o, 0, none⟩)) "satchel/link.talks").run Try.prog w = .ok (68, .pointer (some ⟨o, 0, none⟩)) w := fun F w => by kernel_rfl
  have c5 := hk.c.2.2.2.2.2.1
  rw [(hk.up hst).xv] at c5
  have CX := (hk.up hst).inb.1.elim fun c hc => hc.next
  obtain ⟨n, hnn⟩ : ∃ n, t.i.n = n + 1 := ⟨t.i.n - 1, by omega⟩
  rw [hnn] at CX ⊢
  have hnb : n ≤ 1000000000 := by omega
  have CX := Lib.hid CX
  generalize t.i.b = b at *
  clear h hk hst hn hnn
  go_enter Try.func17, Try.ntmps17
  go_wp2_with (first | (go_at_call 25; refine CN.out.mono ?_; rintro e w' ⟨rfl, rfl⟩) | (go_at_call 68; refine (talks_any o _).mono ?_; rintro e w' ⟨rfl, rfl⟩) | (go_at_call 26; refine CI.out.mono ?_; rintro e w' ⟨rfl, rfl⟩) | (go_at_call 33; refine CX.out.mono ?_; rintro e w' ⟨rfl, rfl⟩))
  go_ret
  exact ⟨by go_num, rfl⟩
end Go.Proofs.Ytokembhfebnjpaa
