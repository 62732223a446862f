/- Chapter 14's own helpers: two, awake. -/
import Derived.Test.YtnigdgopmmccgaaInbO
import Derived.Test.YtnigdgopmmccgaaLists
import Derived.Lib.SlBytesConst
namespace Go.Proofs.Ytnigdgopmmccgaa
open Go.RowKit
set_option linter.unusedVariables false
def f2 : Bodies := put (fun _ => none) 2 [98]
theorem rdb_mark (w : World) (l : List Int) (hl : Byt l) (hlen : l.length ≤ 4611686018427387904) (T : TypeId) (m : Nat × Nat) : RdB (w.alloc (.cells (l.map (Value.int .u8)).toArray T m)) (some ⟨w.heap.size, 0, none⟩) l :=
  ⟨fun i hi => ⟨_, _, rfl, by
    have e := heap_alloc_new w (.cells (l.map (Value.int .u8)).toArray T m)
    simp only [World.cell?]
    rw [e]
    simp [List.getD_eq_getElem?_getD, hi]⟩, hl, hlen⟩
/-- The awaited number is the first that did not come. -/
theorem InbAt.next_le {w : World} {b size : Nat} {f : Bodies} {n hd : Nat} {F : Nat → Prop} (h : InbAt w b size f n hd F) {k : Nat} (hk : 1 ≤ k) (hf : f k = none) : n ≤ k := by
  obtain ⟨⟨c, h⟩, _⟩ := h
  rcases Nat.lt_or_ge k n with h' | h'
  · exact absurd hf (h.low k hk h')
  · exact h'
theorem InbAt.alloc {w : World} {b size : Nat} {f : Bodies} {n hd : Nat} {F : Nat → Prop} (h : InbAt w b size f n hd F) (o : Obj) : InbAt (w.alloc o) b size f n hd F :=
  h.kp ((Kp.refl (fun _ => False) w).alloc o) (fun _ _ h => h)
theorem InbAt.cnt {w : World} {b size : Nat} {f : Bodies} {n hd : Nat} {F : Nat → Prop} (h : InbAt w b size f n hd F) : hd = cn f n size := by
  obtain ⟨⟨c, h⟩, _⟩ := h; exact h.cnt

theorem rdl_of_told {w : World} {f : Bodies} {n : Nat} {a : Option Addr} {c : Nat} {vs : List Value} {G F : Nat → Prop} (ho : Own w (.slice a vs.length c) vs.length 1 vs) (h : Told w f n vs G F) (ls : List (List Int)) (hlen : ls.length = vs.length) (hf : ∀ i, i < ls.length → f (n + i) = some (ls.getD i [])) : RdL w a ls := fun i hi => by
  obtain ⟨b, off, ha, hc⟩ := ho.rd i (by omega)
  obtain ⟨l, h1, h2⟩ := h.own i (by omega)
  rw [hf i hi] at h1
  obtain rfl := Option.some.inj h1
  obtain ⟨ai, ci, e, hr, hle⟩ := h2.form
  exact ⟨b, off, ai, ci, ha, by rw [hc, e], hr, hle⟩

theorem two_any (w : World) : Calls Try.prog 25 #[] w fun e w' => ∃ F, e = .returned (.pointer (some ⟨w.heap.size, 0, none⟩)) ∧ InbAt w' w.heap.size 2 f2 1 1 F ∧ (∀ g, F g → w.heap.size ≤ g) ∧ Kp (fun _ => False) w w' := by
  have kc := fun (w : World) (C : Array Value) (n c : Nat) => Lib.run_convert_bytes_const (P := Try.prog) w 31 5 C n c Try.underlying31 Try.underlying5
  go_enter Try.func25, Try.ntmps25
  go_wp2_with fail
  refine (inew_ok 2 w (by omega)).mono ?_
  rintro e w1 ⟨rfl, hat, hk⟩
  go_wp2_with fail
  have T := take_ok (hat.alloc (.cells #[.int .u8 98] 5 (1, 2))) 2 (some ⟨w1.heap.size, 0, none⟩) 1 [98] (rdb_mark w1 [98] (fun x hx => by simp at hx; omega) (by simp) _ _) (by simp) (by omega) (by omega) (by omega) rfl
  rw [show ((2 : Nat) : Int) = 2 from rfl] at T
  refine T.mono ?_
  rintro e w2 ⟨n', hd', F', v, vs, rfl, k1, k2, k3, k4, k5, k6, k7, k8, k9⟩
  obtain rfl : n' = 1 := by have := k4.next_le (k := 1) (by omega) rfl; omega
  obtain rfl : hd' = 1 := k4.cnt
  obtain ⟨va, vc, rfl, _, _⟩ := k5.form
  have hK2 : Kp (fun _ => False) w w2 := (hk.alloc _).then k9 (fun i hi e => by omega)
  have hF : ∀ g, F' g → w.heap.size ≤ g := fun g hg => by
    have := hk.size
    rcases k8 g hg with e | e
    · omega
    · simp at e; omega
  have HK2 := Lib.hid hK2
  have HF := Lib.hid hF
  have H4 := Lib.hid k4
  clear T hat hk k1 k2 k3 k5 k6 k7 k8 k9 hK2 hF k4
  go_wp2_with fail
  have T := take_there (H4.out.alloc (.cells #[.int .u8 99] 5 (1, 2))) 2 (some ⟨w2.heap.size, 0, none⟩) 1 1 (by omega) (by omega) rfl
  rw [show ((2 : Nat) : Int) = 2 from rfl] at T
  refine T.mono ?_
  rintro e w3 ⟨rfl, k3⟩
  have H5 := Lib.hid ((H4.out.alloc (.cells #[.int .u8 99] 5 (1, 2))).kp k3 (fun _ _ h => h))
  have HK3 := Lib.hid ((HK2.out.alloc (.cells #[.int .u8 99] 5 (1, 2))).trans k3)
  clear T H4 HK2 k3
  go_wp2_with fail
  have T := take_full (H5.out.alloc (.cells #[.int .u8 100] 5 (1, 2))) 3 (some ⟨w3.heap.size, 0, none⟩) 1 1 (by omega) (by omega) (by omega)
  rw [show ((3 : Nat) : Int) = 3 from rfl] at T
  refine T.mono ?_
  rintro e w4 ⟨rfl, k4⟩
  have H6 := Lib.hid ((H5.out.alloc (.cells #[.int .u8 100] 5 (1, 2))).kp k4 (fun _ _ h => h))
  have HK4 := Lib.hid ((HK3.out.alloc (.cells #[.int .u8 100] 5 (1, 2))).trans k4)
  have D1 := Lib.hid (H6.out.1.elim fun c hc => hc.held)
  have D2 := Lib.hid (H6.out.1.elim fun c hc => hc.next)
  clear T H5 HK3 k4
  go_wp2_with (first | (go_at_call 18; refine D1.out.mono ?_; rintro e w' ⟨rfl, rfl⟩) | (go_at_call 17; refine D2.out.mono ?_; rintro e w' ⟨rfl, rfl⟩))
  go_ret
  exact ⟨F', rfl, H6.out, HF.out, HK4.out⟩

theorem rdl_two (w : World) (x y : Int) (hx : 0 ≤ x ∧ x ≤ 255) (hy : 0 ≤ y ∧ y ≤ 255) (T T' : TypeId) (m m' : Nat × Nat) :
    RdL (((w.alloc (.cells #[.int .u8 x] T m)).alloc (.cells #[.int .u8 y] T m')).alloc (.cells #[.slice (some ⟨w.heap.size, 0, none⟩) 1 1, .slice (some ⟨w.heap.size + 1, 0, none⟩) 1 1] T')) (some ⟨w.heap.size + 1 + 1, 0, none⟩) [[x], [y]] := fun i hi => by
  have a1 := rdb_mark w [x] (fun z hz => by simp at hz; omega) (by simp) T m
  have a2 := rdb_mark (w.alloc (.cells #[.int .u8 x] T m)) [y] (fun z hz => by simp at hz; omega) (by simp) T m'
  simp only [World.size_alloc] at a2
  have k1 : Kp (fun _ => False) (w.alloc (.cells #[.int .u8 x] T m)) (((w.alloc (.cells #[.int .u8 x] T m)).alloc (.cells #[.int .u8 y] T m')).alloc (.cells #[.slice (some ⟨w.heap.size, 0, none⟩) 1 1, .slice (some ⟨w.heap.size + 1, 0, none⟩) 1 1] T')) :=
    ((Kp.refl _ _).alloc _).alloc _
  have k2 : Kp (fun _ => False) ((w.alloc (.cells #[.int .u8 x] T m)).alloc (.cells #[.int .u8 y] T m')) (((w.alloc (.cells #[.int .u8 x] T m)).alloc (.cells #[.int .u8 y] T m')).alloc (.cells #[.slice (some ⟨w.heap.size, 0, none⟩) 1 1, .slice (some ⟨w.heap.size + 1, 0, none⟩) 1 1] T')) :=
    (Kp.refl _ _).alloc _
  have hat := At.new ((w.alloc (.cells #[.int .u8 x] T m)).alloc (.cells #[.int .u8 y] T m')) [.slice (some ⟨w.heap.size, 0, none⟩) 1 1, .slice (some ⟨w.heap.size + 1, 0, none⟩) 1 1] T'
  simp only [World.size_alloc] at hat
  have : i = 0 ∨ i = 1 := by simp at hi; omega
  rcases this with rfl | rfl
  · exact ⟨_, _, _, _, rfl, by rw [hat.cell]; rfl, a1.kp k1 (fun _ _ h => h), by simp⟩
  · exact ⟨_, _, _, _, rfl, by rw [hat.cell]; rfl, a2.kp k2 (fun _ _ h => h), by simp⟩

def f3 : Bodies := put f2 1 [97]
theorem awake_any (w : World) : Calls Try.prog 22 #[] w fun e w' => e = .returned (.bool true) ∧ Kp (fun _ => False) w w' := by
  have kc := fun (w : World) (C : Array Value) (n c : Nat) => Lib.run_convert_bytes_const (P := Try.prog) w 31 5 C n c Try.underlying31 Try.underlying5
  go_enter Try.func22, Try.ntmps22
  go_wp2_with fail
  refine (two_any w).mono ?_
  rintro e w1 ⟨F, rfl, hat, hF, hk⟩
  go_wp2_with fail
  have T := take_ok (hat.alloc (.cells #[.int .u8 97] 5 (1, 2))) 1 (some ⟨w1.heap.size, 0, none⟩) 1 [97] (rdb_mark w1 [97] (fun x hx => by simp at hx; omega) (by simp) _ _) (by simp) (by omega) (by omega) (by omega) rfl
  rw [show ((1 : Nat) : Int) = 1 from rfl] at T
  refine T.mono ?_
  rintro e w2 ⟨n', hd', F', v, vs, rfl, k1, k2, k3, k4, k5, k6, k7, k8, k9⟩
  obtain rfl : n' = 3 := by
    have h1 := k4.next_le (k := 3) (by omega) rfl
    have h2 := k4.2
    rcases Nat.lt_or_ge n' 3 with h3 | h3
    · have : n' = 1 ∨ n' = 2 := by omega
      rcases this with rfl | rfl
      · cases h2
      · cases h2
    · omega
  obtain ⟨va, vc, rfl, hle, _⟩ := k5.form
  have hK2 : Kp (fun _ => False) w w2 := (hk.alloc _).then k9 (fun i hi e => by omega)
  have hl := rdl_of_told (a := va) (c := vc) (by rw [k3]; exact k5) k6 [[97], [98]] (by rw [k3]; rfl) (fun i hi => by
    have : i = 0 ∨ i = 1 := by simp at hi; omega
    rcases this with rfl | rfl <;> rfl)
  have HL := Lib.hid hl
  have HK2 := Lib.hid hK2
  have H4 := Lib.hid k4
  clear T hat hk k1 k2 k3 k5 k6 k7 k8 k9 hK2 hF k4 hl
  have kc2 := kc (w2.alloc (.cells #[.int .u8 97] 5 (1, 2))) #[.int .u8 98] 1 1
  simp only [World.size_alloc] at kc2
  have D2 := fun w3 (hk : Kp (fun _ => False) w2 w3) => (H4.out.kp hk (fun _ _ h => h)).1.elim fun c hc => hc.next
  have HD2 := Lib.hid D2
  clear D2
  go_wp2_with fail
  have hkA : Kp (fun _ => False) w2 (((w2.alloc (.cells #[.int .u8 97] 5 (1, 2))).alloc (.cells #[.int .u8 98] 5 (1, 2))).alloc (.cells #[.slice (some ⟨w2.heap.size, 0, none⟩) 1 1, .slice (some ⟨w2.heap.size + 1, 0, none⟩) 1 1] 31)) :=
    (((Kp.refl _ _).alloc _).alloc _).alloc _
  refine (samelists_any va _ 2 2 vc 2 [[97], [98]] [[97], [98]] _ (HL.out.kp0 hkA (fun _ _ h => h)) (rdl_two w2 97 98 (by omega) (by omega) 5 31 (1, 2) (1, 2)) rfl rfl (by omega)).mono ?_
  rintro e w3 ⟨rfl, k3⟩
  have hk3 := Lib.hid (hkA.trans k3)
  clear hkA k3 kc2
  go_wp2_with (go_at_call 17; refine (HD2.out _ hk3.out).mono ?_; rintro e w' ⟨rfl, rfl⟩)
  go_ret
  exact ⟨rfl, HK2.out.trans hk3.out⟩
end Go.Proofs.Ytnigdgopmmccgaa
