/- NetScript: a net and the document's, side by side; what each call makes of both. (Written by wip/netscr.py.) -/
import Derived.Test.YtgcgcdgjooaipaaDnE
namespace Go.Proofs.Ytgcgcdgjooaipaa
open Go.RowKit Go.Maps
set_option linter.unusedVariables false
set_option linter.unusedSimpArgs false
/-- Both nets in memory; nothing is said yet of whether they have the same. -/
structure Sc (w0 w : World) (nb mb db : Nat) (L O : Value) (nds ds : List Nd) (lost dlost : Int) (N : Nat) (f : Value → Bool) (os : List (Int × Int)) : Prop where
  st : St w0 w nb mb nds lost N f
  d : DN w db L O ds os dlost
  dge : ∀ b, DMine db L O ds b → w0.heap.size ≤ b
  ap : ∀ b, DMine db L O ds b → ¬ (Mine nb nds b ∨ b = mb)
def offR (f : Value → Bool) (os : List (Int × Int)) : Prop := ∀ a b, f (pairV a b) = decide (prOf a b ∈ os)
section
variable {w0 w w' : World} {nb mb db N N' : Nat} {L L' O O' : Value} {nds nds' ds ds' : List Nd} {lost dlost lost' dlost' : Int} {f f' : Value → Bool} {os os' : List (Int × Int)}
theorem Sc.kp0 (h : Sc w0 w nb mb db L O nds ds lost dlost N f os) (k : Kp (fun _ => False) w w') : Sc w0 w' nb mb db L O nds ds lost dlost N f os := ⟨h.st.kp0 k, h.d.kp0 k, h.dge, h.ap⟩
/-- The blocks of both. -/
def Both (nb mb db : Nat) (L O : Value) (nds ds : List Nd) (b : Nat) : Prop := (Mine nb nds b ∨ b = mb) ∨ DMine db L O ds b
theorem Sc.lt (h : Sc w0 w nb mb db L O nds ds lost dlost N f os) {b : Nat} (hb : Both nb mb db L O nds ds b) : b < w.heap.size := by
  rcases hb with hb | hb
  · exact h.st.n.lt hb
  · exact h.d.lt hb
theorem Sc.ge (h : Sc w0 w nb mb db L O nds ds lost dlost N f os) {b : Nat} (hb : Both nb mb db L O nds ds b) : w0.heap.size ≤ b := by
  rcases hb with hb | hb
  · exact h.st.ge b hb
  · exact h.dge b hb
theorem Sc.kp {S : Nat → Prop} (h : Sc w0 w nb mb db L O nds ds lost dlost N f os) (k : Kp S w w') (hs : ∀ b, Both nb mb db L O nds ds b → ¬ S b) (hs0 : ∀ b, S b → w0.heap.size ≤ b) : Sc w0 w' nb mb db L O nds ds lost dlost N f os :=
  ⟨⟨h.st.n.kp k (fun b hb => hs b (.inl hb)), h.st.ge, h.st.k.then k (fun i hi e => by have := hs0 i e; omega)⟩, h.d.kp k (fun b hb => hs b (.inr hb)), h.dge, h.ap⟩
/-- A step of the net alone. -/
theorem Sc.net (h : Sc w0 w nb mb db L O nds ds lost dlost N f os) (hn : NetW w' nb mb nds' lost' N' f') (hs : Stp nb mb nds w nds' w') : Sc w0 w' nb mb db L O nds' ds lost' dlost N' f' os :=
  ⟨h.st.step hs hn, h.d.kp hs.1 (fun b hb => h.ap b hb), h.dge, fun b hb hm => by
    have hlt := h.d.lt hb
    rcases hm with hm | hm
    · rcases hs.2 b hm with h1 | h1
      · exact h.ap b hb (.inl h1)
      · omega
    · exact h.ap b hb (.inr hm)⟩
/-- A step of the document's alone. -/
theorem Sc.doc (h : Sc w0 w nb mb db L O nds ds lost dlost N f os) (hd : DN w' db L' O' ds' os' dlost') (hs : DStp db L O ds w L' O' ds' w') : Sc w0 w' nb mb db L' O' nds ds' lost dlost' N f os' :=
  have hk := h.st.k
  ⟨⟨h.st.n.kp hs.1 (fun b hb hm => h.ap b hm hb), h.st.ge, hk.then hs.1 (fun i hi e => by have := h.dge i e; omega)⟩, hd, fun b hb => by
    rcases hs.2 b hb with h1 | h1
    · exact h.dge b h1
    · have := hk.size; omega, fun b hb hm => by
    rcases hs.2 b hb with h1 | h1
    · exact h.ap b h1 hm
    · have := h.st.n.lt hm; omega⟩
/-! What the calls come to, told of keys. -/
abbrev Ky := Int × Int × List Int
def ky (K : List Ky) (i : Nat) : Ky := K.getD i (0, 0, [])
def takeS (K : List Ky) (i : Int) : Int × List Ky := if there K i then (0, K.eraseIdx i.toNat) else (6, K)
def copyS (K : List Ky) (i : Int) : Int × List Ky := if there K i then (if 2000 ≤ K.length then (8, K) else (0, K ++ [ky K i.toNat])) else (6, K)
def turnS (K : List Ky) (i bit : Int) : Int × List Ky := if there K i then (if bit < 0 ∨ 8 * ((ky K i.toNat).2.2.length : Int) ≤ bit then (5, K) else (0, K.set i.toNat ((ky K i.toNat).1, (ky K i.toNat).2.1, turnB (ky K i.toNat).2.2 bit.toNat))) else (6, K)
def swapS (K : List Ky) (i k : Int) : Int × List Ky := if there K i && there K k then (0, (K.set i.toNat (ky K k.toNat)).set k.toNat (ky K i.toNat)) else (6, K)
theorem ky_nd (ds : List Nd) {k : Nat} (h : k < ds.length) : ky (ds.map dkey) k = dkey (nd ds k) := by
  unfold ky nd
  rw [List.getD_eq_getElem?_getD, List.getD_eq_getElem?_getD, List.getElem?_map, List.getElem?_eq_getElem h]; rfl
theorem there_nat (ds : List Nd) {k : Nat} (h : k < ds.length) : there (ds.map dkey) (k : Nat) = true := by simp [there]; omega
theorem map_erase (ds : List Nd) (k : Nat) : (ds.eraseIdx k).map dkey = (ds.map dkey).eraseIdx k := by rw [List.eraseIdx_eq_take_drop_succ, List.eraseIdx_eq_take_drop_succ, List.map_append, List.map_take, List.map_drop]
theorem swp_keys {ds : List Nd} {i k : Nat} (hi : i < ds.length) (hk : k < ds.length) : (swp ds i k).map dkey = ((ds.map dkey).set i (dkey (nd ds k))).set k (dkey (nd ds i)) := by
  unfold swp
  rw [List.map_set, List.map_set]; rfl
theorem there_split (ds : List Nd) (i : Int) : (∃ k : Nat, i = k ∧ k < ds.length ∧ there (ds.map dkey) i = true) ∨ (¬ (0 ≤ i ∧ i < ds.length) ∧ there (ds.map dkey) i = false) := by
  cases h : there (ds.map dkey) i
  · exact .inr ⟨by rcases there_no h with h | h <;> omega, rfl⟩
  · obtain ⟨k, rfl, hk⟩ := there_yes h; exact .inl ⟨k, rfl, hk, rfl⟩
theorem net_drop (h : Sc w0 w nb mb db L O nds ds lost dlost N f os) (hlo : 0 ≤ lost ∧ lost ≤ 10000) (i : Int) :
    Calls Try.prog 23 #[.pointer (some ⟨nb, 0, none⟩), .int .i64 i] w fun e w' => ∃ nds', e = .returned (.int .i64 (takeS (nds.map dkey) i).1) ∧ Sc w0 w' nb mb db L O nds' ds (if (takeS (nds.map dkey) i).1 = 0 then lost + 1 else lost) dlost N f os ∧ nds'.map dkey = (takeS (nds.map dkey) i).2 ∧ Kp (Both nb mb db L O nds ds) w w' ∧ (∀ b, Mine nb nds' b → Mine nb nds b ∨ w.heap.size ≤ b) := by
  refine (drop_w h.st.n hlo i).mono ?_
  rintro e w' ⟨nds', lost', hn, hs, (⟨ht, rfl, rfl, rfl⟩ | ⟨k, rfl, hk, rfl, rfl, rfl⟩)⟩
  · have e1 : takeS (nds'.map dkey) i = (6, nds'.map dkey) := by unfold takeS; rw [ht]; rfl
    rw [e1]
    exact ⟨nds', rfl, by simpa using h.net hn hs, rfl, hs.1.mono (fun _ _ h => .inl h), hs.2⟩
  · have e1 : takeS (nds.map dkey) (k : Nat) = (0, (nds.map dkey).eraseIdx k) := by unfold takeS; rw [there_nat nds hk]; rfl
    rw [e1]
    exact ⟨_, rfl, by simpa using h.net hn hs, map_erase _ _, hs.1.mono (fun _ _ h => .inl h), hs.2⟩
theorem doc_drop (h : Sc w0 w nb mb db L O nds ds lost dlost N f os) (hds : ds.length ≤ 2000) (hlo : 0 ≤ dlost ∧ dlost ≤ 10000) (i : Int) :
    Calls Try.prog 41 #[.pointer (some ⟨db, 0, none⟩), .int .i64 i] w fun e w' => ∃ L' ds', e = .returned (.int .i64 (takeS (ds.map dkey) i).1) ∧ Sc w0 w' nb mb db L' O nds ds' lost (if (takeS (ds.map dkey) i).1 = 0 then dlost + 1 else dlost) N f os ∧ ds'.map dkey = (takeS (ds.map dkey) i).2 ∧ Kp (Both nb mb db L O nds ds) w w' ∧ (∀ b, DMine db L' O ds' b → DMine db L O ds b ∨ w.heap.size ≤ b) := by
  rcases there_split ds i with ⟨k, rfl, hk, ht⟩ | ⟨hi, ht⟩
  · refine (ddrop_yes h.d k hk hds hlo).mono ?_
    rintro e w' ⟨rfl, L', hd, hs⟩
    have e1 : takeS (ds.map dkey) (k : Nat) = (0, (ds.map dkey).eraseIdx k) := by unfold takeS; rw [ht]; rfl
    rw [e1]
    exact ⟨L', _, rfl, by simpa using h.doc hd hs, map_erase _ _, hs.1.mono (fun _ _ h => .inr h), hs.2⟩
  · refine (ddrop_no h.d i hi).mono ?_
    rintro e w' ⟨rfl, k⟩
    have e1 : takeS (ds.map dkey) i = (6, ds.map dkey) := by unfold takeS; rw [ht]; rfl
    rw [e1]
    exact ⟨L, ds, rfl, by simpa using h.kp0 k, rfl, k.mono (fun _ _ h => h.elim), fun b hb => .inl hb⟩
theorem net_copy (h : Sc w0 w nb mb db L O nds ds lost dlost N f os) (i : Int) :
    Calls Try.prog 29 #[.pointer (some ⟨nb, 0, none⟩), .int .i64 i] w fun e w' => ∃ nds', e = .returned (.int .i64 (copyS (nds.map dkey) i).1) ∧ Sc w0 w' nb mb db L O nds' ds lost dlost N f os ∧ nds'.map dkey = (copyS (nds.map dkey) i).2 ∧ Kp (Both nb mb db L O nds ds) w w' ∧ (∀ b, Mine nb nds' b → Mine nb nds b ∨ w.heap.size ≤ b) := by
  refine (copy_w h.st.n i).mono ?_
  rintro e w' ⟨nds', hn, hs, (⟨ht, rfl, rfl⟩ | ⟨k, rfl, hk, hl, rfl, rfl⟩ | ⟨k, d, rfl, hk, hl, rfl, hd, rfl⟩)⟩
  · have e1 : copyS (nds'.map dkey) i = (6, nds'.map dkey) := by unfold copyS; rw [ht]; rfl
    rw [e1]
    exact ⟨nds', rfl, h.net hn hs, rfl, hs.1.mono (fun _ _ h => .inl h), hs.2⟩
  · have e1 : copyS (nds'.map dkey) (k : Nat) = (8, nds'.map dkey) := by unfold copyS; rw [there_nat nds' hk, if_pos rfl, if_pos (by simp; omega)]
    rw [e1]
    exact ⟨nds', rfl, h.net hn hs, rfl, hs.1.mono (fun _ _ h => .inl h), hs.2⟩
  · have e1 : copyS (nds.map dkey) (k : Nat) = (0, nds.map dkey ++ [dkey (nd nds k)]) := by unfold copyS; rw [there_nat nds hk, if_pos rfl, if_neg (by simp; omega), Int.toNat_natCast, ky_nd nds hk]
    rw [e1]
    exact ⟨_, rfl, h.net hn hs, by rw [List.map_append, List.map_singleton, hd], hs.1.mono (fun _ _ h => .inl h), hs.2⟩
theorem doc_copy (h : Sc w0 w nb mb db L O nds ds lost dlost N f os) (hds : ds.length ≤ 2000) (hm : ∀ k, k < ds.length → (nd ds k).l.length ≤ 1000000) (i : Int) :
    Calls Try.prog 42 #[.pointer (some ⟨db, 0, none⟩), .int .i64 i] w fun e w' => ∃ L' ds', e = .returned (.int .i64 (copyS (ds.map dkey) i).1) ∧ Sc w0 w' nb mb db L' O nds ds' lost dlost N f os ∧ ds'.map dkey = (copyS (ds.map dkey) i).2 ∧ Kp (Both nb mb db L O nds ds) w w' ∧ (∀ b, DMine db L' O ds' b → DMine db L O ds b ∨ w.heap.size ≤ b) := by
  rcases there_split ds i with ⟨k, rfl, hk, ht⟩ | ⟨hi, ht⟩
  · by_cases hr : 2000 ≤ ds.length
    · refine (dcopy_full h.d (k : Nat) (by omega) hr).mono ?_
      rintro e w' ⟨rfl, rfl⟩
      have e1 : copyS (ds.map dkey) (k : Nat) = (8, ds.map dkey) := by unfold copyS; rw [ht, if_pos rfl, if_pos (by simpa using hr)]
      rw [e1]
      exact ⟨L, ds, rfl, h, rfl, Kp.refl _ _, fun b hb => .inl hb⟩
    · refine (dcopy_ok h.d k hk (hm k hk) (by omega)).mono ?_
      rintro e w' ⟨rfl, L', d, hd, hs, d1, d2, d3⟩
      have e1 : copyS (ds.map dkey) (k : Nat) = (0, ds.map dkey ++ [dkey (nd ds k)]) := by unfold copyS; rw [ht, if_pos rfl, if_neg (by simpa using hr), Int.toNat_natCast, ky_nd ds hk]
      rw [e1]
      exact ⟨L', _, rfl, h.doc hd hs, by rw [List.map_append, List.map_singleton]; unfold dkey; rw [d1, d2, d3], hs.1.mono (fun _ _ h => .inr h), hs.2⟩
  · refine (dcopy_no h.d i hi).mono ?_
    rintro e w' ⟨rfl, rfl⟩
    have e1 : copyS (ds.map dkey) i = (6, ds.map dkey) := by unfold copyS; rw [ht]; rfl
    rw [e1]
    exact ⟨L, ds, rfl, h, rfl, Kp.refl _ _, fun b hb => .inl hb⟩
theorem net_turn (h : Sc w0 w nb mb db L O nds ds lost dlost N f os) (i bit : Int) (hw : i64in bit) :
    Calls Try.prog 17 #[.pointer (some ⟨nb, 0, none⟩), .int .i64 i, .int .i64 bit] w fun e w' => ∃ nds', e = .returned (.int .i64 (turnS (nds.map dkey) i bit).1) ∧ Sc w0 w' nb mb db L O nds' ds lost dlost N f os ∧ nds'.map dkey = (turnS (nds.map dkey) i bit).2 ∧ Kp (Both nb mb db L O nds ds) w w' ∧ (∀ b, Mine nb nds' b → Mine nb nds b ∨ w.heap.size ≤ b) := by
  refine (turn_w h.st.n i bit hw).mono ?_
  rintro e w' ⟨nds', hn, hs, (⟨ht, rfl, rfl⟩ | ⟨k, rfl, hk, hb, rfl, rfl⟩ | ⟨k, q, rfl, rfl, hk, hq, rfl, rfl⟩)⟩
  · have e1 : turnS (nds'.map dkey) i bit = (6, nds'.map dkey) := by unfold turnS; rw [ht]; rfl
    rw [e1]
    exact ⟨nds', rfl, h.net hn hs, rfl, hs.1.mono (fun _ _ h => .inl h), hs.2⟩
  · have e1 : turnS (nds'.map dkey) (k : Nat) bit = (5, nds'.map dkey) := by unfold turnS; rw [there_nat nds' hk, if_pos rfl, Int.toNat_natCast, ky_nd nds' hk]; exact if_pos hb
    rw [e1]
    exact ⟨nds', rfl, h.net hn hs, rfl, hs.1.mono (fun _ _ h => .inl h), hs.2⟩
  · have e1 : turnS (nds.map dkey) (k : Nat) (q : Nat) = (0, (nds.map dkey).set k ((nd nds k).fr, (nd nds k).to, turnB (nd nds k).l q)) := by
      unfold turnS; rw [there_nat nds hk, if_pos rfl, Int.toNat_natCast, ky_nd nds hk]; exact if_neg (by simp only [dkey]; omega)
    rw [e1]
    exact ⟨_, rfl, h.net hn hs, by rw [List.map_set]; rfl, hs.1.mono (fun _ _ h => .inl h), hs.2⟩
theorem doc_turn (h : Sc w0 w nb mb db L O nds ds lost dlost N f os) (hds : ds.length ≤ 2000) (hm : ∀ k, k < ds.length → (nd ds k).l.length ≤ 1000000) (i bit : Int) (hw : i64in bit) :
    Calls Try.prog 43 #[.pointer (some ⟨db, 0, none⟩), .int .i64 i, .int .i64 bit] w fun e w' => ∃ ds', e = .returned (.int .i64 (turnS (ds.map dkey) i bit).1) ∧ Sc w0 w' nb mb db L O nds ds' lost dlost N f os ∧ ds'.map dkey = (turnS (ds.map dkey) i bit).2 ∧ Kp (Both nb mb db L O nds ds) w w' ∧ (∀ b, DMine db L O ds' b → DMine db L O ds b ∨ w.heap.size ≤ b) := by
  rcases there_split ds i with ⟨k, rfl, hk, ht⟩ | ⟨hi, ht⟩
  · by_cases hb : bit < 0 ∨ 8 * ((nd ds k).l.length : Int) ≤ bit
    · refine (dturn_range h.d k bit hk hw (hm k hk) hb).mono ?_
      rintro e w' ⟨rfl, rfl⟩
      have e1 : turnS (ds.map dkey) (k : Nat) bit = (5, ds.map dkey) := by unfold turnS; rw [ht, if_pos rfl, Int.toNat_natCast, ky_nd ds hk]; exact if_pos hb
      rw [e1]
      exact ⟨ds, rfl, h, rfl, Kp.refl _ _, fun b hb => .inl hb⟩
    · obtain ⟨q, rfl⟩ : ∃ q : Nat, bit = (q : Nat) := ⟨bit.toNat, by omega⟩
      refine (dturn_yes h.d k q hk hds (hm k hk) (by omega)).mono ?_
      rintro e w' ⟨rfl, d, hd, d1, d2, d3, hs⟩
      have e1 : turnS (ds.map dkey) (k : Nat) (q : Nat) = (0, (ds.map dkey).set k ((nd ds k).fr, (nd ds k).to, turnB (nd ds k).l q)) := by
        unfold turnS; rw [ht, if_pos rfl, Int.toNat_natCast, ky_nd ds hk]; exact if_neg hb
      rw [e1]
      exact ⟨_, rfl, h.doc hd hs, by rw [List.map_set]; unfold dkey; rw [d1, d2, d3], hs.1.mono (fun _ _ h => .inr h), hs.2⟩
  · refine (dturn_no h.d i bit hi).mono ?_
    rintro e w' ⟨rfl, rfl⟩
    have e1 : turnS (ds.map dkey) i bit = (6, ds.map dkey) := by unfold turnS; rw [ht]; rfl
    rw [e1]
    exact ⟨ds, rfl, h, rfl, Kp.refl _ _, fun b hb => .inl hb⟩
theorem net_swap (h : Sc w0 w nb mb db L O nds ds lost dlost N f os) (i k : Int) :
    Calls Try.prog 16 #[.pointer (some ⟨nb, 0, none⟩), .int .i64 i, .int .i64 k] w fun e w' => ∃ nds', e = .returned (.int .i64 (swapS (nds.map dkey) i k).1) ∧ Sc w0 w' nb mb db L O nds' ds lost dlost N f os ∧ nds'.map dkey = (swapS (nds.map dkey) i k).2 ∧ Kp (Both nb mb db L O nds ds) w w' ∧ (∀ b, Mine nb nds' b → Mine nb nds b ∨ w.heap.size ≤ b) := by
  refine (swap_w h.st.n i k).mono ?_
  rintro e w' ⟨nds', hn, hs, (⟨ht, rfl, rfl⟩ | ⟨p, q, rfl, rfl, hp, hq, rfl, rfl⟩)⟩
  · have e1 : swapS (nds'.map dkey) i k = (6, nds'.map dkey) := by unfold swapS; rw [ht]; rfl
    rw [e1]
    exact ⟨nds', rfl, h.net hn hs, rfl, hs.1.mono (fun _ _ h => .inl h), hs.2⟩
  · have e1 : swapS (nds.map dkey) (p : Nat) (q : Nat) = (0, ((nds.map dkey).set p (dkey (nd nds q))).set q (dkey (nd nds p))) := by
      unfold swapS; rw [there_nat nds hp, there_nat nds hq, Bool.and_self, if_pos rfl, Int.toNat_natCast, Int.toNat_natCast, ky_nd nds hp, ky_nd nds hq]
    rw [e1]
    exact ⟨_, rfl, h.net hn hs, swp_keys hp hq, hs.1.mono (fun _ _ h => .inl h), hs.2⟩
theorem doc_swap (h : Sc w0 w nb mb db L O nds ds lost dlost N f os) (hds : ds.length ≤ 2000) (i k : Int) :
    Calls Try.prog 44 #[.pointer (some ⟨db, 0, none⟩), .int .i64 i, .int .i64 k] w fun e w' => ∃ ds', e = .returned (.int .i64 (swapS (ds.map dkey) i k).1) ∧ Sc w0 w' nb mb db L O nds ds' lost dlost N f os ∧ ds'.map dkey = (swapS (ds.map dkey) i k).2 ∧ Kp (Both nb mb db L O nds ds) w w' ∧ (∀ b, DMine db L O ds' b → DMine db L O ds b ∨ w.heap.size ≤ b) := by
  have no : (¬ (0 ≤ i ∧ i < ds.length) ∨ ¬ (0 ≤ k ∧ k < ds.length)) → (there (ds.map dkey) i && there (ds.map dkey) k) = false → Calls Try.prog 44 #[.pointer (some ⟨db, 0, none⟩), .int .i64 i, .int .i64 k] w fun e w' => ∃ ds', e = .returned (.int .i64 (swapS (ds.map dkey) i k).1) ∧ Sc w0 w' nb mb db L O nds ds' lost dlost N f os ∧ ds'.map dkey = (swapS (ds.map dkey) i k).2 ∧ Kp (Both nb mb db L O nds ds) w w' ∧ (∀ b, DMine db L O ds' b → DMine db L O ds b ∨ w.heap.size ≤ b) := fun hi ht => by
    refine (dswap_no h.d i k hi).mono ?_
    rintro e w' ⟨rfl, rfl⟩
    have e1 : swapS (ds.map dkey) i k = (6, ds.map dkey) := by unfold swapS; rw [ht]; rfl
    rw [e1]
    exact ⟨ds, rfl, h, rfl, Kp.refl _ _, fun b hb => .inl hb⟩
  rcases there_split ds i with ⟨p, rfl, hp, ht⟩ | ⟨hi, ht⟩
  · rcases there_split ds k with ⟨q, rfl, hq, ht2⟩ | ⟨hi2, ht2⟩
    · refine (dswap_ok h.d p q hp hq hds).mono ?_
      rintro e w' ⟨rfl, hd, hs⟩
      have e1 : swapS (ds.map dkey) (p : Nat) (q : Nat) = (0, ((ds.map dkey).set p (dkey (nd ds q))).set q (dkey (nd ds p))) := by
        unfold swapS; rw [ht, ht2, Bool.and_self, if_pos rfl, Int.toNat_natCast, Int.toNat_natCast, ky_nd ds hp, ky_nd ds hq]
      rw [e1]
      have hbn : ∀ b, DMine db L O (swp ds p q) b → DMine db L O ds b ∨ w.heap.size ≤ b := fun b hb => .inl (by
        rcases hb with hb | hb | hb
        · exact .inl hb
        · exact .inr (.inl hb)
        · exact .inr (.inr (of_swap hp hq hb)))
      exact ⟨_, rfl, h.doc hd ⟨hs, hbn⟩, swp_keys hp hq, hs.mono (fun _ _ h => .inr h), hbn⟩
    · exact no (.inr hi2) (by rw [ht, ht2]; rfl)
  · exact no (.inl hi) (by rw [ht]; rfl)
def cutS (a b : Int) : Int := if isEnd a && isEnd b then 0 else 2
theorem net_cut (h : Sc w0 w nb mb db L O nds ds lost dlost N f os) (hN : N ≤ 10000) (a b : Int) (is : Bool) :
    Calls Try.prog 18 #[.pointer (some ⟨nb, 0, none⟩), .int .i64 a, .int .i64 b, .bool is] w fun e w' => ∃ f', e = .returned (.int .i64 (cutS a b)) ∧ Sc w0 w' nb mb db L O nds ds lost dlost (N + 1) f' os ∧ ((isEnd a && isEnd b) = false → f' = f) ∧ ((isEnd a && isEnd b) = true → f' (pairV a b) = is ∧ ∀ u, u ≠ pairV a b → f' u = f u) ∧ Kp (Both nb mb db L O nds ds) w w' := by
  refine (cut_w h.st.n hN a b is).mono ?_
  rintro e w' ⟨f', hn, hs, (⟨ht, rfl, rfl⟩ | ⟨ht, h1, h2, rfl⟩)⟩
  · refine ⟨f', by unfold cutS; rw [ht]; rfl, h.net hn hs, fun _ => rfl, fun e => ?_, hs.1.mono (fun _ _ h => .inl h)⟩
    rw [ht] at e; cases e
  · refine ⟨f', by unfold cutS; rw [ht]; rfl, h.net hn hs, fun e => ?_, fun _ => ⟨h1, h2⟩, hs.1.mono (fun _ _ h => .inl h)⟩
    rw [ht] at e; cases e
theorem wo_len (os : List (Int × Int)) (p : Int × Int) : (wo os p).length ≤ os.length := List.length_filter_le _ _
theorem prOf_V_inj {a b c d : Int} (h : pairV a b = pairV c d) : prOf a b = prOf c d := by
  unfold pairV at h
  simp only [Value.agg.injEq, Array.mk.injEq, List.cons.injEq, Value.int.injEq, true_and, and_true] at h
  exact Prod.ext h.1 h.2
theorem doc_cut (h : Sc w0 w nb mb db L O nds ds lost dlost N f os) (hn : os.length ≤ 10000) (a b : Int) (is : Bool) :
    Calls Try.prog 45 #[.pointer (some ⟨db, 0, none⟩), .int .i64 a, .int .i64 b, .bool is] w fun e w' => ∃ O' os', e = .returned (.int .i64 (cutS a b)) ∧ Sc w0 w' nb mb db L O' nds ds lost dlost N f os' ∧ os'.length ≤ os.length + 1 ∧ ((isEnd a && isEnd b) = false → os' = os) ∧ ((isEnd a && isEnd b) = true → os' = wo os (prOf a b) ++ if is then [prOf a b] else []) ∧ Kp (Both nb mb db L O nds ds) w w' ∧ (∀ b, DMine db L O' ds b → DMine db L O ds b ∨ w.heap.size ≤ b) := by
  cases ht : (isEnd a && isEnd b)
  · refine (dcutf_arg a b is w (by cases h1 : isEnd a; exact .inl rfl; exact .inr (by rw [h1] at ht; simpa using ht))).mono ?_
    rintro e w' ⟨rfl, rfl⟩
    exact ⟨O, os, by unfold cutS; rw [ht]; rfl, h, by omega, fun _ => rfl, (fun e => by cases e), Kp.refl _ _, fun b hb => .inl hb⟩
  · simp only [Bool.and_eq_true] at ht
    refine (dcutf_yes h.d hn a b is ht.1 ht.2).mono ?_
    rintro e w' ⟨rfl, O', hd, hs⟩
    refine ⟨O', _, by unfold cutS; rw [ht.1, ht.2]; rfl, h.doc hd hs, ?_, (fun e => by cases e), fun _ => rfl, hs.1.mono (fun _ _ h => .inr h), hs.2⟩
    have := wo_len os (prOf a b)
    rw [List.length_append]
    split <;> simp <;> omega
theorem offR_cut {a b : Int} {is : Bool} (h : offR f os) (h1 : (isEnd a && isEnd b) = false → f' = f) (h2 : (isEnd a && isEnd b) = true → f' (pairV a b) = is ∧ ∀ u, u ≠ pairV a b → f' u = f u) (h3 : (isEnd a && isEnd b) = false → os' = os) (h4 : (isEnd a && isEnd b) = true → os' = wo os (prOf a b) ++ if is then [prOf a b] else []) : offR f' os' := by
  cases ht : (isEnd a && isEnd b)
  · rw [h1 ht, h3 ht]; exact h
  · obtain ⟨e1, e2⟩ := h2 ht
    rw [h4 ht]
    intro c d
    by_cases hp : prOf c d = prOf a b
    · have hv : pairV c d = pairV a b := by rw [prOf_V, prOf_V, hp]
      rw [hv, e1, hp]
      cases is <;> simp [wo]
    · rw [e2 _ (fun e => hp (prOf_V_inj e)), h c d]
      cases is <;> simp [wo, hp]
theorem net_send (h : Sc w0 w nb mb db L O nds ds lost dlost N f os) (hlo : 0 ≤ lost ∧ lost ≤ 10000) (fr to : Int) (a : Option Addr) (n c : Nat) (l : List Int) (hn : n = l.length) (hb : RdB w a l) :
    Calls Try.prog 11 #[.pointer (some ⟨nb, 0, none⟩), .agg #[.int .i64 fr, .int .i64 to, .slice a n c]] w fun e w' => ∃ nds' lost' r, e = .returned (.int .i64 r) ∧ Sc w0 w' nb mb db L O nds' ds lost' dlost N f os ∧ (r, nds'.map dkey, lost') = sendS f (nds.map dkey) lost fr to l ∧ Kp (Both nb mb db L O nds ds) w w' ∧ (∀ b, Mine nb nds' b → Mine nb nds b ∨ w.heap.size ≤ b) := by
  subst hn
  refine (send_w h.st.n hlo fr to a c l hb).mono ?_
  rintro e w' ⟨nds', lost', r, rfl, hn, hs, he⟩
  exact ⟨nds', lost', r, rfl, h.net hn hs, he, hs.1.mono (fun _ _ h => .inl h), hs.2⟩
theorem doc_send (h : Sc w0 w nb mb db L O nds ds lost dlost N f os) (hoff : offR f os) (hos : os.length ≤ 10000) (hds : ds.length ≤ 2000) (hlo : 0 ≤ dlost ∧ dlost ≤ 10000) (fr to : Int) (a : Option Addr) (n c : Nat) (l : List Int) (hn : n = l.length) (hb : RdB w a l) :
    Calls Try.prog 47 #[.pointer (some ⟨db, 0, none⟩), .agg #[.int .i64 fr, .int .i64 to, .slice a n c]] w fun e w' => ∃ L' ds' dlost' r, e = .returned (.int .i64 r) ∧ Sc w0 w' nb mb db L' O nds ds' lost dlost' N f os ∧ (r, ds'.map dkey, dlost') = sendS f (ds.map dkey) dlost fr to l ∧ Kp (Both nb mb db L O nds ds) w w' ∧ (∀ b, DMine db L' O ds' b → DMine db L O ds b ∨ w.heap.size ≤ b) := by
  unfold sendS
  by_cases he : (isEnd fr && isEnd to) = true
  · rw [if_pos he]
    simp only [Bool.and_eq_true] at he
    by_cases hl : 1500 < l.length
    · rw [if_pos hl]
      refine (dsend_long h.d hos hds fr to a n c l hn hb he.1 he.2 (by omega)).mono ?_
      rintro e w' ⟨rfl, k⟩
      exact ⟨_, _, _, _, rfl, h.kp0 k, rfl, k.mono (fun _ _ h => h.elim), fun b hb => .inl hb⟩
    · rw [if_neg hl]
      have ho := hoff fr to
      cases hf : f (pairV fr to)
      · rw [if_neg (by simp)]
        rw [hf] at ho
        by_cases hr : 2000 ≤ ds.length
        · rw [if_pos (by simpa using hr)]
          refine (dsend_full h.d hos hds fr to a n c l hn hb he.1 he.2 (by omega) ho.symm hr).mono ?_
          rintro e w' ⟨rfl, k⟩
          exact ⟨_, _, _, _, rfl, h.kp0 k, rfl, k.mono (fun _ _ h => h.elim), fun b hb => .inl hb⟩
        · rw [if_neg (by simpa using hr)]
          refine (dsend_ok h.d hos hds fr to a n c l hn hb he.1 he.2 (by omega) ho.symm (by omega)).mono ?_
          rintro e w' ⟨rfl, L', d, hd, hs, d1, d2, d3⟩
          exact ⟨_, _, _, _, rfl, h.doc hd hs, by rw [List.map_append, List.map_singleton]; unfold dkey; rw [d1, d2, d3], hs.1.mono (fun _ _ h => .inr h), hs.2⟩
      · rw [if_pos rfl]
        rw [hf] at ho
        refine (dsend_cut h.d hos hds fr to a n c l hn hb he.1 he.2 (by omega) hlo ho.symm).mono ?_
        rintro e w' ⟨rfl, hd, k⟩
        exact ⟨_, _, _, _, rfl, h.doc hd ⟨k.mono (fun _ _ e => .inl e), fun b hb => .inl hb⟩, rfl, k.mono (fun _ _ e => .inr (.inl e)), fun b hb => .inl hb⟩
  · rw [if_neg he]
    refine (dsend_arg h.d hos hds fr to a n c l hn hb (by
      simp only [Bool.and_eq_true, not_and] at he
      cases h1 : isEnd fr
      · exact .inl rfl
      · exact .inr (by have := he h1; simpa using this))).mono ?_
    rintro e w' ⟨rfl, k⟩
    exact ⟨_, _, _, _, rfl, h.kp0 k, rfl, k.mono (fun _ _ h => h.elim), fun b hb => .inl hb⟩
end
end Go.Proofs.Ytgcgcdgjooaipaa
