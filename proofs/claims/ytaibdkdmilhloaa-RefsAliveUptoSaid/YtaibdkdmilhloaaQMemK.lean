/- append keeps the cells that it appends to. No program in sight. -/
import Derived.Test.YtaibdkdmilhloaaQMem
namespace Go.Proofs.Ytaibdkdmilhloaa
open Go.RowKit
set_option linter.unusedVariables false
theorem append_keeps {P : Program} (w : World) {t tx ty e : TypeId} {z : Value} {size bytes : Nat} (ht : P.underlying t = some (.slice e)) (he : Elem P e z size bytes) {v : Value} {n : Nat} {vs : List Value} (ho : Own w v n size vs)
    {x : Value} {m : Nat} {news : List Value} (hs : Src P size tx x m news w) (hn : n + m ≤ maxLen) (hb : (n + m) * bytes ≤ 140737488355328) {v' : Value} {w' : World} (hr : (Builtin.append_ #[t, tx] ty #[v, x]).run P w = .ok v' w')
    {g c : Nat} (hv : v = .slice (some ⟨g, 0, none⟩) n c) : ∀ i, i < vs.length → w'.cell? ⟨g, i, none⟩ = vs[i]? := by
  obtain ⟨h1, h2, h3, i, hi, hz, hsz, hby⟩ := he
  subst hsz
  subst hby
  have hlen : (vs ++ news).length = (n + m) * i.size := by rw [List.length_append, ho.1, hs.newsLen, Nat.add_mul]
  rcases ho.2 with ⟨rfl, rfl⟩ | ⟨g', cap, sp, rfl, hat, hsp, hle, hcm⟩
  · cases hv
  · simp only [Value.slice.injEq, Option.some.injEq, Addr.mk.injEq, and_true, true_and] at hv
    obtain ⟨rfl, rfl⟩ := hv
    by_cases hroom : n + m ≤ cap
    · have hfit : n * i.size + news.length ≤ (vs ++ sp).length := by
        rw [List.length_append, ho.1, hs.newsLen, hsp]
        have : m * i.size ≤ (cap - n) * i.size := Nat.mul_le_mul_right _ (by omega)
        omega
      rw [run_append_room_src (P := P) w t tx ty e i ht hi g' 0 n cap x m news hs hroom (fun j hj => by rw [hat.cell, List.getElem?_eq_getElem (by omega)]; rfl) (fun j _ => hat.frozen _)] at hr
      simp only [Result.ok.injEq] at hr
      obtain ⟨_, rfl⟩ := hr
      have := hat.setCells news (n * i.size) hfit
      intro j hj
      rw [Nat.zero_add]
      rw [this.cell, List.append_assoc, List.getElem?_append_left (by rw [List.length_take, List.length_append, ho.1]; rw [ho.1] at hj; omega), List.getElem?_take, if_pos (by rw [← ho.1]; exact hj), List.getElem?_append_left hj]
    · have hcells : ∀ j u, vs[j]? = some u → w.drew.cell? ((⟨g', 0, none⟩ : Addr).add j) = some u := fun j u hu => by
        rw [Addr.add_mid, World.cell?_drew, hat.cell, Nat.zero_add, List.getElem?_append_left (List.getElem?_eq_some_iff.1 hu).1]; exact hu
      have hlt : cap < n + m := by omega
      rw [run_append_grow_src (P := P) w t tx ty e i z ht hi hz (some ⟨g', 0, none⟩) n cap vs (run_firstCells_some (P := P) w.drew i.size n _ n cap vs ho.1 hcells) x m news hs hlt (by simp only [maxLen] at hn; omega) (growslice_fits hlt hb)] at hr
      simp only [Result.ok.injEq] at hr
      obtain ⟨_, rfl⟩ := hr
      intro j hj
      rw [((hat.drew).alloc _).cell, List.getElem?_append_left hj]
end Go.Proofs.Ytaibdkdmilhloaa
