/-
  An argument that is a list of entries.
-/
import Derived.Test.YtgmjkciinnjpbaaDoorSxZ
import Derived.Test.YtgmjkciinnjpbaaDoorV10
import Derived.Deep.Strs
set_option linter.unusedVariables false
set_option linter.unusedSimpArgs false
namespace Go.Proofs.YtgmjkciinnjpbaaDoor.Sx
open Go Go.RowKit Go.ChangeShapes Go.WideShapes Go.ChangeAt Go.ChangeMaps

theorem rdEnts {H : Type} {enc : TypeId × Value → H} {P : Program} {W : World} {b0 : Nat} {t e : TypeId} {v : Value} {d : DataW H} {p : List MemPlace} {f0 f1 f2 : Field}
    (ht : P.underlying t = some (.slice e)) (he : P.underlying e = some (.struct #[f0, f1, f2])) (hc : P.cellsOf e = 3) (h0 : P.underlying f0.type = some .string) (h1 : P.underlying f1.type = some .bool) (h2 : P.underlying f2.type = some .string)
    (ho : f0.offset = 0 ∧ f1.offset = 1 ∧ f2.offset = 2) (hk : P.cellsOf f0.type = 1 ∧ P.cellsOf f1.type = 1 ∧ P.cellsOf f2.type = 1)
    (hval : Value.okWide P W .any b0 t v) (hd : DataW.Trod enc P W 0 (fun _ => true) true t v d p) :
    ∃ x : List EntD, SV.den W.cell? rho0 (.val (.list (.st (.prod .str (.prod .bool .str)))) x) v ∧ x.length ≤ maxLen := by
  obtain ⟨a1, len, cap, rfl⟩ := okWide_slice ht hval
  obtain ⟨fuel, hf⟩ := hd
  rcases DataW.trod_slice ht hf with ⟨hcs, _⟩ | ⟨a, len', cap', elems, rest, n, _, hcs, _, _, hl, hm, hlen, hel, _, _⟩
  · simp only [Value.cells, List.cons.injEq, and_true, Value.slice.injEq] at hcs
    obtain ⟨rfl, rfl, rfl⟩ := hcs
    exact ⟨[], ⟨none, 0, 0, rfl, rfl, Nat.le_refl _, Nat.zero_le _, fun h => absurd h (Nat.lt_irrefl _)⟩, Nat.zero_le _⟩
  · simp only [Value.cells, List.cons.injEq, and_true, Value.slice.injEq] at hcs
    obtain ⟨rfl, rfl, rfl⟩ := hcs
    have each : ∀ i, i < len → ∃ y : EntD, ∀ (p : Nat) v, [strV y.1, .bool y.2.1, strV y.2.2][p]? = some v → W.cell? (a.add (i * 3 + p)) = some v := fun i hi => by
      have h3 := hel i hi
      rw [hc, List.getElem?_eq_getElem (by omega), Option.bind_eq_some_iff] at h3
      obtain ⟨cs, hcs, hy⟩ := h3
      obtain ⟨y0, y1, y2, n', _, hcl, g0, g1, g2⟩ := Go.Deep.trod_struct3 he hy
      rw [hc] at hcl
      rw [ho.1, hk.1] at g0
      rw [ho.2.1, hk.2.1] at g1
      rw [ho.2.2, hk.2.2] at g2
      obtain ⟨s0, e0, _⟩ := DataW.trod_string h0 g0
      obtain ⟨b1, e1, _⟩ := DataW.trod_bool h1 g1
      obtain ⟨s2, e2, _⟩ := DataW.trod_string h2 g2
      match cs, hcl with
      | [c0, c1, c2], _ =>
        simp only [List.drop_zero, List.drop_succ_cons, List.take_succ_cons, List.take_zero, List.cons.injEq, and_true] at e0 e1 e2
        subst e0
        subst e1
        subst e2
        refine ⟨(s0.data.toList, b1, s2.data.toList), fun p v hp => ?_⟩
        have h4 := (World.cells?_some hcs).2.2 p (by
          have := (List.getElem?_eq_some_iff.1 hp).1
          simpa using this)
        rw [Addr.add_add] at h4
        rw [h4]
        simp only [strV, Array.toArray_toList] at hp
        exact hp
    have hx : ∀ i : Nat, ∃ y : EntD, i < len → ∀ (p : Nat) v, [strV y.1, .bool y.2.1, strV y.2.2][p]? = some v → W.cell? (a.add (i * 3 + p)) = some v := fun i => by
      by_cases hi : i < len
      · obtain ⟨y, hy⟩ := each i hi
        exact ⟨y, fun _ => hy⟩
      · exact ⟨([], false, []), fun h => absurd h hi⟩
    refine ⟨(List.range len).map fun i => Classical.choose (hx i), ⟨some a, len, cap, rfl, by simp, hl, hm, fun _ => ⟨a, rfl, fun i y hy => ?_⟩⟩, by simp; omega⟩
    rw [List.getElem?_map] at hy
    by_cases hi : i < len
    · rw [List.getElem?_range hi, Option.map_some, Option.some.injEq] at hy
      have hs := Classical.choose_spec (hx i) hi
      rw [hy] at hs
      exact ⟨[strV y.1, .bool y.2.1, strV y.2.2], ⟨[strV y.1], [.bool y.2.1, strV y.2.2], rfl, rfl, [.bool y.2.1], [strV y.2.2], rfl, rfl, rfl⟩, hs⟩
    · rw [List.getElem?_eq_none (by simp; omega)] at hy
      cases hy
end Go.Proofs.YtgmjkciinnjpbaaDoor.Sx
