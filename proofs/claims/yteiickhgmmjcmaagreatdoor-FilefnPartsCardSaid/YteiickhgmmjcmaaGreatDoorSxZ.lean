/-
  From a function's contract to what a row says.
-/
import Derived.Test.YteiickhgmmjcmaaGreatDoorSxQ
import Derived.Test.YteiickhgmmjcmaaGreatDoorCards
import Derived.Test.YteiickhgmmjcmaaGreatDoorTie
import Derived.WalkKit
import Derived.ProofKit
import Derived.OpenShut
import Derived.SliceStrings
import Derived.ChangeMaps5
import Derived.WideKeyArgs
import Derived.Deep.DeepHandedRow
import Derived.Deep.DeepWitnessRowRef
import Derived.Lay
set_option linter.unusedVariables false
set_option linter.unusedSimpArgs false
namespace Go.Proofs.YteiickhgmmjcmaaGreatDoor.Sx
open Go Go.RowKit Go.ChangeShapes Go.WideShapes Go.ChangeAt Go.ChangeMaps

theorem trodAll_stays {H : Type} {enc : TypeId × Value → H} {P : Program} {W W' : World} {sp : Nat → Bool} (hl : laidOutB P = true) :
    ∀ {ts : List TypeId} {vs : List Value} {ds : List (DataW H)} {ps : List MemPlace}, (∀ t ∈ ts, P.readableRec t = true ∧ t < P.types.size) →
      DataW.TrodAll enc P W 0 (fun _ => true) true ts vs ds ps → (∀ p ∈ ps, W.sameAt W' p) → (∀ p ∈ ps, sp p.block = true) → DataW.TrodAll enc P W' 0 sp true ts vs ds ps
  | [], vs, ds, ps, _, h, _, _ => by
    obtain ⟨rfl, rfl, rfl⟩ := trodAll_nil h
    exact trodAll_mk0
  | t :: ts, vs, ds, ps, ht, h, hs, hp => by
    obtain ⟨v, vs', d, ds', p, q, rfl, rfl, rfl, h1, h2⟩ := trodAll_cons h
    refine trodAll_cons_mk (WideElems.Trod_stays hl (ht t List.mem_cons_self).1 (ht t List.mem_cons_self).2 h1 (fun x hx => hs x (List.mem_append_left _ hx)) (fun x hx => hp x (List.mem_append_left _ hx)))
      (trodAll_stays hl (fun u hu => ht u (List.mem_cons_of_mem _ hu)) h2 (fun x hx => hs x (List.mem_append_right _ hx)) (fun x hx => hp x (List.mem_append_right _ hx)))

/-- What a call leaves behind, where only what was there is asked to stay. -/
theorem post_stays {H : Type} {enc : TypeId × Value → H} {P : Program} {f : Func} {s : ChangeSpec} {apart fresh handsOn again : Bool} {W W' : World} {args : Array Value} {v : Value} {ds gs : List (DataW H)} {before : List MemPlace}
    (hW : DataW.Whole enc P f.params.toList s.vars apart W args.toList ds gs before)
    (hres : ∀ (b : Nat) (sp : Nat → Bool) (hd : Bool), DataW.TrodAll enc P W' b sp hd f.resultTypes.toList (v.resultList f.resultTypes.size) (s.fn H (ds ++ gs)).results [])
    (hargs : ∀ sp : Nat → Bool, (∀ p ∈ before, sp p.block = true) → DataW.TrodAll enc P W' 0 sp true f.params.toList args.toList (s.fn H (ds ++ gs)).args before)
    (hvars : ∀ sp : Nat → Bool, DataW.TrodVars enc P W' sp s.vars (s.fn H (ds ++ gs)).vars [])
    (hb : Below W.heap.size W W')
    (hok : ∀ (j : Nat) (t : TypeId) (r : Value), f.resultTypes[j]? = some t → (v.resultList f.resultTypes.size)[j]? = some r → Value.okWide P W' .any 0 t r) :
    s.post enc P f apart fresh handsOn again W args v W' := by
  have hlt := hW.lt
  have old : ∀ p ∈ before, (fun b => decide (b < W.heap.size)) p.block = true := fun p hp => decide_eq_true (hlt p hp)
  refine ⟨ds, gs, before, [], before, [], hW, hres _ _ _, hargs _ old, hvars _, hb.frame _, fun _ => ?_⟩
  obtain ⟨_, _, _, _, _, hz, hn⟩ := hW
  refine ⟨hok, _, _, ([] ++ before) ++ [], ⟨[] ++ before, [], trodAll_append (hargs _ fun _ _ => rfl) (hres _ _ _), hvars _, rfl, fun b off hp => ?_, fun ha => by simpa using hn ha⟩, fun p hp _ => by simpa using hp⟩
  have hp' : MemPlace.cell b off ∈ before := by simpa using hp
  rw [hb.frozen (p := ⟨b, off, none⟩) (hlt _ hp')]
  exact hz b off hp'

def rho0 : Rho := fun _ => ⟨0, none, 0, 0, []⟩
/-- A call as the row sees it: what was there stays; the answer is true. -/
theorem law_contract {H : Type} {enc : TypeId × Value → H} {P : Program} {f : FuncId} {fn : Func} {spec : ChangeSpec} {W : World} {args : Array Value} {ds gs : List (DataW H)} {before : List MemPlace} {svs : List SV} {tb : TypeId}
    (hl : laidOutB P = true) (hvars : spec.vars = []) (hts : ∀ t ∈ fn.params.toList, P.readableRec t = true ∧ t < P.types.size) (hres : fn.resultTypes = #[tb]) (htb : P.underlying tb = some .bool) (hgl : GL W.cell?)
    (hW : DataW.Whole enc P fn.params.toList spec.vars false W args.toList ds gs before) (hspec : spec.fn H (ds ++ gs) = { results := [.lit (.bool true)], args := ds ++ gs })
    (hden : SV.denL W.cell? rho0 svs args.toList) (hc : CallV P f svs (vB true)) :
    Calls P f args W fun e W' => ∃ v, e = .returned v ∧ spec.post enc P fn false true false false W args v W' := by
  have hW' := hW
  obtain ⟨p, q, hA, hV, rfl, hfz, hnd⟩ := hW
  rw [hvars] at hV
  obtain ⟨rfl, rfl⟩ := trodVars_none hV
  have hwr : WR ⟨W, W.cell?, fun _ => False, rho0, fun _ => false, []⟩ W.cell? rho0 [] W :=
    ⟨fun _ _ h => h, fun i e h => by simp at h, fun i j e e' b h => by simp at h, rfl, rfl, rfl, Nat.le_refl _, fun _ _ _ => rfl, Mem.le_refl _, fun a v h => .inl ⟨v, h⟩, fun i e b h => by simp at h, hgl, fun i h => (by cases h), fun i h => (by cases h)⟩
  refine (hc.2 _ _ _ W args.toList hwr hden).mono ?_
  rintro e W' ⟨v, τ, rfl, hle, wr, hv⟩
  simp only [SV.den, Den, List.cons.injEq, and_true] at hv
  subst hv
  have hb : Below W.heap.size W W' := ⟨wr.os, wr.tape, wr.output, wr.size, fun k hk => wr.old k hk (fun h => h)⟩
  simp only [List.append_nil] at hspec hW'
  have hsame : ∀ x ∈ p, W.sameAt W' x := fun x hx => hb.same (hW'.lt x hx)
  refine ⟨_, rfl, post_stays hW' (fun b sp hd => ?_) (fun sp hsp => ?_) (fun _ => ?_) hb ?_⟩
  · rw [List.append_nil, hspec, hres]
    exact trodAll_cons_mk (shut_bool htb _) trodAll_mk0
  · rw [List.append_nil, hspec]
    exact trodAll_stays hl hts hA hsame hsp
  · rw [hvars, List.append_nil, hspec]
    rfl
  · exact ok_one hres rfl (okWide_bool_mk htb _)

/-! ### Arguments -/
section
variable {H : Type} {enc : TypeId × Value → H} {P : Program} {W : World} {b0 : Nat} {t e : TypeId} {v : Value} {d : DataW H} {p : List MemPlace}
theorem rdBool (ht : P.underlying t = some .bool) (hval : Value.okWide P W .any b0 t v) (hd : DataW.Trod enc P W 0 (fun _ => true) true t v d p) : ∃ x : Bool, SV.den W.cell? rho0 (vB x) v := by
  obtain ⟨x, rfl, _⟩ := open_bool ht hval hd
  exact ⟨x, rfl⟩
theorem rdInt {k : IntKind} (ht : P.underlying t = some (.int k)) (hval : Value.okWide P W .any b0 t v) (hd : DataW.Trod enc P W 0 (fun _ => true) true t v d p) : ∃ x : Int, SV.den W.cell? rho0 (.val (.int k) x) v ∧ (Lit.int k x).wf = true := by
  obtain ⟨x, rfl, _, _, hx⟩ := open_int ht hval hd
  exact ⟨x, rfl, hx⟩
theorem rdStr (ht : P.underlying t = some .string) (hval : Value.okWide P W .any b0 t v) (hd : DataW.Trod enc P W 0 (fun _ => true) true t v d p) : ∃ x : Str, SV.den W.cell? rho0 (vS x) v ∧ x.length ≤ maxLen := by
  obtain ⟨s, rfl, _, _, hs⟩ := open_string ht hval hd
  refine ⟨s.data.toList, ?_, by rw [Array.length_toList]; exact hs⟩
  simp only [SV.den, Den, List.cons.injEq, and_true, strV, Array.toArray_toList]
/-- A slice of single cells. -/
theorem den_slice {σ : Mem} {ρ : Rho} {ty : Ty} (h1 : ty.cells = 1) {ad : Addr} {n c : Nat} {x : List ty.D} (hn : n = x.length) (hc : n ≤ c) (hm : c ≤ maxLen)
    (h : ∀ (i : Nat) y, x[i]? = some y → ∃ u, Den σ ty y [u] ∧ σ (ad.add i) = some u) : SV.den σ ρ (.val (.list ty) x) (.slice (some ad) n c) := by
  refine ⟨some ad, n, c, rfl, hn, hc, hm, fun _ => ⟨ad, rfl, fun i y hy => ?_⟩⟩
  obtain ⟨u, g1, g2⟩ := h i y hy
  refine ⟨[u], g1, fun p v hp => ?_⟩
  cases p with
  | zero =>
    obtain rfl : u = v := by simpa using hp
    rw [h1, Nat.mul_one, Nat.add_zero]
    exact g2
  | succ p => simp at hp
theorem rdInts {k : IntKind} (ht : P.underlying t = some (.slice e)) (he : P.underlying e = some (.int k)) (hc : P.cellsOf e = 1) (hval : Value.okWide P W .any b0 t v) (hd : DataW.Trod enc P W 0 (fun _ => true) true t v d p) :
    ∃ x : List Int, SV.den W.cell? rho0 (.val (.list (.int k)) x) v ∧ (∀ n ∈ x, (Lit.int k n).wf = true) ∧ x.length ≤ maxLen := by
  obtain ⟨a1, len, cap, rfl⟩ := okWide_slice ht hval
  obtain ⟨fuel, hf⟩ := hd
  rcases open_ints ht he hc hf with ⟨hcs, _⟩ | ⟨a, len', cap', zs, hcs, _, hl, hm, hz, _, hcell, hwz⟩
  · simp only [Value.cells, List.cons.injEq, and_true, Value.slice.injEq] at hcs
    obtain ⟨rfl, rfl, rfl⟩ := hcs
    exact ⟨[], ⟨none, 0, 0, rfl, rfl, Nat.le_refl _, Nat.zero_le _, fun h => absurd h (Nat.lt_irrefl _)⟩, (by simp), Nat.zero_le _⟩
  · simp only [Value.cells, List.cons.injEq, and_true, Value.slice.injEq] at hcs
    obtain ⟨rfl, rfl, rfl⟩ := hcs
    simp only [if_true] at hz
    have hlen : len = (zs.take len).length := by rw [List.length_take]; omega
    refine ⟨zs.take len, den_slice (ty := .int k) rfl hlen hl hm fun i y hy => ?_, fun n hn => hwz n (List.mem_of_mem_take hn), by omega⟩
    rw [List.getElem?_take] at hy
    split at hy
    · rename_i hi
      have := hcell i (by omega)
      rw [List.getD_eq_getElem?_getD, hy] at this
      exact ⟨_, rfl, this⟩
    · cases hy
theorem rdBools (ht : P.underlying t = some (.slice e)) (he : P.underlying e = some .bool) (hc : P.cellsOf e = 1) (hval : Value.okWide P W .any b0 t v) (hd : DataW.Trod enc P W 0 (fun _ => true) true t v d p) :
    ∃ x : List Bool, SV.den W.cell? rho0 (.val (.list .bool) x) v ∧ x.length ≤ maxLen := by
  obtain ⟨a1, len, cap, rfl⟩ := okWide_slice ht hval
  obtain ⟨fuel, hf⟩ := hd
  rcases DataW.trod_slice ht hf with ⟨hcs, _⟩ | ⟨a, len', cap', elems, rest, n, _, hcs, _, _, hl, hm, hlen, hel, _, _⟩
  · simp only [Value.cells, List.cons.injEq, and_true, Value.slice.injEq] at hcs
    obtain ⟨rfl, rfl, rfl⟩ := hcs
    exact ⟨[], ⟨none, 0, 0, rfl, rfl, Nat.le_refl _, Nat.zero_le _, fun h => absurd h (Nat.lt_irrefl _)⟩, Nat.zero_le _⟩
  · simp only [Value.cells, List.cons.injEq, and_true, Value.slice.injEq] at hcs
    obtain ⟨rfl, rfl, rfl⟩ := hcs
    have each : ∀ i, i < len → ∃ b, W.cell? (a.add i) = some (.bool b) := fun i hi => by
      have h1 := hel i hi
      rw [hc, Nat.mul_one, List.getElem?_eq_getElem (by omega), Option.bind_eq_some_iff] at h1
      obtain ⟨cs, hcs, hy⟩ := h1
      obtain ⟨b, rfl, _⟩ := DataW.trod_bool he hy
      exact ⟨b, cell_of_cells?_one hcs⟩
    refine ⟨(List.range len).map fun i => match W.cell? (a.add i) with | some (.bool b) => b | _ => false, den_slice (ty := .bool) rfl (by simp) hl hm fun i y hy => ?_, by simp; omega⟩
    rw [List.getElem?_map] at hy
    by_cases hi : i < len
    · obtain ⟨b, hb⟩ := each i hi
      rw [List.getElem?_range hi, Option.map_some, Option.some.injEq, hb] at hy
      subst hy
      exact ⟨_, rfl, hb⟩
    · rw [List.getElem?_eq_none (by simp; omega)] at hy
      cases hy
theorem rdStrs (ht : P.underlying t = some (.slice e)) (he : P.underlying e = some .string) (hc : P.cellsOf e = 1) (hval : Value.okWide P W .any b0 t v) (hd : DataW.Trod enc P W 0 (fun _ => true) true t v d p) :
    ∃ x : List Str, SV.den W.cell? rho0 (vL .str x) v ∧ (∀ s ∈ x, s.length ≤ maxLen) ∧ x.length ≤ maxLen := by
  obtain ⟨a1, len, cap, rfl⟩ := okWide_slice ht hval
  obtain ⟨fuel, hf⟩ := hd
  rcases open_strings ht he hc hf with ⟨hcs, _⟩ | ⟨a, len', cap', zs, hcs, _, hl, hm, hz, _, hcell, hwz⟩
  · simp only [Value.cells, List.cons.injEq, and_true, Value.slice.injEq] at hcs
    obtain ⟨rfl, rfl, rfl⟩ := hcs
    exact ⟨[], ⟨none, 0, 0, rfl, rfl, Nat.le_refl _, Nat.zero_le _, fun h => absurd h (Nat.lt_irrefl _)⟩, (by simp), Nat.zero_le _⟩
  · simp only [Value.cells, List.cons.injEq, and_true, Value.slice.injEq] at hcs
    obtain ⟨rfl, rfl, rfl⟩ := hcs
    simp only [if_true] at hz
    refine ⟨(zs.take len).map fun s => s.data.toList, den_slice (ty := .str) rfl (by rw [List.length_map, List.length_take]; omega) hl hm fun i y hy => ?_, fun n hn => ?_, by rw [List.length_map, List.length_take]; omega⟩
    · rw [List.getElem?_map, List.getElem?_take] at hy
      split at hy
      · rename_i hi
        have := hcell i (by omega)
        obtain ⟨s, hs, rfl⟩ := Option.map_eq_some_iff.1 hy
        rw [List.getD_eq_getElem?_getD, hs] at this
        refine ⟨_, ?_, this⟩
        simp only [Den, strV, Array.toArray_toList, Option.getD_some]
      · simp at hy
    · obtain ⟨s, hs, rfl⟩ := List.mem_map.1 hn
      rw [Array.length_toList]
      exact hwz s (List.mem_of_mem_take hs)
end
theorem okInt_wf {v : Int} (h : (Lit.int IntKind.i64 v).wf = true) : -9223372036854775808 ≤ v ∧ v ≤ 9223372036854775807 := by
  simp only [Lit.wf, Bool.and_eq_true, decide_eq_true_eq] at h
  have h1 : IntKind.i64.min = -9223372036854775808 := rfl
  have h2 : IntKind.i64.max = 9223372036854775807 := rfl
  omega
theorem okByte_wf {v : Int} (h : (Lit.int IntKind.u8 v).wf = true) : 0 ≤ v ∧ v < 256 := by
  simp only [Lit.wf, Bool.and_eq_true, decide_eq_true_eq] at h
  have h1 : IntKind.u8.min = 0 := rfl
  have h2 : IntKind.u8.max = 255 := rfl
  omega
theorem okInts_wf {l : List Int} (h : ∀ n ∈ l, (Lit.int IntKind.i64 n).wf = true) : ∀ v ∈ l, -9223372036854775808 ≤ v ∧ v ≤ 9223372036854775807 := fun v hv => by
  have := h v hv
  simp only [Lit.wf, Bool.and_eq_true, decide_eq_true_eq] at this
  have h1 : IntKind.i64.min = -9223372036854775808 := rfl
  have h2 : IntKind.i64.max = 9223372036854775807 := rfl
  omega
end Go.Proofs.YteiickhgmmjcmaaGreatDoor.Sx
