/-
  Structs, arrays and slices that are written out; one operation that leaves the world alone.
-/
import Derived.Test.YteiickhgmmjcmaaGreatDoorSxE
import Derived.Great.BuildSlice
set_option linter.unusedVariables false
set_option linter.unusedSimpArgs false
namespace Go.Proofs.YteiickhgmmjcmaaGreatDoor.Sx
open Go Go.RowKit

def SV.cellsSV : SV → List SV
  | .agg l => l
  | s => [s]
theorem cells_one {v : Value} (h : ∀ cs, v ≠ .agg cs) : v.cells = #[v] := by
  cases v <;> first | rfl | exact absurd rfl (h _)
theorem cells_den {σ : Mem} {ρ : Rho} {s : SV} {v : Value} (h : SV.den σ ρ s v) : SV.denL σ ρ s.cellsSV v.cells.toList := by
  have one : (∀ cs, v ≠ .agg cs) → s.cellsSV = [s] → SV.denL σ ρ s.cellsSV v.cells.toList := by
    intro hv hs
    rw [hs, cells_one hv]
    exact ⟨v, [], rfl, h, rfl⟩
  cases s with
  | agg l =>
    simp only [SV.den] at h
    obtain ⟨vs, rfl, hd⟩ := h
    simpa [SV.cellsSV, Value.cells] using hd
  | val t x =>
    refine one (fun cs e => ?_) rfl
    simp only [SV.den] at h
    have := Den_one t x _ h v (by simp)
    rw [e] at this
    simp [Value.oneCell'] at this
  | top => exact one (fun cs e => by simp only [SV.den] at h; rw [e] at h; simp [Value.oneCell'] at h) rfl
  | nils => exact one (fun cs e => by simp only [SV.den] at h; rw [e] at h; cases h) rfl
  | nilp => exact one (fun cs e => by simp only [SV.den] at h; rw [e] at h; cases h) rfl
  | nilf => exact one (fun cs e => by simp only [SV.den] at h; rw [e] at h; cases h) rfl
  | fix t l => exact one (fun cs e => by simp only [SV.den] at h; obtain ⟨_, A, n, e'⟩ := h; rw [e'] at e; cases e) rfl
  | own i => exact one (fun cs e => by simp only [SV.den] at h; rw [h] at e; cases e) rfl
  | arr i => exact one (fun cs e => by simp only [SV.den] at h; rw [h] at e; cases e) rfl
  | mp i => exact one (fun cs e => by simp only [SV.den] at h; rw [h] at e; cases e) rfl
  | itr i => exact one (fun cs e => by simp only [SV.den] at h; rw [h] at e; cases e) rfl
  | mptr i => exact one (fun cs e => by simp only [SV.den] at h; rcases h with h | h <;> rw [h] at e <;> cases e) rfl
  | ptr i o => exact one (fun cs e => by simp only [SV.den] at h; rw [h] at e; cases e) rfl
  | sub i n => exact one (fun cs e => by simp only [SV.den] at h; rw [h] at e; cases e) rfl
  | offs i j k n => exact one (fun cs e => by simp only [SV.den] at h; rw [h] at e; cases e) rfl
  | eptr i j k o => exact one (fun cs e => by simp only [SV.den] at h; rw [h] at e; cases e) rfl
  | yv l => exact one (fun cs e => by simp only [SV.den] at h; rw [h] at e; cases e) rfl
  | rptr cs o => exact one (fun cs e => by simp only [SV.den] at h; obtain ⟨b, e', _⟩ := h; rw [e'] at e; cases e) rfl
  | fn f a b => exact one (fun cs e => by simp only [SV.den] at h; obtain ⟨_, _, e', _⟩ := h; rw [e'] at e; cases e) rfl
  | tup l => exact one (fun cs e => by simp only [SV.den] at h; obtain ⟨_, e', _⟩ := h; rw [e'] at e; cases e) rfl

/-- Parts laid over cells. -/
def fillSV (place : Nat → Option (Nat × Nat)) (cells : List SV) : List (Nat × SV) → Option (List SV)
  | [] => some cells
  | (i, s) :: rest => match place i with
    | none => none
    | some (off, size) =>
      if s.cellsSV.length = size ∧ off + size ≤ cells.length then fillSV place (cells.take off ++ s.cellsSV ++ cells.drop (off + size)) rest else none
theorem foldl_splice : ∀ (vs : List Value) (k off : Nat) (cells : List Value), off + k + vs.length ≤ cells.length →
    ((vs.zipIdx k).foldl (fun (cs : Array Value) (x : Value × Nat) => cs.setIfInBounds (off + x.2) x.1) cells.toArray).toList = cells.take (off + k) ++ vs ++ cells.drop (off + k + vs.length)
  | [], k, off, cells, h => by simp
  | v :: vs, k, off, cells, h => by
    simp only [List.length_cons] at h
    simp only [List.zipIdx_cons, List.foldl_cons, List.setIfInBounds_toArray]
    rw [foldl_splice vs (k + 1) off (cells.set (off + k) v) (by simp; omega)]
    have hlt : off + k < cells.length := by omega
    have h1 : (cells.set (off + k) v).take (off + (k + 1)) = cells.take (off + k) ++ [v] := by
      rw [show off + (k + 1) = off + k + 1 by omega, List.take_add_one, List.take_set_of_le (Nat.le_refl _)]
      simp [hlt]
    have h2 : (cells.set (off + k) v).drop (off + (k + 1) + vs.length) = cells.drop (off + k + (vs.length + 1)) := by
      rw [List.drop_set_of_lt (by omega)]
      congr 1
      omega
    rw [h1, h2]
    simp
theorem denL_splice {σ : Mem} {ρ : Rho} {cells part : List SV} {vs ps : List Value} {off : Nat} (h : SV.denL σ ρ cells vs) (hp : SV.denL σ ρ part ps) :
    SV.denL σ ρ (cells.take off ++ part ++ cells.drop (off + part.length)) (vs.take off ++ ps ++ vs.drop (off + ps.length)) := by
  rw [denL_length _ _ hp]
  simp only [denL_append]
  exact ⟨_, _, rfl, ⟨_, _, rfl, denL_take _ _ _ h, hp⟩, denL_drop _ _ _ h⟩
/-- Parts and their values. -/
def PartsR (σ : Mem) (ρ : Rho) : List (Nat × SV) → List (Nat × Value) → Prop
  | [], vs => vs = []
  | (i, s) :: r, vs => ∃ v t, vs = (i, v) :: t ∧ SV.den σ ρ s v ∧ PartsR σ ρ r t
theorem fill_run {σ : Mem} {ρ : Rho} {place : Nat → Option (Nat × Nat)} : ∀ (parts : List (Nat × SV)) (vparts : List (Nat × Value)) (cells : List SV) (vs : List Value) (r : List SV),
    SV.denL σ ρ cells vs → PartsR σ ρ parts vparts → fillSV place cells parts = some r → ∃ rs, Instr.fill place vs.toArray vparts = some (List.toArray rs) ∧ SV.denL σ ρ r rs
  | [], vparts, cells, vs, r, h, hp, hf => by
    simp only [PartsR] at hp
    subst hp
    simp only [fillSV, Option.some.injEq] at hf
    subst hf
    exact ⟨vs, rfl, h⟩
  | (i, s) :: rest, vparts, cells, vs, r, h, hp, hf => by
    simp only [PartsR] at hp
    obtain ⟨v, t, rfl, hd, hr⟩ := hp
    simp only [fillSV] at hf
    split at hf
    · cases hf
    · rename_i off size hpl
      split at hf
      · rename_i hs
        have hc := cells_den hd
        have hlen : v.cells.toList.length = size := by rw [denL_length _ _ hc]; exact hs.1
        have hl : vs.length = cells.length := denL_length _ _ h
        have hsp := denL_splice (off := off) h hc
        rw [hs.1, hlen] at hsp
        obtain ⟨rs, h1, h2⟩ := fill_run rest t _ _ r hsp hr hf
        refine ⟨rs, ?_, h2⟩
        simp only [Instr.fill, hpl]
        rw [if_neg (by simp only [Array.length_toList] at hlen; simp [hlen]; omega)]
        have hfold := foldl_splice v.cells.toList 0 off vs (by rw [hlen]; omega)
        have he : (v.cells.zipIdx.foldl (fun (cs : Array Value) (x : Value × Nat) => cs.setIfInBounds (off + x.2) x.1) vs.toArray) = (vs.take off ++ v.cells.toList ++ vs.drop (off + size)).toArray := by
          apply Array.ext'
          rw [← Array.foldl_toList, Array.toList_zipIdx, hfold, hlen]
          simp
        rw [← h1]
        congr 1
      · cases hf

/-- Parts in their order, one behind the other. -/
def fillSeq (place : Nat → Option (Nat × Nat)) : Nat → List (Nat × SV) → Option (List SV)
  | _, [] => some []
  | off, (i, s) :: rest => match place i with
    | none => none
    | some (o, size) => if o = off ∧ s.cellsSV.length = size then (match fillSeq place (off + size) rest with | some l => some (s.cellsSV ++ l) | none => none) else none
theorem fillSeq_sound {place : Nat → Option (Nat × Nat)} : ∀ (parts : List (Nat × SV)) (off : Nat) (acc rest l : List SV), acc.length = off → fillSeq place off parts = some l → l.length = rest.length → fillSV place (acc ++ rest) parts = some (acc ++ l)
  | [], off, acc, rest, l, ha, h, hl => by
    simp only [fillSeq, Option.some.injEq] at h
    subst h
    obtain rfl : rest = [] := List.length_eq_zero_iff.1 hl.symm
    simp [fillSV]
  | (i, s) :: parts, off, acc, rest, l, ha, h, hl => by
    simp only [fillSeq] at h
    split at h
    · cases h
    · rename_i o size hpl
      split at h
      · rename_i hc
        obtain ⟨rfl, hs⟩ := hc
        split at h
        · rename_i l' hl'
          obtain rfl := Option.some.inj h
          simp only [List.length_append] at hl
          have h1 := fillSeq_sound parts (o + size) (acc ++ s.cellsSV) (rest.drop size) l' (by simp only [List.length_append]; omega) hl' (by rw [List.length_drop]; omega)
          simp only [fillSV, hpl]
          rw [if_pos ⟨hs, by simp only [List.length_append]; omega⟩]
          have e1 : (acc ++ rest).take o = acc := by rw [← ha]; simp
          have e2 : (acc ++ rest).drop (o + size) = rest.drop size := by rw [← ha, List.drop_append]; simp
          rw [e1, e2, h1]
          simp
        · cases h
      · cases h
def fillFast (place : Nat → Option (Nat × Nat)) (cells : List SV) (parts : List (Nat × SV)) : Option (List SV) :=
  match fillSeq place 0 parts with
  | some l => if l.length = cells.length then some l else fillSV place cells parts
  | none => fillSV place cells parts
theorem fillFast_eq {place : Nat → Option (Nat × Nat)} {cells : List SV} {parts : List (Nat × SV)} {r : List SV} (h : fillFast place cells parts = some r) : fillSV place cells parts = some r := by
  unfold fillFast at h
  split at h
  · rename_i l hl
    split at h
    · rename_i he
      obtain rfl := Option.some.inj h
      have := fillSeq_sound parts 0 [] cells l rfl hl he
      simpa using this
    · exact h
  · exact h

/-- Places of a type's parts. -/
def places (P : Program) (t : TypeId) : Option (Nat → Option (Nat × Nat)) :=
  match P.underlying t with
  | some (.array _ e) => match P.info? e with | some ie => some (fun i => some (i * ie.size, ie.size)) | none => none
  | some (.struct fields) => match fields.toList.mapM (fun f => (P.info? f.type).map fun i => (f.offset, i.size)) with | some pl => some (fun i => pl[i]?) | none => none
  | _ => none
def zeroSV (P : Program) (t : TypeId) : Option (List SV) :=
  match P.info? t with
  | some it => match it.zero with | some z => constSVL z.cells.toList | none => none
  | none => none
def pureBuild (P : Program) (t : TypeId) (parts : List (Nat × SV)) : Ans :=
  match places P t, zeroSV P t with
  | some pl, some z => match fillFast pl z parts with | some l => some (none, .agg l) | none => none
  | _, _ => none
theorem pureBuild_sound {P : Program} {σ : Mem} {ρ : Rho} {t : TypeId} {parts : List (Nat × SV)} {vparts : List (Nat × Value)} {s : SV} {c : Option Prop}
    (h : pureBuild P t parts = some (c, s)) (hp : PartsR σ ρ parts vparts) : ∃ v, (∀ w, (Instr.build t vparts.toArray).run P w = .ok v w) ∧ SV.den σ ρ s v := by
  unfold pureBuild at h
  split at h
  · rename_i pl z hpl hz
    split at h
    · rename_i l hl0
      have hl := fillFast_eq hl0
      simp only [Option.some.injEq, Prod.mk.injEq] at h
      obtain ⟨rfl, rfl⟩ := h
      unfold zeroSV at hz
      split at hz
      · rename_i it hit
        split at hz
        · rename_i zv hzv
          obtain ⟨rs, h1, h2⟩ := fill_run (σ := σ) (ρ := ρ) parts vparts z zv.cells.toList l (constSVL_den _ _ hz) hp hl
          refine ⟨.agg rs.toArray, fun w => run_build w t _ _ ?_, by simp only [SV.den]; exact ⟨rs, rfl, h2⟩⟩
          unfold places at hpl
          unfold Program.built
          split at hpl
          · rename_i n e hu
            split at hpl
            · rename_i ie hie
              obtain rfl := Option.some.inj hpl
              simp only [hit, hu, hzv, hie]
              simpa using h1
            · cases hpl
          · rename_i fields hu
            split at hpl
            · rename_i pls hpls
              obtain rfl := Option.some.inj hpl
              simp only [hit, hu, hzv, hpls]
              simpa using h1
            · cases hpl
          · cases hpl
        · cases hz
      · cases hz
    · cases h
  · cases h

end Go.Proofs.YteiickhgmmjcmaaGreatDoor.Sx
