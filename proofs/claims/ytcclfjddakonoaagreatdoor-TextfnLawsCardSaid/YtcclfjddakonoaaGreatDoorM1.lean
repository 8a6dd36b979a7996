/-
  Maps from strings: what the operations do, at a block of memory.
-/
import Derived.Test.YtcclfjddakonoaaGreatDoorSxB
import Derived.Maps.RangeRun
set_option linter.unusedVariables false
set_option linter.unusedSimpArgs false
namespace Go.Proofs.YtcclfjddakonoaaGreatDoor.Sx
open Go Go.RowKit
open Go.ChangeMaps (setBlock)

/-- A map's entries, in their order: keys and values. -/
def EsIs (es : List MapEntry) (l : List (Str × Value)) : Prop := es.map (fun e => (e.key, e.val)) = l.map (fun x => (strV x.1, x.2))
/-- The first place of a key. -/
def idxKey : List (Str × Value) → Str → Nat → Option (Nat × Value)
  | [], _, _ => none
  | (k', v) :: r, k, i => if k = k' then some (i, v) else idxKey r k (i + 1)
def putKey : List (Str × Value) → Str → Value → List (Str × Value)
  | [], k, v => [(k, v)]
  | (k', v') :: r, k, v => if k = k' then (k', v) :: r else (k', v') :: putKey r k v
theorem strV_eq (a b : Str) : ((⟨a.toArray⟩ : ByteArray) == ⟨b.toArray⟩) = decide (a = b) := by
  show (a.toArray == b.toArray) = decide (a = b)
  rw [Bool.eq_iff_iff, decide_eq_true_eq, beq_iff_eq]
  constructor
  · intro h
    exact List.toArray_inj h
  · intro h; rw [h]
theorem sameNow_str (a b : Str) : Instr.sameNow .string (strV a) (strV b) = some (decide (a = b)) := by
  show some ((⟨a.toArray⟩ : ByteArray) == ⟨b.toArray⟩) = _
  rw [strV_eq]
theorem findNow_str (k : Str) : ∀ (es : List MapEntry) (l : List (Str × Value)) (i : Nat), EsIs es l → Instr.findNow .string (strV k) es i = some (idxKey l k i)
  | [], [], i, _ => rfl
  | [], _ :: _, i, h => by simp [EsIs] at h
  | _ :: _, [], i, h => by simp [EsIs] at h
  | e :: es, (k', v) :: l, i, h => by
    simp only [EsIs, List.map_cons, List.cons.injEq, Prod.mk.injEq] at h
    obtain ⟨⟨h1, h2⟩, h3⟩ := h
    rw [Instr.findNow, h1, sameNow_str, idxKey]
    by_cases hk : k = k'
    · rw [if_pos hk, decide_eq_true hk]
      simp only [h2]
    · rw [if_neg hk, decide_eq_false hk]
      exact findNow_str k es l (i + 1) h3
theorem run_findKey_str {P : Program} {w : World} {key : TypeId} (hk : P.underlying key = some .string) (k : Str) {es : List MapEntry} {l : List (Str × Value)} (h : EsIs es l) : (Instr.findKey key (strV k) es).run P w = .ok (idxKey l k 0) w := by
  simp [Instr.findKey, run_underlying hk, findNow_str k es l 0 h]
theorem run_checkKey_str {P : Program} {w : World} {key : TypeId} (hk : P.underlying key = some .string) (em : Bool) (n : Nat) (k : Str) : (Instr.checkKey em (n + 1) key (strV k)).run P w = .ok () w := by
  simp [Instr.checkKey, run_underlying hk, strV]
/-- What a look-up answers. -/
def lookV (l : List (Str × Value)) (k : Str) (zv : Value) (ok : Bool) : Value :=
  match idxKey l k 0 with
  | some (_, v) => if ok then .tuple #[v, .bool true] else v
  | none => if ok then .tuple #[zv, .bool false] else zv
theorem run_lookup_str {P : Program} {w : World} {t key elem : TypeId} {r clock : Nat} {es : Array MapEntry} {l : List (Str × Value)} {zv : Value} (ht : P.underlying t = some (.map key elem)) (hk : P.underlying key = some .string)
    (hr : w.heap[r]? = some (.map es clock)) (hl : EsIs es.toList l) (hz : (zeroValue elem).run P w = .ok zv w) (k : Str) (ok : Bool) :
    (Instr.lookup t (.map (some r)) (strV k) ok).run P w = .ok (lookV l k zv ok) w := by
  have hg : (getObj r).run P w = .ok (.map es clock) w := MapKept.run_getObj_map hr
  unfold lookV
  cases hi : idxKey l k 0 with
  | none => simp [Instr.lookup, run_underlying ht, hg, run_checkKey_str hk, run_findKey_str hk k hl, hi, hz, Result.andThen]
  | some x =>
    obtain ⟨i, v⟩ := x
    simp [Instr.lookup, run_underlying ht, hg, run_checkKey_str hk, run_findKey_str hk k hl, hi, Result.andThen]
/-- A look-up in a map that is nil. -/
theorem run_lookup_nil {P : Program} {w : World} {t key elem : TypeId} {zv : Value} (ht : P.underlying t = some (.map key elem)) (hk : P.underlying key = some .string) (hz : (zeroValue elem).run P w = .ok zv w) (k : Str) (ok : Bool) :
    (Instr.lookup t (.map none) (strV k) ok).run P w = .ok (if ok then .tuple #[zv, .bool false] else zv) w := by
  have := run_findKey_str (P := P) (w := w) hk k (es := []) (l := []) rfl
  simp [Instr.lookup, run_underlying ht, run_checkKey_str hk, this, idxKey, hz, Result.andThen]

/-! ### What is written -/
theorem idxKey_ge : ∀ (l : List (Str × Value)) (k : Str) (i : Nat) (j : Nat) (v : Value), idxKey l k i = some (j, v) → i ≤ j ∧ j - i < l.length ∧ (l[j - i]?).map (·.1) = some k
  | [], k, i, j, v, h => by cases h
  | (k', v') :: l, k, i, j, v, h => by
    rw [idxKey] at h
    by_cases hk : k = k'
    · rw [if_pos hk] at h
      simp only [Option.some.injEq, Prod.mk.injEq] at h
      obtain ⟨rfl, _⟩ := h
      simp [hk]
    · rw [if_neg hk] at h
      obtain ⟨h1, h2, h3⟩ := idxKey_ge l k (i + 1) j v h
      have e : j - i = (j - (i + 1)) + 1 := by omega
      refine ⟨by omega, by simp only [List.length_cons]; omega, ?_⟩
      rw [e, List.getElem?_cons_succ]
      exact h3
theorem putKey_some : ∀ (l : List (Str × Value)) (k : Str) (i j : Nat) (v0 v : Value), idxKey l k i = some (j, v0) → putKey l k v = l.modify (j - i) (fun x => (x.1, v))
  | [], k, i, j, v0, v, h => by cases h
  | (k', v') :: l, k, i, j, v0, v, h => by
    have hh := h
    rw [idxKey] at h
    rw [putKey]
    by_cases hk : k = k'
    · rw [if_pos hk] at h ⊢
      simp only [Option.some.injEq, Prod.mk.injEq] at h
      obtain ⟨rfl, _⟩ := h
      simp
    · rw [if_neg hk] at h ⊢
      obtain ⟨h1, _, _⟩ := idxKey_ge l k (i + 1) j v0 h
      have e : j - i = (j - (i + 1)) + 1 := by omega
      rw [putKey_some l k (i + 1) j v0 v h, e, List.modify_succ_cons]
theorem putKey_none : ∀ (l : List (Str × Value)) (k : Str) (i : Nat) (v : Value), idxKey l k i = none → putKey l k v = l ++ [(k, v)]
  | [], k, i, v, _ => rfl
  | (k', v') :: l, k, i, v, h => by
    rw [idxKey] at h
    by_cases hk : k = k'
    · rw [if_pos hk] at h; cases h
    · rw [if_neg hk] at h
      rw [putKey, if_neg hk, putKey_none l k (i + 1) v h]
      rfl
/-- A block that holds such a map; each entry has its own stamp, below the clock. -/
structure MapAt (w : World) (r : Nat) (es : Array MapEntry) (clock : Nat) (l : List (Str × Value)) : Prop where
  at_ : w.heap[r]? = some (.map es clock)
  ents : EsIs es.toList l
  nodup : (es.toList.map (·.born)).Nodup
  born : ∀ e ∈ es.toList, e.born < clock
theorem sameBits_str (a : Str) : Instr.sameBits 10000 (strV a) (strV a) = true := by
  show ((⟨a.toArray⟩ : ByteArray) == ⟨a.toArray⟩) = true
  rw [strV_eq]
  simp
theorem setBlock_at {w : World} {r : Nat} {o o' : Obj} (h : w.heap[r]? = some o) : (setBlock w r o').heap[r]? = some o' := by
  have := (Array.getElem?_eq_some_iff.1 h).1
  simp [setBlock, this]
theorem setBlock_other {w : World} {r k : Nat} {o' : Obj} (h : r ≠ k) : (setBlock w r o').heap[k]? = w.heap[k]? := by
  simp [setBlock, Array.getElem?_setIfInBounds, h]
theorem run_update_str {P : Program} {w : World} {t key elem : TypeId} {r clock : Nat} {es : Array MapEntry} {l : List (Str × Value)} (ht : P.underlying t = some (.map key elem)) (hk : P.underlying key = some .string)
    (h : MapAt w r es clock l) (k : Str) (v : Value) :
    ∃ es' clock', (Instr.mapUpdate t (.map (some r)) (strV k) v).run P w = .ok () (setBlock w r (.map es' clock')) ∧ MapAt (setBlock w r (.map es' clock')) r es' clock' (putKey l k v) := by
  have hg : (getObj r).run P w = .ok (.map es clock) w := MapKept.run_getObj_map h.at_
  cases hi : idxKey l k 0 with
  | none =>
    refine ⟨es.push { key := strV k, val := v, born := clock }, clock + 1, ?_, setBlock_at h.at_, ?_, ?_, ?_⟩
    · simp [Instr.mapUpdate, run_underlying ht, hg, run_checkKey_str hk, run_findKey_str hk k h.ents, hi, Result.andThen, MapKept.run_setObj_map _ h.at_]
      rfl
    · rw [putKey_none l k 0 v hi]
      have := h.ents
      simp only [EsIs, Array.toList_push, List.map_append, List.map_cons, List.map_nil] at this ⊢
      rw [this]
    · rw [Array.toList_push, List.map_append, List.nodup_append]
      refine ⟨h.nodup, by simp, ?_⟩
      intro a ha b hb
      simp only [List.map_cons, List.map_nil, List.mem_singleton] at hb
      obtain ⟨e, he, rfl⟩ := List.mem_map.1 ha
      have := h.born e he
      omega
    · intro e he
      rw [Array.toList_push, List.mem_append] at he
      rcases he with he | he
      · have := h.born e he; omega
      · rw [List.mem_singleton.1 he]; exact Nat.lt_succ_self _
  | some x =>
    obtain ⟨i, v0⟩ := x
    obtain ⟨_, h2, h3⟩ := idxKey_ge l k 0 i v0 hi
    rw [Nat.sub_zero] at h2 h3
    have hlen : es.toList.length = l.length := by
      have := congrArg List.length h.ents
      simpa using this
    have hie : i < es.toList.length := by omega
    have hes : (es.toList[i]).key = strV (l[i]).1 := by
      have h5 := congrArg (fun m => m[i]?) h.ents
      simp only [List.getElem?_map, List.getElem?_eq_getElem hie, List.getElem?_eq_getElem h2, Option.map_some, Option.some.injEq, Prod.mk.injEq] at h5
      exact h5.1
    have hlk : (l[i]).1 = k := by
      rw [List.getElem?_eq_getElem h2] at h3
      exact Option.some.inj h3
    have hkey : (es.toList[i]).key = strV k := by rw [hes, hlk]
    have hia : i < es.size := by simpa using hie
    have hkd : ((es[i]?).map (·.key)).getD (strV k) = strV k := by
      rw [Array.getElem?_eq_getElem hia, Option.map_some, Option.getD_some]
      simpa using hkey
    refine ⟨es.modify i fun e => { e with key := strV k, val := v }, clock, ?_, setBlock_at h.at_, ?_, ?_, ?_⟩
    · have hks : (Instr.keyThatStays (strV k) (strV k)).run P w = .ok (strV k) w := by simp [Instr.keyThatStays, sameBits_str]
      simp [Instr.mapUpdate, run_underlying ht, hg, run_checkKey_str hk, run_findKey_str hk k h.ents, hi, hkd, hks, Result.andThen, MapKept.run_setObj_map _ h.at_]
      rfl
    · rw [putKey_some l k 0 i v0 v hi, Nat.sub_zero, EsIs, Array.toList_modify]
      apply List.ext_getElem?
      intro j
      have h5 := congrArg (fun m => m[j]?) h.ents
      simp only [List.getElem?_map, List.getElem?_modify] at h5 ⊢
      by_cases hij : i = j
      · subst hij
        simp only [List.getElem?_eq_getElem hie, List.getElem?_eq_getElem h2, Option.map_some, if_true]
        show some (strV k, v) = some (strV (l[i]).1, v)
        rw [hlk]
      · simp only [if_neg hij]
        simpa using h5
    · rw [Array.toList_modify]
      have : (es.toList.modify i fun e => { e with key := strV k, val := v }).map (·.born) = es.toList.map (·.born) := by
        apply List.ext_getElem?
        intro j
        simp only [List.getElem?_map, List.getElem?_modify]
        by_cases hij : i = j
        · subst hij
          simp [List.getElem?_eq_getElem hie]
        · simp [if_neg hij]
      rw [this]
      exact h.nodup
    · intro e he
      rw [Array.toList_modify] at he
      obtain ⟨j, hj⟩ := List.mem_iff_getElem?.1 he
      rw [List.getElem?_modify] at hj
      cases hj2 : es.toList[j]? with
      | none => rw [hj2] at hj; cases hj
      | some e0 =>
        rw [hj2] at hj
        have h6 := h.born e0 (List.mem_iff_getElem?.2 ⟨j, hj2⟩)
        simp only [Option.map_eq_map, Option.map_some, Option.some.injEq] at hj
        rw [← hj]
        split
        · exact h6
        · exact h6
end Go.Proofs.YtcclfjddakonoaaGreatDoor.Sx
