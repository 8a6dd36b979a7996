/-
  Maps from strings: what the operations do, at a block of memory.
  A map from strings to strings, and one from strings to sets of strings, as resources; look-ups and stores.
  A map from strings to sets of strings, as a resource.
  New maps; ranges over maps.
  Ranges over maps.
-/
import Derived.Test.YteiickhgmmjcmaaGreatDoorSxB
import Derived.Maps.RangeRun
import Derived.Test.YteiickhgmmjcmaaGreatDoorSxY
import Derived.Carry
set_option linter.unusedVariables false
set_option linter.unusedSimpArgs false
namespace Go.Proofs.YteiickhgmmjcmaaGreatDoor.Sx
open Go Go.RowKit
open Go.ChangeMaps (setBlock)

/-- A map's entries, in their order: keys and values. -/
def EsIs (es : List MapEntry) (l : List (Str × Value)) : Prop := es.map (fun e => (e.key, e.val)) = l.map (fun x => (strV x.1, x.2))
/-- The first place of a key. -/
def idxKey : List (Str × Value) → Str → Nat → Option (Nat × Value)
  | [], _, _ => none
  | (k', v) :: r, k, i => if k = k' then some (i, v) else idxKey r k (i + 1)
def putKey : List (Str × Value) → Str → Value → List (Str × Value)
  | [], k, v => [(k, v)]
  | (k', v') :: r, k, v => if k = k' then (k', v) :: r else (k', v') :: putKey r k v
theorem strV_eq (a b : Str) : ((⟨a.toArray⟩ : ByteArray) == ⟨b.toArray⟩) = decide (a = b) := by
  show (a.toArray == b.toArray) = decide (a = b)
  rw [Bool.eq_iff_iff, decide_eq_true_eq, beq_iff_eq]
  constructor
  · intro h
    exact List.toArray_inj h
  · intro h; rw [h]
theorem sameNow_str (a b : Str) : Instr.sameNow .string (strV a) (strV b) = some (decide (a = b)) := by
  show some ((⟨a.toArray⟩ : ByteArray) == ⟨b.toArray⟩) = _
  rw [strV_eq]
theorem findNow_str (k : Str) : ∀ (es : List MapEntry) (l : List (Str × Value)) (i : Nat), EsIs es l → Instr.findNow .string (strV k) es i = some (idxKey l k i)
  | [], [], i, _ => rfl
  | [], _ :: _, i, h => by simp [EsIs] at h
  | _ :: _, [], i, h => by simp [EsIs] at h
  | e :: es, (k', v) :: l, i, h => by
    simp only [EsIs, List.map_cons, List.cons.injEq, Prod.mk.injEq] at h
    obtain ⟨⟨h1, h2⟩, h3⟩ := h
    rw [Instr.findNow, h1, sameNow_str, idxKey]
    by_cases hk : k = k'
    · rw [if_pos hk, decide_eq_true hk]
      simp only [h2]
    · rw [if_neg hk, decide_eq_false hk]
      exact findNow_str k es l (i + 1) h3
theorem run_findKey_str {P : Program} {w : World} {key : TypeId} (hk : P.underlying key = some .string) (k : Str) {es : List MapEntry} {l : List (Str × Value)} (h : EsIs es l) : (Instr.findKey key (strV k) es).run P w = .ok (idxKey l k 0) w := by
  simp [Instr.findKey, run_underlying hk, findNow_str k es l 0 h]
theorem run_checkKey_str {P : Program} {w : World} {key : TypeId} (hk : P.underlying key = some .string) (em : Bool) (n : Nat) (k : Str) : (Instr.checkKey em (n + 1) key (strV k)).run P w = .ok () w := by
  simp [Instr.checkKey, run_underlying hk, strV]
/-- What a look-up answers. -/
def lookV (l : List (Str × Value)) (k : Str) (zv : Value) (ok : Bool) : Value :=
  match idxKey l k 0 with
  | some (_, v) => if ok then .tuple #[v, .bool true] else v
  | none => if ok then .tuple #[zv, .bool false] else zv
theorem run_lookup_str {P : Program} {w : World} {t key elem : TypeId} {r clock : Nat} {es : Array MapEntry} {l : List (Str × Value)} {zv : Value} (ht : P.underlying t = some (.map key elem)) (hk : P.underlying key = some .string)
    (hr : w.heap[r]? = some (.map es clock)) (hl : EsIs es.toList l) (hz : (zeroValue elem).run P w = .ok zv w) (k : Str) (ok : Bool) :
    (Instr.lookup t (.map (some r)) (strV k) ok).run P w = .ok (lookV l k zv ok) w := by
  have hg : (getObj r).run P w = .ok (.map es clock) w := MapKept.run_getObj_map hr
  unfold lookV
  cases hi : idxKey l k 0 with
  | none => simp [Instr.lookup, run_underlying ht, hg, run_checkKey_str hk, run_findKey_str hk k hl, hi, hz, Result.andThen]
  | some x =>
    obtain ⟨i, v⟩ := x
    simp [Instr.lookup, run_underlying ht, hg, run_checkKey_str hk, run_findKey_str hk k hl, hi, Result.andThen]
/-- A look-up in a map that is nil. -/
theorem run_lookup_nil {P : Program} {w : World} {t key elem : TypeId} {zv : Value} (ht : P.underlying t = some (.map key elem)) (hk : P.underlying key = some .string) (hz : (zeroValue elem).run P w = .ok zv w) (k : Str) (ok : Bool) :
    (Instr.lookup t (.map none) (strV k) ok).run P w = .ok (if ok then .tuple #[zv, .bool false] else zv) w := by
  have := run_findKey_str (P := P) (w := w) hk k (es := []) (l := []) rfl
  simp [Instr.lookup, run_underlying ht, run_checkKey_str hk, this, idxKey, hz, Result.andThen]

/-! ### What is written -/
theorem idxKey_ge : ∀ (l : List (Str × Value)) (k : Str) (i : Nat) (j : Nat) (v : Value), idxKey l k i = some (j, v) → i ≤ j ∧ j - i < l.length ∧ (l[j - i]?).map (·.1) = some k
  | [], k, i, j, v, h => by cases h
  | (k', v') :: l, k, i, j, v, h => by
    rw [idxKey] at h
    by_cases hk : k = k'
    · rw [if_pos hk] at h
      simp only [Option.some.injEq, Prod.mk.injEq] at h
      obtain ⟨rfl, _⟩ := h
      simp [hk]
    · rw [if_neg hk] at h
      obtain ⟨h1, h2, h3⟩ := idxKey_ge l k (i + 1) j v h
      have e : j - i = (j - (i + 1)) + 1 := by omega
      refine ⟨by omega, by simp only [List.length_cons]; omega, ?_⟩
      rw [e, List.getElem?_cons_succ]
      exact h3
theorem putKey_some : ∀ (l : List (Str × Value)) (k : Str) (i j : Nat) (v0 v : Value), idxKey l k i = some (j, v0) → putKey l k v = l.modify (j - i) (fun x => (x.1, v))
  | [], k, i, j, v0, v, h => by cases h
  | (k', v') :: l, k, i, j, v0, v, h => by
    have hh := h
    rw [idxKey] at h
    rw [putKey]
    by_cases hk : k = k'
    · rw [if_pos hk] at h ⊢
      simp only [Option.some.injEq, Prod.mk.injEq] at h
      obtain ⟨rfl, _⟩ := h
      simp
    · rw [if_neg hk] at h ⊢
      obtain ⟨h1, _, _⟩ := idxKey_ge l k (i + 1) j v0 h
      have e : j - i = (j - (i + 1)) + 1 := by omega
      rw [putKey_some l k (i + 1) j v0 v h, e, List.modify_succ_cons]
theorem putKey_none : ∀ (l : List (Str × Value)) (k : Str) (i : Nat) (v : Value), idxKey l k i = none → putKey l k v = l ++ [(k, v)]
  | [], k, i, v, _ => rfl
  | (k', v') :: l, k, i, v, h => by
    rw [idxKey] at h
    by_cases hk : k = k'
    · rw [if_pos hk] at h; cases h
    · rw [if_neg hk] at h
      rw [putKey, if_neg hk, putKey_none l k (i + 1) v h]
      rfl
/-- A block that holds such a map; each entry has its own stamp, below the clock. -/
structure MapAt (w : World) (r : Nat) (es : Array MapEntry) (clock : Nat) (l : List (Str × Value)) : Prop where
  at_ : w.heap[r]? = some (.map es clock)
  ents : EsIs es.toList l
  nodup : (es.toList.map (·.born)).Nodup
  born : ∀ e ∈ es.toList, e.born < clock
theorem sameBits_str (a : Str) : Instr.sameBits 10000 (strV a) (strV a) = true := by
  show ((⟨a.toArray⟩ : ByteArray) == ⟨a.toArray⟩) = true
  rw [strV_eq]
  simp
theorem setBlock_at {w : World} {r : Nat} {o o' : Obj} (h : w.heap[r]? = some o) : (setBlock w r o').heap[r]? = some o' := by
  have := (Array.getElem?_eq_some_iff.1 h).1
  simp [setBlock, this]
theorem setBlock_other {w : World} {r k : Nat} {o' : Obj} (h : r ≠ k) : (setBlock w r o').heap[k]? = w.heap[k]? := by
  simp [setBlock, Array.getElem?_setIfInBounds, h]
theorem run_update_str {P : Program} {w : World} {t key elem : TypeId} {r clock : Nat} {es : Array MapEntry} {l : List (Str × Value)} (ht : P.underlying t = some (.map key elem)) (hk : P.underlying key = some .string)
    (h : MapAt w r es clock l) (k : Str) (v : Value) :
    ∃ es' clock', (Instr.mapUpdate t (.map (some r)) (strV k) v).run P w = .ok () (setBlock w r (.map es' clock')) ∧ MapAt (setBlock w r (.map es' clock')) r es' clock' (putKey l k v) := by
  have hg : (getObj r).run P w = .ok (.map es clock) w := MapKept.run_getObj_map h.at_
  cases hi : idxKey l k 0 with
  | none =>
    refine ⟨es.push { key := strV k, val := v, born := clock }, clock + 1, ?_, setBlock_at h.at_, ?_, ?_, ?_⟩
    · simp [Instr.mapUpdate, run_underlying ht, hg, run_checkKey_str hk, run_findKey_str hk k h.ents, hi, Result.andThen, MapKept.run_setObj_map _ h.at_]
      rfl
    · rw [putKey_none l k 0 v hi]
      have := h.ents
      simp only [EsIs, Array.toList_push, List.map_append, List.map_cons, List.map_nil] at this ⊢
      rw [this]
    · rw [Array.toList_push, List.map_append, List.nodup_append]
      refine ⟨h.nodup, by simp, ?_⟩
      intro a ha b hb
      simp only [List.map_cons, List.map_nil, List.mem_singleton] at hb
      obtain ⟨e, he, rfl⟩ := List.mem_map.1 ha
      have := h.born e he
      omega
    · intro e he
      rw [Array.toList_push, List.mem_append] at he
      rcases he with he | he
      · have := h.born e he; omega
      · rw [List.mem_singleton.1 he]; exact Nat.lt_succ_self _
  | some x =>
    obtain ⟨i, v0⟩ := x
    obtain ⟨_, h2, h3⟩ := idxKey_ge l k 0 i v0 hi
    rw [Nat.sub_zero] at h2 h3
    have hlen : es.toList.length = l.length := by
      have := congrArg List.length h.ents
      simpa using this
    have hie : i < es.toList.length := by omega
    have hes : (es.toList[i]).key = strV (l[i]).1 := by
      have h5 := congrArg (fun m => m[i]?) h.ents
      simp only [List.getElem?_map, List.getElem?_eq_getElem hie, List.getElem?_eq_getElem h2, Option.map_some, Option.some.injEq, Prod.mk.injEq] at h5
      exact h5.1
    have hlk : (l[i]).1 = k := by
      rw [List.getElem?_eq_getElem h2] at h3
      exact Option.some.inj h3
    have hkey : (es.toList[i]).key = strV k := by rw [hes, hlk]
    have hia : i < es.size := by simpa using hie
    have hkd : ((es[i]?).map (·.key)).getD (strV k) = strV k := by
      rw [Array.getElem?_eq_getElem hia, Option.map_some, Option.getD_some]
      simpa using hkey
    refine ⟨es.modify i fun e => { e with key := strV k, val := v }, clock, ?_, setBlock_at h.at_, ?_, ?_, ?_⟩
    · have hks : (Instr.keyThatStays (strV k) (strV k)).run P w = .ok (strV k) w := by simp [Instr.keyThatStays, sameBits_str]
      simp [Instr.mapUpdate, run_underlying ht, hg, run_checkKey_str hk, run_findKey_str hk k h.ents, hi, hkd, hks, Result.andThen, MapKept.run_setObj_map _ h.at_]
      rfl
    · rw [putKey_some l k 0 i v0 v hi, Nat.sub_zero, EsIs, Array.toList_modify]
      apply List.ext_getElem?
      intro j
      have h5 := congrArg (fun m => m[j]?) h.ents
      simp only [List.getElem?_map, List.getElem?_modify] at h5 ⊢
      by_cases hij : i = j
      · subst hij
        simp only [List.getElem?_eq_getElem hie, List.getElem?_eq_getElem h2, Option.map_some, if_true]
        show some (strV k, v) = some (strV (l[i]).1, v)
        rw [hlk]
      · simp only [if_neg hij]
        simpa using h5
    · rw [Array.toList_modify]
      have : (es.toList.modify i fun e => { e with key := strV k, val := v }).map (·.born) = es.toList.map (·.born) := by
        apply List.ext_getElem?
        intro j
        simp only [List.getElem?_map, List.getElem?_modify]
        by_cases hij : i = j
        · subst hij
          simp [List.getElem?_eq_getElem hie]
        · simp [if_neg hij]
      rw [this]
      exact h.nodup
    · intro e he
      rw [Array.toList_modify] at he
      obtain ⟨j, hj⟩ := List.mem_iff_getElem?.1 he
      rw [List.getElem?_modify] at hj
      cases hj2 : es.toList[j]? with
      | none => rw [hj2] at hj; cases hj
      | some e0 =>
        rw [hj2] at hj
        have h6 := h.born e0 (List.mem_iff_getElem?.2 ⟨j, hj2⟩)
        simp only [Option.map_eq_map, Option.map_some, Option.some.injEq] at hj
        rw [← hj]
        split
        · exact h6
        · exact h6
open Go.ChangeMaps (setBlock)

theorem MapAt.keep {w w' : World} {r : Nat} {es : Array MapEntry} {c : Nat} {l : List (Str × Value)} (h : MapAt w r es c l) (e : w'.heap[r]? = w.heap[r]?) : MapAt w' r es c l := ⟨e.trans h.at_, h.ents, h.nodup, h.born⟩

/-! ### Strings by strings -/
def fVals (F : List (Str × Str)) : List (Str × Value) := F.map fun x => (x.1, strV x.2)
def fmRes (F : List (Str × Str)) : Res where
  rel w L := L.sub = [] ∧ ∃ es clock, MapAt w L.blk es clock (fVals F)
  keep w w' L h hb := by
    obtain ⟨h1, es, c, h2⟩ := h
    exact ⟨h1, es, c, h2.keep (hb _ (.inl rfl))⟩
  data w L h b hb := by
    obtain ⟨h1, es, c, h2⟩ := h
    rcases hb with rfl | hb
    · exact ⟨_, h2.at_, rfl⟩
    · rw [h1] at hb; cases hb
def fGet : List (Str × Str) → Str → Option Str
  | [], _ => none
  | (k', v) :: r, k => if k = k' then some v else fGet r k
def fPut : List (Str × Str) → Str → Str → List (Str × Str)
  | [], k, v => [(k, v)]
  | (k', v') :: r, k, v => if k = k' then (k', v) :: r else (k', v') :: fPut r k v
theorem fGet_idx (k : Str) : ∀ (F : List (Str × Str)) (i : Nat), (idxKey (fVals F) k i).map (·.2) = (fGet F k).map strV
  | [], i => rfl
  | (k', v) :: F, i => by
    show (idxKey ((k', strV v) :: fVals F) k i).map (·.2) = _
    rw [idxKey, fGet]
    by_cases h : k = k'
    · rw [if_pos h, if_pos h]; rfl
    · rw [if_neg h, if_neg h]; exact fGet_idx k F (i + 1)
theorem fPut_put (k v : Str) : ∀ F : List (Str × Str), putKey (fVals F) k (strV v) = fVals (fPut F k v)
  | [] => rfl
  | (k', v') :: F => by
    show putKey ((k', strV v') :: fVals F) k (strV v) = _
    rw [putKey, fPut]
    by_cases h : k = k'
    · rw [if_pos h, if_pos h]; rfl
    · rw [if_neg h, if_neg h]
      show (k', strV v') :: putKey (fVals F) k (strV v) = (k', strV v') :: fVals (fPut F k v)
      rw [fPut_put k v F]
/-- What a look-up answers, told. -/
def fAns (F : List (Str × Str)) (k : Str) (ok : Bool) : SV := if ok then .tup [.val .str ((fGet F k).getD []), .val .bool (fGet F k).isSome] else .val .str ((fGet F k).getD [])
theorem fAns_den {σ : Mem} {ρ : Rho} (F : List (Str × Str)) (k : Str) (ok : Bool) : SV.den σ ρ (fAns F k ok) (lookV (fVals F) k (strV []) ok) := by
  have h := fGet_idx k F 0
  unfold fAns lookV
  cases hi : idxKey (fVals F) k 0 with
  | none =>
    rw [hi] at h
    cases hg : fGet F k with
    | none =>
      cases ok
      · simp only [Bool.false_eq_true, if_false, SV.den, Den]; rfl
      · simp only [if_true, SV.den, SV.denL, Den]
        exact ⟨_, rfl, _, _, rfl, rfl, _, _, rfl, rfl, rfl⟩
    | some v => rw [hg] at h; cases h
  | some x =>
    obtain ⟨i, v⟩ := x
    rw [hi] at h
    cases hg : fGet F k with
    | none => rw [hg] at h; cases h
    | some s =>
      rw [hg] at h
      obtain rfl : v = strV s := Option.some.inj h
      cases ok
      · simp only [Bool.false_eq_true, if_false, SV.den, Den]; rfl
      · simp only [if_true, SV.den, SV.denL, Den]
        exact ⟨_, rfl, _, _, rfl, rfl, _, _, rfl, rfl, rfl⟩
theorem fmLook_sound {P : Program} {n : Nat} {env : Env} {tab : List Ent} {o : Oper} {t kt et d i : Nat} {x kx : Operand} {ok : Bool} {F : List (Str × Str)} {k : Str}
    (hz : ∀ w, (zeroValue et).run P w = .ok (strV []) w) (hg : o.guard = none) (ho : o.op = .lookup t x kx ok) (hdst : o.dst = some d) (ht : P.underlying t = some (.map kt et)) (hk : P.underlying kt = some .string)
    (hd : (decide (d < n) && okPut env d) = true) (hx : opnd env [] x = some (.mp i)) (hkx : opnd env [] kx = some (.val .str k)) (hi : tab[i]? = some (.res (fmRes F))) :
    Eff P n o ⟨env, tab⟩ ⟨put env d [] (fAns F k ok), tab⟩ none := by
  simp only [Bool.and_eq_true, decide_eq_true_eq] at hd
  refine ⟨hg, fun cx a w _ hs => ?_⟩
  obtain ⟨σ, ρ, hw, he, hn, hdf⟩ : ∃ σ ρ, WR cx σ ρ tab w ∧ EnvA σ ρ env a ∧ a.tmps.size = n ∧ a.defers = cx.ds := hs
  have h1 := opnd_den he.env (fun p hp => by cases hp) hx
  have h2 := opnd_den he.env (fun p hp => by cases hp) hkx
  simp only [SV.den, Den] at h1 h2
  have h2' : a.eval kx = strV k := by simpa using h2
  obtain ⟨h3, es, c, h4⟩ := hw.ent i _ hi
  have hrun := run_lookup_str (w := w) ht hk h4.at_ h4.ents (hz w) k ok
  refine ⟨.value (lookV (fVals F) k (strV []) ok), w, ?_, .inl ⟨_, rfl, σ, ρ, hw, ?_, by rw [put_size]; exact hn, by rw [put_defers]; exact hdf⟩⟩
  · simp only [execOp, ho, h1, h2']
    simp [hrun]
  · rw [hdst]
    exact he.put hd.2 (by rw [hn]; exact hd.1) rfl (fun _ => fAns_den F k ok) (fun h => absurd (fun p hp => by cases hp) h)
theorem set_self {α : Type} {l : List α} {i : Nat} {x y : α} (h : l[i]? = some x) : (l.set i y)[i]? = some y := by
  have := (List.getElem?_eq_some_iff.1 h).1
  simp [this]
theorem fmPut_sound {P : Program} {n : Nat} {env : Env} {tab : List Ent} {o : Oper} {t kt et i : Nat} {x kx vx : Operand} {F : List (Str × Str)} {k v : Str}
    (hg : o.guard = none) (ho : o.op = .mapUpdate t x kx vx) (hdst : o.dst = none) (ht : P.underlying t = some (.map kt et)) (hk : P.underlying kt = some .string)
    (hx : opnd env [] x = some (.mp i)) (hkx : opnd env [] kx = some (.val .str k)) (hvx : opnd env [] vx = some (.val .str v)) (hi : tab[i]? = some (.res (fmRes F))) :
    Eff P n o ⟨env, tab⟩ ⟨env, tab.set i (.res (fmRes (fPut F k v)))⟩ none := by
  refine ⟨hg, fun cx a w _ hs => ?_⟩
  obtain ⟨σ, ρ, hw, he, hn, hdf⟩ : ∃ σ ρ, WR cx σ ρ tab w ∧ EnvA σ ρ env a ∧ a.tmps.size = n ∧ a.defers = cx.ds := hs
  have h1 := opnd_den he.env (fun p hp => by cases hp) hx
  have h2 := opnd_den he.env (fun p hp => by cases hp) hkx
  have h5 := opnd_den he.env (fun p hp => by cases hp) hvx
  simp only [SV.den, Den] at h1 h2 h5
  have h2' : a.eval kx = strV k := by simpa using h2
  have h5' : a.eval vx = strV v := by simpa using h5
  obtain ⟨h3, es, c, h4⟩ := hw.ent i _ hi
  obtain ⟨es', c', hrun, h6⟩ := run_update_str (P := P) ht hk h4 k (strV v)
  rw [fPut_put] at h6
  have hw' := hw.resStep (R' := fmRes (fPut F k v)) (S := []) hi (w' := setBlock w (ρ i).blk (.map es' c')) (fun b _ hb => setBlock_other fun e => hb (.inl e.symm)) ⟨by rw [subOf_same], es', c', by rw [subOf_blk]; exact h6⟩ (fun b hb => by cases hb) rfl rfl rfl (by simp [setBlock])
  refine ⟨.skip, setBlock w (ρ i).blk (.map es' c'), ?_, .inr ⟨rfl, σ, subOf ρ i [], hw', ?_, by rw [put_size]; exact hn, by rw [put_defers]; exact hdf⟩⟩
  · simp only [execOp, ho, h1, h2', h5']
    simp [hrun]
  · rw [hdst]
    exact he.sub i []
open Go.ChangeMaps (setBlock)

abbrev Dirs := List (Str × List Str)
def dmVals (D : Dirs) (bs : List Nat) : List (Str × Value) := (D.zip bs).map fun x => (x.1.1, .map (some x.2))
def setVals (l : List Str) : List (Str × Value) := l.map fun n => (n, .bool true)
def dmRes (D : Dirs) : Res where
  rel w L := L.sub.length = D.length ∧ (L.blk :: L.sub).Nodup ∧ (∃ es c, MapAt w L.blk es c (dmVals D L.sub)) ∧ ∀ (i : Nat) (p : Str × List Str) b, D[i]? = some p → L.sub[i]? = some b → ∃ es c, MapAt w b es c (setVals p.2)
  keep w w' L h hb := by
    obtain ⟨h1, h2, ⟨es, c, h3⟩, h4⟩ := h
    refine ⟨h1, h2, ⟨es, c, h3.keep (hb _ (.inl rfl))⟩, fun i p b hi hbi => ?_⟩
    obtain ⟨es, c, h5⟩ := h4 i p b hi hbi
    exact ⟨es, c, h5.keep (hb b (.inr (List.mem_of_getElem? hbi)))⟩
  data w L h b hb := by
    obtain ⟨h1, h2, ⟨es, c, h3⟩, h4⟩ := h
    rcases hb with rfl | hb
    · exact ⟨_, h3.at_, rfl⟩
    · obtain ⟨i, hi⟩ := List.mem_iff_getElem?.1 hb
      have hil := (List.getElem?_eq_some_iff.1 hi).1
      obtain ⟨es, c, h5⟩ := h4 i D[i] b (List.getElem?_eq_getElem (by omega)) hi
      exact ⟨_, h5.at_, rfl⟩
/-- The first place of a directory. -/
def dIdx : Dirs → Str → Option Nat
  | [], _ => none
  | (k', _) :: r, k => if k = k' then some 0 else (dIdx r k).map (· + 1)
theorem dIdx_lt : ∀ (D : Dirs) (k : Str) (i : Nat), dIdx D k = some i → i < D.length ∧ (D[i]?).map (·.1) = some k
  | [], k, i, h => by cases h
  | (k', l) :: r, k, i, h => by
    rw [dIdx] at h
    by_cases hk : k = k'
    · rw [if_pos hk] at h
      obtain rfl := Option.some.inj h
      simp [hk]
    · rw [if_neg hk] at h
      obtain ⟨j, hj, rfl⟩ := Option.map_eq_some_iff.1 h
      obtain ⟨h1, h2⟩ := dIdx_lt r k j hj
      exact ⟨by simp only [List.length_cons]; omega, by simpa using h2⟩
theorem dm_idx (k : Str) : ∀ (D : Dirs) (bs : List Nat) (j : Nat), bs.length = D.length → (dIdx D k = none ∧ idxKey (dmVals D bs) k j = none) ∨ ∃ i b, dIdx D k = some i ∧ bs[i]? = some b ∧ idxKey (dmVals D bs) k j = some (j + i, .map (some b))
  | [], bs, j, h => .inl ⟨rfl, by simp [dmVals, idxKey]⟩
  | (k', l) :: D, [], j, h => by simp at h
  | (k', l) :: D, b :: bs, j, h => by
    have hv : dmVals ((k', l) :: D) (b :: bs) = (k', .map (some b)) :: dmVals D bs := rfl
    rw [hv, idxKey, dIdx]
    by_cases hk : k = k'
    · rw [if_pos hk, if_pos hk]
      exact .inr ⟨0, b, rfl, rfl, rfl⟩
    · rw [if_neg hk, if_neg hk]
      rcases dm_idx k D bs (j + 1) (by simpa using h) with ⟨h1, h2⟩ | ⟨i, b', h1, h2, h3⟩
      · exact .inl ⟨by rw [h1]; rfl, h2⟩
      · refine .inr ⟨i + 1, b', by rw [h1]; rfl, by simpa using h2, ?_⟩
        rw [h3]
        congr 2
        omega
/-- Is a directory there? -/
theorem dmLook_sound {P : Program} {n : Nat} {env : Env} {tab : List Ent} {o : Oper} {t kt et d i : Nat} {x kx : Operand} {D : Dirs} {k : Str}
    (hz : ∀ w, (zeroValue et).run P w = .ok (.map none) w) (hg : o.guard = none) (ho : o.op = .lookup t x kx true) (hdst : o.dst = some d) (ht : P.underlying t = some (.map kt et)) (hk : P.underlying kt = some .string)
    (hd : (decide (d < n) && okPut env d) = true) (hx : opnd env [] x = some (.mp i)) (hkx : opnd env [] kx = some (.val .str k)) (hi : tab[i]? = some (.res (dmRes D))) :
    Eff P n o ⟨env, tab⟩ ⟨put env d [] (.tup [.top, .val .bool (dIdx D k).isSome]), tab⟩ none := by
  simp only [Bool.and_eq_true, decide_eq_true_eq] at hd
  refine ⟨hg, fun cx a w _ hs => ?_⟩
  obtain ⟨σ, ρ, hw, he, hn, hdf⟩ : ∃ σ ρ, WR cx σ ρ tab w ∧ EnvA σ ρ env a ∧ a.tmps.size = n ∧ a.defers = cx.ds := hs
  have h1 := opnd_den he.env (fun p hp => by cases hp) hx
  have h2 := opnd_den he.env (fun p hp => by cases hp) hkx
  simp only [SV.den, Den] at h1 h2
  have h2' : a.eval kx = strV k := by simpa using h2
  obtain ⟨h3, h4, ⟨es, c, h5⟩, h6⟩ := hw.ent i _ hi
  have hrun := run_lookup_str (w := w) ht hk h5.at_ h5.ents (hz w) k true
  refine ⟨.value (lookV (dmVals D (ρ i).sub) k (.map none) true), w, ?_, .inl ⟨_, rfl, σ, ρ, hw, ?_, by rw [put_size]; exact hn, by rw [put_defers]; exact hdf⟩⟩
  · simp only [execOp, ho, h1, h2']
    simp [hrun]
  · rw [hdst]
    refine he.put hd.2 (by rw [hn]; exact hd.1) rfl (fun _ => ?_) (fun h => absurd (fun p hp => by cases hp) h)
    unfold lookV
    rcases dm_idx k D (ρ i).sub 0 h3 with ⟨q1, q2⟩ | ⟨m, b, q1, q2, q3⟩
    · rw [q1, q2]
      simp only [if_true, SV.den, SV.denL, Den]
      exact ⟨_, rfl, _, _, rfl, rfl, _, _, rfl, rfl, rfl⟩
    · rw [q1, q3]
      simp only [if_true, SV.den, SV.denL, Den]
      exact ⟨_, rfl, _, _, rfl, rfl, _, _, rfl, rfl, rfl⟩
/-! ### A name put into a directory -/
def sPut : List Str → Str → List Str
  | [], n => [n]
  | x :: r, n => if n = x then x :: r else x :: sPut r n
theorem sPut_put (n : Str) : ∀ l : List Str, putKey (setVals l) n (.bool true) = setVals (sPut l n)
  | [] => rfl
  | x :: r => by
    show putKey ((x, .bool true) :: setVals r) n (.bool true) = _
    rw [putKey, sPut]
    by_cases h : n = x
    · rw [if_pos h, if_pos h]; rfl
    · rw [if_neg h, if_neg h]
      show (x, Value.bool true) :: putKey (setVals r) n (.bool true) = (x, .bool true) :: setVals (sPut r n)
      rw [sPut_put n r]
def dAdd (D : Dirs) (i : Nat) (n : Str) : Dirs := D.modify i fun p => (p.1, sPut p.2 n)
theorem dmVals_add (D : Dirs) (i : Nat) (n : Str) (bs : List Nat) : dmVals (dAdd D i n) bs = dmVals D bs := by
  unfold dmVals dAdd
  apply List.ext_getElem?
  intro j
  simp only [List.getElem?_map, List.getElem?_zip_eq_some, List.zip, List.getElem?_zipWith, List.getElem?_modify]
  by_cases h : i = j
  · subst h
    cases D[i]? <;> cases bs[i]? <;> simp
  · simp only [if_neg h]
    cases D[j]? <;> cases bs[j]? <;> rfl
theorem run_move {P : Program} {a : Act} {w : World} {o : Oper} {x : Operand} (ho : o.op = .move x) : (execOp a.eval o).run P w = .ok (.value (a.eval x)) w := by simp [execOp, ho]
/-- `f.dirs[dir][name] = true`, as its three operations. -/
theorem TrL.dmSet {P : Program} {cx : Cx} {n : Nat} {ops : Array Oper} {o1 o2 o3 : Oper} {l : List Oper} {env : Env} {tab : List Ent} {Q : Post} {t1 kt1 et1 t3 kt3 et3 d1 d2 i m : Nat} {x kx y : Operand} {D : Dirs} {k nm : Str}
    (hz : ∀ w, (zeroValue et1).run P w = .ok (.map none) w) (hg1 : o1.guard = none) (ho1 : o1.op = .lookup t1 x kx false) (hd1 : o1.dst = some d1) (hg2 : o2.guard = none) (ho2 : o2.op = .move y) (hd2 : o2.dst = some d2)
    (hg3 : o3.guard = none) (ho3 : o3.op = .mapUpdate t3 (.tmp d1) (.tmp d2) (.const (.bool true))) (hd3 : o3.dst = none)
    (ht1 : P.underlying t1 = some (.map kt1 et1)) (hk1 : P.underlying kt1 = some .string) (ht3 : P.underlying t3 = some (.map kt3 et3)) (hk3 : P.underlying kt3 = some .string)
    (hd : (decide (d1 < n) && decide (d2 < n) && (d1 != d2) && okPut env d1 && okPut (put env d1 [] .top) d2) = true)
    (hx : opnd env [] x = some (.mp i)) (hkx : opnd env [] kx = some (.val .str k)) (hy : opnd (put env d1 [] .top) [] y = some (.val .str nm)) (hi : tab[i]? = some (.res (dmRes D))) (hm : dIdx D k = some m)
    (kk : TrL P cx n ops l ⟨put (put env d1 [] .top) d2 [] (.val .str nm), tab.set i (.res (dmRes (dAdd D m nm)))⟩ Q) : TrL P cx n ops (o1 :: o2 :: o3 :: l) ⟨env, tab⟩ Q := by
  simp only [Bool.and_eq_true, decide_eq_true_eq, bne_iff_ne, ne_eq] at hd
  obtain ⟨⟨⟨⟨hdn1, hdn2⟩, hne⟩, hok1⟩, hok2⟩ := hd
  intro a w hs
  obtain ⟨σ, ρ, hw, he, hn, hdf⟩ : ∃ σ ρ, WR cx σ ρ tab w ∧ EnvA σ ρ env a ∧ a.tmps.size = n ∧ a.defers = cx.ds := hs
  have h1 := opnd_den he.env (fun p hp => by cases hp) hx
  have h2 := opnd_den he.env (fun p hp => by cases hp) hkx
  simp only [SV.den, Den] at h1 h2
  have h2' : a.eval kx = strV k := by simpa using h2
  obtain ⟨h3, h4, ⟨es, c, h5⟩, h6⟩ := hw.ent i _ hi
  have hmi : ∃ b, (ρ i).sub[m]? = some b ∧ idxKey (dmVals D (ρ i).sub) k 0 = some (m, .map (some b)) := by
    rcases dm_idx k D (ρ i).sub 0 h3 with ⟨q1, q2⟩ | ⟨m', b, q1, q2, q3⟩
    · rw [hm] at q1; cases q1
    · rw [hm] at q1
      obtain rfl := Option.some.inj q1
      exact ⟨b, q2, by rw [q3, Nat.zero_add]⟩
  obtain ⟨b, hb, hidx⟩ := hmi
  have hrun1 : (execOp a.eval o1).run P w = .ok (.value (.map (some b))) w := by
    have := run_lookup_str (w := w) ht1 hk1 h5.at_ h5.ents (hz w) k false
    simp only [lookV, hidx, Bool.false_eq_true, if_false] at this
    simp only [execOp, ho1, h1, h2']
    simp [this]
  refine wpList_plain hg1 fun K hK => wp_of_value hrun1 (hK _ _ ?_)
  rw [hd1]
  have he1 : EnvA σ ρ (put env d1 [] .top) (a.put (some d1) (.map (some b))) := he.put hok1 (by rw [hn]; exact hdn1) rfl (fun _ => by simp only [SV.den, Value.oneCell']) (fun h => absurd (fun p hp => by cases hp) h)
  have hy1 := opnd_den he1.env (fun p hp => by cases hp) hy
  simp only [SV.den, Den] at hy1
  have hy1' : (a.put (some d1) (.map (some b))).eval y = strV nm := by simpa using hy1
  refine wpList_plain hg2 fun K2 hK2 => wp_of_value (run_move ho2) (hK2 _ _ ?_)
  rw [hd2, hy1']
  have hsz1 : (a.put (some d1) (.map (some b))).tmps.size = n := by rw [put_size]; exact hn
  have he2 : EnvA σ ρ (put (put env d1 [] .top) d2 [] (.val .str nm)) ((a.put (some d1) (.map (some b))).put (some d2) (strV nm)) := he1.put hok2 (by rw [hsz1]; exact hdn2) rfl (fun _ => by simp only [SV.den, Den]) (fun h => absurd (fun p hp => by cases hp) h)
  have hml := dIdx_lt D k m hm
  obtain ⟨es2, c2, h7⟩ := h6 m D[m] b (List.getElem?_eq_getElem hml.1) hb
  obtain ⟨es', c', hrun3, h8⟩ := run_update_str (P := P) ht3 hk3 h7 nm (.bool true)
  rw [sPut_put] at h8
  have hbm : b ∈ (ρ i).sub := List.mem_of_getElem? hb
  have hblk : (ρ i).blk ≠ b := fun e => (List.nodup_cons.1 h4).1 (e ▸ hbm)
  have hw' : WR cx σ (subOf ρ i (ρ i).sub) (tab.set i (.res (dmRes (dAdd D m nm)))) (setBlock w b (.map es' c')) := by
    refine hw.resStep hi (fun b' _ hb' => setBlock_other fun e => hb' (.inr (e ▸ hbm))) ?_ (fun b' hb' => .inl hb') rfl rfl rfl (by simp [setBlock])
    rw [subOf_same]
    refine ⟨?_, h4, ⟨es, c, ?_⟩, fun j p b' hj hb' => ?_⟩
    · simp only [dAdd, List.length_modify]; exact h3
    · rw [dmVals_add]
      exact h5.keep (setBlock_other fun e => hblk e.symm)
    · simp only [dAdd, List.getElem?_modify] at hj
      by_cases hjm : m = j
      · subst hjm
        rw [List.getElem?_eq_getElem hml.1] at hj
        simp only [if_true, Option.map_eq_map, Option.map_some, Option.some.injEq] at hj
        rw [hb] at hb'
        obtain rfl := Option.some.inj hb'
        subst hj
        exact ⟨es', c', h8⟩
      · simp only [if_neg hjm] at hj
        obtain ⟨es3, c3, h9⟩ := h6 j p b' (by simpa using hj) hb'
        refine ⟨es3, c3, h9.keep (setBlock_other fun e => ?_)⟩
        subst e
        have hnd := (List.nodup_cons.1 h4).2
        have hmi := (List.getElem?_eq_some_iff.1 hb).1
        have hji := (List.getElem?_eq_some_iff.1 hb').1
        exact hjm ((List.getElem_inj hnd).1 (((List.getElem?_eq_some_iff.1 hb).2).trans ((List.getElem?_eq_some_iff.1 hb').2).symm))
  refine wpList_plain hg3 fun K3 hK3 => ?_
  have hrun3' : (execOp ((a.put (some d1) (.map (some b))).put (some d2) (strV nm)).eval o3).run P w = .ok .skip (setBlock w b (.map es' c')) := by
    have hs2 : ((a.put (some d1) (.map (some b))).put (some d2) (strV nm)).tmps[d2]? = some (strV nm) := put_same (by rw [hsz1]; exact hdn2)
    have hs1 : ((a.put (some d1) (.map (some b))).put (some d2) (strV nm)).tmps[d1]? = some (.map (some b)) := by rw [put_other hne]; exact put_same (by rw [hn]; exact hdn1)
    have e1 : ((a.put (some d1) (.map (some b))).put (some d2) (strV nm)).eval (.tmp d1) = .map (some b) := by
      show Array.getD _ _ _ = _
      rw [Array.getD_eq_getD_getElem?, hs1]; rfl
    have e2 : ((a.put (some d1) (.map (some b))).put (some d2) (strV nm)).eval (.tmp d2) = strV nm := by
      show Array.getD _ _ _ = _
      rw [Array.getD_eq_getD_getElem?, hs2]; rfl
    have e3 : ((a.put (some d1) (.map (some b))).put (some d2) (strV nm)).eval (.const (.bool true)) = .bool true := rfl
    simp only [execOp, ho3, e1, e2, e3]
    simp [hrun3]
  unfold Oper.wp
  rw [hrun3']
  refine hK3 _ _ (kk _ _ ⟨σ, subOf ρ i (ρ i).sub, hw', ?_, by rw [put_size, put_size, put_size]; exact hn, by rw [put_defers, put_defers, put_defers]; exact hdf⟩)
  rw [hd3]
  exact he2.sub i _
open Go.ChangeMaps (setBlock)

/-! ### A new resource -/
def addRes (env : Env) (tab : List Ent) (d : Nat) (s : SV) (R : Res) : St :=
  ⟨put (cleanE (fun i => decide (i < tab.length)) env) d [] s, cleanT (fun i => decide (i < tab.length)) tab ++ [.res R]⟩
theorem SRel.newRes {cx : Cx} {n : Nat} {env : Env} {tab : List Ent} {a : Act} {w : World} {σ : Mem} {ρ : Rho} {d : Nat} {s : SV} {v : Value} {R : Res} {o : Obj} (hw : WR cx σ ρ tab w) (he : EnvA σ ρ env a) (hn : a.tmps.size = n) (hd : a.defers = cx.ds)
    (hlt : (decide (d < n) && okPut env d) = true) (hsub : R.rel (w.alloc o) (Loc0 w.heap.size)) (hsv : SV.den σ (upd ρ tab.length (Loc0 w.heap.size)) s v) : SRel cx n (addRes env tab d s R) (a.put (some d) v) (w.alloc o) := by
  simp only [Bool.and_eq_true, decide_eq_true_eq] at hlt
  have hρ : ∀ i, (decide (i < tab.length)) = true → upd ρ tab.length (Loc0 w.heap.size) i = ρ i := upd_lt
  refine ⟨σ, upd ρ tab.length (Loc0 w.heap.size), ?_, ?_, by rw [put_size]; exact hn, by rw [put_defers]; exact hd⟩
  · refine hw.newEnt (Mem.le_refl σ) (fun a v ha => ?_) (fun b hb => Below.heap_alloc w _ b hb) (fun a v ha => .inl ⟨v, ha⟩) ?_ (fun b hb => ?_) rfl rfl rfl (by simp)
    · exact ((below_alloc' w _).cell (sub_lt hw.sub ha)).trans (hw.sub a v ha)
    · show R.rel _ (upd ρ tab.length (Loc0 w.heap.size) tab.length)
      rw [upd_same]
      exact hsub
    · simp only [Ent.at_, upd_same, Loc0, List.not_mem_nil, or_false] at hb
      omega
  · exact (he.clean _ hρ).put (okPut_clean hlt.2) (by rw [hn]; exact hlt.1) rfl (fun _ => hsv) (fun h => absurd (fun p hp => by cases hp) h)
/-- An empty map. -/
def Starts (R : Res) : Prop := ∀ (w : World) (b : Nat), w.heap[b]? = some (.map #[] 0) → R.rel w (Loc0 b)
theorem mapAt_empty {w : World} {b : Nat} (h : w.heap[b]? = some (.map #[] 0)) : MapAt w b #[] 0 [] := ⟨h, rfl, by simp, by simp⟩
theorem fm_starts : Starts (fmRes []) := fun w b h => ⟨rfl, _, _, mapAt_empty h⟩
theorem dm_starts : Starts (dmRes []) := fun w b h => ⟨rfl, by simp [Loc0], ⟨_, _, mapAt_empty h⟩, fun i p b hi _ => by simp at hi⟩
theorem run_makeMap0 {P : Program} (w : World) (t : TypeId) : (Instr.makeMap t none).run P w = .ok (.map (some w.heap.size)) (w.alloc (.map #[] 0)) := by
  simp [Instr.makeMap, newObj, Sem.run, Result.andThen]
theorem newMap_sound {P : Program} {n : Nat} {env : Env} {tab : List Ent} {o : Oper} {t d : Nat} (R : Res) (hR : Starts R) (hg : o.guard = none) (ho : o.op = .makeMap t none) (hdst : o.dst = some d) (hd : (decide (d < n) && okPut env d) = true) :
    Eff P n o ⟨env, tab⟩ (addRes env tab d (.mp tab.length) R) none := by
  refine ⟨hg, fun cx a w _ hs => ?_⟩
  obtain ⟨σ, ρ, hw, he, hn, hdf⟩ : ∃ σ ρ, WR cx σ ρ tab w ∧ EnvA σ ρ env a ∧ a.tmps.size = n ∧ a.defers = cx.ds := hs
  refine ⟨.value (.map (some w.heap.size)), w.alloc (.map #[] 0), ?_, .inl ⟨_, rfl, ?_⟩⟩
  · simp only [execOp, ho]
    simp [run_makeMap0]
  · rw [hdst]
    refine SRel.newRes hw he hn hdf hd (hR _ _ (heap_alloc_new w _)) ?_
    simp only [SV.den, upd_same, Loc0]

/-- `m[k] = map{}`, as its two operations: a new directory. -/
theorem dm_new {w : World} {L : Loc} {D : Dirs} {k : Str} (h : (dmRes D).rel w L) (hk : dIdx D k = none) :
    ∃ es c, MapAt w L.blk es c (dmVals D L.sub) ∧ idxKey (dmVals D L.sub) k 0 = none := by
  obtain ⟨h1, h2, ⟨es, c, h3⟩, h4⟩ := h
  refine ⟨es, c, h3, ?_⟩
  rcases dm_idx k D L.sub 0 h1 with ⟨_, q⟩ | ⟨i, b, q, _⟩
  · exact q
  · rw [hk] at q; cases q
theorem TrL.dmNew {P : Program} {cx : Cx} {n : Nat} {ops : Array Oper} {o1 o2 : Oper} {l : List Oper} {env : Env} {tab : List Ent} {Q : Post} {t1 t2 kt et d1 i : Nat} {x kx : Operand} {D : Dirs} {k : Str}
    (hg1 : o1.guard = none) (ho1 : o1.op = .makeMap t1 none) (hd1 : o1.dst = some d1) (hg2 : o2.guard = none) (ho2 : o2.op = .mapUpdate t2 x kx (.tmp d1) ∨ o2.op = .insert t2 x kx (.tmp d1)) (hd2 : o2.dst = none)
    (ht : P.underlying t2 = some (.map kt et)) (hkt : P.underlying kt = some .string) (hd : (decide (d1 < n) && okPut env d1) = true)
    (hx : opnd (put env d1 [] .top) [] x = some (.mp i)) (hkx : opnd (put env d1 [] .top) [] kx = some (.val .str k)) (hi : tab[i]? = some (.res (dmRes D))) (hk : dIdx D k = none)
    (kk : TrL P cx n ops l ⟨put env d1 [] .top, tab.set i (.res (dmRes (D ++ [(k, [])])))⟩ Q) : TrL P cx n ops (o1 :: o2 :: l) ⟨env, tab⟩ Q := by
  simp only [Bool.and_eq_true, decide_eq_true_eq] at hd
  intro a w hs
  obtain ⟨σ, ρ, hw, he, hn, hdf⟩ : ∃ σ ρ, WR cx σ ρ tab w ∧ EnvA σ ρ env a ∧ a.tmps.size = n ∧ a.defers = cx.ds := hs
  have hrun1 : (execOp a.eval o1).run P w = .ok (.value (.map (some w.heap.size))) (w.alloc (.map #[] 0)) := by
    simp only [execOp, ho1]
    simp [run_makeMap0]
  refine wpList_plain hg1 fun K hK => wp_of_value hrun1 (hK _ _ ?_)
  rw [hd1]
  have he1 : EnvA σ ρ (put env d1 [] .top) (a.put (some d1) (.map (some w.heap.size))) := he.put hd.2 (by rw [hn]; exact hd.1) rfl (fun _ => by simp only [SV.den, Value.oneCell']) (fun h => absurd (fun p hp => by cases hp) h)
  have h1 := opnd_den he1.env (fun p hp => by cases hp) hx
  have h2 := opnd_den he1.env (fun p hp => by cases hp) hkx
  simp only [SV.den, Den] at h1 h2
  have h2' : (a.put (some d1) (.map (some w.heap.size))).eval kx = strV k := by simpa using h2
  have hs1 : (a.put (some d1) (.map (some w.heap.size))).tmps[d1]? = some (.map (some w.heap.size)) := put_same (by rw [hn]; exact hd.1)
  have e1 : (a.put (some d1) (.map (some w.heap.size))).eval (.tmp d1) = .map (some w.heap.size) := by
    show Array.getD _ _ _ = _
    rw [Array.getD_eq_getD_getElem?, hs1]; rfl
  have hrel := hw.ent i _ hi
  obtain ⟨q1, q2, ⟨es0, c0, q3⟩, q4⟩ := id hrel
  obtain ⟨es, c, h5, h6⟩ := dm_new hrel hk
  have hlt : (ρ i).blk < w.heap.size := (Array.getElem?_eq_some_iff.1 h5.at_).1
  have hsubl : ∀ b ∈ (ρ i).sub, b < w.heap.size := fun b hb => Ent.rel_lt hrel (.inr hb)
  have hal : ∀ b, b < w.heap.size → (w.alloc (.map #[] 0)).heap[b]? = w.heap[b]? := fun b hb => Below.heap_alloc w _ b hb
  have h5' : MapAt (w.alloc (.map #[] 0)) (ρ i).blk es c (dmVals D (ρ i).sub) := h5.keep (hal _ hlt)
  obtain ⟨es', c', hrun2, h7⟩ := run_update_str (P := P) ht hkt h5' k (.map (some w.heap.size))
  have hv : putKey (dmVals D (ρ i).sub) k (.map (some w.heap.size)) = dmVals (D ++ [(k, [])]) ((ρ i).sub ++ [w.heap.size]) := by
    rw [putKey_none _ k 0 _ h6]
    unfold dmVals
    rw [List.zip_append q1.symm]
    simp
  rw [hv] at h7
  have hne : (ρ i).blk ≠ w.heap.size := by omega
  have hsz : (setBlock (w.alloc (.map #[] 0)) (ρ i).blk (.map es' c')).heap.size = w.heap.size + 1 := by simp [setBlock]
  have hw' : WR cx σ (subOf ρ i ((ρ i).sub ++ [w.heap.size])) (tab.set i (.res (dmRes (D ++ [(k, [])])))) (setBlock (w.alloc (.map #[] 0)) (ρ i).blk (.map es' c')) := by
    refine hw.resStep hi (fun b hb hb' => ?_) ?_ (fun b hb => ?_) rfl rfl rfl (by omega)
    · rw [setBlock_other (fun e => hb' (.inl e.symm))]
      exact hal b hb
    · rw [subOf_same]
      refine ⟨by simp [q1], ?_, ⟨es', c', h7⟩, fun j p b hj hb => ?_⟩
      · show ((ρ i).blk :: ((ρ i).sub ++ [w.heap.size])).Nodup
        rw [List.nodup_cons] at q2 ⊢
        refine ⟨?_, ?_⟩
        · rw [List.mem_append, List.mem_singleton]
          rintro (h | h)
          · exact q2.1 h
          · exact hne h
        · rw [List.nodup_append]
          refine ⟨q2.2, by simp, fun x hx y hy => ?_⟩
          rw [List.mem_singleton.1 hy]
          have := hsubl x hx
          omega
      · have hb2 : ((ρ i).sub ++ [w.heap.size])[j]? = some b := hb
        by_cases hjl : j < D.length
        · rw [List.getElem?_append_left hjl] at hj
          rw [List.getElem?_append_left (by omega)] at hb2
          obtain ⟨es3, c3, h8⟩ := q4 j p b hj hb2
          have hbm := List.mem_of_getElem? hb2
          refine ⟨es3, c3, h8.keep ?_⟩
          rw [setBlock_other (fun (e : (ρ i).blk = b) => (List.nodup_cons.1 q2).1 (by rw [e]; exact hbm))]
          exact hal _ (hsubl _ hbm)
        · rw [List.getElem?_append_right (by omega)] at hj
          rw [List.getElem?_append_right (by omega)] at hb2
          have hj0 : j - D.length = 0 := by
            rcases Nat.eq_zero_or_pos (j - D.length) with h | h
            · exact h
            · rw [List.getElem?_eq_none (by simp; omega)] at hj; cases hj
          rw [hj0] at hj
          rw [q1, hj0] at hb2
          simp only [List.getElem?_cons_zero, Option.some.injEq] at hj hb2
          subst hj hb2
          refine ⟨#[], 0, mapAt_empty ?_⟩
          rw [setBlock_other hne]
          exact heap_alloc_new w _
    · rcases List.mem_append.1 hb with h | h
      · exact .inl h
      · exact .inr (by rw [List.mem_singleton.1 h]; exact Nat.le_refl _)
  refine wpList_plain hg2 fun K2 hK2 => ?_
  have hrun3 : (execOp (a.put (some d1) (.map (some w.heap.size))).eval o2).run P (w.alloc (.map #[] 0)) = .ok .skip (setBlock (w.alloc (.map #[] 0)) (ρ i).blk (.map es' c')) := by
    rcases ho2 with ho2 | ho2
    · simp only [execOp, ho2, e1, h1, h2']
      simp [hrun2]
    · simp only [execOp, ho2, e1, h1, h2']
      simp [hrun2]
  unfold Oper.wp
  rw [hrun3]
  refine hK2 _ _ (kk _ _ ⟨σ, _, hw', ?_, by rw [put_size, put_size]; exact hn, by rw [put_defers, put_defers]; exact hdf⟩)
  rw [hd2]
  exact he1.sub i _
open Go.ChangeMaps (setBlock)

/-! ### What is told of a map while it is ranged over -/
def keyS (e : MapEntry) : Str := match e.key with | .string b => b.data.toList | _ => []
structure EsOk (es : Array MapEntry) (clk : Nat) (l : List (Str × Value)) : Prop where
  ents : EsIs es.toList l
  nodup : (es.toList.map (·.born)).Nodup
  born : ∀ e ∈ es.toList, e.born < clk
  one : ∀ x ∈ l, x.2.oneCell' = true
theorem EsOk.mem {es : Array MapEntry} {clk : Nat} {l : List (Str × Value)} (h : EsOk es clk l) {e : MapEntry} (he : e ∈ es.toList) : e.key = strV (keyS e) ∧ e.val.oneCell' = true := by
  have h1 : (e.key, e.val) ∈ es.toList.map (fun e => (e.key, e.val)) := List.mem_map.2 ⟨e, he, rfl⟩
  have h2 : es.toList.map (fun e => (e.key, e.val)) = l.map (fun x => (strV x.1, x.2)) := h.ents
  rw [h2] at h1
  obtain ⟨x, hx, hxe⟩ := List.mem_map.1 h1
  simp only [Prod.mk.injEq] at hxe
  refine ⟨?_, by rw [← hxe.2]; exact h.one x hx⟩
  unfold keyS
  rw [← hxe.1]
  rfl
theorem EsOk.keys {es : Array MapEntry} {clk : Nat} {l : List (Str × Value)} (h : EsOk es clk l) : es.toList.map keyS = l.map (·.1) := by
  have h2 : es.toList.map (fun e => (e.key, e.val)) = l.map (fun x => (strV x.1, x.2)) := h.ents
  have h3 : es.toList.map keyS = (es.toList.map (fun e => (e.key, e.val))).map (fun p => match p.1 with | .string b => b.data.toList | _ => []) := by
    rw [List.map_map]; rfl
  rw [h3, h2, List.map_map]
  rfl
/-- The keys that are left. -/
def leftK (es : Array MapEntry) (seen : Array Nat) : List Str := (leftOf es seen).toList.map keyS
theorem perm_born : ∀ (l : List MapEntry) (e : MapEntry), (l.map (·.born)).Nodup → e ∈ l → l.Perm (e :: l.filter (fun x => x.born != e.born))
  | [], e, _, h => by cases h
  | x :: l, e, hn, h => by
    rw [List.map_cons, List.nodup_cons] at hn
    rcases List.mem_cons.1 h with rfl | h
    · have : (e :: l).filter (fun x => x.born != e.born) = l := by
        rw [List.filter_cons_of_neg (by simp)]
        refine List.filter_eq_self.2 fun y hy => ?_
        have : y.born ≠ e.born := fun h => hn.1 (by rw [← h]; exact List.mem_map.2 ⟨y, hy, rfl⟩)
        simpa using this
      rw [this]
    · have hne : x.born ≠ e.born := fun h' => hn.1 (by rw [h']; exact List.mem_map.2 ⟨e, h, rfl⟩)
      rw [List.filter_cons_of_pos (by simpa using hne)]
      exact ((perm_born l e hn.2 h).cons x).trans (List.Perm.swap _ _ _)
theorem leftOf_push (es : Array MapEntry) (seen : Array Nat) (b : Nat) : (leftOf es (seen.push b)).toList = (leftOf es seen).toList.filter (fun x => x.born != b) := by
  unfold leftOf
  rw [Array.toList_filter, Array.toList_filter, List.filter_filter]
  congr 1
  funext x
  rw [Array.contains_push]
  cases seen.contains x.born <;> simp [bne, Bool.beq_comm]
theorem leftK_push {es : Array MapEntry} {seen : Array Nat} {e : MapEntry} (hn : (es.toList.map (·.born)).Nodup) (he : e ∈ (leftOf es seen).toList) : (leftK es seen).Perm (keyS e :: leftK es (seen.push e.born)) := by
  have hn2 : ((leftOf es seen).toList.map (·.born)).Nodup := by
    unfold leftOf
    rw [Array.toList_filter]
    exact hn.sublist (List.filter_sublist.map _)
  have := (perm_born _ e hn2 he).map keyS
  rw [List.map_cons, ← leftOf_push] at this
  exact this
theorem leftOf_mem {es : Array MapEntry} {seen : Array Nat} {e : MapEntry} (h : e ∈ (leftOf es seen).toList) : e ∈ es.toList := by
  unfold leftOf at h
  rw [Array.toList_filter] at h
  exact (List.mem_filter.1 h).1
theorem leftK_all {es : Array MapEntry} : leftK es #[] = es.toList.map keyS := by
  unfold leftK leftOf
  rw [Array.toList_filter]
  congr 1
  exact List.filter_eq_self.2 fun x _ => by simp

/-- A resource, of whose maps one is told to the letter. -/
def pinR (R : Res) (bm : Nat) (es : Array MapEntry) (clk : Nat) : Res where
  rel w L := R.rel w L ∧ (bm = L.blk ∨ bm ∈ L.sub) ∧ w.heap[bm]? = some (.map es clk)
  keep w w' L h hb := ⟨R.keep w w' L h.1 hb, h.2.1, by rw [hb _ h.2.1]; exact h.2.2⟩
  data w L h := R.data w L h.1
/-- Who ranges over it; what is left. -/
def itE (bm : Nat) (es : Array MapEntry) (clk : Nat) (left : List Str) : Res where
  rel w L := L.sub = [] ∧ ∃ (seen : Array Nat), w.heap[L.blk]? = some (.mapIter (some bm) clk seen clk) ∧ (leftK es seen).Perm left
  keep w w' L h hb := by
    obtain ⟨h1, seen, h2, h3⟩ := h
    exact ⟨h1, seen, by rw [hb _ (.inl rfl)]; exact h2, h3⟩
  data w L h b hb := by
    obtain ⟨h1, seen, h2, h3⟩ := h
    rcases hb with rfl | hb
    · exact ⟨_, h2, rfl⟩
    · rw [h1] at hb; cases hb
/-- The same behind a step: the entry that it stepped to. -/
def itC (bm : Nat) (es : Array MapEntry) (clk : Nat) (left : List Str) (x : Str) : Res where
  rel w L := L.sub = [] ∧ ∃ (seen : Array Nat) (e : MapEntry), w.heap[L.blk]? = some (.mapIter (some bm) clk (seen.push e.born) clk) ∧ e ∈ es.toList ∧ keyS e = x ∧ (leftK es (seen.push e.born)).Perm left
  keep w w' L h hb := by
    obtain ⟨h1, seen, e, h2, h3⟩ := h
    exact ⟨h1, seen, e, by rw [hb _ (.inl rfl)]; exact h2, h3⟩
  data w L h b hb := by
    obtain ⟨h1, seen, e, h2, h3⟩ := h
    rcases hb with rfl | hb
    · exact ⟨_, h2, rfl⟩
    · rw [h1] at hb; cases hb
/-- Who ranges over a map that is nil. -/
def itN : Res where
  rel w L := L.sub = [] ∧ w.heap[L.blk]? = some (.mapIter none 0 #[] 0)
  keep w w' L h hb := ⟨h.1, by rw [hb _ (.inl rfl)]; exact h.2⟩
  data w L h b hb := by
    rcases hb with rfl | hb
    · exact ⟨_, h.2, rfl⟩
    · rw [h.1] at hb; cases hb

/-! ### Less is told of a resource -/
theorem SRel.weakRes {cx : Cx} {n : Nat} {env : Env} {tab : List Ent} {a : Act} {w : World} (i : Nat) {R R' : Res} (hi : tab[i]? = some (.res R)) (hR : ∀ w L, R.rel w L → R'.rel w L) (h : SRel cx n ⟨env, tab⟩ a w) : SRel cx n ⟨env, tab.set i (.res R')⟩ a w := by
  obtain ⟨σ, ρ, hw, he, hn, hd⟩ : ∃ σ ρ, WR cx σ ρ tab w ∧ EnvA σ ρ env a ∧ a.tmps.size = n ∧ a.defers = cx.ds := h
  have hS : subOf ρ i (ρ i).sub = ρ := by
    funext j
    unfold subOf
    split
    · rename_i hj; rw [hj]
    · rfl
  have := hw.resStep (w' := w) (R' := R') (S := (ρ i).sub) hi (fun b _ _ => rfl) (by rw [hS]; exact hR _ _ (hw.ent i _ hi)) (fun b hb => .inl hb) rfl rfl rfl (Nat.le_refl _)
  rw [hS] at this
  exact ⟨σ, ρ, this, he, hn, hd⟩
section
variable {P : Program} {cx : Cx} {n : Nat} {env : Env} {tab : List Ent} {Q : Post}
theorem Tr.weakRes {c : Code} (i : Nat) {R R' : Res} (hi : tab[i]? = some (.res R)) (hR : ∀ w L, R.rel w L → R'.rel w L) (h : Tr P cx n c ⟨env, tab.set i (.res R')⟩ Q) : Tr P cx n c ⟨env, tab⟩ Q := Tr.of h fun a w hs => hs.weakRes i hi hR
theorem TrL.weakRes {ops : Array Oper} {c : List Oper} (i : Nat) {R R' : Res} (hi : tab[i]? = some (.res R)) (hR : ∀ w L, R.rel w L → R'.rel w L) (h : TrL P cx n ops c ⟨env, tab.set i (.res R')⟩ Q) : TrL P cx n ops c ⟨env, tab⟩ Q := TrL.of h fun a w hs => hs.weakRes i hi hR
theorem unpin {R : Res} {bm : Nat} {es : Array MapEntry} {clk : Nat} : ∀ w L, (pinR R bm es clk).rel w L → R.rel w L := fun w L h => h.1

/-! ### A map is told to the letter -/
def Holds1 (R : Res) (l : List (Str × Value)) : Prop := ∀ w L, R.rel w L → ∃ vs es clk, MapAt w L.blk es clk vs ∧ vs.map (·.1) = l.map (·.1) ∧ ∀ x ∈ vs, x.2.oneCell' = true
theorem fm_holds (F : List (Str × Str)) : Holds1 (fmRes F) (fVals F) := fun w L h => by
  obtain ⟨h1, es, c, h2⟩ := h
  refine ⟨_, es, c, h2, rfl, fun x hx => ?_⟩
  obtain ⟨y, _, rfl⟩ := List.mem_map.1 hx
  rfl
theorem dm_holds (D : Dirs) : Holds1 (dmRes D) (D.map fun p => (p.1, .map none)) := fun w L h => by
  obtain ⟨h1, h2, ⟨es, c, h3⟩, h4⟩ := h
  refine ⟨_, es, c, h3, ?_, fun x hx => ?_⟩
  · unfold dmVals
    rw [List.map_map, List.map_map]
    apply List.ext_getElem?
    intro j
    simp only [List.getElem?_map, Function.comp_def]
    by_cases hj : j < D.length
    · have e : (D.zip L.sub)[j]? = some (D[j], L.sub[j]'(by omega)) := by
        rw [List.getElem?_eq_getElem (by rw [List.length_zip]; omega), List.getElem_zip]
      rw [e, List.getElem?_eq_getElem hj]
      rfl
    · rw [List.getElem?_eq_none (by rw [List.length_zip]; omega), List.getElem?_eq_none (by omega)]
      rfl
  · obtain ⟨y, _, rfl⟩ := List.mem_map.1 hx
    rfl
/-- `range m`, m a variable's map. -/
theorem TrL.rangeM {ops : Array Oper} {o : Oper} {L : List Oper} {t kt et d i : Nat} {x : Operand} {R : Res} {l : List (Str × Value)} (hR : Holds1 R l)
    (hg : o.guard = none) (ho : o.op = .range t x) (hdst : o.dst = some d) (ht : P.underlying t = some (.map kt et)) (hd : (decide (d < n) && okPut env d) = true)
    (hx : opnd env [] x = some (.mp i)) (hi : tab[i]? = some (.res R))
    (k : ∀ bm es clk vs, EsOk es clk vs → vs.map (·.1) = l.map (·.1) → TrL P cx n ops L (addRes env (tab.set i (.res (pinR R bm es clk))) d (.ptr tab.length 0) (itE bm es clk (l.map (·.1)))) Q) : TrL P cx n ops (o :: L) ⟨env, tab⟩ Q := by
  intro a w hs
  obtain ⟨σ, ρ, hw, he, hn, hdf⟩ : ∃ σ ρ, WR cx σ ρ tab w ∧ EnvA σ ρ env a ∧ a.tmps.size = n ∧ a.defers = cx.ds := id hs
  have h1 := opnd_den he.env (fun p hp => by cases hp) hx
  simp only [SV.den] at h1
  obtain ⟨vs, es, clk, q1, q2, q3⟩ := hR w _ (hw.ent i _ hi)
  have hok : EsOk es clk vs := ⟨q1.ents, q1.nodup, q1.born, q3⟩
  have hs2 : SRel cx n ⟨env, tab.set i (.res (pinR R (ρ i).blk es clk))⟩ a w := by
    have hS : subOf ρ i (ρ i).sub = ρ := by
      funext j
      unfold subOf
      split
      · rename_i hj; rw [hj]
      · rfl
    have := hw.resStep (w' := w) (R' := pinR R (ρ i).blk es clk) (S := (ρ i).sub) hi (fun b _ _ => rfl) (by rw [hS]; exact ⟨hw.ent i _ hi, .inl rfl, q1.at_⟩) (fun b hb => .inl hb) rfl rfl rfl (Nat.le_refl _)
    rw [hS] at this
    exact ⟨σ, ρ, this, he, hn, hdf⟩
  obtain ⟨σ2, ρ2, hw2, he2, hn2, hd2⟩ : ∃ σ2 ρ2, WR cx σ2 ρ2 (tab.set i (.res (pinR R (ρ i).blk es clk))) w ∧ EnvA σ2 ρ2 env a ∧ a.tmps.size = n ∧ a.defers = cx.ds := hs2
  have hrun : (execOp a.eval o).run P w = .ok (.value (.pointer (some ⟨w.heap.size, 0, none⟩))) (w.alloc (.mapIter (some (ρ i).blk) clk #[] clk)) := by
    have hgo : (getObj (ρ i).blk).run P w = .ok (.map es clk) w := MapKept.run_getObj_map q1.at_
    simp only [execOp, ho, h1]
    simp [Instr.range, run_underlying ht, hgo, newObj, Sem.run, Result.andThen]
  refine wpList_plain hg fun K hK => wp_of_value hrun (hK _ _ (k (ρ i).blk es clk vs hok q2 _ _ ?_))
  rw [hdst]
  refine SRel.newRes hw2 he2 hn2 hd2 hd ⟨rfl, #[], heap_alloc_new w _, ?_⟩ ?_
  · rw [leftK_all, hok.keys, q2]
  · simp only [SV.den, List.length_set, upd_same, Loc0]
/-- `range m`, m the map that a look-up yielded. -/
theorem TrL.rangeP {ops : Array Oper} {o : Oper} {L : List Oper} {t kt et d i bm clk : Nat} {es : Array MapEntry} {x : Operand} {R : Res} {l : List (Str × Value)} (hok : EsOk es clk l)
    (hg : o.guard = none) (ho : o.op = .range t x) (hdst : o.dst = some d) (ht : P.underlying t = some (.map kt et)) (hd : (decide (d < n) && okPut env d) = true)
    (hx : opnd env [] x = some (.itr (some bm))) (hi : tab[i]? = some (.res (pinR R bm es clk)))
    (k : TrL P cx n ops L (addRes env tab d (.ptr tab.length 0) (itE bm es clk (l.map (·.1)))) Q) : TrL P cx n ops (o :: L) ⟨env, tab⟩ Q := by
  intro a w hs
  obtain ⟨σ, ρ, hw, he, hn, hdf⟩ : ∃ σ ρ, WR cx σ ρ tab w ∧ EnvA σ ρ env a ∧ a.tmps.size = n ∧ a.defers = cx.ds := hs
  have h1 := opnd_den he.env (fun p hp => by cases hp) hx
  simp only [SV.den] at h1
  obtain ⟨q1, q2, q3⟩ := hw.ent i _ hi
  have hrun : (execOp a.eval o).run P w = .ok (.value (.pointer (some ⟨w.heap.size, 0, none⟩))) (w.alloc (.mapIter (some bm) clk #[] clk)) := by
    have hgo : (getObj bm).run P w = .ok (.map es clk) w := MapKept.run_getObj_map q3
    simp only [execOp, ho, h1]
    simp [Instr.range, run_underlying ht, hgo, newObj, Sem.run, Result.andThen]
  refine wpList_plain hg fun K hK => wp_of_value hrun (hK _ _ (k _ _ ?_))
  rw [hdst]
  refine SRel.newRes hw he hn hdf hd ⟨rfl, #[], heap_alloc_new w _, ?_⟩ ?_
  · rw [leftK_all, hok.keys]
  · simp only [SV.den, upd_same, Loc0]
/-- `range m`, m nil. -/
theorem TrL.rangeN {ops : Array Oper} {o : Oper} {L : List Oper} {t kt et d : Nat} {x : Operand}
    (hg : o.guard = none) (ho : o.op = .range t x) (hdst : o.dst = some d) (ht : P.underlying t = some (.map kt et)) (hd : (decide (d < n) && okPut env d) = true)
    (hx : opnd env [] x = some (.itr none)) (k : TrL P cx n ops L (addRes env tab d (.ptr tab.length 0) itN) Q) : TrL P cx n ops (o :: L) ⟨env, tab⟩ Q := by
  intro a w hs
  obtain ⟨σ, ρ, hw, he, hn, hdf⟩ : ∃ σ ρ, WR cx σ ρ tab w ∧ EnvA σ ρ env a ∧ a.tmps.size = n ∧ a.defers = cx.ds := hs
  have h1 := opnd_den he.env (fun p hp => by cases hp) hx
  simp only [SV.den] at h1
  have hrun : (execOp a.eval o).run P w = .ok (.value (.pointer (some ⟨w.heap.size, 0, none⟩))) (w.alloc (.mapIter none 0 #[] 0)) := by
    simp only [execOp, ho, h1]
    simp [Instr.range, run_underlying ht, newObj, Sem.run, Result.andThen]
  refine wpList_plain hg fun K hK => wp_of_value hrun (hK _ _ (k _ _ ?_))
  rw [hdst]
  refine SRel.newRes hw he hn hdf hd ⟨rfl, heap_alloc_new w _⟩ ?_
  simp only [SV.den, upd_same, Loc0]

/-! ### A step -/
theorem TrL.nextN {ops : Array Oper} {o : Oper} {L : List Oper} {d j : Nat} {x : Operand}
    (hg : o.guard = none) (ho : o.op = .next x false) (hdst : o.dst = some d) (hd : (decide (d < n) && okPut env d) = true)
    (hx : opnd env [] x = some (.ptr j 0)) (hj : tab[j]? = some (.res itN)) (k : TrL P cx n ops L ⟨put env d [] (.tup [.val .bool false]), tab⟩ Q) : TrL P cx n ops (o :: L) ⟨env, tab⟩ Q := by
  simp only [Bool.and_eq_true, decide_eq_true_eq] at hd
  intro a w hs
  obtain ⟨σ, ρ, hw, he, hn, hdf⟩ : ∃ σ ρ, WR cx σ ρ tab w ∧ EnvA σ ρ env a ∧ a.tmps.size = n ∧ a.defers = cx.ds := hs
  have h1 := opnd_den he.env (fun p hp => by cases hp) hx
  simp only [SV.den] at h1
  obtain ⟨q1, q2⟩ := hw.ent j _ hj
  have hrun : (execOp a.eval o).run P w = .ok (.value (.tuple #[.bool false])) w := by
    simp only [execOp, ho, h1]
    simp [Instr.next, getObj, Sem.run, q2, Result.andThen]
  refine wpList_plain hg fun K hK => wp_of_value hrun (hK _ _ (k _ _ ⟨σ, ρ, hw, ?_, by rw [put_size]; exact hn, by rw [put_defers]; exact hdf⟩))
  rw [hdst]
  exact he.put hd.2 (by rw [hn]; exact hd.1) rfl (fun _ => by simp only [SV.den, SV.denL, Den]; exact ⟨_, rfl, _, _, rfl, rfl, rfl⟩) (fun h => absurd (fun p hp => by cases hp) h)
theorem TrL.nextM {ops : Array Oper} {o : Oper} {L : List Oper} {d j bm clk : Nat} {es : Array MapEntry} {x : Operand} {R : Res} {l : List (Str × Value)} {left : List Str} (i : Nat) (hok : EsOk es clk l)
    (hg : o.guard = none) (ho : o.op = .next x false) (hdst : o.dst = some d) (hd : (decide (d < n) && okPut env d) = true)
    (hx : opnd env [] x = some (.ptr j 0)) (hj : tab[j]? = some (.res (itE bm es clk left))) (hi : tab[i]? = some (.res (pinR R bm es clk)))
    (k1 : left = [] → TrL P cx n ops L ⟨put env d [] (.tup [.val .bool false]), tab⟩ Q)
    (k2 : ∀ s rest, left.Perm (s :: rest) → TrL P cx n ops L ⟨put env d [] (.tup [.val .bool true, .val .str s, .top]), tab.set j (.res (itC bm es clk rest s))⟩ Q) : TrL P cx n ops (o :: L) ⟨env, tab⟩ Q := by
  simp only [Bool.and_eq_true, decide_eq_true_eq] at hd
  intro a w hs
  obtain ⟨σ, ρ, hw, he, hn, hdf⟩ : ∃ σ ρ, WR cx σ ρ tab w ∧ EnvA σ ρ env a ∧ a.tmps.size = n ∧ a.defers = cx.ds := hs
  have h1 := opnd_den he.env (fun p hp => by cases hp) hx
  simp only [SV.den] at h1
  obtain ⟨q1, seen, q2, q3⟩ := hw.ent j _ hj
  obtain ⟨p1, p2, p3⟩ := hw.ent i _ hi
  rcases run_next_at (P := P) w o.type (ρ j).blk bm clk clk seen es clk q2 p3 hok.born (Nat.le_refl _) with ⟨hz, hrun⟩ | ⟨e, hem, w1, hw1, hrun⟩
  · have hl : left = [] := by
      have : leftK es seen = [] := by
        unfold leftK
        rw [Array.eq_empty_of_size_eq_zero hz]
        rfl
      rw [this] at q3
      exact q3.nil_eq.symm
    have hrun' : (execOp a.eval o).run P w = .ok (.value (.tuple #[.bool false])) w := by
      simp only [execOp, ho, h1]
      simp [hrun]
    refine wpList_plain hg fun K hK => wp_of_value hrun' (hK _ _ (k1 hl _ _ ⟨σ, ρ, hw, ?_, by rw [put_size]; exact hn, by rw [put_defers]; exact hdf⟩))
    rw [hdst]
    exact he.put hd.2 (by rw [hn]; exact hd.1) rfl (fun _ => by simp only [SV.den, SV.denL, Den]; exact ⟨_, rfl, _, _, rfl, rfl, rfl⟩) (fun h => absurd (fun p hp => by cases hp) h)
  · have hee := hok.mem (leftOf_mem hem)
    have hrun' : (execOp a.eval o).run P w = .ok (.value (.tuple #[.bool true, e.key, e.val])) (setBlock w1 (ρ j).blk (.mapIter (some bm) clk (seen.push e.born) clk)) := by
      simp only [execOp, ho, h1]
      simp [hrun]
    have hw1h : w1.heap = w.heap ∧ w1.os = w.os ∧ w1.tape = w.tape ∧ w1.output = w.output := by
      rcases hw1 with rfl | rfl <;> exact ⟨rfl, rfl, rfl, rfl⟩
    have hpm := leftK_push hok.nodup hem
    have hw' := hw.resStep (R' := itC bm es clk (leftK es (seen.push e.born)) (keyS e)) (S := []) hj (w' := setBlock w1 (ρ j).blk (.mapIter (some bm) clk (seen.push e.born) clk))
      (fun b _ hb => by rw [setBlock_other fun e => hb (.inl e.symm), hw1h.1]) ⟨by rw [subOf_same], seen, e, ?_, leftOf_mem hem, rfl, List.Perm.refl _⟩ (fun b hb => by cases hb) hw1h.2.1 hw1h.2.2.1 hw1h.2.2.2 (by simp [setBlock, hw1h.1])
    · refine wpList_plain hg fun K hK => wp_of_value hrun' (hK _ _ (k2 (keyS e) _ (q3.symm.trans hpm) _ _ ⟨σ, subOf ρ j [], hw', ?_, by rw [put_size]; exact hn, by rw [put_defers]; exact hdf⟩))
      rw [hdst]
      refine EnvR.sub (he.put hd.2 (by rw [hn]; exact hd.1) rfl (fun _ => ?_) (fun h => absurd (fun p hp => by cases hp) h)) j []
      simp only [SV.den, SV.denL, Den]
      exact ⟨_, rfl, _, _, rfl, rfl, _, _, rfl, by rw [hee.1], _, _, rfl, hee.2, rfl⟩
    · rw [subOf_blk]
      exact setBlock_at (by rw [hw1h.1]; exact q2)
/-- The entry that was stepped to. -/
theorem TrL.entryM {ops : Array Oper} {o : Oper} {L : List Oper} {d j bm clk : Nat} {es : Array MapEntry} {x : Operand} {R : Res} {l : List (Str × Value)} {left : List Str} {s : Str} (i : Nat) (hok : EsOk es clk l)
    (hg : o.guard = none) (ho : o.op = .entry x) (hdst : o.dst = some d) (hd : (decide (d < n) && okPut env d) = true)
    (hx : opnd env [] x = some (.ptr j 0)) (hj : tab[j]? = some (.res (itC bm es clk left s))) (hi : tab[i]? = some (.res (pinR R bm es clk)))
    (k : TrL P cx n ops L ⟨put env d [] (.tup [.val .str s, .top]), tab.set j (.res (itE bm es clk left))⟩ Q) : TrL P cx n ops (o :: L) ⟨env, tab⟩ Q := by
  simp only [Bool.and_eq_true, decide_eq_true_eq] at hd
  intro a w hs
  obtain ⟨σ, ρ, hw, he, hn, hdf⟩ : ∃ σ ρ, WR cx σ ρ tab w ∧ EnvA σ ρ env a ∧ a.tmps.size = n ∧ a.defers = cx.ds := hs
  have h1 := opnd_den he.env (fun p hp => by cases hp) hx
  simp only [SV.den] at h1
  obtain ⟨q1, seen, e, q2, q3, q4, q5⟩ := hw.ent j _ hj
  obtain ⟨p1, p2, p3⟩ := hw.ent i _ hi
  have hee := hok.mem q3
  have hrun : (execOp a.eval o).run P w = .ok (.value (.tuple #[e.key, e.val])) w := by
    simp only [execOp, ho, h1]
    simp [run_entry_at (P := P) w _ bm clk seen es clk e q2 p3 q3 hok.nodup]
  have hs2 : SRel cx n ⟨put env d [] (.tup [.val .str s, .top]), tab⟩ (a.put (some d) (.tuple #[e.key, e.val])) w := by
    refine ⟨σ, ρ, hw, ?_, by rw [put_size]; exact hn, by rw [put_defers]; exact hdf⟩
    refine he.put hd.2 (by rw [hn]; exact hd.1) rfl (fun _ => ?_) (fun h => absurd (fun p hp => by cases hp) h)
    simp only [SV.den, SV.denL, Den]
    exact ⟨_, rfl, _, _, rfl, by rw [hee.1, q4], _, _, rfl, hee.2, rfl⟩
  refine wpList_plain hg fun K hK => wp_of_value hrun (hK _ _ ?_)
  rw [hdst]
  exact k _ _ (hs2.weakRes j hj fun w L ⟨r1, seen, e, r2, r3, r4, r5⟩ => ⟨r1, _, r2, r5⟩)
/-- `dirs[k]`, a map or none. -/
theorem TrL.dmGet {ops : Array Oper} {o : Oper} {L : List Oper} {t kt et d i : Nat} {x kx : Operand} {D : Dirs} {k : Str}
    (hz : ∀ w, (zeroValue et).run P w = .ok (.map none) w) (hg : o.guard = none) (ho : o.op = .lookup t x kx false) (hdst : o.dst = some d) (ht : P.underlying t = some (.map kt et)) (hk : P.underlying kt = some .string)
    (hd : (decide (d < n) && okPut env d) = true) (hx : opnd env [] x = some (.mp i)) (hkx : opnd env [] kx = some (.val .str k)) (hi : tab[i]? = some (.res (dmRes D)))
    (k1 : dIdx D k = none → TrL P cx n ops L ⟨put env d [] (.itr none), tab⟩ Q)
    (k2 : ∀ m p bm es clk, dIdx D k = some m → D[m]? = some p → EsOk es clk (setVals p.2) → TrL P cx n ops L ⟨put env d [] (.itr (some bm)), tab.set i (.res (pinR (dmRes D) bm es clk))⟩ Q) : TrL P cx n ops (o :: L) ⟨env, tab⟩ Q := by
  simp only [Bool.and_eq_true, decide_eq_true_eq] at hd
  intro a w hs
  obtain ⟨σ, ρ, hw, he, hn, hdf⟩ : ∃ σ ρ, WR cx σ ρ tab w ∧ EnvA σ ρ env a ∧ a.tmps.size = n ∧ a.defers = cx.ds := hs
  have h1 := opnd_den he.env (fun p hp => by cases hp) hx
  have h2 := opnd_den he.env (fun p hp => by cases hp) hkx
  simp only [SV.den, Den] at h1 h2
  have h2' : a.eval kx = strV k := by simpa using h2
  have hrel := hw.ent i _ hi
  obtain ⟨h3, h4, ⟨es, c, h5⟩, h6⟩ := id hrel
  have hrun := run_lookup_str (w := w) ht hk h5.at_ h5.ents (hz w) k false
  have hrun' : (execOp a.eval o).run P w = .ok (.value (lookV (dmVals D (ρ i).sub) k (.map none) false)) w := by
    simp only [execOp, ho, h1, h2']
    simp [hrun]
  refine wpList_plain hg fun K hK => wp_of_value hrun' (hK _ _ ?_)
  rw [hdst]
  rcases dm_idx k D (ρ i).sub 0 h3 with ⟨r1, r2⟩ | ⟨m, b, r1, r2, r3⟩
  · refine k1 r1 _ _ ⟨σ, ρ, hw, ?_, by rw [put_size]; exact hn, by rw [put_defers]; exact hdf⟩
    refine he.put hd.2 (by rw [hn]; exact hd.1) rfl (fun _ => ?_) (fun h => absurd (fun p hp => by cases hp) h)
    unfold lookV
    rw [r2]
    simp only [SV.den]
    rfl
  · have hml := dIdx_lt D k m r1
    obtain ⟨es2, c2, h7⟩ := h6 m D[m] b (List.getElem?_eq_getElem hml.1) r2
    have hok : EsOk es2 c2 (setVals D[m].2) := ⟨h7.ents, h7.nodup, h7.born, fun x hx => by obtain ⟨y, _, rfl⟩ := List.mem_map.1 hx; rfl⟩
    have hS : subOf ρ i (ρ i).sub = ρ := by
      funext j
      unfold subOf
      split
      · rename_i hj; rw [hj]
      · rfl
    have hw2 := hw.resStep (w' := w) (R' := pinR (dmRes D) b es2 c2) (S := (ρ i).sub) hi (fun b _ _ => rfl) (by rw [hS]; exact ⟨hrel, .inr (List.mem_of_getElem? r2), h7.at_⟩) (fun b hb => .inl hb) rfl rfl rfl (Nat.le_refl _)
    rw [hS] at hw2
    refine k2 m D[m] b es2 c2 r1 (List.getElem?_eq_getElem hml.1) hok _ _ ⟨σ, ρ, hw2, ?_, by rw [put_size]; exact hn, by rw [put_defers]; exact hdf⟩
    refine he.put hd.2 (by rw [hn]; exact hd.1) rfl (fun _ => ?_) (fun h => absurd (fun p hp => by cases hp) h)
    unfold lookV
    rw [r3]
    simp only [SV.den]
    rfl
end
end Go.Proofs.YteiickhgmmjcmaaGreatDoor.Sx
