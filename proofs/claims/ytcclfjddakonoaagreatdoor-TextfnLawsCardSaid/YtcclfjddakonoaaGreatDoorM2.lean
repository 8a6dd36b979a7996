/-
  A map from strings to strings, and one from strings to sets of strings, as resources; look-ups and stores.
-/
import Derived.Test.YtcclfjddakonoaaGreatDoorSxY
import Derived.Test.YtcclfjddakonoaaGreatDoorM1
set_option linter.unusedVariables false
set_option linter.unusedSimpArgs false
namespace Go.Proofs.YtcclfjddakonoaaGreatDoor.Sx
open Go Go.RowKit
open Go.ChangeMaps (setBlock)

theorem MapAt.keep {w w' : World} {r : Nat} {es : Array MapEntry} {c : Nat} {l : List (Str × Value)} (h : MapAt w r es c l) (e : w'.heap[r]? = w.heap[r]?) : MapAt w' r es c l := ⟨e.trans h.at_, h.ents, h.nodup, h.born⟩

/-! ### Strings by strings -/
def fVals (F : List (Str × Str)) : List (Str × Value) := F.map fun x => (x.1, strV x.2)
def fmRes (F : List (Str × Str)) : Res where
  rel w L := L.sub = [] ∧ ∃ es clock, MapAt w L.blk es clock (fVals F)
  keep w w' L h hb := by
    obtain ⟨h1, es, c, h2⟩ := h
    exact ⟨h1, es, c, h2.keep (hb _ (.inl rfl))⟩
  data w L h b hb := by
    obtain ⟨h1, es, c, h2⟩ := h
    rcases hb with rfl | hb
    · exact ⟨_, h2.at_, rfl⟩
    · rw [h1] at hb; cases hb
def fGet : List (Str × Str) → Str → Option Str
  | [], _ => none
  | (k', v) :: r, k => if k = k' then some v else fGet r k
def fPut : List (Str × Str) → Str → Str → List (Str × Str)
  | [], k, v => [(k, v)]
  | (k', v') :: r, k, v => if k = k' then (k', v) :: r else (k', v') :: fPut r k v
theorem fGet_idx (k : Str) : ∀ (F : List (Str × Str)) (i : Nat), (idxKey (fVals F) k i).map (·.2) = (fGet F k).map strV
  | [], i => rfl
  | (k', v) :: F, i => by
    show (idxKey ((k', strV v) :: fVals F) k i).map (·.2) = _
    rw [idxKey, fGet]
    by_cases h : k = k'
    · rw [if_pos h, if_pos h]; rfl
    · rw [if_neg h, if_neg h]; exact fGet_idx k F (i + 1)
theorem fPut_put (k v : Str) : ∀ F : List (Str × Str), putKey (fVals F) k (strV v) = fVals (fPut F k v)
  | [] => rfl
  | (k', v') :: F => by
    show putKey ((k', strV v') :: fVals F) k (strV v) = _
    rw [putKey, fPut]
    by_cases h : k = k'
    · rw [if_pos h, if_pos h]; rfl
    · rw [if_neg h, if_neg h]
      show (k', strV v') :: putKey (fVals F) k (strV v) = (k', strV v') :: fVals (fPut F k v)
      rw [fPut_put k v F]
/-- What a look-up answers, told. -/
def fAns (F : List (Str × Str)) (k : Str) (ok : Bool) : SV := if ok then .tup [.val .str ((fGet F k).getD []), .val .bool (fGet F k).isSome] else .val .str ((fGet F k).getD [])
theorem fAns_den {σ : Mem} {ρ : Rho} (F : List (Str × Str)) (k : Str) (ok : Bool) : SV.den σ ρ (fAns F k ok) (lookV (fVals F) k (strV []) ok) := by
  have h := fGet_idx k F 0
  unfold fAns lookV
  cases hi : idxKey (fVals F) k 0 with
  | none =>
    rw [hi] at h
    cases hg : fGet F k with
    | none =>
      cases ok
      · simp only [Bool.false_eq_true, if_false, SV.den, Den]; rfl
      · simp only [if_true, SV.den, SV.denL, Den]
        exact ⟨_, rfl, _, _, rfl, rfl, _, _, rfl, rfl, rfl⟩
    | some v => rw [hg] at h; cases h
  | some x =>
    obtain ⟨i, v⟩ := x
    rw [hi] at h
    cases hg : fGet F k with
    | none => rw [hg] at h; cases h
    | some s =>
      rw [hg] at h
      obtain rfl : v = strV s := Option.some.inj h
      cases ok
      · simp only [Bool.false_eq_true, if_false, SV.den, Den]; rfl
      · simp only [if_true, SV.den, SV.denL, Den]
        exact ⟨_, rfl, _, _, rfl, rfl, _, _, rfl, rfl, rfl⟩
theorem fmLook_sound {P : Program} {n : Nat} {env : Env} {tab : List Ent} {o : Oper} {t kt et d i : Nat} {x kx : Operand} {ok : Bool} {F : List (Str × Str)} {k : Str}
    (hz : ∀ w, (zeroValue et).run P w = .ok (strV []) w) (hg : o.guard = none) (ho : o.op = .lookup t x kx ok) (hdst : o.dst = some d) (ht : P.underlying t = some (.map kt et)) (hk : P.underlying kt = some .string)
    (hd : (decide (d < n) && okPut env d) = true) (hx : opnd env [] x = some (.mp i)) (hkx : opnd env [] kx = some (.val .str k)) (hi : tab[i]? = some (.res (fmRes F))) :
    Eff P n o ⟨env, tab⟩ ⟨put env d [] (fAns F k ok), tab⟩ none := by
  simp only [Bool.and_eq_true, decide_eq_true_eq] at hd
  refine ⟨hg, fun cx a w _ hs => ?_⟩
  obtain ⟨σ, ρ, hw, he, hn, hdf⟩ : ∃ σ ρ, WR cx σ ρ tab w ∧ EnvA σ ρ env a ∧ a.tmps.size = n ∧ a.defers = cx.ds := hs
  have h1 := opnd_den he.env (fun p hp => by cases hp) hx
  have h2 := opnd_den he.env (fun p hp => by cases hp) hkx
  simp only [SV.den, Den] at h1 h2
  have h2' : a.eval kx = strV k := by simpa using h2
  obtain ⟨h3, es, c, h4⟩ := hw.ent i _ hi
  have hrun := run_lookup_str (w := w) ht hk h4.at_ h4.ents (hz w) k ok
  refine ⟨.value (lookV (fVals F) k (strV []) ok), w, ?_, .inl ⟨_, rfl, σ, ρ, hw, ?_, by rw [put_size]; exact hn, by rw [put_defers]; exact hdf⟩⟩
  · simp only [execOp, ho, h1, h2']
    simp [hrun]
  · rw [hdst]
    exact he.put hd.2 (by rw [hn]; exact hd.1) rfl (fun _ => fAns_den F k ok) (fun h => absurd (fun p hp => by cases hp) h)
theorem set_self {α : Type} {l : List α} {i : Nat} {x y : α} (h : l[i]? = some x) : (l.set i y)[i]? = some y := by
  have := (List.getElem?_eq_some_iff.1 h).1
  simp [this]
theorem fmPut_sound {P : Program} {n : Nat} {env : Env} {tab : List Ent} {o : Oper} {t kt et i : Nat} {x kx vx : Operand} {F : List (Str × Str)} {k v : Str}
    (hg : o.guard = none) (ho : o.op = .mapUpdate t x kx vx) (hdst : o.dst = none) (ht : P.underlying t = some (.map kt et)) (hk : P.underlying kt = some .string)
    (hx : opnd env [] x = some (.mp i)) (hkx : opnd env [] kx = some (.val .str k)) (hvx : opnd env [] vx = some (.val .str v)) (hi : tab[i]? = some (.res (fmRes F))) :
    Eff P n o ⟨env, tab⟩ ⟨env, tab.set i (.res (fmRes (fPut F k v)))⟩ none := by
  refine ⟨hg, fun cx a w _ hs => ?_⟩
  obtain ⟨σ, ρ, hw, he, hn, hdf⟩ : ∃ σ ρ, WR cx σ ρ tab w ∧ EnvA σ ρ env a ∧ a.tmps.size = n ∧ a.defers = cx.ds := hs
  have h1 := opnd_den he.env (fun p hp => by cases hp) hx
  have h2 := opnd_den he.env (fun p hp => by cases hp) hkx
  have h5 := opnd_den he.env (fun p hp => by cases hp) hvx
  simp only [SV.den, Den] at h1 h2 h5
  have h2' : a.eval kx = strV k := by simpa using h2
  have h5' : a.eval vx = strV v := by simpa using h5
  obtain ⟨h3, es, c, h4⟩ := hw.ent i _ hi
  obtain ⟨es', c', hrun, h6⟩ := run_update_str (P := P) ht hk h4 k (strV v)
  rw [fPut_put] at h6
  have hw' := hw.resStep (R' := fmRes (fPut F k v)) (S := []) hi (w' := setBlock w (ρ i).blk (.map es' c')) (fun b _ hb => setBlock_other fun e => hb (.inl e.symm)) ⟨by rw [subOf_same], es', c', by rw [subOf_blk]; exact h6⟩ (fun b hb => by cases hb) rfl rfl rfl (by simp [setBlock])
  refine ⟨.skip, setBlock w (ρ i).blk (.map es' c'), ?_, .inr ⟨rfl, σ, subOf ρ i [], hw', ?_, by rw [put_size]; exact hn, by rw [put_defers]; exact hdf⟩⟩
  · simp only [execOp, ho, h1, h2', h5']
    simp [hrun]
  · rw [hdst]
    exact he.sub i []
end Go.Proofs.YtcclfjddakonoaaGreatDoor.Sx
