/-
  A map from strings to sets of strings, as a resource.
-/
import Derived.Test.YtcclfjddakonoaaGreatDoorM2
import Derived.Carry
set_option linter.unusedVariables false
set_option linter.unusedSimpArgs false
namespace Go.Proofs.YtcclfjddakonoaaGreatDoor.Sx
open Go Go.RowKit
open Go.ChangeMaps (setBlock)

abbrev Dirs := List (Str × List Str)
def dmVals (D : Dirs) (bs : List Nat) : List (Str × Value) := (D.zip bs).map fun x => (x.1.1, .map (some x.2))
def setVals (l : List Str) : List (Str × Value) := l.map fun n => (n, .bool true)
def dmRes (D : Dirs) : Res where
  rel w L := L.sub.length = D.length ∧ (L.blk :: L.sub).Nodup ∧ (∃ es c, MapAt w L.blk es c (dmVals D L.sub)) ∧ ∀ (i : Nat) (p : Str × List Str) b, D[i]? = some p → L.sub[i]? = some b → ∃ es c, MapAt w b es c (setVals p.2)
  keep w w' L h hb := by
    obtain ⟨h1, h2, ⟨es, c, h3⟩, h4⟩ := h
    refine ⟨h1, h2, ⟨es, c, h3.keep (hb _ (.inl rfl))⟩, fun i p b hi hbi => ?_⟩
    obtain ⟨es, c, h5⟩ := h4 i p b hi hbi
    exact ⟨es, c, h5.keep (hb b (.inr (List.mem_of_getElem? hbi)))⟩
  data w L h b hb := by
    obtain ⟨h1, h2, ⟨es, c, h3⟩, h4⟩ := h
    rcases hb with rfl | hb
    · exact ⟨_, h3.at_, rfl⟩
    · obtain ⟨i, hi⟩ := List.mem_iff_getElem?.1 hb
      have hil := (List.getElem?_eq_some_iff.1 hi).1
      obtain ⟨es, c, h5⟩ := h4 i D[i] b (List.getElem?_eq_getElem (by omega)) hi
      exact ⟨_, h5.at_, rfl⟩
/-- The first place of a directory. -/
def dIdx : Dirs → Str → Option Nat
  | [], _ => none
  | (k', _) :: r, k => if k = k' then some 0 else (dIdx r k).map (· + 1)
theorem dIdx_lt : ∀ (D : Dirs) (k : Str) (i : Nat), dIdx D k = some i → i < D.length ∧ (D[i]?).map (·.1) = some k
  | [], k, i, h => by cases h
  | (k', l) :: r, k, i, h => by
    rw [dIdx] at h
    by_cases hk : k = k'
    · rw [if_pos hk] at h
      obtain rfl := Option.some.inj h
      simp [hk]
    · rw [if_neg hk] at h
      obtain ⟨j, hj, rfl⟩ := Option.map_eq_some_iff.1 h
      obtain ⟨h1, h2⟩ := dIdx_lt r k j hj
      exact ⟨by simp only [List.length_cons]; omega, by simpa using h2⟩
theorem dm_idx (k : Str) : ∀ (D : Dirs) (bs : List Nat) (j : Nat), bs.length = D.length → (dIdx D k = none ∧ idxKey (dmVals D bs) k j = none) ∨ ∃ i b, dIdx D k = some i ∧ bs[i]? = some b ∧ idxKey (dmVals D bs) k j = some (j + i, .map (some b))
  | [], bs, j, h => .inl ⟨rfl, by simp [dmVals, idxKey]⟩
  | (k', l) :: D, [], j, h => by simp at h
  | (k', l) :: D, b :: bs, j, h => by
    have hv : dmVals ((k', l) :: D) (b :: bs) = (k', .map (some b)) :: dmVals D bs := rfl
    rw [hv, idxKey, dIdx]
    by_cases hk : k = k'
    · rw [if_pos hk, if_pos hk]
      exact .inr ⟨0, b, rfl, rfl, rfl⟩
    · rw [if_neg hk, if_neg hk]
      rcases dm_idx k D bs (j + 1) (by simpa using h) with ⟨h1, h2⟩ | ⟨i, b', h1, h2, h3⟩
      · exact .inl ⟨by rw [h1]; rfl, h2⟩
      · refine .inr ⟨i + 1, b', by rw [h1]; rfl, by simpa using h2, ?_⟩
        rw [h3]
        congr 2
        omega
/-- Is a directory there? -/
theorem dmLook_sound {P : Program} {n : Nat} {env : Env} {tab : List Ent} {o : Oper} {t kt et d i : Nat} {x kx : Operand} {D : Dirs} {k : Str}
    (hz : ∀ w, (zeroValue et).run P w = .ok (.map none) w) (hg : o.guard = none) (ho : o.op = .lookup t x kx true) (hdst : o.dst = some d) (ht : P.underlying t = some (.map kt et)) (hk : P.underlying kt = some .string)
    (hd : (decide (d < n) && okPut env d) = true) (hx : opnd env [] x = some (.mp i)) (hkx : opnd env [] kx = some (.val .str k)) (hi : tab[i]? = some (.res (dmRes D))) :
    Eff P n o ⟨env, tab⟩ ⟨put env d [] (.tup [.top, .val .bool (dIdx D k).isSome]), tab⟩ none := by
  simp only [Bool.and_eq_true, decide_eq_true_eq] at hd
  refine ⟨hg, fun cx a w _ hs => ?_⟩
  obtain ⟨σ, ρ, hw, he, hn, hdf⟩ : ∃ σ ρ, WR cx σ ρ tab w ∧ EnvA σ ρ env a ∧ a.tmps.size = n ∧ a.defers = cx.ds := hs
  have h1 := opnd_den he.env (fun p hp => by cases hp) hx
  have h2 := opnd_den he.env (fun p hp => by cases hp) hkx
  simp only [SV.den, Den] at h1 h2
  have h2' : a.eval kx = strV k := by simpa using h2
  obtain ⟨h3, h4, ⟨es, c, h5⟩, h6⟩ := hw.ent i _ hi
  have hrun := run_lookup_str (w := w) ht hk h5.at_ h5.ents (hz w) k true
  refine ⟨.value (lookV (dmVals D (ρ i).sub) k (.map none) true), w, ?_, .inl ⟨_, rfl, σ, ρ, hw, ?_, by rw [put_size]; exact hn, by rw [put_defers]; exact hdf⟩⟩
  · simp only [execOp, ho, h1, h2']
    simp [hrun]
  · rw [hdst]
    refine he.put hd.2 (by rw [hn]; exact hd.1) rfl (fun _ => ?_) (fun h => absurd (fun p hp => by cases hp) h)
    unfold lookV
    rcases dm_idx k D (ρ i).sub 0 h3 with ⟨q1, q2⟩ | ⟨m, b, q1, q2, q3⟩
    · rw [q1, q2]
      simp only [if_true, SV.den, SV.denL, Den]
      exact ⟨_, rfl, _, _, rfl, rfl, _, _, rfl, rfl, rfl⟩
    · rw [q1, q3]
      simp only [if_true, SV.den, SV.denL, Den]
      exact ⟨_, rfl, _, _, rfl, rfl, _, _, rfl, rfl, rfl⟩
/-! ### A name put into a directory -/
def sPut : List Str → Str → List Str
  | [], n => [n]
  | x :: r, n => if n = x then x :: r else x :: sPut r n
theorem sPut_put (n : Str) : ∀ l : List Str, putKey (setVals l) n (.bool true) = setVals (sPut l n)
  | [] => rfl
  | x :: r => by
    show putKey ((x, .bool true) :: setVals r) n (.bool true) = _
    rw [putKey, sPut]
    by_cases h : n = x
    · rw [if_pos h, if_pos h]; rfl
    · rw [if_neg h, if_neg h]
      show (x, Value.bool true) :: putKey (setVals r) n (.bool true) = (x, .bool true) :: setVals (sPut r n)
      rw [sPut_put n r]
def dAdd (D : Dirs) (i : Nat) (n : Str) : Dirs := D.modify i fun p => (p.1, sPut p.2 n)
theorem dmVals_add (D : Dirs) (i : Nat) (n : Str) (bs : List Nat) : dmVals (dAdd D i n) bs = dmVals D bs := by
  unfold dmVals dAdd
  apply List.ext_getElem?
  intro j
  simp only [List.getElem?_map, List.getElem?_zip_eq_some, List.zip, List.getElem?_zipWith, List.getElem?_modify]
  by_cases h : i = j
  · subst h
    cases D[i]? <;> cases bs[i]? <;> simp
  · simp only [if_neg h]
    cases D[j]? <;> cases bs[j]? <;> rfl
theorem run_move {P : Program} {a : Act} {w : World} {o : Oper} {x : Operand} (ho : o.op = .move x) : (execOp a.eval o).run P w = .ok (.value (a.eval x)) w := by simp [execOp, ho]
/-- `f.dirs[dir][name] = true`, as its three operations. -/
theorem TrL.dmSet {P : Program} {cx : Cx} {n : Nat} {ops : Array Oper} {o1 o2 o3 : Oper} {l : List Oper} {env : Env} {tab : List Ent} {Q : Post} {t1 kt1 et1 t3 kt3 et3 d1 d2 i m : Nat} {x kx y : Operand} {D : Dirs} {k nm : Str}
    (hz : ∀ w, (zeroValue et1).run P w = .ok (.map none) w) (hg1 : o1.guard = none) (ho1 : o1.op = .lookup t1 x kx false) (hd1 : o1.dst = some d1) (hg2 : o2.guard = none) (ho2 : o2.op = .move y) (hd2 : o2.dst = some d2)
    (hg3 : o3.guard = none) (ho3 : o3.op = .mapUpdate t3 (.tmp d1) (.tmp d2) (.const (.bool true))) (hd3 : o3.dst = none)
    (ht1 : P.underlying t1 = some (.map kt1 et1)) (hk1 : P.underlying kt1 = some .string) (ht3 : P.underlying t3 = some (.map kt3 et3)) (hk3 : P.underlying kt3 = some .string)
    (hd : (decide (d1 < n) && decide (d2 < n) && (d1 != d2) && okPut env d1 && okPut (put env d1 [] .top) d2) = true)
    (hx : opnd env [] x = some (.mp i)) (hkx : opnd env [] kx = some (.val .str k)) (hy : opnd (put env d1 [] .top) [] y = some (.val .str nm)) (hi : tab[i]? = some (.res (dmRes D))) (hm : dIdx D k = some m)
    (kk : TrL P cx n ops l ⟨put (put env d1 [] .top) d2 [] (.val .str nm), tab.set i (.res (dmRes (dAdd D m nm)))⟩ Q) : TrL P cx n ops (o1 :: o2 :: o3 :: l) ⟨env, tab⟩ Q := by
  simp only [Bool.and_eq_true, decide_eq_true_eq, bne_iff_ne, ne_eq] at hd
  obtain ⟨⟨⟨⟨hdn1, hdn2⟩, hne⟩, hok1⟩, hok2⟩ := hd
  intro a w hs
  obtain ⟨σ, ρ, hw, he, hn, hdf⟩ : ∃ σ ρ, WR cx σ ρ tab w ∧ EnvA σ ρ env a ∧ a.tmps.size = n ∧ a.defers = cx.ds := hs
  have h1 := opnd_den he.env (fun p hp => by cases hp) hx
  have h2 := opnd_den he.env (fun p hp => by cases hp) hkx
  simp only [SV.den, Den] at h1 h2
  have h2' : a.eval kx = strV k := by simpa using h2
  obtain ⟨h3, h4, ⟨es, c, h5⟩, h6⟩ := hw.ent i _ hi
  have hmi : ∃ b, (ρ i).sub[m]? = some b ∧ idxKey (dmVals D (ρ i).sub) k 0 = some (m, .map (some b)) := by
    rcases dm_idx k D (ρ i).sub 0 h3 with ⟨q1, q2⟩ | ⟨m', b, q1, q2, q3⟩
    · rw [hm] at q1; cases q1
    · rw [hm] at q1
      obtain rfl := Option.some.inj q1
      exact ⟨b, q2, by rw [q3, Nat.zero_add]⟩
  obtain ⟨b, hb, hidx⟩ := hmi
  have hrun1 : (execOp a.eval o1).run P w = .ok (.value (.map (some b))) w := by
    have := run_lookup_str (w := w) ht1 hk1 h5.at_ h5.ents (hz w) k false
    simp only [lookV, hidx, Bool.false_eq_true, if_false] at this
    simp only [execOp, ho1, h1, h2']
    simp [this]
  refine wpList_plain hg1 fun K hK => wp_of_value hrun1 (hK _ _ ?_)
  rw [hd1]
  have he1 : EnvA σ ρ (put env d1 [] .top) (a.put (some d1) (.map (some b))) := he.put hok1 (by rw [hn]; exact hdn1) rfl (fun _ => by simp only [SV.den, Value.oneCell']) (fun h => absurd (fun p hp => by cases hp) h)
  have hy1 := opnd_den he1.env (fun p hp => by cases hp) hy
  simp only [SV.den, Den] at hy1
  have hy1' : (a.put (some d1) (.map (some b))).eval y = strV nm := by simpa using hy1
  refine wpList_plain hg2 fun K2 hK2 => wp_of_value (run_move ho2) (hK2 _ _ ?_)
  rw [hd2, hy1']
  have hsz1 : (a.put (some d1) (.map (some b))).tmps.size = n := by rw [put_size]; exact hn
  have he2 : EnvA σ ρ (put (put env d1 [] .top) d2 [] (.val .str nm)) ((a.put (some d1) (.map (some b))).put (some d2) (strV nm)) := he1.put hok2 (by rw [hsz1]; exact hdn2) rfl (fun _ => by simp only [SV.den, Den]) (fun h => absurd (fun p hp => by cases hp) h)
  have hml := dIdx_lt D k m hm
  obtain ⟨es2, c2, h7⟩ := h6 m D[m] b (List.getElem?_eq_getElem hml.1) hb
  obtain ⟨es', c', hrun3, h8⟩ := run_update_str (P := P) ht3 hk3 h7 nm (.bool true)
  rw [sPut_put] at h8
  have hbm : b ∈ (ρ i).sub := List.mem_of_getElem? hb
  have hblk : (ρ i).blk ≠ b := fun e => (List.nodup_cons.1 h4).1 (e ▸ hbm)
  have hw' : WR cx σ (subOf ρ i (ρ i).sub) (tab.set i (.res (dmRes (dAdd D m nm)))) (setBlock w b (.map es' c')) := by
    refine hw.resStep hi (fun b' _ hb' => setBlock_other fun e => hb' (.inr (e ▸ hbm))) ?_ (fun b' hb' => .inl hb') rfl rfl rfl (by simp [setBlock])
    rw [subOf_same]
    refine ⟨?_, h4, ⟨es, c, ?_⟩, fun j p b' hj hb' => ?_⟩
    · simp only [dAdd, List.length_modify]; exact h3
    · rw [dmVals_add]
      exact h5.keep (setBlock_other fun e => hblk e.symm)
    · simp only [dAdd, List.getElem?_modify] at hj
      by_cases hjm : m = j
      · subst hjm
        rw [List.getElem?_eq_getElem hml.1] at hj
        simp only [if_true, Option.map_eq_map, Option.map_some, Option.some.injEq] at hj
        rw [hb] at hb'
        obtain rfl := Option.some.inj hb'
        subst hj
        exact ⟨es', c', h8⟩
      · simp only [if_neg hjm] at hj
        obtain ⟨es3, c3, h9⟩ := h6 j p b' (by simpa using hj) hb'
        refine ⟨es3, c3, h9.keep (setBlock_other fun e => ?_)⟩
        subst e
        have hnd := (List.nodup_cons.1 h4).2
        have hmi := (List.getElem?_eq_some_iff.1 hb).1
        have hji := (List.getElem?_eq_some_iff.1 hb').1
        exact hjm ((List.getElem_inj hnd).1 (((List.getElem?_eq_some_iff.1 hb).2).trans ((List.getElem?_eq_some_iff.1 hb').2).symm))
  refine wpList_plain hg3 fun K3 hK3 => ?_
  have hrun3' : (execOp ((a.put (some d1) (.map (some b))).put (some d2) (strV nm)).eval o3).run P w = .ok .skip (setBlock w b (.map es' c')) := by
    have hs2 : ((a.put (some d1) (.map (some b))).put (some d2) (strV nm)).tmps[d2]? = some (strV nm) := put_same (by rw [hsz1]; exact hdn2)
    have hs1 : ((a.put (some d1) (.map (some b))).put (some d2) (strV nm)).tmps[d1]? = some (.map (some b)) := by rw [put_other hne]; exact put_same (by rw [hn]; exact hdn1)
    have e1 : ((a.put (some d1) (.map (some b))).put (some d2) (strV nm)).eval (.tmp d1) = .map (some b) := by
      show Array.getD _ _ _ = _
      rw [Array.getD_eq_getD_getElem?, hs1]; rfl
    have e2 : ((a.put (some d1) (.map (some b))).put (some d2) (strV nm)).eval (.tmp d2) = strV nm := by
      show Array.getD _ _ _ = _
      rw [Array.getD_eq_getD_getElem?, hs2]; rfl
    have e3 : ((a.put (some d1) (.map (some b))).put (some d2) (strV nm)).eval (.const (.bool true)) = .bool true := rfl
    simp only [execOp, ho3, e1, e2, e3]
    simp [hrun3]
  unfold Oper.wp
  rw [hrun3']
  refine hK3 _ _ (kk _ _ ⟨σ, subOf ρ i (ρ i).sub, hw', ?_, by rw [put_size, put_size, put_size]; exact hn, by rw [put_defers, put_defers, put_defers]; exact hdf⟩)
  rw [hd3]
  exact he2.sub i _
end Go.Proofs.YtcclfjddakonoaaGreatDoor.Sx
