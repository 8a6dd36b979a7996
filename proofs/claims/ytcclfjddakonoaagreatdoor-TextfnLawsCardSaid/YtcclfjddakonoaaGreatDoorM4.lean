/-
  New maps; ranges over maps.
-/
import Derived.Test.YtcclfjddakonoaaGreatDoorM3
set_option linter.unusedVariables false
set_option linter.unusedSimpArgs false
namespace Go.Proofs.YtcclfjddakonoaaGreatDoor.Sx
open Go Go.RowKit
open Go.ChangeMaps (setBlock)

/-! ### A new resource -/
def addRes (env : Env) (tab : List Ent) (d : Nat) (s : SV) (R : Res) : St :=
  ⟨put (cleanE (fun i => decide (i < tab.length)) env) d [] s, cleanT (fun i => decide (i < tab.length)) tab ++ [.res R]⟩
theorem SRel.newRes {cx : Cx} {n : Nat} {env : Env} {tab : List Ent} {a : Act} {w : World} {σ : Mem} {ρ : Rho} {d : Nat} {s : SV} {v : Value} {R : Res} {o : Obj} (hw : WR cx σ ρ tab w) (he : EnvA σ ρ env a) (hn : a.tmps.size = n) (hd : a.defers = cx.ds)
    (hlt : (decide (d < n) && okPut env d) = true) (hsub : R.rel (w.alloc o) (Loc0 w.heap.size)) (hsv : SV.den σ (upd ρ tab.length (Loc0 w.heap.size)) s v) : SRel cx n (addRes env tab d s R) (a.put (some d) v) (w.alloc o) := by
  simp only [Bool.and_eq_true, decide_eq_true_eq] at hlt
  have hρ : ∀ i, (decide (i < tab.length)) = true → upd ρ tab.length (Loc0 w.heap.size) i = ρ i := upd_lt
  refine ⟨σ, upd ρ tab.length (Loc0 w.heap.size), ?_, ?_, by rw [put_size]; exact hn, by rw [put_defers]; exact hd⟩
  · refine hw.newEnt (Mem.le_refl σ) (fun a v ha => ?_) (fun b hb => Below.heap_alloc w _ b hb) (fun a v ha => .inl ⟨v, ha⟩) ?_ (fun b hb => ?_) rfl rfl rfl (by simp)
    · exact ((below_alloc' w _).cell (sub_lt hw.sub ha)).trans (hw.sub a v ha)
    · show R.rel _ (upd ρ tab.length (Loc0 w.heap.size) tab.length)
      rw [upd_same]
      exact hsub
    · simp only [Ent.at_, upd_same, Loc0, List.not_mem_nil, or_false] at hb
      omega
  · exact (he.clean _ hρ).put (okPut_clean hlt.2) (by rw [hn]; exact hlt.1) rfl (fun _ => hsv) (fun h => absurd (fun p hp => by cases hp) h)
/-- An empty map. -/
def Starts (R : Res) : Prop := ∀ (w : World) (b : Nat), w.heap[b]? = some (.map #[] 0) → R.rel w (Loc0 b)
theorem mapAt_empty {w : World} {b : Nat} (h : w.heap[b]? = some (.map #[] 0)) : MapAt w b #[] 0 [] := ⟨h, rfl, by simp, by simp⟩
theorem fm_starts : Starts (fmRes []) := fun w b h => ⟨rfl, _, _, mapAt_empty h⟩
theorem dm_starts : Starts (dmRes []) := fun w b h => ⟨rfl, by simp [Loc0], ⟨_, _, mapAt_empty h⟩, fun i p b hi _ => by simp at hi⟩
theorem run_makeMap0 {P : Program} (w : World) (t : TypeId) : (Instr.makeMap t none).run P w = .ok (.map (some w.heap.size)) (w.alloc (.map #[] 0)) := by
  simp [Instr.makeMap, newObj, Sem.run, Result.andThen]
theorem newMap_sound {P : Program} {n : Nat} {env : Env} {tab : List Ent} {o : Oper} {t d : Nat} (R : Res) (hR : Starts R) (hg : o.guard = none) (ho : o.op = .makeMap t none) (hdst : o.dst = some d) (hd : (decide (d < n) && okPut env d) = true) :
    Eff P n o ⟨env, tab⟩ (addRes env tab d (.mp tab.length) R) none := by
  refine ⟨hg, fun cx a w _ hs => ?_⟩
  obtain ⟨σ, ρ, hw, he, hn, hdf⟩ : ∃ σ ρ, WR cx σ ρ tab w ∧ EnvA σ ρ env a ∧ a.tmps.size = n ∧ a.defers = cx.ds := hs
  refine ⟨.value (.map (some w.heap.size)), w.alloc (.map #[] 0), ?_, .inl ⟨_, rfl, ?_⟩⟩
  · simp only [execOp, ho]
    simp [run_makeMap0]
  · rw [hdst]
    refine SRel.newRes hw he hn hdf hd (hR _ _ (heap_alloc_new w _)) ?_
    simp only [SV.den, upd_same, Loc0]

/-- `m[k] = map{}`, as its two operations: a new directory. -/
theorem dm_new {w : World} {L : Loc} {D : Dirs} {k : Str} (h : (dmRes D).rel w L) (hk : dIdx D k = none) :
    ∃ es c, MapAt w L.blk es c (dmVals D L.sub) ∧ idxKey (dmVals D L.sub) k 0 = none := by
  obtain ⟨h1, h2, ⟨es, c, h3⟩, h4⟩ := h
  refine ⟨es, c, h3, ?_⟩
  rcases dm_idx k D L.sub 0 h1 with ⟨_, q⟩ | ⟨i, b, q, _⟩
  · exact q
  · rw [hk] at q; cases q
theorem TrL.dmNew {P : Program} {cx : Cx} {n : Nat} {ops : Array Oper} {o1 o2 : Oper} {l : List Oper} {env : Env} {tab : List Ent} {Q : Post} {t1 t2 kt et d1 i : Nat} {x kx : Operand} {D : Dirs} {k : Str}
    (hg1 : o1.guard = none) (ho1 : o1.op = .makeMap t1 none) (hd1 : o1.dst = some d1) (hg2 : o2.guard = none) (ho2 : o2.op = .mapUpdate t2 x kx (.tmp d1) ∨ o2.op = .insert t2 x kx (.tmp d1)) (hd2 : o2.dst = none)
    (ht : P.underlying t2 = some (.map kt et)) (hkt : P.underlying kt = some .string) (hd : (decide (d1 < n) && okPut env d1) = true)
    (hx : opnd (put env d1 [] .top) [] x = some (.mp i)) (hkx : opnd (put env d1 [] .top) [] kx = some (.val .str k)) (hi : tab[i]? = some (.res (dmRes D))) (hk : dIdx D k = none)
    (kk : TrL P cx n ops l ⟨put env d1 [] .top, tab.set i (.res (dmRes (D ++ [(k, [])])))⟩ Q) : TrL P cx n ops (o1 :: o2 :: l) ⟨env, tab⟩ Q := by
  simp only [Bool.and_eq_true, decide_eq_true_eq] at hd
  intro a w hs
  obtain ⟨σ, ρ, hw, he, hn, hdf⟩ : ∃ σ ρ, WR cx σ ρ tab w ∧ EnvA σ ρ env a ∧ a.tmps.size = n ∧ a.defers = cx.ds := hs
  have hrun1 : (execOp a.eval o1).run P w = .ok (.value (.map (some w.heap.size))) (w.alloc (.map #[] 0)) := by
    simp only [execOp, ho1]
    simp [run_makeMap0]
  refine wpList_plain hg1 fun K hK => wp_of_value hrun1 (hK _ _ ?_)
  rw [hd1]
  have he1 : EnvA σ ρ (put env d1 [] .top) (a.put (some d1) (.map (some w.heap.size))) := he.put hd.2 (by rw [hn]; exact hd.1) rfl (fun _ => by simp only [SV.den, Value.oneCell']) (fun h => absurd (fun p hp => by cases hp) h)
  have h1 := opnd_den he1.env (fun p hp => by cases hp) hx
  have h2 := opnd_den he1.env (fun p hp => by cases hp) hkx
  simp only [SV.den, Den] at h1 h2
  have h2' : (a.put (some d1) (.map (some w.heap.size))).eval kx = strV k := by simpa using h2
  have hs1 : (a.put (some d1) (.map (some w.heap.size))).tmps[d1]? = some (.map (some w.heap.size)) := put_same (by rw [hn]; exact hd.1)
  have e1 : (a.put (some d1) (.map (some w.heap.size))).eval (.tmp d1) = .map (some w.heap.size) := by
    show Array.getD _ _ _ = _
    rw [Array.getD_eq_getD_getElem?, hs1]; rfl
  have hrel := hw.ent i _ hi
  obtain ⟨q1, q2, ⟨es0, c0, q3⟩, q4⟩ := id hrel
  obtain ⟨es, c, h5, h6⟩ := dm_new hrel hk
  have hlt : (ρ i).blk < w.heap.size := (Array.getElem?_eq_some_iff.1 h5.at_).1
  have hsubl : ∀ b ∈ (ρ i).sub, b < w.heap.size := fun b hb => Ent.rel_lt hrel (.inr hb)
  have hal : ∀ b, b < w.heap.size → (w.alloc (.map #[] 0)).heap[b]? = w.heap[b]? := fun b hb => Below.heap_alloc w _ b hb
  have h5' : MapAt (w.alloc (.map #[] 0)) (ρ i).blk es c (dmVals D (ρ i).sub) := h5.keep (hal _ hlt)
  obtain ⟨es', c', hrun2, h7⟩ := run_update_str (P := P) ht hkt h5' k (.map (some w.heap.size))
  have hv : putKey (dmVals D (ρ i).sub) k (.map (some w.heap.size)) = dmVals (D ++ [(k, [])]) ((ρ i).sub ++ [w.heap.size]) := by
    rw [putKey_none _ k 0 _ h6]
    unfold dmVals
    rw [List.zip_append q1.symm]
    simp
  rw [hv] at h7
  have hne : (ρ i).blk ≠ w.heap.size := by omega
  have hsz : (setBlock (w.alloc (.map #[] 0)) (ρ i).blk (.map es' c')).heap.size = w.heap.size + 1 := by simp [setBlock]
  have hw' : WR cx σ (subOf ρ i ((ρ i).sub ++ [w.heap.size])) (tab.set i (.res (dmRes (D ++ [(k, [])])))) (setBlock (w.alloc (.map #[] 0)) (ρ i).blk (.map es' c')) := by
    refine hw.resStep hi (fun b hb hb' => ?_) ?_ (fun b hb => ?_) rfl rfl rfl (by omega)
    · rw [setBlock_other (fun e => hb' (.inl e.symm))]
      exact hal b hb
    · rw [subOf_same]
      refine ⟨by simp [q1], ?_, ⟨es', c', h7⟩, fun j p b hj hb => ?_⟩
      · show ((ρ i).blk :: ((ρ i).sub ++ [w.heap.size])).Nodup
        rw [List.nodup_cons] at q2 ⊢
        refine ⟨?_, ?_⟩
        · rw [List.mem_append, List.mem_singleton]
          rintro (h | h)
          · exact q2.1 h
          · exact hne h
        · rw [List.nodup_append]
          refine ⟨q2.2, by simp, fun x hx y hy => ?_⟩
          rw [List.mem_singleton.1 hy]
          have := hsubl x hx
          omega
      · have hb2 : ((ρ i).sub ++ [w.heap.size])[j]? = some b := hb
        by_cases hjl : j < D.length
        · rw [List.getElem?_append_left hjl] at hj
          rw [List.getElem?_append_left (by omega)] at hb2
          obtain ⟨es3, c3, h8⟩ := q4 j p b hj hb2
          have hbm := List.mem_of_getElem? hb2
          refine ⟨es3, c3, h8.keep ?_⟩
          rw [setBlock_other (fun (e : (ρ i).blk = b) => (List.nodup_cons.1 q2).1 (by rw [e]; exact hbm))]
          exact hal _ (hsubl _ hbm)
        · rw [List.getElem?_append_right (by omega)] at hj
          rw [List.getElem?_append_right (by omega)] at hb2
          have hj0 : j - D.length = 0 := by
            rcases Nat.eq_zero_or_pos (j - D.length) with h | h
            · exact h
            · rw [List.getElem?_eq_none (by simp; omega)] at hj; cases hj
          rw [hj0] at hj
          rw [q1, hj0] at hb2
          simp only [List.getElem?_cons_zero, Option.some.injEq] at hj hb2
          subst hj hb2
          refine ⟨#[], 0, mapAt_empty ?_⟩
          rw [setBlock_other hne]
          exact heap_alloc_new w _
    · rcases List.mem_append.1 hb with h | h
      · exact .inl h
      · exact .inr (by rw [List.mem_singleton.1 h]; exact Nat.le_refl _)
  refine wpList_plain hg2 fun K2 hK2 => ?_
  have hrun3 : (execOp (a.put (some d1) (.map (some w.heap.size))).eval o2).run P (w.alloc (.map #[] 0)) = .ok .skip (setBlock (w.alloc (.map #[] 0)) (ρ i).blk (.map es' c')) := by
    rcases ho2 with ho2 | ho2
    · simp only [execOp, ho2, e1, h1, h2']
      simp [hrun2]
    · simp only [execOp, ho2, e1, h1, h2']
      simp [hrun2]
  unfold Oper.wp
  rw [hrun3]
  refine hK2 _ _ (kk _ _ ⟨σ, _, hw', ?_, by rw [put_size, put_size]; exact hn, by rw [put_defers, put_defers]; exact hdf⟩)
  rw [hd2]
  exact he1.sub i _
end Go.Proofs.YtcclfjddakonoaaGreatDoor.Sx
