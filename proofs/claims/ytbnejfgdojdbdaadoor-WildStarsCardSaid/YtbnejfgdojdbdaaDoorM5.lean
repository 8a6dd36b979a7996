/-
  Ranges over maps.
-/
import Derived.Test.YtbnejfgdojdbdaaDoorM4
set_option linter.unusedVariables false
set_option linter.unusedSimpArgs false
namespace Go.Proofs.YtbnejfgdojdbdaaDoor.Sx
open Go Go.RowKit
open Go.ChangeMaps (setBlock)

/-! ### What is told of a map while it is ranged over -/
def keyS (e : MapEntry) : Str := match e.key with | .string b => b.data.toList | _ => []
structure EsOk (es : Array MapEntry) (clk : Nat) (l : List (Str × Value)) : Prop where
  ents : EsIs es.toList l
  nodup : (es.toList.map (·.born)).Nodup
  born : ∀ e ∈ es.toList, e.born < clk
  one : ∀ x ∈ l, x.2.oneCell' = true
theorem EsOk.mem {es : Array MapEntry} {clk : Nat} {l : List (Str × Value)} (h : EsOk es clk l) {e : MapEntry} (he : e ∈ es.toList) : e.key = strV (keyS e) ∧ e.val.oneCell' = true := by
  have h1 : (e.key, e.val) ∈ es.toList.map (fun e => (e.key, e.val)) := List.mem_map.2 ⟨e, he, rfl⟩
  have h2 : es.toList.map (fun e => (e.key, e.val)) = l.map (fun x => (strV x.1, x.2)) := h.ents
  rw [h2] at h1
  obtain ⟨x, hx, hxe⟩ := List.mem_map.1 h1
  simp only [Prod.mk.injEq] at hxe
  refine ⟨?_, by rw [← hxe.2]; exact h.one x hx⟩
  unfold keyS
  rw [← hxe.1]
  rfl
theorem EsOk.keys {es : Array MapEntry} {clk : Nat} {l : List (Str × Value)} (h : EsOk es clk l) : es.toList.map keyS = l.map (·.1) := by
  have h2 : es.toList.map (fun e => (e.key, e.val)) = l.map (fun x => (strV x.1, x.2)) := h.ents
  have h3 : es.toList.map keyS = (es.toList.map (fun e => (e.key, e.val))).map (fun p => match p.1 with | .string b => b.data.toList | _ => []) := by
    rw [List.map_map]; rfl
  rw [h3, h2, List.map_map]
  rfl
/-- The keys that are left. -/
def leftK (es : Array MapEntry) (seen : Array Nat) : List Str := (leftOf es seen).toList.map keyS
theorem perm_born : ∀ (l : List MapEntry) (e : MapEntry), (l.map (·.born)).Nodup → e ∈ l → l.Perm (e :: l.filter (fun x => x.born != e.born))
  | [], e, _, h => by cases h
  | x :: l, e, hn, h => by
    rw [List.map_cons, List.nodup_cons] at hn
    rcases List.mem_cons.1 h with rfl | h
    · have : (e :: l).filter (fun x => x.born != e.born) = l := by
        rw [List.filter_cons_of_neg (by simp)]
        refine List.filter_eq_self.2 fun y hy => ?_
        have : y.born ≠ e.born := fun h => hn.1 (by rw [← h]; exact List.mem_map.2 ⟨y, hy, rfl⟩)
        simpa using this
      rw [this]
    · have hne : x.born ≠ e.born := fun h' => hn.1 (by rw [h']; exact List.mem_map.2 ⟨e, h, rfl⟩)
      rw [List.filter_cons_of_pos (by simpa using hne)]
      exact ((perm_born l e hn.2 h).cons x).trans (List.Perm.swap _ _ _)
theorem leftOf_push (es : Array MapEntry) (seen : Array Nat) (b : Nat) : (leftOf es (seen.push b)).toList = (leftOf es seen).toList.filter (fun x => x.born != b) := by
  unfold leftOf
  rw [Array.toList_filter, Array.toList_filter, List.filter_filter]
  congr 1
  funext x
  rw [Array.contains_push]
  cases seen.contains x.born <;> simp [bne, Bool.beq_comm]
theorem leftK_push {es : Array MapEntry} {seen : Array Nat} {e : MapEntry} (hn : (es.toList.map (·.born)).Nodup) (he : e ∈ (leftOf es seen).toList) : (leftK es seen).Perm (keyS e :: leftK es (seen.push e.born)) := by
  have hn2 : ((leftOf es seen).toList.map (·.born)).Nodup := by
    unfold leftOf
    rw [Array.toList_filter]
    exact hn.sublist (List.filter_sublist.map _)
  have := (perm_born _ e hn2 he).map keyS
  rw [List.map_cons, ← leftOf_push] at this
  exact this
theorem leftOf_mem {es : Array MapEntry} {seen : Array Nat} {e : MapEntry} (h : e ∈ (leftOf es seen).toList) : e ∈ es.toList := by
  unfold leftOf at h
  rw [Array.toList_filter] at h
  exact (List.mem_filter.1 h).1
theorem leftK_all {es : Array MapEntry} : leftK es #[] = es.toList.map keyS := by
  unfold leftK leftOf
  rw [Array.toList_filter]
  congr 1
  exact List.filter_eq_self.2 fun x _ => by simp

/-- A resource, of whose maps one is told to the letter. -/
def pinR (R : Res) (bm : Nat) (es : Array MapEntry) (clk : Nat) : Res where
  rel w L := R.rel w L ∧ (bm = L.blk ∨ bm ∈ L.sub) ∧ w.heap[bm]? = some (.map es clk)
  keep w w' L h hb := ⟨R.keep w w' L h.1 hb, h.2.1, by rw [hb _ h.2.1]; exact h.2.2⟩
  data w L h := R.data w L h.1
/-- Who ranges over it; what is left. -/
def itE (bm : Nat) (es : Array MapEntry) (clk : Nat) (left : List Str) : Res where
  rel w L := L.sub = [] ∧ ∃ (seen : Array Nat), w.heap[L.blk]? = some (.mapIter (some bm) clk seen clk) ∧ (leftK es seen).Perm left
  keep w w' L h hb := by
    obtain ⟨h1, seen, h2, h3⟩ := h
    exact ⟨h1, seen, by rw [hb _ (.inl rfl)]; exact h2, h3⟩
  data w L h b hb := by
    obtain ⟨h1, seen, h2, h3⟩ := h
    rcases hb with rfl | hb
    · exact ⟨_, h2, rfl⟩
    · rw [h1] at hb; cases hb
/-- The same behind a step: the entry that it stepped to. -/
def itC (bm : Nat) (es : Array MapEntry) (clk : Nat) (left : List Str) (x : Str) : Res where
  rel w L := L.sub = [] ∧ ∃ (seen : Array Nat) (e : MapEntry), w.heap[L.blk]? = some (.mapIter (some bm) clk (seen.push e.born) clk) ∧ e ∈ es.toList ∧ keyS e = x ∧ (leftK es (seen.push e.born)).Perm left
  keep w w' L h hb := by
    obtain ⟨h1, seen, e, h2, h3⟩ := h
    exact ⟨h1, seen, e, by rw [hb _ (.inl rfl)]; exact h2, h3⟩
  data w L h b hb := by
    obtain ⟨h1, seen, e, h2, h3⟩ := h
    rcases hb with rfl | hb
    · exact ⟨_, h2, rfl⟩
    · rw [h1] at hb; cases hb
/-- Who ranges over a map that is nil. -/
def itN : Res where
  rel w L := L.sub = [] ∧ w.heap[L.blk]? = some (.mapIter none 0 #[] 0)
  keep w w' L h hb := ⟨h.1, by rw [hb _ (.inl rfl)]; exact h.2⟩
  data w L h b hb := by
    rcases hb with rfl | hb
    · exact ⟨_, h.2, rfl⟩
    · rw [h.1] at hb; cases hb

/-! ### Less is told of a resource -/
theorem SRel.weakRes {cx : Cx} {n : Nat} {env : Env} {tab : List Ent} {a : Act} {w : World} (i : Nat) {R R' : Res} (hi : tab[i]? = some (.res R)) (hR : ∀ w L, R.rel w L → R'.rel w L) (h : SRel cx n ⟨env, tab⟩ a w) : SRel cx n ⟨env, tab.set i (.res R')⟩ a w := by
  obtain ⟨σ, ρ, hw, he, hn, hd⟩ : ∃ σ ρ, WR cx σ ρ tab w ∧ EnvA σ ρ env a ∧ a.tmps.size = n ∧ a.defers = cx.ds := h
  have hS : subOf ρ i (ρ i).sub = ρ := by
    funext j
    unfold subOf
    split
    · rename_i hj; rw [hj]
    · rfl
  have := hw.resStep (w' := w) (R' := R') (S := (ρ i).sub) hi (fun b _ _ => rfl) (by rw [hS]; exact hR _ _ (hw.ent i _ hi)) (fun b hb => .inl hb) rfl rfl rfl (Nat.le_refl _)
  rw [hS] at this
  exact ⟨σ, ρ, this, he, hn, hd⟩
section
variable {P : Program} {cx : Cx} {n : Nat} {env : Env} {tab : List Ent} {Q : Post}
theorem Tr.weakRes {c : Code} (i : Nat) {R R' : Res} (hi : tab[i]? = some (.res R)) (hR : ∀ w L, R.rel w L → R'.rel w L) (h : Tr P cx n c ⟨env, tab.set i (.res R')⟩ Q) : Tr P cx n c ⟨env, tab⟩ Q := Tr.of h fun a w hs => hs.weakRes i hi hR
theorem TrL.weakRes {ops : Array Oper} {c : List Oper} (i : Nat) {R R' : Res} (hi : tab[i]? = some (.res R)) (hR : ∀ w L, R.rel w L → R'.rel w L) (h : TrL P cx n ops c ⟨env, tab.set i (.res R')⟩ Q) : TrL P cx n ops c ⟨env, tab⟩ Q := TrL.of h fun a w hs => hs.weakRes i hi hR
theorem unpin {R : Res} {bm : Nat} {es : Array MapEntry} {clk : Nat} : ∀ w L, (pinR R bm es clk).rel w L → R.rel w L := fun w L h => h.1

/-! ### A map is told to the letter -/
def Holds1 (R : Res) (l : List (Str × Value)) : Prop := ∀ w L, R.rel w L → ∃ vs es clk, MapAt w L.blk es clk vs ∧ vs.map (·.1) = l.map (·.1) ∧ ∀ x ∈ vs, x.2.oneCell' = true
theorem fm_holds (F : List (Str × Str)) : Holds1 (fmRes F) (fVals F) := fun w L h => by
  obtain ⟨h1, es, c, h2⟩ := h
  refine ⟨_, es, c, h2, rfl, fun x hx => ?_⟩
  obtain ⟨y, _, rfl⟩ := List.mem_map.1 hx
  rfl
theorem dm_holds (D : Dirs) : Holds1 (dmRes D) (D.map fun p => (p.1, .map none)) := fun w L h => by
  obtain ⟨h1, h2, ⟨es, c, h3⟩, h4⟩ := h
  refine ⟨_, es, c, h3, ?_, fun x hx => ?_⟩
  · unfold dmVals
    rw [List.map_map, List.map_map]
    apply List.ext_getElem?
    intro j
    simp only [List.getElem?_map, Function.comp_def]
    by_cases hj : j < D.length
    · have e : (D.zip L.sub)[j]? = some (D[j], L.sub[j]'(by omega)) := by
        rw [List.getElem?_eq_getElem (by rw [List.length_zip]; omega), List.getElem_zip]
      rw [e, List.getElem?_eq_getElem hj]
      rfl
    · rw [List.getElem?_eq_none (by rw [List.length_zip]; omega), List.getElem?_eq_none (by omega)]
      rfl
  · obtain ⟨y, _, rfl⟩ := List.mem_map.1 hx
    rfl
/-- `range m`, m a variable's map. -/
theorem TrL.rangeM {ops : Array Oper} {o : Oper} {L : List Oper} {t kt et d i : Nat} {x : Operand} {R : Res} {l : List (Str × Value)} (hR : Holds1 R l)
    (hg : o.guard = none) (ho : o.op = .range t x) (hdst : o.dst = some d) (ht : P.underlying t = some (.map kt et)) (hd : (decide (d < n) && okPut env d) = true)
    (hx : opnd env [] x = some (.mp i)) (hi : tab[i]? = some (.res R))
    (k : ∀ bm es clk vs, EsOk es clk vs → vs.map (·.1) = l.map (·.1) → TrL P cx n ops L (addRes env (tab.set i (.res (pinR R bm es clk))) d (.ptr tab.length 0) (itE bm es clk (l.map (·.1)))) Q) : TrL P cx n ops (o :: L) ⟨env, tab⟩ Q := by
  intro a w hs
  obtain ⟨σ, ρ, hw, he, hn, hdf⟩ : ∃ σ ρ, WR cx σ ρ tab w ∧ EnvA σ ρ env a ∧ a.tmps.size = n ∧ a.defers = cx.ds := id hs
  have h1 := opnd_den he.env (fun p hp => by cases hp) hx
  simp only [SV.den] at h1
  obtain ⟨vs, es, clk, q1, q2, q3⟩ := hR w _ (hw.ent i _ hi)
  have hok : EsOk es clk vs := ⟨q1.ents, q1.nodup, q1.born, q3⟩
  have hs2 : SRel cx n ⟨env, tab.set i (.res (pinR R (ρ i).blk es clk))⟩ a w := by
    have hS : subOf ρ i (ρ i).sub = ρ := by
      funext j
      unfold subOf
      split
      · rename_i hj; rw [hj]
      · rfl
    have := hw.resStep (w' := w) (R' := pinR R (ρ i).blk es clk) (S := (ρ i).sub) hi (fun b _ _ => rfl) (by rw [hS]; exact ⟨hw.ent i _ hi, .inl rfl, q1.at_⟩) (fun b hb => .inl hb) rfl rfl rfl (Nat.le_refl _)
    rw [hS] at this
    exact ⟨σ, ρ, this, he, hn, hdf⟩
  obtain ⟨σ2, ρ2, hw2, he2, hn2, hd2⟩ : ∃ σ2 ρ2, WR cx σ2 ρ2 (tab.set i (.res (pinR R (ρ i).blk es clk))) w ∧ EnvA σ2 ρ2 env a ∧ a.tmps.size = n ∧ a.defers = cx.ds := hs2
  have hrun : (execOp a.eval o).run P w = .ok (.value (.pointer (some ⟨w.heap.size, 0, none⟩))) (w.alloc (.mapIter (some (ρ i).blk) clk #[] clk)) := by
    have hgo : (getObj (ρ i).blk).run P w = .ok (.map es clk) w := MapKept.run_getObj_map q1.at_
    simp only [execOp, ho, h1]
    simp [Instr.range, run_underlying ht, hgo, newObj, Sem.run, Result.andThen]
  refine wpList_plain hg fun K hK => wp_of_value hrun (hK _ _ (k (ρ i).blk es clk vs hok q2 _ _ ?_))
  rw [hdst]
  refine SRel.newRes hw2 he2 hn2 hd2 hd ⟨rfl, #[], heap_alloc_new w _, ?_⟩ ?_
  · rw [leftK_all, hok.keys, q2]
  · simp only [SV.den, List.length_set, upd_same, Loc0]
/-- `range m`, m the map that a look-up yielded. -/
theorem TrL.rangeP {ops : Array Oper} {o : Oper} {L : List Oper} {t kt et d i bm clk : Nat} {es : Array MapEntry} {x : Operand} {R : Res} {l : List (Str × Value)} (hok : EsOk es clk l)
    (hg : o.guard = none) (ho : o.op = .range t x) (hdst : o.dst = some d) (ht : P.underlying t = some (.map kt et)) (hd : (decide (d < n) && okPut env d) = true)
    (hx : opnd env [] x = some (.itr (some bm))) (hi : tab[i]? = some (.res (pinR R bm es clk)))
    (k : TrL P cx n ops L (addRes env tab d (.ptr tab.length 0) (itE bm es clk (l.map (·.1)))) Q) : TrL P cx n ops (o :: L) ⟨env, tab⟩ Q := by
  intro a w hs
  obtain ⟨σ, ρ, hw, he, hn, hdf⟩ : ∃ σ ρ, WR cx σ ρ tab w ∧ EnvA σ ρ env a ∧ a.tmps.size = n ∧ a.defers = cx.ds := hs
  have h1 := opnd_den he.env (fun p hp => by cases hp) hx
  simp only [SV.den] at h1
  obtain ⟨q1, q2, q3⟩ := hw.ent i _ hi
  have hrun : (execOp a.eval o).run P w = .ok (.value (.pointer (some ⟨w.heap.size, 0, none⟩))) (w.alloc (.mapIter (some bm) clk #[] clk)) := by
    have hgo : (getObj bm).run P w = .ok (.map es clk) w := MapKept.run_getObj_map q3
    simp only [execOp, ho, h1]
    simp [Instr.range, run_underlying ht, hgo, newObj, Sem.run, Result.andThen]
  refine wpList_plain hg fun K hK => wp_of_value hrun (hK _ _ (k _ _ ?_))
  rw [hdst]
  refine SRel.newRes hw he hn hdf hd ⟨rfl, #[], heap_alloc_new w _, ?_⟩ ?_
  · rw [leftK_all, hok.keys]
  · simp only [SV.den, upd_same, Loc0]
/-- `range m`, m nil. -/
theorem TrL.rangeN {ops : Array Oper} {o : Oper} {L : List Oper} {t kt et d : Nat} {x : Operand}
    (hg : o.guard = none) (ho : o.op = .range t x) (hdst : o.dst = some d) (ht : P.underlying t = some (.map kt et)) (hd : (decide (d < n) && okPut env d) = true)
    (hx : opnd env [] x = some (.itr none)) (k : TrL P cx n ops L (addRes env tab d (.ptr tab.length 0) itN) Q) : TrL P cx n ops (o :: L) ⟨env, tab⟩ Q := by
  intro a w hs
  obtain ⟨σ, ρ, hw, he, hn, hdf⟩ : ∃ σ ρ, WR cx σ ρ tab w ∧ EnvA σ ρ env a ∧ a.tmps.size = n ∧ a.defers = cx.ds := hs
  have h1 := opnd_den he.env (fun p hp => by cases hp) hx
  simp only [SV.den] at h1
  have hrun : (execOp a.eval o).run P w = .ok (.value (.pointer (some ⟨w.heap.size, 0, none⟩))) (w.alloc (.mapIter none 0 #[] 0)) := by
    simp only [execOp, ho, h1]
    simp [Instr.range, run_underlying ht, newObj, Sem.run, Result.andThen]
  refine wpList_plain hg fun K hK => wp_of_value hrun (hK _ _ (k _ _ ?_))
  rw [hdst]
  refine SRel.newRes hw he hn hdf hd ⟨rfl, heap_alloc_new w _⟩ ?_
  simp only [SV.den, upd_same, Loc0]

/-! ### A step -/
theorem TrL.nextN {ops : Array Oper} {o : Oper} {L : List Oper} {d j : Nat} {x : Operand}
    (hg : o.guard = none) (ho : o.op = .next x false) (hdst : o.dst = some d) (hd : (decide (d < n) && okPut env d) = true)
    (hx : opnd env [] x = some (.ptr j 0)) (hj : tab[j]? = some (.res itN)) (k : TrL P cx n ops L ⟨put env d [] (.tup [.val .bool false]), tab⟩ Q) : TrL P cx n ops (o :: L) ⟨env, tab⟩ Q := by
  simp only [Bool.and_eq_true, decide_eq_true_eq] at hd
  intro a w hs
  obtain ⟨σ, ρ, hw, he, hn, hdf⟩ : ∃ σ ρ, WR cx σ ρ tab w ∧ EnvA σ ρ env a ∧ a.tmps.size = n ∧ a.defers = cx.ds := hs
  have h1 := opnd_den he.env (fun p hp => by cases hp) hx
  simp only [SV.den] at h1
  obtain ⟨q1, q2⟩ := hw.ent j _ hj
  have hrun : (execOp a.eval o).run P w = .ok (.value (.tuple #[.bool false])) w := by
    simp only [execOp, ho, h1]
    simp [Instr.next, getObj, Sem.run, q2, Result.andThen]
  refine wpList_plain hg fun K hK => wp_of_value hrun (hK _ _ (k _ _ ⟨σ, ρ, hw, ?_, by rw [put_size]; exact hn, by rw [put_defers]; exact hdf⟩))
  rw [hdst]
  exact he.put hd.2 (by rw [hn]; exact hd.1) rfl (fun _ => by simp only [SV.den, SV.denL, Den]; exact ⟨_, rfl, _, _, rfl, rfl, rfl⟩) (fun h => absurd (fun p hp => by cases hp) h)
theorem TrL.nextM {ops : Array Oper} {o : Oper} {L : List Oper} {d j bm clk : Nat} {es : Array MapEntry} {x : Operand} {R : Res} {l : List (Str × Value)} {left : List Str} (i : Nat) (hok : EsOk es clk l)
    (hg : o.guard = none) (ho : o.op = .next x false) (hdst : o.dst = some d) (hd : (decide (d < n) && okPut env d) = true)
    (hx : opnd env [] x = some (.ptr j 0)) (hj : tab[j]? = some (.res (itE bm es clk left))) (hi : tab[i]? = some (.res (pinR R bm es clk)))
    (k1 : left = [] → TrL P cx n ops L ⟨put env d [] (.tup [.val .bool false]), tab⟩ Q)
    (k2 : ∀ s rest, left.Perm (s :: rest) → TrL P cx n ops L ⟨put env d [] (.tup [.val .bool true, .val .str s, .top]), tab.set j (.res (itC bm es clk rest s))⟩ Q) : TrL P cx n ops (o :: L) ⟨env, tab⟩ Q := by
  simp only [Bool.and_eq_true, decide_eq_true_eq] at hd
  intro a w hs
  obtain ⟨σ, ρ, hw, he, hn, hdf⟩ : ∃ σ ρ, WR cx σ ρ tab w ∧ EnvA σ ρ env a ∧ a.tmps.size = n ∧ a.defers = cx.ds := hs
  have h1 := opnd_den he.env (fun p hp => by cases hp) hx
  simp only [SV.den] at h1
  obtain ⟨q1, seen, q2, q3⟩ := hw.ent j _ hj
  obtain ⟨p1, p2, p3⟩ := hw.ent i _ hi
  rcases run_next_at (P := P) w o.type (ρ j).blk bm clk clk seen es clk q2 p3 hok.born (Nat.le_refl _) with ⟨hz, hrun⟩ | ⟨e, hem, w1, hw1, hrun⟩
  · have hl : left = [] := by
      have : leftK es seen = [] := by
        unfold leftK
        rw [Array.eq_empty_of_size_eq_zero hz]
        rfl
      rw [this] at q3
      exact q3.nil_eq.symm
    have hrun' : (execOp a.eval o).run P w = .ok (.value (.tuple #[.bool false])) w := by
      simp only [execOp, ho, h1]
      simp [hrun]
    refine wpList_plain hg fun K hK => wp_of_value hrun' (hK _ _ (k1 hl _ _ ⟨σ, ρ, hw, ?_, by rw [put_size]; exact hn, by rw [put_defers]; exact hdf⟩))
    rw [hdst]
    exact he.put hd.2 (by rw [hn]; exact hd.1) rfl (fun _ => by simp only [SV.den, SV.denL, Den]; exact ⟨_, rfl, _, _, rfl, rfl, rfl⟩) (fun h => absurd (fun p hp => by cases hp) h)
  · have hee := hok.mem (leftOf_mem hem)
    have hrun' : (execOp a.eval o).run P w = .ok (.value (.tuple #[.bool true, e.key, e.val])) (setBlock w1 (ρ j).blk (.mapIter (some bm) clk (seen.push e.born) clk)) := by
      simp only [execOp, ho, h1]
      simp [hrun]
    have hw1h : w1.heap = w.heap ∧ w1.os = w.os ∧ w1.tape = w.tape ∧ w1.output = w.output := by
      rcases hw1 with rfl | rfl <;> exact ⟨rfl, rfl, rfl, rfl⟩
    have hpm := leftK_push hok.nodup hem
    have hw' := hw.resStep (R' := itC bm es clk (leftK es (seen.push e.born)) (keyS e)) (S := []) hj (w' := setBlock w1 (ρ j).blk (.mapIter (some bm) clk (seen.push e.born) clk))
      (fun b _ hb => by rw [setBlock_other fun e => hb (.inl e.symm), hw1h.1]) ⟨by rw [subOf_same], seen, e, ?_, leftOf_mem hem, rfl, List.Perm.refl _⟩ (fun b hb => by cases hb) hw1h.2.1 hw1h.2.2.1 hw1h.2.2.2 (by simp [setBlock, hw1h.1])
    · refine wpList_plain hg fun K hK => wp_of_value hrun' (hK _ _ (k2 (keyS e) _ (q3.symm.trans hpm) _ _ ⟨σ, subOf ρ j [], hw', ?_, by rw [put_size]; exact hn, by rw [put_defers]; exact hdf⟩))
      rw [hdst]
      refine EnvR.sub (he.put hd.2 (by rw [hn]; exact hd.1) rfl (fun _ => ?_) (fun h => absurd (fun p hp => by cases hp) h)) j []
      simp only [SV.den, SV.denL, Den]
      exact ⟨_, rfl, _, _, rfl, rfl, _, _, rfl, by rw [hee.1], _, _, rfl, hee.2, rfl⟩
    · rw [subOf_blk]
      exact setBlock_at (by rw [hw1h.1]; exact q2)
/-- The entry that was stepped to. -/
theorem TrL.entryM {ops : Array Oper} {o : Oper} {L : List Oper} {d j bm clk : Nat} {es : Array MapEntry} {x : Operand} {R : Res} {l : List (Str × Value)} {left : List Str} {s : Str} (i : Nat) (hok : EsOk es clk l)
    (hg : o.guard = none) (ho : o.op = .entry x) (hdst : o.dst = some d) (hd : (decide (d < n) && okPut env d) = true)
    (hx : opnd env [] x = some (.ptr j 0)) (hj : tab[j]? = some (.res (itC bm es clk left s))) (hi : tab[i]? = some (.res (pinR R bm es clk)))
    (k : TrL P cx n ops L ⟨put env d [] (.tup [.val .str s, .top]), tab.set j (.res (itE bm es clk left))⟩ Q) : TrL P cx n ops (o :: L) ⟨env, tab⟩ Q := by
  simp only [Bool.and_eq_true, decide_eq_true_eq] at hd
  intro a w hs
  obtain ⟨σ, ρ, hw, he, hn, hdf⟩ : ∃ σ ρ, WR cx σ ρ tab w ∧ EnvA σ ρ env a ∧ a.tmps.size = n ∧ a.defers = cx.ds := hs
  have h1 := opnd_den he.env (fun p hp => by cases hp) hx
  simp only [SV.den] at h1
  obtain ⟨q1, seen, e, q2, q3, q4, q5⟩ := hw.ent j _ hj
  obtain ⟨p1, p2, p3⟩ := hw.ent i _ hi
  have hee := hok.mem q3
  have hrun : (execOp a.eval o).run P w = .ok (.value (.tuple #[e.key, e.val])) w := by
    simp only [execOp, ho, h1]
    simp [run_entry_at (P := P) w _ bm clk seen es clk e q2 p3 q3 hok.nodup]
  have hs2 : SRel cx n ⟨put env d [] (.tup [.val .str s, .top]), tab⟩ (a.put (some d) (.tuple #[e.key, e.val])) w := by
    refine ⟨σ, ρ, hw, ?_, by rw [put_size]; exact hn, by rw [put_defers]; exact hdf⟩
    refine he.put hd.2 (by rw [hn]; exact hd.1) rfl (fun _ => ?_) (fun h => absurd (fun p hp => by cases hp) h)
    simp only [SV.den, SV.denL, Den]
    exact ⟨_, rfl, _, _, rfl, by rw [hee.1, q4], _, _, rfl, hee.2, rfl⟩
  refine wpList_plain hg fun K hK => wp_of_value hrun (hK _ _ ?_)
  rw [hdst]
  exact k _ _ (hs2.weakRes j hj fun w L ⟨r1, seen, e, r2, r3, r4, r5⟩ => ⟨r1, _, r2, r5⟩)
/-- `dirs[k]`, a map or none. -/
theorem TrL.dmGet {ops : Array Oper} {o : Oper} {L : List Oper} {t kt et d i : Nat} {x kx : Operand} {D : Dirs} {k : Str}
    (hz : ∀ w, (zeroValue et).run P w = .ok (.map none) w) (hg : o.guard = none) (ho : o.op = .lookup t x kx false) (hdst : o.dst = some d) (ht : P.underlying t = some (.map kt et)) (hk : P.underlying kt = some .string)
    (hd : (decide (d < n) && okPut env d) = true) (hx : opnd env [] x = some (.mp i)) (hkx : opnd env [] kx = some (.val .str k)) (hi : tab[i]? = some (.res (dmRes D)))
    (k1 : dIdx D k = none → TrL P cx n ops L ⟨put env d [] (.itr none), tab⟩ Q)
    (k2 : ∀ m p bm es clk, dIdx D k = some m → D[m]? = some p → EsOk es clk (setVals p.2) → TrL P cx n ops L ⟨put env d [] (.itr (some bm)), tab.set i (.res (pinR (dmRes D) bm es clk))⟩ Q) : TrL P cx n ops (o :: L) ⟨env, tab⟩ Q := by
  simp only [Bool.and_eq_true, decide_eq_true_eq] at hd
  intro a w hs
  obtain ⟨σ, ρ, hw, he, hn, hdf⟩ : ∃ σ ρ, WR cx σ ρ tab w ∧ EnvA σ ρ env a ∧ a.tmps.size = n ∧ a.defers = cx.ds := hs
  have h1 := opnd_den he.env (fun p hp => by cases hp) hx
  have h2 := opnd_den he.env (fun p hp => by cases hp) hkx
  simp only [SV.den, Den] at h1 h2
  have h2' : a.eval kx = strV k := by simpa using h2
  have hrel := hw.ent i _ hi
  obtain ⟨h3, h4, ⟨es, c, h5⟩, h6⟩ := id hrel
  have hrun := run_lookup_str (w := w) ht hk h5.at_ h5.ents (hz w) k false
  have hrun' : (execOp a.eval o).run P w = .ok (.value (lookV (dmVals D (ρ i).sub) k (.map none) false)) w := by
    simp only [execOp, ho, h1, h2']
    simp [hrun]
  refine wpList_plain hg fun K hK => wp_of_value hrun' (hK _ _ ?_)
  rw [hdst]
  rcases dm_idx k D (ρ i).sub 0 h3 with ⟨r1, r2⟩ | ⟨m, b, r1, r2, r3⟩
  · refine k1 r1 _ _ ⟨σ, ρ, hw, ?_, by rw [put_size]; exact hn, by rw [put_defers]; exact hdf⟩
    refine he.put hd.2 (by rw [hn]; exact hd.1) rfl (fun _ => ?_) (fun h => absurd (fun p hp => by cases hp) h)
    unfold lookV
    rw [r2]
    simp only [SV.den]
    rfl
  · have hml := dIdx_lt D k m r1
    obtain ⟨es2, c2, h7⟩ := h6 m D[m] b (List.getElem?_eq_getElem hml.1) r2
    have hok : EsOk es2 c2 (setVals D[m].2) := ⟨h7.ents, h7.nodup, h7.born, fun x hx => by obtain ⟨y, _, rfl⟩ := List.mem_map.1 hx; rfl⟩
    have hS : subOf ρ i (ρ i).sub = ρ := by
      funext j
      unfold subOf
      split
      · rename_i hj; rw [hj]
      · rfl
    have hw2 := hw.resStep (w' := w) (R' := pinR (dmRes D) b es2 c2) (S := (ρ i).sub) hi (fun b _ _ => rfl) (by rw [hS]; exact ⟨hrel, .inr (List.mem_of_getElem? r2), h7.at_⟩) (fun b hb => .inl hb) rfl rfl rfl (Nat.le_refl _)
    rw [hS] at hw2
    refine k2 m D[m] b es2 c2 r1 (List.getElem?_eq_getElem hml.1) hok _ _ ⟨σ, ρ, hw2, ?_, by rw [put_size]; exact hn, by rw [put_defers]; exact hdf⟩
    refine he.put hd.2 (by rw [hn]; exact hd.1) rfl (fun _ => ?_) (fun h => absurd (fun p hp => by cases hp) h)
    unfold lookV
    rw [r3]
    simp only [SV.den]
    rfl
end
end Go.Proofs.YtbnejfgdojdbdaaDoor.Sx
