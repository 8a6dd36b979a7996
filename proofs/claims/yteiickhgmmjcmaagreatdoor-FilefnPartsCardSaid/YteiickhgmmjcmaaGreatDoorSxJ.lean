/-
  The operations that make or write memory.
-/
import Derived.Test.YteiickhgmmjcmaaGreatDoorSxI
import Derived.Lib.AppendStr
import Derived.Laws.BytesArg
import Derived.Laws.IdiomStrings
set_option linter.unusedVariables false
set_option linter.unusedSimpArgs false
namespace Go.Proofs.YteiickhgmmjcmaaGreatDoor.Sx
open Go Go.RowKit

/-- What an operation does, whatever the world. -/
def Eff (P : Program) (n : Nat) (o : Oper) (st st' : St) (c : Option Prop) : Prop :=
  o.guard = none ∧ ∀ cx a w, holds c → SRel cx n st a w → ∃ nx w', (execOp a.eval o).run P w = .ok nx w' ∧
    ((∃ v, nx = .value v ∧ SRel cx n st' (a.put o.dst v) w') ∨ (nx = .skip ∧ SRel cx n st' (a.put o.dst undef) w'))
theorem TrL.eff {P : Program} {cx : Cx} {n : Nat} {ops : Array Oper} {o : Oper} {l : List Oper} {st st' : St} {Q : Post} {c : Option Prop}
    (h : Eff P n o st st' c) (hc : holds c) (k : TrL P cx n ops l st' Q) : TrL P cx n ops (o :: l) st Q := by
  intro a w hs
  refine wpList_plain h.1 fun K hK => ?_
  obtain ⟨nx, w', hrun, h2⟩ := h.2 cx a w hc hs
  unfold Oper.wp
  rw [hrun]
  rcases h2 with ⟨v, rfl, hr⟩ | ⟨rfl, hr⟩
  · exact hK _ _ (k _ _ hr)
  · exact hK _ _ (k _ _ hr)

/-! ### A new variable -/
def addBox (n : Nat) (env : Env) (tab : List Ent) (d : Option Nat) (tt : TypeId) (cs : List SV) : Option St :=
  match d with
  | some d =>
    if d < n ∧ okPut env d = true then
      some ⟨put (cleanE (fun i => decide (i < tab.length)) env) d [] (.ptr tab.length 0),
        cleanT (fun i => decide (i < tab.length)) tab ++ [.box tt (cleanC (fun i => decide (i < tab.length)) cs)]⟩
    else none
  | none => none
theorem addBox_sound {cx : Cx} {n : Nat} {env : Env} {tab : List Ent} {st' : St} {d : Option Nat} {cs : List SV} {a : Act} {w : World} {vs : Array Value} {tt : TypeId} {σ : Mem} {ρ : Rho}
    (h : addBox n env tab d tt cs = some st') (hw : WR cx σ ρ tab w) (he : EnvA σ ρ env a) (hn : a.tmps.size = n) (hd : a.defers = cx.ds) (hcs : SV.denL σ ρ cs vs.toList) (h1 : ∀ u ∈ vs.toList, u.oneCell' = true) :
    SRel cx n st' (a.put d (.pointer (some ⟨w.heap.size, 0, none⟩))) (w.alloc (.cells vs tt)) := by
  unfold addBox at h
  split at h
  · rename_i d
    split at h
    · rename_i hlt
      obtain rfl := Option.some.inj h
      have hρ : ∀ i, (decide (i < tab.length)) = true → upd ρ tab.length (Loc0 w.heap.size) i = ρ i := upd_lt
      refine ⟨σ, upd ρ tab.length (Loc0 w.heap.size), ?_, ?_, by rw [put_size]; exact hn, by rw [put_defers]; exact hd⟩
      · refine hw.newEnt (Mem.le_refl σ) (fun a v ha => ?_) (fun b hb => Below.heap_alloc w _ b hb) (fun a v ha => .inl ⟨v, ha⟩) ?_ (fun b hb => ?_) rfl rfl rfl (by simp)
        · exact ((below_alloc' w _).cell (sub_lt hw.sub ha)).trans (hw.sub a v ha)
        · refine ⟨vs.toList, ?_, ?_, h1, fun a v ha hb => ?_⟩
          · rw [upd_same]
            simp only [Loc0]
            rw [heap_alloc_new]
          · exact denL_step (Mem.le_refl σ) _ hρ _ _ (cleanC_ok _ _) (cleanC_den _ _ hcs h1)
          · rw [upd_same] at hb
            have := sub_lt hw.sub ha
            simp only [Loc0] at hb
            omega
        · simp only [Ent.at_, upd_same, Loc0, Option.some.injEq] at hb
          omega
      · refine (he.clean _ hρ).put (okPut_clean hlt.2) (by rw [hn]; exact hlt.1) rfl (fun _ => ?_) (fun h => absurd (fun p hp => by cases hp) h)
        simp only [SV.den, upd_same, Loc0]
    · cases h
  · cases h

theorem cells_oneCell {σ : Mem} {ρ : Rho} : ∀ (s : SV) (v : Value), SV.den σ ρ s v → (∀ x ∈ v.cells.toList, x.oneCell' = true) ∨ ∃ x ∈ v.cells.toList, x.oneCell' = false := by
  intro s v _
  by_cases h : ∀ x ∈ v.cells.toList, x.oneCell' = true
  · exact .inl h
  · refine .inr ?_
    simp only [Classical.not_forall] at h
    obtain ⟨x, hx, h⟩ := h
    exact ⟨x, hx, by simpa using h⟩
/-- A value of one cell, by its form. -/
def SV.one : SV → Bool
  | .agg _ => false
  | .tup _ => false
  | .val _ _ => true
  | _ => true
theorem one_den {σ : Mem} {ρ : Rho} {s : SV} {v : Value} (h : s.one = true) (hd : SV.den σ ρ s v) : v.oneCell' = true := by
  cases s with
  | agg l => cases h
  | tup l => cases h
  | val t x => simp only [SV.den] at hd; exact Den_one t x _ hd v (by simp)
  | nils => simp only [SV.den] at hd; rw [hd]; rfl
  | nilp => simp only [SV.den] at hd; rw [hd]; rfl
  | nilf => simp only [SV.den] at hd; rw [hd]; rfl
  | top => simpa only [SV.den] using hd
  | fix t l => simp only [SV.den] at hd; obtain ⟨_, A, n, e⟩ := hd; rw [e]; rfl
  | own i => simp only [SV.den] at hd; rw [hd]; rfl
  | arr i => simp only [SV.den] at hd; rw [hd]; rfl
  | mp i => simp only [SV.den] at hd; rw [hd]; rfl
  | itr i => simp only [SV.den] at hd; rw [hd]; rfl
  | ptr i o => simp only [SV.den] at hd; rw [hd]; rfl
  | mptr i => simp only [SV.den] at hd; rcases hd with hd | hd <;> rw [hd] <;> rfl
  | sub i n => simp only [SV.den] at hd; rw [hd]; rfl
  | offs i j k n => simp only [SV.den] at hd; rw [hd]; rfl
  | eptr i j k o => simp only [SV.den] at hd; rw [hd]; rfl
  | yv l => simp only [SV.den] at hd; rw [hd]; rfl
  | rptr cs o => simp only [SV.den] at hd; obtain ⟨b, e, _⟩ := hd; rw [e]; rfl
  | fn f a b => simp only [SV.den] at hd; obtain ⟨_, _, e, _⟩ := hd; rw [e]; rfl
def oneL : List SV → Bool
  | [] => true
  | s :: l => s.one && oneL l
theorem oneL_den {σ : Mem} {ρ : Rho} : ∀ (l : List SV) (vs : List Value), oneL l = true → SV.denL σ ρ l vs → ∀ u ∈ vs, u.oneCell' = true
  | [], vs, _, hd, u, hu => by simp only [SV.denL] at hd; subst hd; cases hu
  | s :: l, vs, h, hd, u, hu => by
    simp only [oneL, Bool.and_eq_true] at h
    simp only [SV.denL] at hd
    obtain ⟨v, r, rfl, hv, hr⟩ := hd
    rcases List.mem_cons.1 hu with rfl | hu
    · exact one_den h.1 hv
    · exact oneL_den l r h.2 hr u hu
theorem constSVL_one {l : List Value} : ∀ (r : List SV), constSVL l = some r → ∀ u ∈ l, u.oneCell' = true := by
  induction l with
  | nil => intro r _ u hu; cases hu
  | cons v l ih =>
    intro r h u hu
    simp only [constSVL] at h
    split at h
    · rename_i s r' h1 h2
      rcases List.mem_cons.1 hu with rfl | hu
      · unfold constSV at h1
        split at h1 <;> first | rfl | cases h1
      · exact ih r' h2 u hu
    · cases h

def effBox (P : Program) (n : Nat) (env : Env) (tab : List Ent) (o : Oper) : Option (Option Prop × St) :=
  match o.guard, o.op with
  | none, .box e x => match opnd env [] x with
    | some s => if oneL s.cellsSV = true then (match addBox n env tab o.dst e s.cellsSV with | some st' => some (none, st') | none => none) else none
    | none => none
  | none, .alloc e => match zeroSV P e with
    | some cs => match addBox n env tab o.dst e cs with | some st' => some (none, st') | none => none
    | none => none
  | _, _ => none
theorem effBox_sound {P : Program} {n : Nat} {env : Env} {tab : List Ent} {st' : St} {o : Oper} {c : Option Prop} (h : effBox P n env tab o = some (c, st')) : Eff P n o ⟨env, tab⟩ st' c := by
  unfold effBox at h
  split at h
  · rename_i e x hg ho
    split at h
    · rename_i s hs
      split at h
      · rename_i hone
        split at h
        · rename_i st1 hst
          simp only [Option.some.injEq, Prod.mk.injEq] at h
          obtain ⟨rfl, rfl⟩ := h
          refine ⟨hg, fun cx a w _ hr => ?_⟩
          obtain ⟨σ, ρ, hw, he, hn, hd⟩ : ∃ σ ρ, WR cx σ ρ tab w ∧ EnvA σ ρ env a ∧ a.tmps.size = n ∧ a.defers = cx.ds := hr
          have hx := opnd_den (known := []) he.env (fun p hp => by cases hp) hs
          have hc := cells_den hx
          refine ⟨_, _, ?_, .inl ⟨_, rfl, addBox_sound (tt := e) hst hw he hn hd hc (oneL_den _ _ hone hc)⟩⟩
          simp [execOp, ho, Instr.box, newVar, newRow, newObj, Sem.run]
        · cases h
      · cases h
    · cases h
  · rename_i e hg ho
    split at h
    · rename_i cs hcs
      split at h
      · rename_i st1 hst
        simp only [Option.some.injEq, Prod.mk.injEq] at h
        obtain ⟨rfl, rfl⟩ := h
        refine ⟨hg, fun cx a w _ hr => ?_⟩
        obtain ⟨σ, ρ, hw, he, hn, hd⟩ : ∃ σ ρ, WR cx σ ρ tab w ∧ EnvA σ ρ env a ∧ a.tmps.size = n ∧ a.defers = cx.ds := hr
        unfold zeroSV at hcs
        split at hcs
        · rename_i it hit
          split at hcs
          · rename_i z hz
            have hc := constSVL_den (σ := σ) (ρ := ρ) _ _ hcs
            refine ⟨_, _, ?_, .inl ⟨_, rfl, addBox_sound (tt := e) hst hw he hn hd hc (constSVL_one _ hcs)⟩⟩
            simp [execOp, ho, Instr.alloc, zeroValue, typeInfo, hit, hz, newVar, newRow, newObj, Sem.run]
          · cases hcs
        · cases hcs
      · cases h
    · cases h
  · cases h

/-! ### A store into a variable -/
def effStoreB (P : Program) (n : Nat) (env : Env) (tab : List Ent) (o : Oper) : Option (Option Prop × St) :=
  match o.guard, o.dst, o.op with
  | none, none, .store t x y => match opnd env [] x, opnd env [] y, P.info? t with
    | some (.ptr i off), some s, some inf => match tab[i]? with
      | some (.box tt cs) =>
        if inf.size = s.cellsSV.length ∧ off + s.cellsSV.length ≤ cs.length ∧ oneL s.cellsSV = true then
          some (none, ⟨env, tab.set i (.box tt (cs.take off ++ s.cellsSV ++ cs.drop (off + s.cellsSV.length)))⟩)
        else none
      | _ => none
    | _, _, _ => none
  | _, _, _ => none

theorem cleanT_true (tab : List Ent) : cleanT (fun _ => true) tab = tab := by
  have hc : ∀ cs, cleanC (fun _ => true) cs = cs := by
    intro cs
    simp only [cleanC]
    conv => rhs; rw [← List.map_id cs]
    apply List.map_congr_left
    intro c _
    simp [ok_true]
  simp only [cleanT]
  conv => rhs; rw [← List.map_id tab]
  apply List.map_congr_left
  intro e _
  cases e <;> simp [hc]

theorem setRow_cell {w : World} {g : Nat} {cur : Array Value} {tt : TypeId} {fz : Nat × Nat} (vs : Array Value) (hg : w.heap[g]? = some (.cells cur tt fz)) : (w.setRow g vs).heap[g]? = some (.cells vs tt fz) := setRow_heap w g cur vs tt fz hg

theorem flatten_set {α : Type} {m : Nat} {c' : List α} : ∀ (css : List (List α)) (j : Nat), (∀ c ∈ css, c.length = m) → j < css.length → (css.set j c').flatten = css.flatten.take (j * m) ++ c' ++ css.flatten.drop (j * m + m)
  | [], j, _, hj => by simp at hj
  | c :: r, 0, h, _ => by
    have hc := h c (by simp)
    simp only [List.set_cons_zero, List.flatten_cons, Nat.zero_mul, List.take_zero, List.nil_append, Nat.zero_add]
    rw [← hc, List.drop_left]
  | c :: r, j + 1, h, hj => by
    have hc := h c (by simp)
    have ih := flatten_set (c' := c') r j (fun x hx => h x (by simp [hx])) (by simpa using hj)
    simp only [List.set_cons_succ, List.flatten_cons]
    subst hc
    rw [ih, Nat.add_mul, Nat.one_mul, Nat.add_comm (j * c.length) c.length, Nat.add_assoc c.length (j * c.length) c.length]
    rw [List.take_length_add_append, List.drop_length_add_append, Nat.add_comm (j * c.length) c.length]
    simp
theorem Rows.setE {σ : Mem} {t : Ty} {l : List t.D} {xs : List Value} (hr : Rows σ t l xs) {j : Nat} (hj : j < l.length) {x : t.D} {cc : List Value} (hd : Den σ t x cc) :
    Rows σ t (l.set j x) (xs.take (j * t.cells) ++ cc ++ xs.drop (j * t.cells + t.cells)) := by
  obtain ⟨css, a1, rfl, a3⟩ := hr
  have hall := Rows.all a1 a3
  refine ⟨css.set j cc, by simp [a1], (flatten_set css j hall (by omega)).symm, fun i y hy => ?_⟩
  rw [List.getElem?_set] at hy
  rw [List.getElem?_set]
  split at hy
  · rename_i hij
    subst hij
    obtain rfl := Option.some.inj hy
    rw [if_pos rfl, if_pos (by rw [a1]; exact hj)]
    exact ⟨_, rfl, hd⟩
  · rename_i hij
    rw [if_neg hij]
    exact a3 i y hy
theorem splice_mid {α : Type} {A cc B vs : List α} {off : Nat} (h : off + vs.length ≤ cc.length) :
    (A ++ cc ++ B).take (A.length + off) ++ vs ++ (A ++ cc ++ B).drop (A.length + off + vs.length) = A ++ (cc.take off ++ vs ++ cc.drop (off + vs.length)) ++ B := by
  rw [List.append_assoc A cc B, List.take_length_add_append, Nat.add_assoc, List.drop_length_add_append, List.take_append_of_le_length (by omega), List.drop_append_of_le_length h]
  simp
/-- An element's cells, and those ahead of it and behind it. -/
theorem Rows.split {σ : Mem} {t : Ty} {l : List t.D} {xs : List Value} (hr : Rows σ t l xs) {j : Nat} (hj : j < l.length) :
    ∃ cc, Den σ t l[j] cc ∧ xs = xs.take (j * t.cells) ++ cc ++ xs.drop (j * t.cells + t.cells) ∧ (xs.take (j * t.cells)).length = j * t.cells := by
  obtain ⟨cc, hd, hcc⟩ := hr.elem (List.getElem?_eq_getElem hj)
  have hlen := Den_length _ _ _ hd
  have hxl := hr.length
  have hb : j * t.cells + t.cells ≤ l.length * t.cells := by
    have := Nat.mul_le_mul_right t.cells (show j + 1 ≤ l.length from hj)
    rw [Nat.add_mul] at this
    omega
  refine ⟨cc, hd, ?_, by rw [List.length_take]; omega⟩
  have e : (xs.drop (j * t.cells)).take t.cells = cc := by
    apply List.ext_getElem?
    intro p
    rw [List.getElem?_take, List.getElem?_drop]
    split
    · rename_i hp
      have hp' : p < cc.length := by omega
      rw [hcc p _ (List.getElem?_eq_getElem hp'), List.getElem?_eq_getElem hp']
    · rename_i hp
      rw [List.getElem?_eq_none (by omega)]
  rw [← e, List.append_assoc, ← List.drop_drop, List.take_append_drop, List.take_append_drop]

theorem effStoreB_sound {P : Program} {n : Nat} {env : Env} {tab : List Ent} {st' : St} {o : Oper} {c : Option Prop} (h : effStoreB P n env tab o = some (c, st')) : Eff P n o ⟨env, tab⟩ st' c := by
  unfold effStoreB at h
  split at h
  · rename_i t x y hg hdst ho
    split at h
    · rename_i i off s inf hx hy hinf
      split at h
      · rename_i tt cs hi
        split at h
        · rename_i hs
          obtain ⟨hs1, hs2, hs3⟩ := hs
          simp only [Option.some.injEq, Prod.mk.injEq] at h
          obtain ⟨rfl, rfl⟩ := h
          refine ⟨hg, fun cx a w _ hr => ?_⟩
          obtain ⟨σ, ρ, hw, he, hn, hd⟩ : ∃ σ ρ, WR cx σ ρ tab w ∧ EnvA σ ρ env a ∧ a.tmps.size = n ∧ a.defers = cx.ds := hr
          have dx := opnd_den (known := []) he.env (fun p hp => by cases hp) hx
          have dy := opnd_den (known := []) he.env (fun p hp => by cases hp) hy
          simp only [SV.den] at dx
          have hc := cells_den dy
          have hlen := denL_length _ _ hc
          have h1 := oneL_den _ _ hs3 hc
          obtain ⟨vs, r1, r2, r3, r4⟩ := hw.ent i _ hi
          have hvs := denL_length _ _ r2
          generalize hv : a.eval y = v at *
          have hrun := run_storeCells_at P (ρ i).blk off tt v.cells.toList 0 vs.toArray w r1 (by simp only [List.size_toArray]; omega) h1
          simp only [Nat.add_zero] at hrun
          refine ⟨.skip, w.setRow (ρ i).blk (vs.take off ++ v.cells.toList ++ vs.drop (off + v.cells.toList.length)).toArray, ?_, .inr ⟨rfl, ?_⟩⟩
          · have hsz : v.cells.size = inf.size := by rw [hs1, ← hlen, Array.length_toList]
            simp only [execOp, ho, hv, dx, Instr.storeAt, Instr.sureAddr, storeVar, Sem.run_bind, Sem.run_pure, Result.andThen_ok, sizeOf_run hinf]
            rw [if_neg (by simp [hsz]), hrun]
            rfl
          · rw [hdst]
            refine ⟨σ, ρ, ?_, he, hn, hd⟩
            have := hw.step (k := i) (e' := .box tt (cs.take off ++ s.cellsSV ++ cs.drop (off + s.cellsSV.length))) (w' := w.setRow (ρ i).blk (vs.take off ++ v.cells.toList ++ vs.drop (off + v.cells.toList.length)).toArray) (τ := σ) (ρ' := ρ) (fun _ => true) hi (Mem.le_refl σ)
              (fun a u ha => by rw [World.cell?_of_block (w := w) (setRow_other w _ _ _ (r4 a u ha))]; exact hw.sub a u ha) (fun _ _ => rfl) (fun _ _ => rfl) (fun b hb hne => setRow_other w _ _ _ (fun e => hne (by rw [e]; rfl))) (fun a u ha => .inl ⟨u, ha⟩) (fun _ => ⟨rfl, rfl⟩)
              ⟨_, setRow_cell _ r1, denL_splice r2 hc, ?_, r4⟩ (fun b hb => .inl hb) rfl rfl rfl (by simp)
            · rwa [cleanT_true] at this
            · intro u hu
              simp only [List.mem_append] at hu
              rcases hu with (hu | hu) | hu
              · exact r3 u (List.mem_of_mem_take hu)
              · exact h1 u hu
              · exact r3 u (List.mem_of_mem_drop hu)
        · cases h
      · cases h
    · cases h
  · cases h

end Go.Proofs.YteiickhgmmjcmaaGreatDoor.Sx
