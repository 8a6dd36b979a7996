/-
  Slices that are written out, made, appended to; bytes as a string.
-/
import Derived.Test.YteiickhgmmjcmaaGreatDoorSxJ
set_option linter.unusedVariables false
set_option linter.unusedSimpArgs false
namespace Go.Proofs.YteiickhgmmjcmaaGreatDoor.Sx
open Go Go.RowKit

/-- A type as a kind of data. -/
def prods : List Ty → Ty
  | [] => .unit
  | [a] => a
  | a :: r => .prod a (prods r)
def tyOf (P : Program) : Nat → TypeId → Option Ty
  | 0, _ => none
  | d + 1, e => match P.underlying e with
    | some (.int k) => some (.int k)
    | some .bool => some .bool
    | some .string => some .str
    | some (.slice e') => match tyOf P d e' with | some t => some (.list t) | none => none
    | some (.array n e') => match tyOf P d e' with | some t => some (.st (prods (List.replicate n t))) | none => none
    | some (.struct fs) => match fs.toList.mapM (fun f => tyOf P d f.type) with | some l => some (.st (prods l)) | none => none
    | _ => none

/-- Cells read as data. -/
def leafI (k : IntKind) : SV → Option Int
  | .val (.int k') x => if k = k' then some x else none
  | _ => none
def leafB : SV → Option Bool
  | .val .bool x => some x
  | _ => none
def leafS : SV → Option Str
  | .val .str x => some x
  | _ => none
def leafL (t : Ty) : SV → Option (List t.D)
  | .val (.list t') x => if h : t' = t then some (h ▸ x) else none
  | .fix t' l => if h : t' = t then some (h ▸ l) else none
  | .nils => some []
  | _ => none
def single {α : Type} (f : SV → Option α) : List SV → Option α
  | [s] => f s
  | _ => none
def parse : (t : Ty) → List SV → Option t.D
  | .int k, l => single (leafI k) l
  | .bool, l => single leafB l
  | .str, l => single leafS l
  | .list t, l => single (leafL t) l
  | .unit, l => if l.isEmpty then some () else none
  | .prod a b, l => match parse a (l.take a.cells), parse b (l.drop a.cells) with | some x, some y => some (x, y) | _, _ => none
  | .st t, l => parse t l
  | .arr _ _, _ => none
theorem nil_den {σ : Mem} {t : Ty} : Den σ (.list t) [] [.slice none 0 0] := ⟨none, 0, 0, rfl, rfl, Nat.le_refl _, Nat.zero_le _, fun h0 => absurd h0 (by omega)⟩
theorem leafI_den {σ : Mem} {ρ : Rho} {k : IntKind} {s : SV} {x : Int} {v : Value} (h : leafI k s = some x) (hd : SV.den σ ρ s v) : v = .int k x := by
  unfold leafI at h
  split at h
  · split at h
    · rename_i hk
      subst hk
      obtain rfl := Option.some.inj h
      simpa only [SV.den, Den, List.cons.injEq, and_true] using hd
    · cases h
  · cases h
theorem leafB_den {σ : Mem} {ρ : Rho} {s : SV} {x : Bool} {v : Value} (h : leafB s = some x) (hd : SV.den σ ρ s v) : v = .bool x := by
  unfold leafB at h
  split at h
  · obtain rfl := Option.some.inj h
    simpa only [SV.den, Den, List.cons.injEq, and_true] using hd
  · cases h
theorem leafS_den {σ : Mem} {ρ : Rho} {s : SV} {x : Str} {v : Value} (h : leafS s = some x) (hd : SV.den σ ρ s v) : v = strV x := by
  unfold leafS at h
  split at h
  · obtain rfl := Option.some.inj h
    simpa only [SV.den, Den, List.cons.injEq, and_true] using hd
  · cases h
theorem leafL_den {σ : Mem} {ρ : Rho} {t : Ty} {s : SV} {x : List t.D} {v : Value} (h : leafL t s = some x) (hd : SV.den σ ρ s v) : Den σ (.list t) x [v] := by
  unfold leafL at h
  split at h
  · split at h
    · rename_i ht
      subst ht
      obtain rfl := Option.some.inj h
      simpa only [SV.den] using hd
    · cases h
  · split at h
    · rename_i ht
      subst ht
      obtain rfl := Option.some.inj h
      simp only [SV.den] at hd
      exact hd.1
    · cases h
  · obtain rfl := Option.some.inj h
    simp only [SV.den] at hd
    rw [hd]
    exact nil_den
  · cases h
theorem single_den {σ : Mem} {ρ : Rho} {α : Type} {f : SV → Option α} {l : List SV} {x : α} {vs : List Value} (h : single f l = some x) (hd : SV.denL σ ρ l vs) : ∃ s v, vs = [v] ∧ f s = some x ∧ SV.den σ ρ s v := by
  unfold single at h
  split at h
  · rename_i s
    simp only [SV.denL] at hd
    obtain ⟨v, r, rfl, hv, rfl⟩ := hd
    exact ⟨s, v, rfl, h, hv⟩
  · cases h
theorem parse_den {σ : Mem} {ρ : Rho} : ∀ (t : Ty) (l : List SV) (x : t.D) (vs : List Value), parse t l = some x → SV.denL σ ρ l vs → Den σ t x vs := by
  intro t
  induction t with
  | int k =>
    intro l x vs h hd
    obtain ⟨s, v, rfl, h1, h2⟩ := single_den h hd
    rw [leafI_den h1 h2]
    rfl
  | bool =>
    intro l x vs h hd
    obtain ⟨s, v, rfl, h1, h2⟩ := single_den h hd
    rw [leafB_den h1 h2]
    rfl
  | str =>
    intro l x vs h hd
    obtain ⟨s, v, rfl, h1, h2⟩ := single_den h hd
    rw [leafS_den h1 h2]
    rfl
  | list t _ =>
    intro l x vs h hd
    obtain ⟨s, v, rfl, h1, h2⟩ := single_den h hd
    exact leafL_den h1 h2
  | unit =>
    intro l x vs h hd
    simp only [parse] at h
    split at h
    · rename_i hl
      have : l = [] := by simpa using hl
      subst this
      simp only [SV.denL] at hd
      rw [hd]
      rfl
    · cases h
  | prod a b iha ihb =>
    intro l x vs h hd
    simp only [parse] at h
    split at h
    · rename_i xa xb h1 h2
      obtain rfl := Option.some.inj h
      exact ⟨vs.take a.cells, vs.drop a.cells, by simp, iha _ _ _ h1 (denL_take _ _ _ hd), ihb _ _ _ h2 (denL_drop _ _ _ hd)⟩
    · cases h
  | st t ih =>
    intro l x vs h hd
    exact ih _ _ _ h hd
  | arr n t _ =>
    intro l x vs h hd
    simp [parse] at h

/-! ### A store into a row of the call's own -/
def effStoreE (P : Program) (n : Nat) (env : Env) (tab : List Ent) (o : Oper) : Option (Option Prop × St) :=
  match o.guard, o.dst, o.op with
  | none, none, .store t x y => match opnd env [] x, opnd env [] y, P.info? t with
    | some (.eptr i j k off), some s, some inf => match tab[i]? with
      | some (.ra e ty l) =>
        if inf.size = s.cellsSV.length ∧ off + s.cellsSV.length ≤ (svs ty (nth l (j : Int))).length ∧ oneL s.cellsSV = true ∧ k = ty.cells ∧ ty.flat = true then
          match parse ty ((svs ty (nth l (j : Int))).take off ++ s.cellsSV ++ (svs ty (nth l (j : Int))).drop (off + s.cellsSV.length)) with
          | some v => some (some (j < l.length), ⟨env, tab.set i (.ra e ty (l.set j v))⟩)
          | none => none
        else none
      | _ => none
    | _, _, _ => none
  | _, _, _ => none
theorem effStoreE_sound {P : Program} {n : Nat} {env : Env} {tab : List Ent} {st' : St} {o : Oper} {c : Option Prop} (h : effStoreE P n env tab o = some (c, st')) : Eff P n o ⟨env, tab⟩ st' c := by
  unfold effStoreE at h
  split at h
  · rename_i t x y hg hdst ho
    split at h
    · rename_i i j k off s inf hx hy hinf
      split at h
      · rename_i e ty l hi
        split at h
        · rename_i hs
          obtain ⟨hs1, hs2, hs3, rfl, hs5⟩ := hs
          split at h
          · rename_i v0 hv0
            simp only [Option.some.injEq, Prod.mk.injEq] at h
            obtain ⟨rfl, rfl⟩ := h
            refine ⟨hg, fun cx a w hc hr => ?_⟩
            obtain ⟨σ, ρ, hw, he, hn, hd⟩ : ∃ σ ρ, WR cx σ ρ tab w ∧ EnvA σ ρ env a ∧ a.tmps.size = n ∧ a.defers = cx.ds := hr
            have dx := opnd_den (known := []) he.env (fun p hp => by cases hp) hx
            have dy := opnd_den (known := []) he.env (fun p hp => by cases hp) hy
            simp only [SV.den] at dx
            have hcl := cells_den dy
            have hlen := denL_length _ _ hcl
            have h1 := oneL_den _ _ hs3 hcl
            have hj : j < l.length := hc
            have hnj : nth l (j : Int) = l[j] := by simp [nth, List.getD_eq_getElem?_getD, List.getElem?_eq_getElem hj]
            rw [hnj] at hs2 hv0
            obtain ⟨_, _, _, q3, q4⟩ := hw.ent i _ hi
            obtain ⟨xs, cap, r1, r2, r3⟩ := ra_slice (hw.ent i _ hi) (by omega)
            obtain ⟨cc, hcd, hsplit, hpre⟩ := r2.split hj
            have hsv := svs_den (ρ := ρ) ty _ cc hs5 hcd
            have hccl := denL_length _ _ hsv
            generalize hv : a.eval y = v at *
            have hparse := parse_den ty _ v0 _ hv0 (denL_splice (off := off) hsv hcl)
            have hrows := r2.setE hj hparse
            rcases r3.2 with ⟨hnil, _⟩ | ⟨g, cap', cur, hv', _, hg', hnc, hcm, hcs, htake⟩
            · cases hnil
            simp only [Value.slice.injEq, Option.some.injEq, Addr.mk.injEq, and_true, true_and] at hv'
            obtain ⟨rfl, rfl⟩ := hv'
            have hnm : l.length * ty.cells ≤ cap * ty.cells := Nat.mul_le_mul_right _ hnc
            have hb : j * ty.cells + ty.cells ≤ l.length * ty.cells := by
              have := Nat.mul_le_mul_right ty.cells (show j + 1 ≤ l.length from hj)
              rw [Nat.add_mul] at this
              omega
            have hccs := Den_length _ _ _ hcd
            have hvl : v.cells.toList.length = inf.size := by rw [hlen, hs1]
            have hfit : off + v.cells.toList.length ≤ cc.length := by rw [hlen, hccl]; exact hs2
            have hrun := run_storeCells_at P (ρ i).blk (j * ty.cells + off) e v.cells.toList 0 cur w hg' (by rw [hcs]; omega) h1
            simp only [Nat.add_zero] at hrun
            have hmid := splice_mid (A := xs.take (j * ty.cells)) (B := xs.drop (j * ty.cells + ty.cells)) (vs := v.cells.toList) hfit
            rw [← hsplit, hpre] at hmid
            rw [← hmid] at hrows
            have hcl2 : cur.toList.length = cap * ty.cells := by rw [Array.length_toList, hcs]
            have htk : (cur.toList.take (j * ty.cells + off) ++ v.cells.toList ++ cur.toList.drop (j * ty.cells + off + v.cells.toList.length)).take (l.length * ty.cells) =
                xs.take (j * ty.cells + off) ++ v.cells.toList ++ xs.drop (j * ty.cells + off + v.cells.toList.length) := by
              rw [← htake]
              apply List.ext_getElem?
              intro p
              simp only [List.getElem?_take, List.getElem?_append, List.getElem?_drop, List.length_append, List.length_take, hcl2]
              by_cases hp : p < l.length * ty.cells
              · rw [if_pos hp]
                have e1 : min (j * ty.cells + off) (cap * ty.cells) = j * ty.cells + off := by omega
                have e2 : min (j * ty.cells + off) (min (l.length * ty.cells) (cap * ty.cells)) = j * ty.cells + off := by omega
                rw [e1, e2]
                split
                · split
                  · first | rfl | rw [if_pos hp]
                  · first | rfl | rw [if_pos hp]
                · first | rfl | rw [if_pos (by omega)]
              · rw [if_neg hp]
                have e2 : min (j * ty.cells + off) (min (l.length * ty.cells) (cap * ty.cells)) = j * ty.cells + off := by omega
                rw [e2, if_neg (by omega), if_neg (by omega)]
            refine ⟨.skip, w.setRow (ρ i).blk (cur.toList.take (j * ty.cells + off) ++ v.cells.toList ++ cur.toList.drop (j * ty.cells + off + v.cells.toList.length)).toArray, ?_, .inr ⟨rfl, ?_⟩⟩
            · have hsz : v.cells.size = inf.size := by rw [← hvl, Array.length_toList]
              simp only [execOp, ho, hv, dx, Instr.storeAt, Instr.sureAddr, storeVar, Sem.run_bind, Sem.run_pure, Result.andThen_ok, sizeOf_run hinf]
              rw [if_neg (by simp [hsz]), hrun]
              rfl
            · rw [hdst]
              refine ⟨σ, ρ, ?_, he, hn, hd⟩
              have hob : (ρ i).sl.ownBlock = some (ρ i).blk := by rw [r1]; rfl
              have hq4 : ∀ a u, σ a = some u → a.block ≠ (ρ i).blk := by
                intro a u ha heq
                exact q4 a u ha (by rw [hob, heq])
              have := hw.step (k := i) (e' := .ra e ty (l.set j v0)) (w' := w.setRow (ρ i).blk (cur.toList.take (j * ty.cells + off) ++ v.cells.toList ++ cur.toList.drop (j * ty.cells + off + v.cells.toList.length)).toArray) (τ := σ) (ρ' := ρ) (fun _ => true) hi (Mem.le_refl σ)
                (fun a u ha => by rw [World.cell?_of_block (w := w) (setRow_other w _ _ _ (hq4 a u ha))]; exact hw.sub a u ha) (fun _ _ => rfl) (fun _ _ => rfl) (fun b hb hne => setRow_other w _ _ _ (fun e => hne (by simp only [Ent.at_]; rw [hob, e]))) (fun a u ha => .inl ⟨u, ha⟩) (fun h => by cases h)
                ⟨_, hrows, ?_, q3, q4⟩ (fun b hb => .inl hb) rfl rfl rfl (by simp)
              · rwa [cleanT_true] at this
              · rw [r1, List.length_set]
                refine ⟨hrows.length.trans (by rw [List.length_set]), .inr ⟨(ρ i).blk, cap, _, rfl, Nat.zero_le _, setRow_cell _ hg', hnc, hcm, ?_, htk⟩⟩
                simp only [List.size_toArray, List.length_append, List.length_take, List.length_drop, hcl2]
                omega
          · cases h
        · cases h
      · cases h
    · cases h
  · cases h
def effStore (P : Program) (n : Nat) (env : Env) (tab : List Ent) (o : Oper) : Option (Option Prop × St) :=
  match effStoreB P n env tab o with | some x => some x | none => effStoreE P n env tab o
theorem effStore_sound {P : Program} {n : Nat} {env : Env} {tab : List Ent} {st' : St} {o : Oper} {c : Option Prop} (h : effStore P n env tab o = some (c, st')) : Eff P n o ⟨env, tab⟩ st' c := by
  unfold effStore at h
  split at h
  · rename_i x hx
    obtain rfl := Option.some.inj h
    exact effStoreB_sound hx
  · exact effStoreE_sound h

/-- Cells read as a list's elements. -/
def parseN (t : Ty) : Nat → List SV → Option (List t.D)
  | 0, l => if l.isEmpty then some [] else none
  | k + 1, l => match parse t (l.take t.cells), parseN t k (l.drop t.cells) with | some x, some r => some (x :: r) | _, _ => none
theorem parseN_rows {σ : Mem} {ρ : Rho} {t : Ty} : ∀ (k : Nat) (l : List SV) (xs : List t.D) (vs : List Value), parseN t k l = some xs → SV.denL σ ρ l vs → xs.length = k ∧ Rows σ t xs vs
  | 0, l, xs, vs, h, hd => by
    simp only [parseN] at h
    split at h
    · rename_i hl
      have : l = [] := by simpa using hl
      subst this
      obtain rfl := Option.some.inj h
      simp only [SV.denL] at hd
      subst hd
      exact ⟨rfl, Rows.nil σ t⟩
    · cases h
  | k + 1, l, xs, vs, h, hd => by
    simp only [parseN] at h
    split at h
    · rename_i x r h1 h2
      obtain rfl := Option.some.inj h
      obtain ⟨e1, e2⟩ := parseN_rows k _ r _ h2 (denL_drop t.cells _ _ hd)
      refine ⟨by simp [e1], ?_⟩
      have := (Rows.one (parse_den t _ x _ h1 (denL_take t.cells _ _ hd))).append e2
      simpa using this
    · cases h

/-! ### A slice written out -/
def effLit (P : Program) (n : Nat) (env : Env) (tab : List Ent) (o : Oper) : Option (Option Prop × St) :=
  match o.guard, o.dst, o.op with
  | none, some d, .buildSlice t len parts => match P.underlying t with
    | some (.slice e) => match P.info? e, zeroSV P e, tyOf P 8 e, partsSV env [] parts.toList with
      | some inf, some z, some ty, some ps =>
        match fillFast (fun i => some (i * inf.size, inf.size)) ((List.range (len * inf.size)).map (fun i => z.getD (i % z.length) .top)) ps with
        | some cells => match parseN ty len (cells.map (res tab)) with
          | some l => if d < n ∧ inf.size = ty.cells ∧ z.length = inf.size ∧ len * inf.size ≤ 16777216 ∧ len ≤ 16777216 ∧ okPut env d = true then some (none, ⟨put env d [] (.fix ty l), tab⟩) else none
          | none => none
        | none => none
      | _, _, _, _ => none
    | _ => none
  | _, _, _ => none

theorem range_cells {σ : Mem} {ρ : Rho} {z : List SV} {zs : Array Value} (hz : SV.denL σ ρ z zs.toList) (hpos : 0 < z.length) : ∀ (m : Nat), ∃ vs, SV.denL σ ρ ((List.range m).map (fun i => z.getD (i % z.length) .top)) vs ∧ vs = ((Array.range m).map (zs[· % zs.size]!)).toList
  | 0 => ⟨[], by simp [SV.denL], by simp⟩
  | m + 1 => by
    obtain ⟨vs, h1, h2⟩ := range_cells hz hpos m
    have hlen : zs.size = z.length := by rw [← denL_length _ _ hz, Array.length_toList]
    have hlt : m % z.length < z.length := Nat.mod_lt _ hpos
    obtain ⟨u, hu, hd⟩ := denL_get z _ hz (m % z.length) _ (List.getElem?_eq_getElem hlt)
    refine ⟨vs ++ [u], ?_, ?_⟩
    · rw [List.range_succ, List.map_append, denL_append]
      exact ⟨vs, [u], rfl, h1, u, [], rfl, by simpa [List.getD_eq_getElem?_getD, List.getElem?_eq_getElem hlt] using hd, rfl⟩
    · rw [h2]
      have : zs[m % zs.size]! = u := by
        rw [hlen]
        have hlt' : m % z.length < zs.size := by rw [hlen]; exact hlt
        rw [getElem!_pos zs _ hlt']
        have e : zs.toList[m % z.length]? = some zs[m % z.length] := by rw [Array.getElem?_toList]; exact Array.getElem?_eq_getElem hlt'
        rw [e] at hu
        exact Option.some.inj hu
      simp [List.range_succ, this]

theorem resL {cx : Cx} {σ : Mem} {ρ : Rho} {tab : List Ent} {w : World} (hw : WR cx σ ρ tab w) : ∀ (l : List SV) (vs : List Value), SV.denL σ ρ l vs → SV.denL σ ρ (l.map (res tab)) vs
  | [], vs, h => by simpa using h
  | s :: l, vs, h => by
    simp only [SV.denL] at h
    obtain ⟨v, r, rfl, hv, hr⟩ := h
    exact ⟨v, r, rfl, res_den hw hv, resL hw l r hr⟩

theorem effLit_sound {P : Program} {n : Nat} {env : Env} {tab : List Ent} {st' : St} {o : Oper} {c : Option Prop} (h : effLit P n env tab o = some (c, st')) : Eff P n o ⟨env, tab⟩ st' c := by
  unfold effLit at h
  split at h
  · rename_i d t len parts hg hdst ho
    split at h
    · rename_i e hu
      split at h
      · rename_i inf z ty ps hinf hz hty hps
        split at h
        · rename_i cells hcells0
          have hcells := fillFast_eq hcells0
          split at h
          · rename_i l hl
            split at h
            · rename_i hs
              obtain ⟨s1, s2, s3, s4, s5, s6⟩ := hs
              simp only [Option.some.injEq, Prod.mk.injEq] at h
              obtain ⟨rfl, rfl⟩ := h
              refine ⟨hg, fun cx a w _ hr => ?_⟩
              obtain ⟨σ, ρ, hw, he, hn, hd⟩ : ∃ σ ρ, WR cx σ ρ tab w ∧ EnvA σ ρ env a ∧ a.tmps.size = n ∧ a.defers = cx.ds := hr
              unfold zeroSV at hz
              split at hz
              · rename_i it hit
                rw [hinf] at hit
                obtain rfl := Option.some.inj hit
                split at hz
                · rename_i zv hzv
                  have hzd := constSVL_den (σ := σ) (ρ := ρ) _ _ hz
                  have hpd := partsSV_den (known := []) he.env (fun p hp => by cases hp) _ _ hps
                  have hparts : (parts.map fun x => (x.1, a.eval x.2)).toList = parts.toList.map fun x => (x.1, a.eval x.2) := by rw [Array.toList_map]
                  have htop : ∃ rs, SV.denL σ ρ cells rs ∧ (Instr.buildSlice t len (parts.map fun x => (x.1, a.eval x.2))).run P w = .ok (.slice (some ⟨w.heap.size, 0, none⟩) len len) (w.alloc (.cells rs.toArray e)) := by
                    by_cases h0 : len * inf.size = 0
                    · rw [h0] at hcells
                      simp only [List.range_zero, List.map_nil] at hcells
                      obtain ⟨rs, r1, r2⟩ := fill_run (σ := σ) (ρ := ρ) ps _ [] [] cells rfl hpd hcells
                      refine ⟨rs, r2, ?_⟩
                      simp only [Instr.buildSlice, Sem.run_bind, run_underlying hu, Result.andThen_ok, sizeOf_run hinf, h0]
                      rw [if_neg (by decide), hparts]
                      have e1 : ((Array.range 0).map (fun (x : Nat) => (#[] : Array Value)[x % (#[] : Array Value).size]!)) = #[] := by simp
                      simp only [Sem.run_bind, if_true, Sem.run_pure, Result.andThen_ok, e1, r1]
                      simp [newRow, newObj, Sem.run]
                    · have hpos : 0 < z.length := by
                        rcases Nat.eq_zero_or_pos z.length with hz0 | hz0
                        · rw [s3] at hz0; rw [hz0] at h0; simp at h0
                        · exact hz0
                      obtain ⟨vs, v1, v2⟩ := range_cells hzd hpos (len * inf.size)
                      obtain ⟨rs, r1, r2⟩ := fill_run (σ := σ) (ρ := ρ) ps _ _ vs cells v1 hpd hcells
                      refine ⟨rs, r2, run_buildSlice w t e len _ _ inf zv hu hinf hzv (by omega) h0 ?_⟩
                      rw [hparts, ← r1, v2]
                  obtain ⟨rs, r2, hrun⟩ := htop
                  obtain ⟨p1, p2⟩ := parseN_rows len _ l rs hl (resL hw _ _ r2)
                  have hws := hw.sealed rs e
                  refine ⟨.value (.slice (some ⟨w.heap.size, 0, none⟩) len len), w.alloc (.cells rs.toArray e), by simp only [execOp, ho]; simp [hrun], .inl ⟨_, rfl, sealM σ w.heap.size rs, ρ, hws, ?_, by rw [put_size]; exact hn, by rw [put_defers]; exact hd⟩⟩
                  rw [hdst]
                  refine (he.grow (sealM_le hw.sub)).put s6 (by rw [hn]; exact s1) rfl (fun _ => ?_) (fun h => absurd (fun p hp => by cases hp) h)
                  simp only [SV.den]
                  have hm : len ≤ maxLen := by unfold maxLen; omega
                  refine ⟨?_, _, _, rfl⟩
                  have := (p2.mono (sealM_le hw.sub)).den (A := some ⟨w.heap.size, 0, none⟩) (c := len) (by omega) hm (fun _ => ⟨_, rfl, fun j u hu => by rw [add_lit, Nat.zero_add, sealM_at]; exact hu⟩)
                  rwa [p1] at this
                · cases hz
              · cases hz
            · cases h
          · cases h
        · cases h
      · cases h
    · cases h
  · cases h

end Go.Proofs.YteiickhgmmjcmaaGreatDoor.Sx
