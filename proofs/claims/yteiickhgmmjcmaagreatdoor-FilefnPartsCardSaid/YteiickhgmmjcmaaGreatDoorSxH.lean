/-
  From operations to code: what a piece of code does to a state.
-/
import Derived.Test.YteiickhgmmjcmaaGreatDoorSxG
set_option linter.unusedVariables false
set_option linter.unusedSimpArgs false
namespace Go.Proofs.YteiickhgmmjcmaaGreatDoor.Sx
open Go Go.RowKit

def put (env : Env) (d : Nat) (ch : Chain) (s : SV) : Env := (d, ch, s) :: env
/-- No guard hangs on this slot. -/
def okPut (env : Env) (d : Nat) : Bool := env.all fun x => x.2.1.all fun p => p.1 != d

abbrev EnvA (σ : Mem) (ρ : Rho) (env : Env) (a : Act) : Prop := EnvR σ ρ env a
theorem look_mem : ∀ (env : Env) (s : Nat) ch sv, look env s = some (ch, sv) → (s, ch, sv) ∈ env
  | [], s, ch, sv, h => by simp [look] at h
  | (s', c', v') :: r, s, ch, sv, h => by
    simp only [look] at h
    split at h
    · rename_i e
      simp only [beq_iff_eq] at e
      simp only [Option.some.injEq, Prod.mk.injEq] at h
      rw [e, h.1, h.2]
      exact List.mem_cons_self
    · exact List.mem_cons_of_mem _ (look_mem r s ch sv h)
theorem EnvR.env {σ : Mem} {ρ : Rho} {env : Env} {a : Act} (h : EnvA σ ρ env a) : EnvR σ ρ env a := h

theorem put_other {a : Act} {d s : Nat} {v : Value} (h : s ≠ d) : (a.put (some d) v).tmps[s]? = a.tmps[s]? := by
  simp only [Act.put]
  rw [Array.getElem?_setIfInBounds_ne (fun e => h e.symm)]
theorem put_same {a : Act} {d : Nat} {v : Value} (h : d < a.tmps.size) : (a.put (some d) v).tmps[d]? = some v := by
  simp only [Act.put]
  rw [Array.getElem?_setIfInBounds_self]
  simp [h]
theorem fits_put {a : Act} {d : Nat} {v : Value} {ch : Chain} (h : ch.all (fun p => p.1 != d) = true) : fits (a.put (some d) v) ch ↔ fits a ch := by
  have hne : ∀ p ∈ ch, p.1 ≠ d := fun p hp => by have := List.all_eq_true.1 h p hp; simpa using this
  constructor
  · intro hf p hp
    have := hf p hp
    rwa [put_other (hne p hp)] at this
  · intro hf p hp
    rw [put_other (hne p hp)]
    exact hf p hp
theorem EnvR.put {σ : Mem} {ρ : Rho} {env : Env} {a : Act} (he : EnvA σ ρ env a) {d : Nat} {v : Value} {ch : Chain} {s : SV} (ho : okPut env d = true) (hd : d < a.tmps.size) (hch : ch.all (fun p => p.1 != d) = true)
    (h1 : fits a ch → SV.den σ ρ s v) (h2 : ¬ fits a ch → v = undef) : EnvA σ ρ (put env d ch s) (a.put (some d) v) := by
  intro s' ch' sv' hl
  simp only [Sx.put, look] at hl
  split at hl
  · rename_i hs
    simp only [beq_iff_eq] at hs
    subst hs
    simp only [Option.some.injEq, Prod.mk.injEq] at hl
    obtain ⟨rfl, rfl⟩ := hl
    refine ⟨fun hf => ⟨v, put_same hd, h1 ((fits_put hch).1 hf)⟩, fun hf => ?_⟩
    rw [put_same hd, h2 (fun h => hf ((fits_put hch).2 h))]
  · rename_i hs
    have hne : s' ≠ d := fun e => hs (by simp [e])
    have hc := List.all_eq_true.1 ho _ (look_mem env s' ch' sv' hl)
    obtain ⟨g1, g2⟩ := he s' ch' sv' hl
    refine ⟨fun hf => ?_, fun hf => ?_⟩
    · rw [put_other hne]; exact g1 ((fits_put hc).1 hf)
    · rw [put_other hne]; exact g2 (fun h => hf ((fits_put hc).2 h))
theorem EnvR.grow {σ τ : Mem} {ρ : Rho} {env : Env} {a : Act} (he : EnvA σ ρ env a) (h : σ.le τ) : EnvA τ ρ env a := fun s ch sv hl =>
  ⟨fun hf => let ⟨v, h1, h2⟩ := (he s ch sv hl).1 hf; ⟨v, h1, den_grow h h2⟩, (he s ch sv hl).2⟩

/-- A state and a frame in a world. -/
def SRel (cx : Cx) (n : Nat) (st : St) (a : Act) (w : World) : Prop :=
  ∃ σ ρ, WR cx σ ρ st.tab w ∧ EnvA σ ρ st.env a ∧ a.tmps.size = n ∧ a.defers = cx.ds
abbrev Post := Exit → St → Prop
def lift (cx : Cx) (n : Nat) (Q : Post) : Exit → Act → World → Prop := fun e a w => ∃ st, Q e st ∧ SRel cx n st a w

/-- What the rest of a region does to a state. -/
def TrL (P : Program) (cx : Cx) (n : Nat) (ops : Array Oper) (l : List Oper) (st : St) (Q : Post) : Prop :=
  ∀ a w, SRel cx n st a w → wpList P ops (lift cx n Q) l a w
/-- What code does to a state. -/
def Tr (P : Program) (cx : Cx) (n : Nat) (c : Code) (st : St) (Q : Post) : Prop :=
  ∀ a w, SRel cx n st a w → c.wp P (lift cx n Q) a w

/-! ### Guards -/
def guardOf (ops : Array Oper) (env : Env) (o : Oper) : Option Chain :=
  match o.guard with
  | none => some []
  | some (j, want) => match (ops[j]?).bind (·.dst) with
    | some d => match look env d with
      | some (ch, .val .bool _) => some ((d, want) :: ch)
      | _ => none
    | none => none
def gdL (env : Env) : Chain → Option (List (Bool × Bool))
  | [] => some []
  | (s, b) :: r => match gdL env r with
    | none => none
    | some l => match look env s with
      | some (ch, .val .bool x) => if ch.all (fun q => r.contains q) then some ((x, b) :: l) else some l
      | _ => some l
def imp : List (Bool × Bool) → Prop → Prop
  | [], p => p
  | (x, b) :: l, p => x = b → imp l p
theorem gd_holds {σ : Mem} {ρ : Rho} {env : Env} {a : Act} (he : EnvR σ ρ env a) : ∀ (known : Chain) (bs : List (Bool × Bool)) (p : Prop), gdL env known = some bs → imp bs p → fits a known → p
  | [], bs, p, hb, h, _ => by simp only [gdL, Option.some.injEq] at hb; subst hb; exact h
  | (s, b) :: r, bs, p, hb, h, hf => by
    have hr : fits a r := fun q hq => hf q (List.mem_cons_of_mem _ hq)
    simp only [gdL] at hb
    split at hb
    · cases hb
    · rename_i l hl'
      split at hb
      · rename_i ch x hl
        split at hb
        · rename_i hc
          obtain rfl := Option.some.inj hb
          obtain ⟨v, hv, hd⟩ := (he s ch _ hl).1 (fits_sub hc hr)
          have := hf (s, b) List.mem_cons_self
          simp only [hv, Option.some.injEq] at this
          simp only [SV.den, Den, List.cons.injEq, and_true] at hd
          rw [hd] at this
          simp only [Value.bool.injEq] at this
          exact gd_holds he r l p hl' (h this) hr
        · obtain rfl := Option.some.inj hb
          exact gd_holds he r _ p hl' h hr
      · obtain rfl := Option.some.inj hb
        exact gd_holds he r _ p hl' h hr
theorem wanted_iff {σ : Mem} {ρ : Rho} {env : Env} {a : Act} {ops : Array Oper} {o : Oper} {known : Chain} (he : EnvR σ ρ env a) (h : guardOf ops env o = some known) :
    Region.wanted o (yielded ops a.tmps) = true ↔ fits a known := by
  unfold guardOf at h
  split at h
  · rename_i hg
    obtain rfl := Option.some.inj h
    simp [Region.wanted, hg, fits]
  · rename_i j want hg
    split at h
    · rename_i d hd
      split at h
      · rename_i ch x hl
        obtain rfl := Option.some.inj h
        have hy : yielded ops a.tmps j = match a.tmps[d]? with | some (.bool b) => some b | _ => none := by
          simp only [yielded, hd, Option.bind_some]
          rfl
        simp only [Region.wanted, hg]
        obtain ⟨g1, g2⟩ := he d ch _ hl
        by_cases hf : fits a ch
        · obtain ⟨v, hv, hdv⟩ := g1 hf
          simp only [SV.den, Den, List.cons.injEq, and_true] at hdv
          subst hdv
          rw [hy, hv]
          constructor
          · intro hw p hp
            simp only [List.mem_cons] at hp
            rcases hp with rfl | hp
            · simp only [beq_iff_eq, Option.some.injEq] at hw
              rw [hv, hw]
            · exact hf p hp
          · intro hff
            have := hff (d, want) List.mem_cons_self
            simp only [hv, Option.some.injEq, Value.bool.injEq] at this
            simp [this]
        · have hv := g2 hf
          rw [hy, hv]
          constructor
          · intro hw
            simp [undef] at hw
          · intro hff
            exact absurd (fun p hp => hff p (List.mem_cons_of_mem _ hp)) hf
      · cases h
    · cases h

/-! ### One quiet operation -/
def impO (bs : List (Bool × Bool)) : Option Prop → Option Prop
  | none => none
  | some c => some (imp bs c)
def quietStep (P : Program) (n : Nat) (ops : Array Oper) (st : St) (o : Oper) : Option (Option Prop × St) :=
  match guardOf ops st.env o with
  | some known => match quietOp P st.env st.tab known o with
    | some (c, s) => match gdL st.env known with
      | some bs => match o.dst with
        | some d => if d < n ∧ known.all (fun p => p.1 != d) = true ∧ okPut st.env d = true then some (impO bs c, ⟨put st.env d known s, st.tab⟩) else none
        | none => some (impO bs c, st)
      | none => none
    | none => none
  | none => none

/-- The same, the environment by itself. -/
def quietE (P : Program) (n : Nat) (ops : Array Oper) (env : Env) (tab : List Ent) (o : Oper) : Option (Option Prop × Env) :=
  match guardOf ops env o with
  | some known => match quietOp P env tab known o with
    | some (c, s) => match gdL env known with
      | some bs => match o.dst with
        | some d => if d < n ∧ known.all (fun p => p.1 != d) = true ∧ okPut env d = true then some (impO bs c, put env d known s) else none
        | none => some (impO bs c, env)
      | none => none
    | none => none
  | none => none
theorem quietE_step {P : Program} {n : Nat} {ops : Array Oper} {env e' : Env} {tab : List Ent} {o : Oper} {c : Option Prop} (h : quietE P n ops env tab o = some (c, e')) : quietStep P n ops ⟨env, tab⟩ o = some (c, ⟨e', tab⟩) := by
  unfold quietE at h
  split at h
  · rename_i known h1
    split at h
    · rename_i c0 s h2
      split at h
      · rename_i bs h3
        split at h
        · rename_i d h4
          split at h
          · rename_i h5
            simp only [Option.some.injEq, Prod.mk.injEq] at h
            obtain ⟨rfl, rfl⟩ := h
            have h5' : (d < n ∧ known.all (fun p => p.1 != d) = true ∧ okPut env d = true) = True := eq_true h5
            simp only [quietStep, h1, h2, h3, h4, h5', if_true]
          · cases h
        · rename_i h4
          simp only [Option.some.injEq, Prod.mk.injEq] at h
          obtain ⟨rfl, rfl⟩ := h
          simp only [quietStep, h1, h2, h3, h4]
      · cases h
    · cases h
  · cases h

theorem wp_of_value {P : Program} {o : Oper} {a : Act} {w w' : World} {v : Value} {K : Act → World → Prop} {Q : Exit → Act → World → Prop} (h : (execOp a.eval o).run P w = .ok (.value v) w') (hk : K (a.put o.dst v) w') : o.wp P a w K Q := by
  unfold Oper.wp
  rw [h]
  exact hk

theorem put_size (a : Act) (d : Option Tmp) (v : Value) : (a.put d v).tmps.size = a.tmps.size := by cases d <;> simp [Act.put]
theorem put_defers (a : Act) (d : Option Tmp) (v : Value) : (a.put d v).defers = a.defers := by cases d <;> simp [Act.put]

theorem TrL.quiet {P : Program} {cx : Cx} {n : Nat} {ops : Array Oper} {o : Oper} {l : List Oper} {st st' : St} {Q : Post} {c : Option Prop}
    (h : quietStep P n ops st o = some (c, st')) (hc : holds c) (k : TrL P cx n ops l st' Q) : TrL P cx n ops (o :: l) st Q := by
  intro a w hs
  obtain ⟨σ, ρ, hw, he, hn, hd⟩ := hs
  have her := he.env
  unfold quietStep at h
  split at h
  · rename_i known hg
    split at h
    · rename_i c0 s hq
      have hwant := wanted_iff her hg
      have hrun : fits a known → holds c0 → ∃ v, (execOp a.eval o).run P w = .ok (.value v) w ∧ SV.den σ ρ s v := fun hf hc0 => let ⟨v, h1, h2⟩ := quietOp_sound hw her hf hq hc0; ⟨v, h1 w (.inr (Same.refl w)), h2⟩
      split at h
      · rename_i bs hbs
        split at h
        · rename_i d hdst
          split at h
          · rename_i hlt
            simp only [Option.some.injEq, Prod.mk.injEq] at h
            obtain ⟨rfl, rfl⟩ := h
            refine wpList_step fun K hK => ?_
            by_cases hf : fits a known
            · rw [if_pos (hwant.2 hf)]
              have hc0 : holds c0 := by
                cases c0 with
                | none => trivial
                | some p => exact gd_holds her known bs p hbs hc hf
              obtain ⟨v, hv, hdv⟩ := hrun hf hc0
              refine wp_of_value hv (hK _ _ (k _ _ ⟨σ, ρ, hw, ?_, by rw [put_size]; exact hn, by rw [put_defers]; exact hd⟩))
              rw [hdst]
              exact he.put hlt.2.2 (by rw [hn]; exact hlt.1) hlt.2.1 (fun _ => hdv) (fun h => absurd hf h)
            · rw [if_neg (fun h => hf (hwant.1 h))]
              refine hK _ _ (k _ _ ⟨σ, ρ, hw, ?_, by rw [put_size]; exact hn, by rw [put_defers]; exact hd⟩)
              rw [hdst]
              exact he.put hlt.2.2 (by rw [hn]; exact hlt.1) hlt.2.1 (fun h => absurd h hf) (fun _ => rfl)
          · cases h
        · rename_i hdst
          simp only [Option.some.injEq, Prod.mk.injEq] at h
          obtain ⟨rfl, rfl⟩ := h
          refine wpList_step fun K hK => ?_
          have hput : ∀ v, a.put o.dst v = a := fun v => by rw [hdst]; rfl
          by_cases hf : fits a known
          · rw [if_pos (hwant.2 hf)]
            have hc0 : holds c0 := by
              cases c0 with
              | none => trivial
              | some p => exact gd_holds her known bs p hbs hc hf
            obtain ⟨v, hv, hdv⟩ := hrun hf hc0
            exact wp_of_value hv (hK _ _ (by rw [hput]; exact k _ _ ⟨σ, ρ, hw, he, hn, hd⟩))
          · rw [if_neg (fun h => hf (hwant.1 h))]
            exact hK _ _ (by rw [hput]; exact k _ _ ⟨σ, ρ, hw, he, hn, hd⟩)
      · cases h
    · cases h
  · cases h

theorem TrL.nil {P : Program} {cx : Cx} {n : Nat} {ops : Array Oper} {st : St} {Q : Post} (h : Q .normal st) : TrL P cx n ops [] st Q := fun a w hs => wpList_nil ⟨st, h, hs⟩

/-- Several quiet operations, one behind the other. -/
def allOf : List (Option Prop) → Prop
  | [] => True
  | none :: l => allOf l
  | [some p] => p
  | some p :: l => p ∧ allOf l
theorem allOf_cons {c : Option Prop} {l : List (Option Prop)} (h : allOf (c :: l)) : holds c ∧ allOf l := by
  cases c with
  | none => exact ⟨trivial, h⟩
  | some p =>
    cases l with
    | nil => exact ⟨h, trivial⟩
    | cons x r => exact h
def quietN (P : Program) (n : Nat) (ops : Array Oper) (tab : List Ent) : Nat → List Oper → Env → Option (List (Option Prop) × Env × List Oper)
  | 0, l, env => some ([], env, l)
  | k + 1, [], env => none
  | k + 1, o :: l, env => match quietE P n ops env tab o with
    | some (c, env1) => match quietN P n ops tab k l env1 with
      | some (cs, env2, r) => some (c :: cs, env2, r)
      | none => none
    | none => none
theorem TrL.quiets {P : Program} {cx : Cx} {n : Nat} {ops : Array Oper} {Q : Post} {tab : List Ent} : ∀ (k : Nat) {l r : List Oper} {env env' : Env} {cs : List (Option Prop)},
    quietN P n ops tab k l env = some (cs, env', r) → allOf cs → TrL P cx n ops r ⟨env', tab⟩ Q → TrL P cx n ops l ⟨env, tab⟩ Q
  | 0, l, r, env, env', cs, h, _, hk => by
    simp only [quietN, Option.some.injEq, Prod.mk.injEq] at h
    obtain ⟨_, rfl, rfl⟩ := h
    exact hk
  | k + 1, [], r, env, env', cs, h, _, _ => by simp [quietN] at h
  | k + 1, o :: l, r, env, env', cs, h, hc, hk => by
    simp only [quietN] at h
    split at h
    · rename_i c env1 h1
      split at h
      · rename_i cs2 env2 r2 h2
        simp only [Option.some.injEq, Prod.mk.injEq] at h
        obtain ⟨rfl, rfl, rfl⟩ := h
        obtain ⟨hc1, hc2⟩ := allOf_cons hc
        exact TrL.quiet (quietE_step h1) hc1 (TrL.quiets k h2 hc2 hk)
      · cases h
    · cases h


/-! ### Less is told -/
/-- The slots that stay told, and how many entries. -/
def keepE (env : Env) : List Nat → Env
  | [] => []
  | s :: r => match look env s with
    | some ([], sv) => (s, [], sv) :: keepE env r
    | _ => keepE env r
def cleanS (p : Nat → Bool) : List Nat → Env → Env
  | _, [] => []
  | seen, (s, ch, sv) :: r => if seen.contains s then cleanS p seen r else if sv.ok p then (s, ch, sv) :: cleanS p (s :: seen) r else cleanS p (s :: seen) r
def cleanE (p : Nat → Bool) (env : Env) : Env := cleanS p [] env
theorem cleanS_look {p : Nat → Bool} : ∀ (env : Env) (seen : List Nat) (s : Nat) ch sv, look (cleanS p seen env) s = some (ch, sv) → s ∉ seen ∧ look env s = some (ch, sv) ∧ sv.ok p = true
  | [], seen, s, ch, sv, h => by simp [cleanS, look] at h
  | (s0, c0, v0) :: r, seen, s, ch, sv, h => by
    simp only [cleanS] at h
    split at h
    · rename_i hs
      obtain ⟨h1, h2, h3⟩ := cleanS_look r seen s ch sv h
      have hne : (s0 == s) = false := by
        simp only [List.contains_iff_mem] at hs
        exact beq_eq_false_iff_ne.2 fun e => h1 (e ▸ hs)
      exact ⟨h1, by simp only [look, hne]; exact h2, h3⟩
    · rename_i hs
      split at h
      · rename_i hok
        simp only [look] at h ⊢
        split at h
        · rename_i he
          simp only [beq_iff_eq] at he
          subst he
          simp only [Option.some.injEq, Prod.mk.injEq] at h
          refine ⟨by simpa using hs, by simp [h.1, h.2], ?_⟩
          rw [← h.2]; exact hok
        · rename_i he
          obtain ⟨h1, h2, h3⟩ := cleanS_look r (s0 :: seen) s ch sv h
          exact ⟨fun hm => h1 (List.mem_cons_of_mem _ hm), by rw [if_neg he]; exact h2, h3⟩
      · obtain ⟨h1, h2, h3⟩ := cleanS_look r (s0 :: seen) s ch sv h
        have hne : (s0 == s) = false := beq_eq_false_iff_ne.2 fun e => h1 (by simp [e])
        exact ⟨fun hm => h1 (List.mem_cons_of_mem _ hm), by simp only [look, hne]; exact h2, h3⟩
def cleanC (p : Nat → Bool) (cs : List SV) : List SV := cs.map (fun c => if c.ok p then c else .top)
def cleanT (p : Nat → Bool) (tab : List Ent) : List Ent := tab.map (fun e => match e with | .box tt cs => .box tt (cleanC p cs) | e => e)
def keep (l : List Nat) (m : Nat) (st : St) : St := ⟨cleanE (fun i => decide (i < m)) (keepE st.env l), cleanT (fun i => decide (i < m)) (st.tab.take m)⟩

theorem okL_iff {p : Nat → Bool} : ∀ (l : List SV), SV.okL p l = true ↔ ∀ s ∈ l, s.ok p = true
  | [] => by simp [SV.okL]
  | s :: l => by simp [SV.okL, okL_iff l]
theorem top_ok (p : Nat → Bool) : SV.top.ok p = true := rfl
theorem cleanC_ok (p : Nat → Bool) (cs : List SV) : SV.okL p (cleanC p cs) = true := by
  rw [okL_iff]
  intro s hs
  simp only [cleanC, List.mem_map] at hs
  obtain ⟨c, _, rfl⟩ := hs
  split
  · assumption
  · rfl
theorem cleanC_den {σ : Mem} {ρ : Rho} {p : Nat → Bool} : ∀ (cs : List SV) (vs : List Value), SV.denL σ ρ cs vs → (∀ u ∈ vs, u.oneCell' = true) → SV.denL σ ρ (cleanC p cs) vs
  | [], vs, h, _ => by simpa [cleanC] using h
  | c :: cs, vs, h, h1 => by
    simp only [SV.denL] at h
    obtain ⟨v, r, rfl, hv, hr⟩ := h
    refine ⟨v, r, rfl, ?_, cleanC_den cs r hr (fun u hu => h1 u (List.mem_cons_of_mem _ hu))⟩
    show SV.den σ ρ (if c.ok p = true then c else .top) v
    split
    · exact hv
    · simp only [SV.den]; exact h1 v List.mem_cons_self
theorem cleanT_get {p : Nat → Bool} {tab : List Ent} {i : Nat} {e : Ent} (h : (cleanT p tab)[i]? = some e) : ∃ e0, tab[i]? = some e0 ∧ e = (match e0 with | .box tt cs => .box tt (cleanC p cs) | e => e) := by
  simp only [cleanT, List.getElem?_map, Option.map_eq_some_iff] at h
  obtain ⟨e0, h1, h2⟩ := h
  exact ⟨e0, h1, h2.symm⟩
theorem clean_blk {p : Nat → Bool} {ρ : Rho} {i : Nat} {e0 : Ent} : (match e0 with | .box tt cs => Ent.box tt (cleanC p cs) | e => e).at_ ρ i = e0.at_ ρ i := by cases e0 <;> rfl
theorem clean_rel {p : Nat → Bool} {σ : Mem} {ρ : Rho} {w : World} {i : Nat} {e0 : Ent} (h : e0.rel σ ρ w i) : (match e0 with | .box tt cs => Ent.box tt (cleanC p cs) | e => e).rel σ ρ w i := by
  cases e0 with
  | box tt cs =>
    obtain ⟨vs, h1, h2, h3, h4⟩ := h
    exact ⟨vs, h1, cleanC_den cs vs h2 h3, h3, h4⟩
  | gs e t l => exact h
  | ra e t l => exact h
  | res R => exact h
  | gone => trivial
theorem clean_ok {p : Nat → Bool} {e0 : Ent} : (match e0 with | .box tt cs => Ent.box tt (cleanC p cs) | e => e).ok p = true := by cases e0 <;> first | rfl | exact cleanC_ok p _
theorem WR.clean {cx : Cx} {σ : Mem} {ρ : Rho} {tab : List Ent} {w : World} (h : WR cx σ ρ tab w) (p : Nat → Bool) : WR cx σ ρ (cleanT p tab) w := by
  refine ⟨h.sub, fun i e he => ?_, fun i j e e' b hi hj hb hb' => ?_, h.os, h.tape, h.output, h.size, h.old, h.le, h.new, fun i e b hi hb => ?_, h.glob, h.keepρ, fun i hi => ?_⟩
  · obtain ⟨e0, h1, rfl⟩ := cleanT_get he
    exact clean_rel (h.ent i e0 h1)
  · obtain ⟨e0, h1, rfl⟩ := cleanT_get hi
    obtain ⟨e1, h2, rfl⟩ := cleanT_get hj
    rw [clean_blk] at hb hb'
    exact h.dis i j e0 e1 b h1 h2 hb hb'
  · obtain ⟨e0, h1, rfl⟩ := cleanT_get hi
    rw [clean_blk] at hb
    exact h.live i e0 b h1 hb
  · obtain ⟨tt, cs, hcs⟩ := h.isb i hi
    exact ⟨tt, cleanC p cs, by simp [cleanT, hcs]⟩
theorem WR.take {cx : Cx} {σ : Mem} {ρ : Rho} {tab : List Ent} {w : World} (h : WR cx σ ρ tab w) (m : Nat) (hB : ∀ i, cx.B i = true → i < m) : WR cx σ ρ (tab.take m) w := by
  have g : ∀ (i : Nat) e, (tab.take m)[i]? = some e → tab[i]? = some e := fun i e he => by
    rw [List.getElem?_take] at he
    split at he
    · exact he
    · cases he
  exact ⟨h.sub, fun i e he => h.ent i e (g i e he), fun i j e e' b hi hj => h.dis i j e e' b (g i e hi) (g j e' hj), h.os, h.tape, h.output, h.size, h.old, h.le, h.new, fun i e b hi => h.live i e b (g i e hi), h.glob, h.keepρ, fun i hi => let ⟨tt, cs, hcs⟩ := h.isb i hi; ⟨tt, cs, by rw [List.getElem?_take, if_pos (hB i hi)]; exact hcs⟩⟩
theorem keepE_mem {env : Env} : ∀ (l : List Nat) x, x ∈ keepE env l → look env x.1 = some (x.2.1, x.2.2)
  | [], x, hx => by simp [keepE] at hx
  | s :: r, x, hx => by
    simp only [keepE] at hx
    split at hx
    · rename_i sv hl
      simp only [List.mem_cons] at hx
      rcases hx with rfl | hx
      · exact hl
      · exact keepE_mem r x hx
    · exact keepE_mem r x hx
theorem keepE_den {σ : Mem} {ρ : Rho} {env : Env} {a : Act} (he : EnvR σ ρ env a) (l : List Nat) : EnvA σ ρ (keepE env l) a :=
  fun s ch sv hl => he s ch sv (keepE_mem l _ (look_mem _ s ch sv hl))
theorem SRel.keep {cx : Cx} {n : Nat} {st : St} {a : Act} {w : World} (h : SRel cx n st a w) (l : List Nat) (m : Nat) (hB : ∀ i, cx.B i = true → i < m) : SRel cx n (keep l m st) a w := by
  obtain ⟨σ, ρ, hw, he, hn, hd⟩ := h
  refine ⟨σ, ρ, (hw.take m hB).clean _, fun s ch sv hl => ?_, hn, hd⟩
  exact keepE_den he.env l s ch sv (cleanS_look _ _ s ch sv hl).2.1

end Go.Proofs.YteiickhgmmjcmaaGreatDoor.Sx
