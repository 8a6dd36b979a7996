/-
  Control, calls that leave the caller's memory alone, guards that are decided, regions that draw their order.
-/
import Derived.Test.YteiickhgmmjcmaaGreatDoorSxL
import Derived.Deep.Quiet
import Derived.Deep.LoopGhost
import Derived.Laws.Sem
import Derived.Shelf.Abstract
set_option linter.unusedVariables false
set_option linter.unusedSimpArgs false
namespace Go.Proofs.YteiickhgmmjcmaaGreatDoor.Sx
open Go Go.RowKit

section
variable {P : Program} {cx : Cx} {n : Nat} {st : St} {Q : Post}

theorem Tr.mono {c : Code} {Q' : Post} (h : Tr P cx n c st Q) (hq : ∀ e st, Q e st → Q' e st) : Tr P cx n c st Q' :=
  fun a w hs => wp_mono (h a w hs) fun e a w ⟨st', h1, h2⟩ => ⟨st', hq _ _ h1, h2⟩
theorem TrL.of {ops : Array Oper} {l : List Oper} {st' : St} (h : TrL P cx n ops l st' Q) (hs : ∀ a w, SRel cx n st a w → SRel cx n st' a w) : TrL P cx n ops l st Q := fun a w h1 => h a w (hs a w h1)
theorem Tr.of {c : Code} {st' : St} (h : Tr P cx n c st' Q) (hs : ∀ a w, SRel cx n st a w → SRel cx n st' a w) : Tr P cx n c st Q := fun a w h1 => h a w (hs a w h1)

theorem Tr.skip (h : Q .normal st) : Tr P cx n .skip st Q := fun a w hs => wp_skip ⟨st, h, hs⟩
theorem Tr.label {l : Nat} (h : Q .normal st) : Tr P cx n (.label l) st Q := fun a w hs => wp_label ⟨st, h, hs⟩
theorem Tr.exit {id : Nat} (h : Q (.exit id) st) : Tr P cx n (.exit id) st Q := fun a w hs => wp_exit ⟨st, h, hs⟩
theorem Tr.ret (h : Q .ret st) : Tr P cx n .ret st Q := fun a w hs => wp_ret ⟨st, h, hs⟩

def thenQ (P : Program) (cx : Cx) (n : Nat) (y : Code) (Q : Post) : Post := fun e st => match e with
  | .normal => Tr P cx n y st Q
  | .exit i => Q (.exit i) st
  | .goto l => Q (.goto l) st
  | .ret => Q .ret st
  | .panic c => Q (.panic c) st
  | .outgrown => Q .outgrown st
theorem Tr.seq {x y : Code} (h : Tr P cx n x st (thenQ P cx n y Q)) : Tr P cx n (.seq x y) st Q := by
  intro a w hs
  refine wp_seq (wp_mono (h a w hs) fun e a' w' ⟨st', h1, h2⟩ => ?_)
  cases e <;> first | exact h1 a' w' h2 | exact ⟨st', h1, h2⟩

theorem Tr.cond {c : Operand} {x y : Code} {b : Bool} (hc : opnd st.env [] c = some (.val .bool b)) (h1 : b = true → Tr P cx n x st Q) (h2 : b = false → Tr P cx n y st Q) : Tr P cx n (.cond c x y) st Q := by
  intro a w hs
  obtain ⟨σ, ρ, hw, he, hn, hd⟩ := id hs
  have := opnd_den (known := []) he.env (fun p hp => by cases hp) hc
  simp only [SV.den, Den, List.cons.injEq, and_true] at this
  exact wp_cond_split this (fun h => h1 h a w hs) (fun h => h2 h a w hs)

def blockQ (id : Nat) (Q : Post) : Post := fun e st => match e with
  | .exit i => if i = id then Q .normal st else Q (.exit i) st
  | .normal => Q .normal st
  | .goto l => Q (.goto l) st
  | .ret => Q .ret st
  | .panic c => Q (.panic c) st
  | .outgrown => Q .outgrown st
theorem Tr.block {id : Nat} {c : Code} (h : Tr P cx n c st (blockQ id Q)) : Tr P cx n (.block id c) st Q := by
  intro a w hs
  refine wp_block (wp_mono (h a w hs) fun e a' w' ⟨st', h1, h2⟩ => ?_)
  cases e with
  | exit i =>
    simp only [blockQ] at h1
    simp only [Exit.inBlock]
    split
    · rename_i hi; rw [if_pos hi] at h1; exact ⟨st', h1, h2⟩
    · rename_i hi; rw [if_neg hi] at h1; exact ⟨st', h1, h2⟩
  | _ => exact ⟨st', h1, h2⟩

def loopQ {α : Type} (S : α → St) (I : α → Prop) (m : α → Nat) (x : α) (slots : List Nat) (k : Nat) (Q : Post) : Post := fun e st => match e with
  | .normal => ∃ y, I y ∧ m y < m x ∧ keep slots k st = S y
  | .exit i => Q (.exit i) st
  | .goto l => Q (.goto l) st
  | .ret => Q .ret st
  | .panic c => Q (.panic c) st
  | .outgrown => Q .outgrown st
/-- A loop: what is kept at its head, told by what turns. -/
theorem Tr.loop {α : Type} {c : Code} (S : α → St) (I : α → Prop) (m : α → Nat) (x0 : α) (slots : List Nat) (k : Nat) (hB : ∀ i, cx.B i = true → i < k) (h0 : keep slots k st = S x0) (hI : I x0)
    (h : ∀ x, I x → Tr P cx n c (S x) (loopQ S I m x slots k Q)) : Tr P cx n (.loop c) st Q := by
  intro a w hs
  have hs0 := hs.keep slots k hB
  rw [h0] at hs0
  refine wp_loop_ghost (fun k a w => ∃ x, I x ∧ m x ≤ k ∧ SRel cx n (S x) a w) (m x0) ⟨x0, hI, Nat.le_refl _, hs0⟩ ?_
  rintro k' a w ⟨x, hIx, hx, hs⟩
  refine wp_mono (h x hIx a w hs) fun e a1 w1 ⟨st', h1, h2⟩ => ?_
  cases e with
  | normal =>
    obtain ⟨y, hIy, hy, hk⟩ := h1
    have hs1 := h2.keep slots k hB
    rw [hk] at hs1
    exact ⟨m y, by omega, y, hIy, Nat.le_refl _, hs1⟩
  | _ => exact ⟨st', h1, h2⟩

/-! ### Regions -/
theorem Tr.region {id : Nat} {ops : Array Oper} (h : TrL P cx n ops ops.toList st Q) : Tr P cx n (.region id ops false) st Q :=
  fun a w hs => wp_region_list (h a w hs)
end

/-! ### Calls that leave the caller's memory alone -/
/-- A call of a function with these values yields this one; whatever was there stays. -/
def CallV (P : Program) (f : Nat) (args : List SV) (r : SV) : Prop :=
  Go.Proofs.Enters P f ∧ ∀ (cx : Cx) (σ : Mem) (ρ : Rho) (w : World) (vs : List Value), WR cx σ ρ [] w → SV.denL σ ρ args vs →
    Calls P f vs.toArray w fun e w' => ∃ v τ, e = .returned v ∧ σ.le τ ∧ WR cx τ ρ [] w' ∧ SV.den τ ρ r v

/-- Who is called, with what. -/
def callee (env : Env) (tab : List Ent) (known : Chain) (c : Call) : Option (Nat × List SV) :=
  match c.callee with
  | .value x => match opnd env known x, opnds env known c.args.toList with
    | some (.fn f fs cs), some l => some (f, fs ++ l.map (res tab) ++ cs)
    | _, _ => none
  | _ => none
theorem callee_run {P : Program} {cx : Cx} {σ : Mem} {ρ : Rho} {env : Env} {tab : List Ent} {w : World} {a : Act} {known : Chain} {c : Call} {o : Oper} {f : Nat} {l : List SV}
    (hw : WR cx σ ρ tab w) (he : EnvR σ ρ env a) (hf : fits a known) (ho : o.op = .call c) (h : callee env tab known c = some (f, l)) :
    ∃ vs, SV.denL σ ρ l vs ∧ ∀ w', (execOp a.eval o).run P w' = (callFunc f vs.toArray).run P w' := by
  unfold callee at h
  split at h
  · rename_i x hx
    split at h
    · rename_i f' fs cs l' h1 h2
      simp only [Option.some.injEq, Prod.mk.injEq] at h
      obtain ⟨rfl, rfl⟩ := h
      have d1 := opnd_den he hf h1
      have d2 := resL hw _ _ (opnds_den he hf _ _ h2)
      simp only [SV.den] at d1
      obtain ⟨vf, vc, e, hvf, hvc⟩ := d1
      refine ⟨vf ++ c.args.toList.map a.eval ++ vc, ?_, fun w' => ?_⟩
      · rw [denL_append]
        refine ⟨_, _, rfl, ?_, hvc⟩
        rw [denL_append]
        exact ⟨_, _, rfl, hvf, d2⟩
      · have hargs := arrMap a.eval c.args
        simp only [execOp, ho, resolve, hx, Deferred.ofValue, e, invoke, Sem.run_bind, Sem.run_pure, Result.andThen_ok, hargs, List.append_toArray]
    · cases h
  · cases h

theorem WR.sub_none {cx : Cx} {σ : Mem} {ρ : Rho} {tab : List Ent} {w : World} (hw : WR cx σ ρ tab w) : WR ⟨w, σ, fun _ => False, ρ, fun _ => false, []⟩ σ ρ [] w :=
  ⟨hw.sub, fun i e h => by simp at h, fun i j e e' b h => by simp at h, rfl, rfl, rfl, Nat.le_refl _, fun _ _ _ => rfl, Mem.le_refl _, fun a v h => .inl ⟨v, h⟩, fun i e b h => by simp at h, hw.glob, fun i h => (by cases h), fun i h => (by cases h)⟩
theorem WR.back {cx : Cx} {σ τ : Mem} {ρ : Rho} {tab : List Ent} {w w' : World} (hw : WR cx σ ρ tab w) (h : WR ⟨w, σ, fun _ => False, ρ, fun _ => false, []⟩ τ ρ [] w') : WR cx τ ρ tab w' :=
  hw.below h.le h.sub ⟨h.os, h.tape, h.output, h.size, fun k hk => h.old k hk (fun h => h)⟩ fun a v ha => by
    rcases h.new a v ha with h | h | h
    · exact .inl h
    · exact .inr h
    · exact h.elim
theorem WR.back_same {σ τ : Mem} {ρ : Rho} {w w' : World} (h : WR ⟨w, σ, fun _ => False, ρ, fun _ => false, []⟩ τ ρ [] w') : Same w w' := fun k hk => h.old k hk (fun h => h)

/-- What a call's operation does, under its contract. -/
theorem callV_wp {P : Program} {cx : Cx} {σ : Mem} {ρ : Rho} {env : Env} {tab : List Ent} {w : World} {a : Act} {known : Chain} {c : Call} {o : Oper} {f : Nat} {l : List SV} {r : SV}
    (hw : WR cx σ ρ tab w) (he : EnvR σ ρ env a) (hf : fits a known) (ho : o.op = .call c) (h : callee env tab known c = some (f, l)) (hc : CallV P f l r)
    {K : Act → World → Prop} {Q : Exit → Act → World → Prop} (hK : ∀ v τ w', σ.le τ → WR cx τ ρ tab w' → SV.den τ ρ r v → K (a.put o.dst v) w') : o.wp P a w K Q := by
  obtain ⟨vs, h1, h2⟩ := callee_run (P := P) hw he hf ho h
  unfold Oper.wp
  rw [h2 w, hc.1]
  refine (hc.2 _ σ ρ w vs hw.sub_none h1).mono ?_
  rintro e w' ⟨v, τ, rfl, hle, hwr, hd⟩
  exact hK v τ w' hle (hw.back hwr) hd

theorem TrL.callV {P : Program} {cx : Cx} {n : Nat} {ops : Array Oper} {o : Oper} {l : List Oper} {env : Env} {tab : List Ent} {Q : Post} {c : Call} {f : Nat} {args : List SV} {r : SV} {d : Nat} {known : Chain}
    (ho : o.op = .call c) (hdst : o.dst = some d) (hg : guardOf ops env o = some known) (hc : callee env tab known c = some (f, args)) (hd : (decide (d < n) && known.all (fun p => p.1 != d) && okPut env d) = true) (hcall : CallV P f args r)
    (k : TrL P cx n ops l ⟨put env d known r, tab⟩ Q) : TrL P cx n ops (o :: l) ⟨env, tab⟩ Q := by
  intro a w hs
  obtain ⟨σ, ρ, hw, he, hn, hdf⟩ : ∃ σ ρ, WR cx σ ρ tab w ∧ EnvA σ ρ env a ∧ a.tmps.size = n ∧ a.defers = cx.ds := hs
  simp only [Bool.and_eq_true, decide_eq_true_eq] at hd
  have hwant := wanted_iff he.env hg
  refine wpList_step fun K hK => ?_
  by_cases hf : fits a known
  · rw [if_pos (hwant.2 hf)]
    refine callV_wp hw he.env hf ho hc hcall fun v τ w' hle hwr hden => hK _ _ (k _ _ ⟨τ, ρ, hwr, ?_, by rw [put_size]; exact hn, by rw [put_defers]; exact hdf⟩)
    rw [hdst]
    exact (he.grow hle).put hd.2 (by rw [hn]; exact hd.1.1) hd.1.2 (fun _ => hden) (fun h => absurd hf h)
  · rw [if_neg (fun h => hf (hwant.1 h))]
    refine hK _ _ (k _ _ ⟨σ, ρ, hw, ?_, by rw [put_size]; exact hn, by rw [put_defers]; exact hdf⟩)
    rw [hdst]
    exact he.put hd.2 (by rw [hn]; exact hd.1.1) hd.1.2 (fun h => absurd h hf) (fun _ => rfl)
/-- A call whose answer nobody takes. -/
theorem TrL.callV0 {P : Program} {cx : Cx} {n : Nat} {ops : Array Oper} {o : Oper} {l : List Oper} {env : Env} {tab : List Ent} {Q : Post} {c : Call} {f : Nat} {args : List SV} {r : SV}
    (hg : o.guard = none) (ho : o.op = .call c) (hdst : o.dst = none) (hc : callee env tab [] c = some (f, args)) (hcall : CallV P f args r)
    (k : TrL P cx n ops l ⟨env, tab⟩ Q) : TrL P cx n ops (o :: l) ⟨env, tab⟩ Q := by
  intro a w hs
  obtain ⟨σ, ρ, hw, he, hn, hdf⟩ : ∃ σ ρ, WR cx σ ρ tab w ∧ EnvA σ ρ env a ∧ a.tmps.size = n ∧ a.defers = cx.ds := hs
  refine wpList_plain hg fun K hK => ?_
  refine callV_wp hw he.env (fun p hp => by cases hp) ho hc hcall fun v τ w' hle hwr hden => hK _ _ ?_
  rw [hdst]
  exact k _ _ ⟨τ, ρ, hwr, he.grow hle, hn, hdf⟩

/-! ### A guard that is decided -/
def unguard (o : Oper) : Oper := { o with guard := none }
theorem wanted_lit {σ : Mem} {ρ : Rho} {env : Env} {a : Act} {ops : Array Oper} {o : Oper} {j d : Nat} {want b : Bool} (he : EnvR σ ρ env a) (hg : o.guard = some (j, want)) (hd : (ops[j]?).bind (·.dst) = some d)
    (hl : look env d = some ([], .val .bool b)) : Region.wanted o (yielded ops a.tmps) = (b == want) := by
  obtain ⟨v, hv, hdv⟩ := (he d [] _ hl).1 (fun p hp => by cases hp)
  simp only [SV.den, Den, List.cons.injEq, and_true] at hdv
  subst hdv
  have hy : yielded ops a.tmps j = some b := by
    simp only [yielded, hd, Option.bind_some, hv]
  simp [Region.wanted, hg, hy]
theorem TrL.want {P : Program} {cx : Cx} {n : Nat} {ops : Array Oper} {o : Oper} {l : List Oper} {env : Env} {tab : List Ent} {Q : Post} {j d : Nat} {b : Bool}
    (hg : o.guard = some (j, b)) (hd : (ops[j]?).bind (·.dst) = some d) (hl : look env d = some ([], .val .bool b)) (k : TrL P cx n ops (unguard o :: l) ⟨env, tab⟩ Q) : TrL P cx n ops (o :: l) ⟨env, tab⟩ Q := by
  intro a w hs
  have hs0 := hs
  obtain ⟨σ, ρ, hw, he, hn, hdf⟩ : ∃ σ ρ, WR cx σ ρ tab w ∧ EnvA σ ρ env a ∧ a.tmps.size = n ∧ a.defers = cx.ds := hs0
  have hwant := wanted_lit he.env hg hd hl
  have := k a w hs
  unfold wpList at this ⊢
  rw [hwant]
  have hu : Region.wanted (unguard o) (yielded ops a.tmps) = true := rfl
  rw [hu] at this
  simp only [beq_self_eq_true, if_true] at this ⊢
  exact this
theorem TrL.pass {P : Program} {cx : Cx} {n : Nat} {ops : Array Oper} {o : Oper} {l : List Oper} {env : Env} {tab : List Ent} {Q : Post} {j d d' : Nat} {b want : Bool} (s : SV)
    (hg : o.guard = some (j, want)) (hd : (ops[j]?).bind (·.dst) = some d) (hl : look env d = some ([], .val .bool b)) (hne : (b == want) = false) (hdst : o.dst = some d') (hlt : d' < n) (hdd : d ≠ d') (hop : okPut env d' = true)
    (k : TrL P cx n ops l ⟨put env d' [(d, want)] s, tab⟩ Q) : TrL P cx n ops (o :: l) ⟨env, tab⟩ Q := by
  intro a w hs
  obtain ⟨σ, ρ, hw, he, hn, hdf⟩ : ∃ σ ρ, WR cx σ ρ tab w ∧ EnvA σ ρ env a ∧ a.tmps.size = n ∧ a.defers = cx.ds := hs
  have hwant := wanted_lit he.env hg hd hl
  unfold wpList
  rw [hwant, hne]
  simp only [Bool.false_eq_true, if_false]
  refine k _ _ ⟨σ, ρ, hw, ?_, by rw [put_size]; exact hn, by rw [put_defers]; exact hdf⟩
  obtain ⟨v, hv, hdv⟩ := (he.env d [] _ hl).1 (fun p hp => by cases hp)
  simp only [SV.den, Den, List.cons.injEq, and_true] at hdv
  subst hdv
  rw [hdst]
  refine he.put hop (by rw [hn]; exact hlt) (by simpa using hdd) (fun hf => ?_) (fun _ => rfl)
  have := hf (d, want) List.mem_cons_self
  rw [hv] at this
  simp only [Option.some.injEq, Value.bool.injEq] at this
  rw [this] at hne
  simp at hne
/-- A guard that is known to hold is struck. -/
def settle (env : Env) (d : Nat) (c : Bool) : Env := env.map fun x => (x.1, x.2.1.filter (fun p => !(p.1 == d && p.2 == c)), x.2.2)
theorem settle_look : ∀ (env : Env) (d : Nat) (c : Bool) (s : Nat) ch sv, look (settle env d c) s = some (ch, sv) → ∃ ch0, look env s = some (ch0, sv) ∧ ch = ch0.filter (fun p => !(p.1 == d && p.2 == c))
  | [], d, c, s, ch, sv, h => by simp [settle, look] at h
  | (s0, c0, v0) :: r, d, c, s, ch, sv, h => by
    simp only [settle, List.map_cons, look] at h ⊢
    split at h
    · rename_i he
      simp only [Option.some.injEq, Prod.mk.injEq] at h
      rw [if_pos he]
      exact ⟨c0, by rw [h.2], h.1.symm⟩
    · rename_i he
      rw [if_neg he]
      exact settle_look r d c s ch sv h
/-- A truth is parted. -/
theorem TrL.part {P : Program} {cx : Cx} {n : Nat} {ops : Array Oper} {l : List Oper} {env : Env} {tab : List Ent} {Q : Post} (d : Nat) {b : Bool} (hl : look env d = some ([], .val .bool b))
    (k : ∀ c, b = c → TrL P cx n ops l ⟨(d, [], .val .bool c) :: settle env d c, tab⟩ Q) : TrL P cx n ops l ⟨env, tab⟩ Q := by
  intro a w hs
  obtain ⟨σ, ρ, hw, he, hn, hdf⟩ : ∃ σ ρ, WR cx σ ρ tab w ∧ EnvA σ ρ env a ∧ a.tmps.size = n ∧ a.defers = cx.ds := hs
  obtain ⟨v, hv, hdv⟩ := (he d [] _ hl).1 (fun p hp => by cases hp)
  simp only [SV.den, Den, List.cons.injEq, and_true] at hdv
  subst hdv
  refine k b rfl a w ⟨σ, ρ, hw, ?_, hn, hdf⟩
  intro s ch sv hl'
  simp only [look] at hl'
  split at hl'
  · rename_i hs
    simp only [beq_iff_eq] at hs
    subst hs
    simp only [Option.some.injEq, Prod.mk.injEq] at hl'
    obtain ⟨rfl, rfl⟩ := hl'
    exact he d [] _ hl
  · obtain ⟨ch0, h1, rfl⟩ := settle_look _ _ _ _ _ _ hl'
    obtain ⟨g1, g2⟩ := he s ch0 sv h1
    have hiff : fits a (ch0.filter (fun p => !(p.1 == d && p.2 == b))) ↔ fits a ch0 := by
      constructor
      · intro hf p hp
        by_cases hpd : (p.1 == d && p.2 == b) = true
        · simp only [Bool.and_eq_true, beq_iff_eq] at hpd
          rw [hpd.1, hpd.2]
          exact hv
        · exact hf p (List.mem_filter.2 ⟨hp, by rw [Bool.not_eq_true] at hpd; simp only [hpd]; rfl⟩)
      · intro hf p hp
        exact hf p (List.mem_filter.1 hp).1
    exact ⟨fun hf => g1 (hiff.1 hf), fun hf => g2 (fun h => hf (hiff.2 h))⟩

/-! ### Regions that draw their order -/
/-- The worlds that a quiet region may come to. -/
def Cls (cx : Cx) (σ : Mem) (ρ : Rho) (tab : List Ent) (w w' : World) : Prop := ∃ τ, σ.le τ ∧ WR cx τ ρ tab w' ∧ Same w w' ∧ w.heap.size ≤ w'.heap.size
def TrD (P : Program) (cx : Cx) (n : Nat) (ops : Array Oper) (l : List Oper) (st : St) (Q : Post) : Prop :=
  ∀ (σ : Mem) (ρ : Rho) (w : World) (a : Act), WR cx σ ρ st.tab w → EnvA σ ρ st.env a → a.tmps.size = n → a.defers = cx.ds →
    wpQuiet P ops (Cls cx σ ρ st.tab w) (fun a' => ∀ w', Cls cx σ ρ st.tab w w' → lift cx n Q .normal a' w') l a
theorem Tr.draw {P : Program} {cx : Cx} {n id : Nat} {ops : Array Oper} {st : St} {Q : Post} (hm : P.follows .mixedOrders = true) (hB : Region.lexB .any ops = true) (h : TrD P cx n ops ops.toList st Q) : Tr P cx n (.region id ops true) st Q := by
  intro a w hs
  obtain ⟨σ, ρ, hw, he, hn, hdf⟩ := hs
  exact wp_region_quiet (C := Cls cx σ ρ st.tab w) hm hB ⟨σ, Mem.le_refl _, hw.drewN 1, fun _ _ => rfl, Nat.le_refl _⟩ (h σ ρ w a hw he hn hdf)
theorem TrD.nil {P : Program} {cx : Cx} {n : Nat} {ops : Array Oper} {st : St} {Q : Post} (h : Q .normal st) : TrD P cx n ops [] st Q :=
  fun σ ρ w a hw he hn hd w' ⟨τ, h1, h2, _, _⟩ => ⟨st, h, τ, ρ, h2, he.grow h1, hn, hd⟩
theorem Cls.wr {cx : Cx} {σ : Mem} {ρ : Rho} {tab : List Ent} {w w' : World} (h : Cls cx σ ρ tab w w') : ∃ τ, σ.le τ ∧ WR cx τ ρ tab w' := let ⟨τ, h1, h2, _⟩ := h; ⟨τ, h1, h2⟩
theorem TrD.quiet {P : Program} {cx : Cx} {n : Nat} {ops : Array Oper} {o : Oper} {l : List Oper} {st st' : St} {Q : Post} {c : Option Prop}
    (h : quietStep P n ops st o = some (c, st')) (hc : holds c) (k : TrD P cx n ops l st' Q) : TrD P cx n ops (o :: l) st Q := by
  intro σ ρ w a hw he hn hd
  have her := he.env
  unfold quietStep at h
  split at h
  · rename_i known hg
    split at h
    · rename_i c0 s hq
      have hwant := wanted_iff her hg
      have hrun : fits a known → holds c0 → ∃ v, (∀ w1, Cls cx σ ρ st.tab w w1 → o.quietAt P a (Cls cx σ ρ st.tab w) w1 v) ∧ SV.den σ ρ s v := fun hf hc0 => by
        obtain ⟨v, h1, h2⟩ := quietOp_sound (P := P) hw her hf hq hc0
        refine ⟨v, fun w1 ⟨τ, _, _, hs, _⟩ => ?_, h2⟩
        unfold Oper.quietAt
        rw [h1 w1 (.inr hs)]
        exact ⟨rfl, rfl⟩
      unfold wpQuiet
      split at h
      · rename_i bs hbs
        split at h
        · rename_i d hdst
          split at h
          · rename_i hlt
            simp only [Option.some.injEq, Prod.mk.injEq] at h
            obtain ⟨rfl, rfl⟩ := h
            by_cases hf : fits a known
            · rw [if_pos (hwant.2 hf)]
              have hc0 : holds c0 := by
                cases c0 with
                | none => trivial
                | some p => exact gd_holds her known bs p hbs hc hf
              obtain ⟨v, hv, hdv⟩ := hrun hf hc0
              refine ⟨v, hv, k σ ρ w _ hw ?_ (by rw [put_size]; exact hn) (by rw [put_defers]; exact hd)⟩
              rw [hdst]
              exact he.put hlt.2.2 (by rw [hn]; exact hlt.1) hlt.2.1 (fun _ => hdv) (fun h => absurd hf h)
            · rw [if_neg (fun h => hf (hwant.1 h))]
              refine k σ ρ w _ hw ?_ (by rw [put_size]; exact hn) (by rw [put_defers]; exact hd)
              rw [hdst]
              exact he.put hlt.2.2 (by rw [hn]; exact hlt.1) hlt.2.1 (fun h => absurd h hf) (fun _ => rfl)
          · cases h
        · rename_i hdst
          simp only [Option.some.injEq, Prod.mk.injEq] at h
          obtain ⟨rfl, rfl⟩ := h
          have hput : ∀ v, a.put o.dst v = a := fun v => by rw [hdst]; rfl
          by_cases hf : fits a known
          · rw [if_pos (hwant.2 hf)]
            have hc0 : holds c0 := by
              cases c0 with
              | none => trivial
              | some p => exact gd_holds her known bs p hbs hc hf
            obtain ⟨v, hv, hdv⟩ := hrun hf hc0
            exact ⟨v, hv, by rw [hput]; exact k σ ρ w _ hw he hn hd⟩
          · rw [if_neg (fun h => hf (hwant.1 h)), hput]
            exact k σ ρ w _ hw he hn hd
      · cases h
    · cases h
  · cases h
/-- A value that is told whole. -/
def rigid : SV → Option Value
  | .val (.int k) x => some (.int k x)
  | .val .bool x => some (.bool x)
  | .val .str x => some (strV x)
  | _ => none
def rigids : List SV → Option (List Value)
  | [] => some []
  | s :: l => match rigid s, rigids l with | some v, some r => some (v :: r) | _, _ => none
def rigidT : SV → Option Value
  | .tup l => match rigids l with | some r => some (.tuple r.toArray) | none => none
  | .agg l => match rigids l with | some r => some (.agg r.toArray) | none => none
  | s => rigid s
theorem rigid_den {σ : Mem} {ρ : Rho} {s : SV} {v u : Value} (h : rigid s = some v) : SV.den σ ρ s u ↔ u = v := by
  unfold rigid at h
  split at h <;> first | (obtain rfl := Option.some.inj h; simp [SV.den, Den]) | cases h
theorem rigids_den {σ : Mem} {ρ : Rho} : ∀ (l : List SV) (r us : List Value), rigids l = some r → (SV.denL σ ρ l us ↔ us = r)
  | [], r, us, h => by simp [rigids] at h; subst h; simp [SV.denL]
  | s :: l, r, us, h => by
    simp only [rigids] at h
    split at h
    · rename_i v r' h1 h2
      obtain rfl := Option.some.inj h
      simp only [SV.denL]
      constructor
      · rintro ⟨u, us', rfl, hu, hus⟩
        rw [(rigid_den h1).1 hu, (rigids_den l r' us' h2).1 hus]
      · rintro rfl
        exact ⟨v, r', rfl, (rigid_den h1).2 rfl, (rigids_den l r' r' h2).2 rfl⟩
    · cases h
theorem rigidT_den {σ : Mem} {ρ : Rho} {s : SV} {v u : Value} (h : rigidT s = some v) : SV.den σ ρ s u ↔ u = v := by
  unfold rigidT at h
  split at h
  · rename_i l
    split at h
    · rename_i r hr
      obtain rfl := Option.some.inj h
      simp only [SV.den]
      constructor
      · rintro ⟨vs, rfl, hvs⟩
        rw [(rigids_den l r vs hr).1 hvs]
      · rintro rfl
        exact ⟨r, rfl, (rigids_den l r r hr).2 rfl⟩
    · cases h
  · rename_i l
    split at h
    · rename_i r hr
      obtain rfl := Option.some.inj h
      simp only [SV.den]
      constructor
      · rintro ⟨vs, rfl, hvs⟩
        rw [(rigids_den l r vs hr).1 hvs]
      · rintro rfl
        exact ⟨r, rfl, (rigids_den l r r hr).2 rfl⟩
    · cases h
  · exact rigid_den h
theorem TrD.callV {P : Program} {cx : Cx} {n : Nat} {ops : Array Oper} {o : Oper} {l : List Oper} {env : Env} {tab : List Ent} {Q : Post} {c : Call} {f : Nat} {args : List SV} {r : SV} {d : Nat} {rv : Value} {known : Chain}
    (ho : o.op = .call c) (hdst : o.dst = some d) (hg : guardOf ops env o = some known) (hc : callee env tab known c = some (f, args)) (hd : (decide (d < n) && known.all (fun p => p.1 != d) && okPut env d) = true) (hcall : CallV P f args r) (hr : rigidT r = some rv)
    (k : TrD P cx n ops l ⟨put env d known r, tab⟩ Q) : TrD P cx n ops (o :: l) ⟨env, tab⟩ Q := by
  intro σ ρ w a hw he hn hdf
  simp only at hw he
  have her := he.env
  simp only [Bool.and_eq_true, decide_eq_true_eq] at hd
  have hwant := wanted_iff her hg
  unfold wpQuiet
  by_cases hf : fits a known
  · rw [if_pos (hwant.2 hf)]
    obtain ⟨vs, h1, h2⟩ := callee_run (P := P) hw her hf ho hc
    refine ⟨rv, fun w1 ⟨τ, t1, t2, t3, t4⟩ => ?_, k σ ρ w _ hw ?_ (by rw [put_size]; exact hn) (by rw [put_defers]; exact hdf)⟩
    · unfold Oper.quietAt
      rw [h2 w1, hcall.1]
      refine ⟨rfl, (hcall.2 _ τ ρ w1 vs t2.sub_none (denL_grow t1 h1)).mono ?_⟩
      rintro e w' ⟨v, τ', rfl, hle, hwr, hden⟩
      rw [(rigidT_den hr).1 hden]
      refine ⟨rfl, τ', Mem.le_trans t1 hle, t2.back hwr, fun b hb => (WR.back_same hwr b (Nat.lt_of_lt_of_le hb t4)).trans (t3 b hb), Nat.le_trans t4 hwr.size⟩
    · rw [hdst]
      exact he.put hd.2 (by rw [hn]; exact hd.1.1) hd.1.2 (fun _ => (rigidT_den hr).2 rfl) (fun h => absurd hf h)
  · rw [if_neg (fun h => hf (hwant.1 h))]
    refine k σ ρ w _ hw ?_ (by rw [put_size]; exact hn) (by rw [put_defers]; exact hdf)
    rw [hdst]
    exact he.put hd.2 (by rw [hn]; exact hd.1.1) hd.1.2 (fun h => absurd h hf) (fun _ => rfl)
theorem TrD.quiets {P : Program} {cx : Cx} {n : Nat} {ops : Array Oper} {Q : Post} {tab : List Ent} : ∀ (k : Nat) {l r : List Oper} {env env' : Env} {cs : List (Option Prop)},
    quietN P n ops tab k l env = some (cs, env', r) → allOf cs → TrD P cx n ops r ⟨env', tab⟩ Q → TrD P cx n ops l ⟨env, tab⟩ Q
  | 0, l, r, env, env', cs, h, _, hk => by
    simp only [quietN, Option.some.injEq, Prod.mk.injEq] at h
    obtain ⟨_, rfl, rfl⟩ := h
    exact hk
  | k + 1, [], r, env, env', cs, h, _, _ => by simp [quietN] at h
  | k + 1, o :: l, r, env, env', cs, h, hc, hk => by
    simp only [quietN] at h
    split at h
    · rename_i c env1 h1
      split at h
      · rename_i cs2 env2 r2 h2
        simp only [Option.some.injEq, Prod.mk.injEq] at h
        obtain ⟨rfl, rfl, rfl⟩ := h
        obtain ⟨hc1, hc2⟩ := allOf_cons hc
        exact TrD.quiet (quietE_step h1) hc1 (TrD.quiets k h2 hc2 hk)
      · cases h
    · cases h

/-! ### A function -/
def argEnv : Nat → List SV → Env
  | _, [] => []
  | i, s :: l => (i, [], s) :: argEnv (i + 1) l
theorem argEnv_mem {σ : Mem} {ρ : Rho} : ∀ (l : List SV) (k : Nat) (pre vs post : List Value), pre.length = k → SV.denL σ ρ l vs → ∀ x ∈ argEnv k l, x.2.1 = [] ∧ ∃ v, (pre ++ vs ++ post)[x.1]? = some v ∧ SV.den σ ρ x.2.2 v
  | [], k, pre, vs, post, hk, h, x, hx => by cases hx
  | s :: l, k, pre, vs, post, hk, h, x, hx => by
    simp only [SV.denL] at h
    obtain ⟨v, r, rfl, hv, hr⟩ := h
    simp only [argEnv, List.mem_cons] at hx
    rcases hx with rfl | hx
    · exact ⟨rfl, v, by simp [← hk], hv⟩
    · have := argEnv_mem l (k + 1) (pre ++ [v]) r post (by simp [hk]) hr x hx
      simpa using this

/-- What a function's results are. -/
def resV (tab : List Ent) : SV → Option SV
  | .own i => match tab[i]? with
    | some (.gs _ t l) => some (.val (.list t) l)
    | _ => some (.own i)
  | s => some s
theorem resV_res {tab : List Ent} {s r : SV} (h : resV tab s = some r) : r = res tab s := by
  cases s with
  | own i =>
    simp only [resV] at h
    simp only [res]
    split at h <;> simp_all
  | _ => exact (Option.some.inj h).symm
def resOne (P : Program) (st : St) : ResultVar → Option SV
  | .tmp t => match look st.env t with | some ([], s) => resV st.tab s | _ => none
  | .cell t ty => match look st.env t with
    | some ([], s) => match pureLoad P st.tab ty s with | some (none, r) => resV st.tab r | _ => none
    | _ => none
def resAll (P : Program) (st : St) : List ResultVar → Option (List SV)
  | [] => some []
  | x :: l => match resOne P st x, resAll P st l with | some s, some r => some (s :: r) | _, _ => none
def tupOf : List SV → SV
  | [s] => s
  | l => .tup l
def resOf (P : Program) (st : St) (rs : List ResultVar) : Option SV := match resAll P st rs with
  | some [s] => some s
  | some l => some (.tup l)
  | none => none
theorem resOf_all {P : Program} {st : St} {rs : List ResultVar} {r : SV} (h : resOf P st rs = some r) : ∃ l, resAll P st rs = some l ∧ r = tupOf l := by
  unfold resOf at h
  split at h
  · rename_i s hs
    exact ⟨[s], hs, (Option.some.inj h).symm⟩
  · rename_i l hl hs
    refine ⟨l, hs, ?_⟩
    rw [← Option.some.inj h]
    rcases l with _ | ⟨s1, _ | ⟨s2, l⟩⟩
    · rfl
    · exact absurd rfl (hl s1)
    · rfl
  · cases h

theorem resOne_run {P : Program} {cx : Cx} {σ : Mem} {ρ : Rho} {st : St} {w : World} {a : Act} (hw : WR cx σ ρ st.tab w) (he : EnvA σ ρ st.env a) {x : ResultVar} {s : SV} (h : resOne P st x = some s) :
    ∃ v, (match x with | .tmp t => pure (a.tmps.getD t undef) | .cell t ty => do loadVar ty (← asAddr (a.tmps.getD t undef)) : Sem Value).run P w = .ok v w ∧ SV.den σ ρ s v := by
  unfold resOne at h
  split at h
  · rename_i t
    split at h
    · rename_i s' hl
      obtain rfl := resV_res h
      obtain ⟨v, hv, hd⟩ := (he.env t [] _ hl).1 (fun p hp => by cases hp)
      exact ⟨v, by simp [Array.getD_eq_getD_getElem?, hv], res_den hw hd⟩
    · cases h
  · rename_i t ty
    split at h
    · rename_i s' hl
      split at h
      · rename_i r hp
        obtain rfl := resV_res h
        obtain ⟨v, hv, hd⟩ := (he.env t [] _ hl).1 (fun p hp => by cases hp)
        obtain ⟨u, hu, hdu⟩ := pureLoad_sound (P := P) hw hp hd
        have hu0 := hu w (Same.refl w)
        have hv2 : a.tmps.getD t undef = v := by simp [Array.getD_eq_getD_getElem?, hv]
        -- the address: the load came through it
        obtain ⟨ad, rfl⟩ : ∃ ad, v = .pointer (some ad) := by
          unfold pureLoad at hp
          split at hp
          · split at hp
            · rename_i cs hcs
              obtain ⟨ad, e, _⟩ := cellsAt_den hw hcs hd
              exact ⟨ad, e⟩
            · cases hp
          · cases hp
        refine ⟨u, ?_, res_den hw hdu⟩
        simp only [hv2]
        simpa [Instr.loadAt, Instr.sureAddr, asAddr] using hu0
      · cases h
    · cases h

theorem mapM_run {P : Program} {w : World} {α : Type} {f : α → Sem Value} : ∀ (l : List α) (vs : List Value), vs.length = l.length → (∀ (i : Nat) x v, l[i]? = some x → vs[i]? = some v → (f x).run P w = .ok v w) → (l.mapM f).run P w = .ok vs w
  | [], [], _, _ => by simp
  | [], v :: vs, h, _ => by simp at h
  | x :: l, [], h, _ => by simp at h
  | x :: l, v :: vs, h, hr => by
    have h0 := hr 0 x v (by simp) (by simp)
    have ih := mapM_run l vs (by simpa using h) (fun i y u hy hu => hr (i + 1) y u (by simpa using hy) (by simpa using hu))
    simp [List.mapM_cons, h0, ih]

theorem resAll_run {P : Program} {cx : Cx} {σ : Mem} {ρ : Rho} {st : St} {w : World} {a : Act} (hw : WR cx σ ρ st.tab w) (he : EnvA σ ρ st.env a) : ∀ (rs : List ResultVar) (l : List SV), resAll P st rs = some l →
    ∃ vs, SV.denL σ ρ l vs ∧ vs.length = rs.length ∧ ∀ (i : Nat) x v, rs[i]? = some x → vs[i]? = some v → (match x with | .tmp t => pure (a.tmps.getD t undef) | .cell t ty => do loadVar ty (← asAddr (a.tmps.getD t undef)) : Sem Value).run P w = .ok v w
  | [], l, h => by simp [resAll] at h; subst h; exact ⟨[], rfl, rfl, fun i x v hx => by simp at hx⟩
  | x :: rs, l, h => by
    simp only [resAll] at h
    split at h
    · rename_i s r h1 h2
      obtain rfl := Option.some.inj h
      obtain ⟨v, hv, hd⟩ := resOne_run hw he h1
      obtain ⟨vs, e1, e2, e3⟩ := resAll_run hw he rs r h2
      refine ⟨v :: vs, ⟨v, vs, rfl, hd, e1⟩, by simp [e2], fun i y u hy hu => ?_⟩
      cases i with
      | zero => simp at hy hu; subst hy hu; exact hv
      | succ i => exact e3 i y u (by simpa using hy) (by simpa using hu)
    · cases h
theorem results_run {P : Program} {cx : Cx} {σ : Mem} {ρ : Rho} {st : St} {w : World} {a : Act} {fn : Func} (hw : WR cx σ ρ st.tab w) (he : EnvA σ ρ st.env a) {r : SV} (h : resOf P st fn.results.toList = some r) :
    ∃ v, (results fn a.tmps).run P w = .ok v w ∧ SV.den σ ρ r v := by
  obtain ⟨l, hl, rfl⟩ := resOf_all h
  · obtain ⟨vs, e1, e2, e3⟩ := resAll_run hw he _ _ hl
    have hm := mapM_run (P := P) (w := w) fn.results.toList vs e2 e3
    have hm' : (fn.results.mapM (m := Sem) fun x => match x with | .tmp t => pure (a.tmps.getD t undef) | .cell t ty => do loadVar ty (← asAddr (a.tmps.getD t undef))).run P w = .ok vs.toArray w := by
      rw [Array.mapM_eq_mapM_toList, map_eq_pure_bind]
      simp only [Sem.run_bind, hm, Result.andThen_ok, Sem.run_pure]
    have hlen := denL_length _ _ e1
    have hres : results fn a.tmps = (do
        let vs ← fn.results.mapM (m := Sem) fun x => match x with | .tmp t => pure (a.tmps.getD t undef) | .cell t ty => do loadVar ty (← asAddr (a.tmps.getD t undef))
        pure (if h : vs.size = 1 then vs[0] else .tuple vs)) := rfl
    rw [hres, Sem.run_bind]
    refine ⟨if h : vs.toArray.size = 1 then vs.toArray[0] else .tuple vs.toArray, ?_, ?_⟩
    · simp only [hm', Result.andThen_ok, Sem.run_pure]
    · rcases l with _ | ⟨s1, _ | ⟨s2, l⟩⟩
      · simp only [SV.denL] at e1
        subst e1
        simp only [tupOf, SV.den]
        exact ⟨[], rfl, rfl⟩
      · simp only [SV.denL] at e1
        obtain ⟨v, r, rfl, hv, rfl⟩ := e1
        simpa [tupOf] using hv
      · have h2 : ¬ (vs.toArray.size = 1) := by simp [hlen]
        rw [dif_neg h2]
        simp only [tupOf, SV.den]
        exact ⟨vs, rfl, e1⟩

def retQ (P : Program) (rs : List ResultVar) (r : SV) : Post := fun e st => (e = .normal ∨ e = .ret) ∧ resOf P st rs = some r
theorem retQ.of {P : Program} {rs : List ResultVar} {r r' : SV} {st : St} (h : resOf P st rs = some r') (he : r' = r) : retQ P rs r .ret st := ⟨.inr rfl, by rw [h, he]⟩
theorem retQ.fall {P : Program} {rs : List ResultVar} {r r' : SV} {st : St} (h : resOf P st rs = some r') (he : r' = r) : retQ P rs r .normal st := ⟨.inl rfl, by rw [h, he]⟩

theorem argEnv_start {σ : Mem} {ρ : Rho} {args : List SV} {vs : List Value} {k : Nat} (h : SV.denL σ ρ args vs) : EnvA σ ρ (argEnv 0 args) { tmps := vs.toArray ++ Array.replicate k undef, defers := [] } := by
  intro s ch sv hl
  have hx := look_mem _ s ch sv hl
  obtain ⟨h1, v, h2, h3⟩ := argEnv_mem args 0 [] vs (List.replicate k undef) rfl h _ hx
  refine ⟨fun _ => ⟨v, ?_, h3⟩, fun hf => absurd (fun p hp => by simp only at h1; rw [h1] at hp; cases hp) hf⟩
  rw [← Array.getElem?_toList]
  simpa using h2

/-- A function that leaves the caller's memory alone. -/
theorem CallV.of {P : Program} {f : Nat} {fn : Func} {c : Code} {args : List SV} {r : SV} {N : Nat} (hf : P.funcs[f]? = some fn) (hname : (fn.name == "runtime.NumGoroutine") = false) (hb : fn.body = some c) (hN : fn.ntmps = N) (ha : args.length ≤ N)
    (hr : r.ok (fun _ => false) = true)
    (h : ∀ cx, (∀ i, cx.B i = true → i < 0) → Tr P cx N c ⟨argEnv 0 args, []⟩ (retQ P fn.results.toList r)) : CallV P f args r := by
  refine ⟨Go.Proofs.enters_of hf hname hb, fun cx σ ρ w vs hw hd => ?_⟩
  refine calls_of_wp hf hb ?_
  have hlen := denL_length _ _ hd
  refine wp_mono (h _ (fun i hi => by cases hi) _ w ⟨σ, ρ, hw.sub_none, argEnv_start (k := fn.ntmps - vs.toArray.size) hd, ?_, rfl⟩) ?_
  · simp only [Array.size_append, List.size_toArray, Array.size_replicate, hlen, hN]
    omega
  rintro e a' w' ⟨st', ⟨he, hr'⟩, τ, ρ', hw', he', hn', hd'⟩
  obtain ⟨v, hv, hdv⟩ := results_run (P := P) hw' he' hr'
  have hw0 : WR ⟨w, σ, fun _ => False, ρ, fun _ => false, []⟩ τ ρ [] w' := by
    have := hw'.take 0 (fun i hi => by cases hi)
    exact ⟨this.sub, fun i e h => by simp at h, fun i j e e' b h => by simp at h, this.os, this.tape, this.output, this.size, this.old, this.le, this.new, fun i e b h => by simp at h, this.glob, fun i h => (by cases h), fun i h => (by cases h)⟩
  have hden : SV.den τ ρ r v := den_step (Mem.le_refl τ) (fun _ => false) (fun _ h => by cases h) r v hr hdv
  have hfin : ∃ v, (results fn a'.tmps).run P w' = .ok v w' ∧ ∃ v₁ τ, Ending.returned v = .returned v₁ ∧ σ.le τ ∧ WR cx τ ρ [] w' ∧ SV.den τ ρ r v₁ := ⟨v, hv, v, τ, rfl, hw0.le, hw.back hw0, hden⟩
  rcases he with rfl | rfl <;> exact ⟨hd', hfin⟩

/-! ### A list that has not begun -/
def nilRow (env : Env) (tab : List Ent) (d : Nat) (e : TypeId) (ty : Ty) : St :=
  ⟨(d, [], .own tab.length) :: cleanE (fun i => decide (i < tab.length)) env, cleanT (fun i => decide (i < tab.length)) tab ++ [.gs e ty []]⟩
theorem SRel.nilRow {cx : Cx} {n : Nat} {env : Env} {tab : List Ent} {a : Act} {w : World} (d : Nat) (e : TypeId) (ty : Ty) (hl : look env d = some ([], .nils)) (h : SRel cx n ⟨env, tab⟩ a w) : SRel cx n (nilRow env tab d e ty) a w := by
  obtain ⟨σ, ρ, hw, he, hn, hd⟩ : ∃ σ ρ, WR cx σ ρ tab w ∧ EnvA σ ρ env a ∧ a.tmps.size = n ∧ a.defers = cx.ds := h
  obtain ⟨v, hv, hdv⟩ := (he d [] _ hl).1 (fun p hp => by cases hp)
  simp only [SV.den] at hdv
  subst hdv
  have hρ : ∀ i, (decide (i < tab.length)) = true → upd ρ tab.length ⟨0, none, 0, 0, []⟩ i = ρ i := upd_lt
  refine ⟨σ, upd ρ tab.length ⟨0, none, 0, 0, []⟩, ?_, ?_, hn, hd⟩
  · refine hw.newEnt (Mem.le_refl σ) hw.sub (fun b _ => rfl) (fun a v ha => .inl ⟨v, ha⟩) ⟨[], Rows.nil σ ty, ?_, fun g hg => ?_⟩ (fun b hb => ?_) rfl rfl rfl (Nat.le_refl _)
    · rw [upd_same]; exact World.ownsRow_nil w 0 e _
    · rw [upd_same] at hg; cases hg
    · simp only [Ent.at_, upd_same] at hb; cases hb
  · intro s ch sv hl'
    simp only [Sx.nilRow, look] at hl'
    split at hl'
    · rename_i hs
      simp only [beq_iff_eq] at hs
      subst hs
      simp only [Option.some.injEq, Prod.mk.injEq] at hl'
      obtain ⟨rfl, rfl⟩ := hl'
      refine ⟨fun _ => ⟨_, hv, ?_⟩, fun hf => absurd (fun p hp => by cases hp) hf⟩
      simp only [SV.den, upd_same]
      rfl
    · exact he.clean _ hρ s ch sv hl'
theorem Tr.nilRow {P : Program} {cx : Cx} {n : Nat} {env : Env} {tab : List Ent} {Q : Post} {c : Code} (d : Nat) (e : TypeId) (ty : Ty) (hl : look env d = some ([], .nils)) (h : Tr P cx n c (Sx.nilRow env tab d e ty) Q) : Tr P cx n c ⟨env, tab⟩ Q :=
  Tr.of h fun a w hs => hs.nilRow d e ty hl
end Go.Proofs.YteiickhgmmjcmaaGreatDoor.Sx
