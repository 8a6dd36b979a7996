/-
  Range over a function: the worlds about a round, operations within a round, a call of yield.
-/
import Derived.Test.YteiickhgmmjcmaaGreatDoorSxQ
import Derived.RangeFuncRecord
import Derived.RangeFuncSeq
import Derived.RangeFuncCalls
import Derived.RangeFuncBound
set_option linter.unusedVariables false
set_option linter.unusedSimpArgs false
namespace Go.Proofs.YteiickhgmmjcmaaGreatDoor.Sx
open Go Go.RowKit

/-! ### Worlds that differ in blocks that hold no cells -/
structure Turn (L : Nat → Prop) (w w' : World) : Prop where
  os : w'.os = w.os
  tape : w'.tape = w.tape
  output : w'.output = w.output
  size : w.heap.size ≤ w'.heap.size
  heap : ∀ k, k < w.heap.size → ¬ L k → w'.heap[k]? = w.heap[k]?
theorem Turn.refl (L : Nat → Prop) (w : World) : Turn L w w := ⟨rfl, rfl, rfl, Nat.le_refl _, fun _ _ _ => rfl⟩
theorem Turn.trans {L : Nat → Prop} {a b c : World} (h : Turn L a b) (k : Turn L b c) : Turn L a c :=
  ⟨k.os.trans h.os, k.tape.trans h.tape, k.output.trans h.output, Nat.le_trans h.size k.size, fun i hi hL => (k.heap i (Nat.lt_of_lt_of_le hi h.size) hL).trans (h.heap i hi hL)⟩
theorem Turn.alloc (L : Nat → Prop) (w : World) (o : Obj) : Turn L w (w.alloc o) := ⟨rfl, rfl, rfl, by simp, fun k hk _ => Below.heap_alloc w o k hk⟩
theorem Turn.putObj {L : Nat → Prop} (w : World) (l : Nat) (o : Obj) (h : L l) : Turn L w (w.putObj l o) :=
  ⟨rfl, rfl, rfl, by simp, fun k _ hL => World.putObj_heap_other (fun e => hL (e ▸ h))⟩

/-- These blocks hold no cells. -/
def NoCells (L : Nat → Prop) (w : World) : Prop := ∀ k, L k → ∀ o, w.heap[k]? = some o → dataObj o = false

theorem Ent.rel_cells {σ : Mem} {ρ : Rho} {w : World} {i : Nat} {e : Ent} (h : e.rel σ ρ w i) {b : Nat} (hb : e.at_ ρ i b) : ∃ o, w.heap[b]? = some o ∧ dataObj o = true := by
  have row : ∀ {base : Nat} {e : TypeId} {size : Nat} {v : Value} {n : Nat} {xs : List Value}, w.ownsRow base e size v n xs → v.ownBlock = some b → ∃ o, w.heap[b]? = some o ∧ dataObj o = true := by
    intro base e size v n xs h hb
    rcases h.2 with ⟨rfl, _⟩ | ⟨g, cap, cur, rfl, _, hg, _⟩
    · cases hb
    · simp only [Value.ownBlock, Option.some.injEq] at hb
      subst hb
      exact ⟨_, hg, rfl⟩
  cases e with
  | gone => cases hb
  | box tt cs =>
    obtain ⟨vs, h1, _⟩ := h
    obtain rfl := Option.some.inj hb
    exact ⟨_, h1, rfl⟩
  | gs e t l =>
    obtain ⟨xs, h1, h2, h3⟩ := h
    exact row h2 hb
  | ra e t l =>
    obtain ⟨xs, h1, h2, h3⟩ := h
    exact row h2 hb
  | res R =>
    obtain ⟨o, h1, h2⟩ := R.data w _ h b hb
    exact ⟨o, h1, mapObj_data h2⟩
theorem cell_cells {w : World} {a : Addr} {v : Value} (h : w.cell? a = some v) : ∃ o, w.heap[a.block]? = some o ∧ dataObj o = true := by
  unfold World.cell? at h
  split at h
  · rename_i vs tt fr hk; exact ⟨_, hk, rfl⟩
  · cases h

/-- The blocks of a table's entries. -/
def blocks (tab : List Ent) (ρ : Rho) (b : Nat) : Prop := ∃ (i : Nat) (e : Ent), tab[i]? = some e ∧ e.at_ ρ i b

section
variable {cx cx1 : Cx} {σ τ : Mem} {ρ ρ' : Rho} {tab tab' : List Ent} {w w1 w2 w3 : World} {L : Nat → Prop}

theorem WR.cellT (h : WR cx σ ρ tab w) (t : Turn L w w1) (hL : NoCells L w) {a : Addr} {v : Value} (ha : σ a = some v) : w1.cell? a = some v := by
  have hc := h.sub a v ha
  obtain ⟨o, hk, ho⟩ := cell_cells hc
  rw [World.cell?_of_block (w := w) (t.heap _ (Array.getElem?_eq_some_iff.1 hk).1 (fun hl => by rw [hL _ hl _ hk] at ho; cases ho))]
  exact hc
theorem WR.entT (h : WR cx σ ρ tab w) (t : Turn L w w1) (hL : NoCells L w) {i : Nat} {e : Ent} (he : tab[i]? = some e) : e.rel σ ρ w1 i := by
  refine Ent.rel_keep (h.ent i e he) (Mem.le_refl _) (fun _ => true) (fun _ _ => rfl) (by cases e <;> first | rfl | exact okL_true _) rfl (fun b hb => ?_) (fun a v ha => .inl ⟨v, ha⟩)
  obtain ⟨o, hk, ho⟩ := Ent.rel_cells (h.ent i e he) hb
  exact t.heap _ (Array.getElem?_eq_some_iff.1 hk).1 (fun hl => by rw [hL _ hl _ hk] at ho; cases ho)

/-- The frame is told anew. -/
theorem WR.root (h : WR cx σ ρ tab w) (t : Turn L w w1) (hL : NoCells L w) (B : Nat → Bool) (hB : ∀ i, B i = true → ∃ tt cs, tab[i]? = some (.box tt cs)) (ds : List Deferred) :
    WR ⟨w1, σ, blocks tab ρ, ρ, B, ds⟩ σ ρ tab w1 :=
  ⟨fun a v ha => h.cellT t hL ha, fun i e he => h.entT t hL he, h.dis, rfl, rfl, rfl, Nat.le_refl _, fun _ _ _ => rfl, Mem.le_refl _, fun a v ha => .inl ⟨v, ha⟩, fun i e b he hb => .inr ⟨i, e, he, hb⟩, h.glob, fun _ _ => rfl, hB⟩

/-- Back to the frame that was there. -/
theorem WR.comp {B : Nat → Bool} {ds : List Deferred} {R1 L1 L2 : Nat → Prop} (h : WR cx σ ρ tab w) (hR1 : ∀ b, R1 b → cx.w0.heap.size ≤ b ∨ cx.R b) (t1 : Turn L1 w w1) (h1 : WR ⟨w1, σ, R1, ρ, B, ds⟩ τ ρ' tab' w2) (t2 : Turn L2 w2 w3) (hL : NoCells L2 w2)
    (hLo : ∀ k, L1 k ∨ L2 k → k < cx.w0.heap.size → ¬ cx.R k → w3.heap[k]? = cx.w0.heap[k]?) (hB : ∀ i, cx.B i = true → B i = true) : WR cx τ ρ' tab' w3 := by
  have hs1 : cx.w0.heap.size ≤ w1.heap.size := Nat.le_trans h.size t1.size
  refine ⟨fun a v ha => h1.cellT t2 hL ha, fun i e he => h1.entT t2 hL he, h1.dis, ((t2.os.trans h1.os).trans t1.os).trans h.os, ((t2.tape.trans h1.tape).trans t1.tape).trans h.tape, ((t2.output.trans h1.output).trans t1.output).trans h.output,
    Nat.le_trans hs1 (Nat.le_trans h1.size t2.size), fun k hk hRk => ?_, Mem.le_trans h.le h1.le, fun a v ha => ?_, fun i e b he hb => ?_, h1.glob, fun i hi => ?_, fun i hi => h1.isb i (hB i hi)⟩
  · by_cases hl : L1 k ∨ L2 k
    · exact hLo k hl hk hRk
    · have hk1 : k < w1.heap.size := Nat.lt_of_lt_of_le hk hs1
      have hnb : ¬ R1 k := fun hb => by
        rcases hR1 k hb with h2 | h2
        · omega
        · exact hRk h2
      rw [t2.heap k (Nat.lt_of_lt_of_le hk1 h1.size) (fun x => hl (.inr x)), h1.old k hk1 hnb, t1.heap k (Nat.lt_of_lt_of_le hk h.size) (fun x => hl (.inl x))]
      exact h.old k hk hRk
  · rcases h1.new a v ha with ⟨v', hv⟩ | hv | hv
    · exact h.new a v' hv
    · exact .inr (.inl (Nat.le_trans hs1 hv))
    · exact .inr (hR1 _ hv)
  · rcases h1.live i e b he hb with hv | hv
    · exact .inl (Nat.le_trans hs1 hv)
    · exact hR1 _ hv
  · rw [h1.keepρ i (hB i hi)]
    exact h.keepρ i hi
theorem WR.liveR (h : WR cx σ ρ tab w) : ∀ b, blocks tab ρ b → cx.w0.heap.size ≤ b ∨ cx.R b := fun b ⟨i, e, he, hb⟩ => h.live i e b he hb
/-- More blocks may turn; none is kept. -/
theorem WR.loose {w0 : World} {σ0 : Mem} {R R' : Nat → Prop} {ρ0 : Rho} {B : Nat → Bool} {ds ds' : List Deferred} (h : WR ⟨w0, σ0, R, ρ0, B, ds⟩ σ ρ tab w) (hR : ∀ b, R b → R' b) : WR ⟨w0, σ0, R', ρ0, fun _ => false, ds'⟩ σ ρ tab w :=
  ⟨h.sub, h.ent, h.dis, h.os, h.tape, h.output, h.size, fun k hk hr => h.old k hk (fun x => hr (hR k x)), h.le, fun a v ha => (h.new a v ha).imp id (Or.imp id (hR _)), fun i e b he hb => (h.live i e b he hb).imp id (hR _), h.glob, fun i hi => (by cases hi), fun i hi => (by cases hi)⟩
end

/-! ### Operations within a round -/
def RF : Option Nat → Fence
  | none => Fence.wide
  | some l => Fence.wide.inRound l
theorem RF.fn (ro : Option Nat) (f : FuncId) : (RF ro).fn f := by cases ro <;> trivial
theorem RF.depth (ro : Option Nat) {p : Prop} : (RF ro).depth.isSome = true → p := by cases ro <;> (intro h; simp [RF, Fence.wide, Fence.inRound] at h)
theorem RF.calls {ro : Option Nat} {P : Program} {f : FuncId} {args : Array Value} {w : World} {R : Ending → World → Prop} (h : Calls P f args w R) (n : Nat) : CallsIn (RF ro) n P f args w R := by
  cases ro with
  | none => exact callsIn_wide.2 h
  | some l => exact CallsIn.inRound l (callsIn_wide.2 h)
theorem RF.fenced (ro : Option Nat) (P : Program) : Machine.fenced P (RF ro) = Machine.fenced P Fence.wide := by cases ro <;> rfl
theorem RF.rows {ro : Option Nat} {P : Program} {r : String} {args : Array Value} {w : World} {R : Value → World → Prop} (h : Go.Rows P r args w R) (n : Nat) : RowsIn (RF ro) n P r args w R :=
  fun c cs _ => let ⟨v, w', hr, hs⟩ := h c cs; ⟨v, w', hr, by rw [RF.fenced]; exact stepsIn_wide.2 hs⟩

def noDefer (o : Oper) : Bool := match o.op with | .defer _ => false | _ => true
theorem noDefer_spec {o : Oper} (h : noDefer o = true) : ∀ c, o.op ≠ .defer c := by
  intro c e
  simp [noDefer, e] at h

theorem opIn {ro : Option Nat} {P : Program} {o : Oper} {a : Act} {w : World} {K K' : Act → World → Prop} {Q1 Q : Exit → Act → World → Prop} (hd : noDefer o = true)
    (h : o.wp P a w K Q1) (hK : ∀ a w, K a w → K' a w) (hQ : ∀ e a w, e ≠ .normal → ¬ Q1 e a w) : o.wpIn (RF ro) 0 P a w K' Q := by
  refine ⟨fun f _ => RF.fn ro f, ?_⟩
  rw [Oper.semAt_eq _ _ _ (noDefer_spec hd)]
  unfold Oper.wp at h
  generalize (execOp a.eval o).run P w = r at h
  cases r with
  | ok x w' =>
    cases x with
    | value v => exact hK _ _ h
    | skip => exact hK _ _ h
    | defer d => exact hK _ _ h
    | enter f args =>
      refine ⟨fun h => RF.depth ro h, (RF.calls (ro := ro) (show Calls P f args w' _ from h) _).mono ?_⟩
      intro e w'' he
      cases e with
      | returned v => exact hK _ _ he
      | panicked chain => exact absurd he (hQ _ _ _ (by simp))
      | outgrown => obtain ⟨a0, w0, h0⟩ := he; exact absurd h0 (hQ _ _ _ (by simp))
    | row r args =>
      refine ⟨fun h => RF.depth ro h, (RF.rows (ro := ro) (show Go.Rows P r args w' _ from h) _).mono ?_⟩
      intro v w'' he
      exact hK _ _ he
    | _ => exact h.elim
  | halt x w' =>
    cases x with
    | panic v => exact absurd (show Q1 (.panic [{ v, recovered := false }]) a w' from h) (hQ _ _ _ (by simp))
    | _ => exact h.elim

theorem wpListIn_pre {ro : Option Nat} {P : Program} {ops : Array Oper} {Q1 Q : Exit → Act → World → Prop} (l2 : List Oper) (hQ : ∀ e a w, e ≠ .normal → ¬ Q1 e a w) (h2 : ∀ a w, Q1 .normal a w → wpListIn (RF ro) 0 P ops Q l2 a w) :
    ∀ (l1 : List Oper) (a : Act) (w : World), l1.all noDefer = true → wpList P ops Q1 l1 a w → wpListIn (RF ro) 0 P ops Q (l1 ++ l2) a w
  | [], a, w, _, h => h2 a w h
  | o :: l1, a, w, hd, h => by
    simp only [List.all_cons, Bool.and_eq_true] at hd
    unfold wpList at h
    simp only [List.cons_append]
    unfold wpListIn
    split at h
    · rename_i hw
      rw [if_pos hw]
      rcases h with h | ⟨_, a0, w0, h0⟩
      · exact opIn hd.1 h (fun a w hk => wpListIn_pre l2 hQ h2 l1 a w hd.2 hk) hQ
      · exact absurd h0 (hQ _ _ _ (by simp))
    · rename_i hw
      rw [if_neg hw]
      exact ⟨fun f _ => RF.fn ro f, wpListIn_pre l2 hQ h2 l1 _ w hd.2 h⟩

/-- What the rest of a region does to a state, in a round or not. -/
def TrLI (ro : Option Nat) (P : Program) (cx : Cx) (n : Nat) (ops : Array Oper) (l : List Oper) (st : St) (Q : Post) : Prop :=
  ∀ a w, SRel cx n st a w → wpListIn (RF ro) 0 P ops (lift cx n Q) l a w
def TrI (ro : Option Nat) (P : Program) (cx : Cx) (n : Nat) (c : Code) (st : St) (Q : Post) : Prop :=
  ∀ a w, SRel cx n st a w → c.wpIn (RF ro) 0 P (lift cx n Q) a w

section
variable {ro : Option Nat} {P : Program} {cx : Cx} {n : Nat} {st : St} {Q : Post} {ops : Array Oper} {l : List Oper}
theorem TrLI.of (k : Nat) (hd : (l.take k).all noDefer = true) (h : TrL P cx n ops (l.take k) st (fun e st' => e = .normal ∧ TrLI ro P cx n ops (l.drop k) st' Q)) : TrLI ro P cx n ops l st Q := by
  intro a w hs
  have := wpListIn_pre (ro := ro) (Q := lift cx n Q) (l.drop k) (fun e a w he ⟨st', h1, _⟩ => he h1.1) (fun a w ⟨st', h1, h2⟩ => h1.2 a w h2) (l.take k) a w hd (h a w hs)
  rwa [List.take_append_drop] at this
theorem TrLI.nil (h : Q .normal st) : TrLI ro P cx n ops [] st Q := fun a w hs => wpListIn_nil ⟨st, h, hs⟩
theorem TrLI.all (hd : l.all noDefer = true) (h : TrL P cx n ops l st (fun e st' => e = .normal ∧ Q .normal st')) : TrLI ro P cx n ops l st Q := by
  intro a w hs
  have := wpListIn_pre (ro := ro) (Q := lift cx n Q) [] (fun e a w he ⟨st', h1, _⟩ => he h1.1) (fun a w ⟨st', h1, h2⟩ => wpListIn_nil ⟨st', h1.2, h2⟩) l a w hd (h a w hs)
  rwa [List.append_nil] at this
theorem TrI.region {id : Nat} (h : TrLI ro P cx n ops ops.toList st Q) : TrI ro P cx n (.region id ops false) st Q := fun a w hs => wpIn_region_list (h a w hs)
theorem TrI.seq {x y : Code} (h : TrI ro P cx n x st (fun e st' => e = .normal ∧ TrI ro P cx n y st' Q)) : TrI ro P cx n (.seq x y) st Q := by
  intro a w hs
  refine wpIn_seq (wpIn_mono (h a w hs) fun e a' w' ⟨st', ⟨he, h1⟩, h2⟩ => ?_)
  subst he
  exact h1 a' w' h2
theorem TrI.block {id : Nat} {c : Code} (h : TrI ro P cx n c st (fun e st' => e = .normal ∧ Q .normal st')) : TrI ro P cx n (.block id c) st Q := by
  intro a w hs
  refine wpIn_block (wpIn_mono (h a w hs) fun e a' w' ⟨st', ⟨he, h1⟩, h2⟩ => ?_)
  subst he
  exact ⟨st', h1, h2⟩
theorem Tr.ofI {c : Code} (h : TrI none P cx n c st Q) : Tr P cx n c st Q := fun a w hs => wpIn_wide.1 (h a w hs)
theorem Tr.regionI {id : Nat} (h : TrLI none P cx n ops ops.toList st Q) : Tr P cx n (.region id ops false) st Q := Tr.ofI (TrI.region h)
end

/-! ### A call of yield -/
/-- A call of a loop's yield: it yields true; the entries are turned. -/
def YieldT (P : Program) (cx : Cx) (l : Nat) (args : List SV) (tab tab' : List Ent) : Prop :=
  ∀ (σ : Mem) (ρ : Rho) (w : World) (vs : List Value), WR cx σ ρ tab w → SV.denL σ ρ args vs →
    YieldAt Fence.wide 0 P l vs.toArray w fun e w' => e = .returned (.bool true) ∧ ∃ τ ρ', σ.le τ ∧ WR cx τ ρ' tab' w'

theorem TrLI.yield {P : Program} {cx : Cx} {n : Nat} {ops : Array Oper} {o : Oper} {rest : List Oper} {env : Env} {tab tab' : List Ent} {Q : Post} {c : Call} {x : Operand} {l d : Nat} {args : List SV} (p : Nat → Bool) (hp : ∀ i, p i = true → cx.B i = true)
    (hg : o.guard = none) (ho : o.op = .call c) (hdst : o.dst = some d) (hc : c.callee = .value x) (hx : opnd env [] x = some (.yv l)) (ha : opnds env [] c.args.toList = some args) (hd : (decide (d < n) && okPut env d) = true)
    (hy : YieldT P cx l args tab tab') (k : TrLI none P cx n ops rest ⟨put (cleanE p env) d [] (.val .bool true), tab'⟩ Q) : TrLI none P cx n ops (o :: rest) ⟨env, tab⟩ Q := by
  intro a w hs
  obtain ⟨σ, ρ, hw, he, hn, hdf⟩ : ∃ σ ρ, WR cx σ ρ tab w ∧ EnvA σ ρ env a ∧ a.tmps.size = n ∧ a.defers = cx.ds := hs
  simp only [Bool.and_eq_true, decide_eq_true_eq] at hd
  refine wpListIn_plain hg fun K hK => ⟨fun f _ => trivial, ?_⟩
  have hxv := opnd_den (known := []) he (fun p hp => by cases hp) hx
  simp only [SV.den] at hxv
  have hav := opnds_den (known := []) he (fun p hp => by cases hp) _ _ ha
  obtain ⟨fn, tmps, assign, body, hrun, hround⟩ := hy σ ρ w _ hw hav
  have hargs := arrMap a.eval c.args
  have e1 : ((Oper.semAt (RF none).round a.eval o).run P w) = .ok (.round l fn tmps assign body) w := by
    show (execOp a.eval o).run P w = _
    rw [← hrun]
    simp only [execOp, ho, resolve, hc, hxv, Deferred.ofValue, invoke, Sem.run_bind, Sem.run_pure, Result.andThen_ok, hargs, List.append_toArray]
    simp
  rw [e1]
  refine ⟨fun h => RF.depth none h, hround.mono ?_⟩
  rintro e w' ⟨rfl, τ, ρ', hle, hwr⟩
  refine hK _ _ (k _ _ ⟨τ, ρ', hwr, ?_, by rw [put_size]; exact hn, by rw [put_defers]; exact hdf⟩)
  rw [hdst]
  have hρ : ∀ i, p i = true → ρ' i = ρ i := fun i hi => (hwr.keepρ i (hp i hi)).trans (hw.keepρ i (hp i hi)).symm
  exact ((he.clean p hρ).grow hle).put (okPut_clean hd.2) (by rw [hn]; exact hd.1) rfl (fun _ => by simp [SV.den, Den]) (fun h => absurd (fun p hp => by cases hp) h)

end Go.Proofs.YteiickhgmmjcmaaGreatDoor.Sx
