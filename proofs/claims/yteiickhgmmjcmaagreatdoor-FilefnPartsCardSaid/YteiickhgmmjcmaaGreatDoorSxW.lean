/-
  Regions that draw their order and hold operations that turn memory: what looks at no memory is taken first, the rest in each order that may be.
-/
import Derived.Test.YteiickhgmmjcmaaGreatDoorSxV
set_option linter.unusedVariables false
set_option linter.unusedSimpArgs false
namespace Go.Proofs.YteiickhgmmjcmaaGreatDoor.Sx
open Go Go.RowKit

/-- No way out by a panic. -/
def calm (Q : Exit → Act → World → Prop) : Exit → Act → World → Prop
  | .panic _, _, _ => False
  | e, a, w => Q e a w
theorem calm_imp {Q : Exit → Act → World → Prop} : ∀ (e : Exit) (a : Act) (w : World), calm Q e a w → Q e a w := fun e a w h => by
  cases e <;> first | exact h | exact (h : False).elim
/-- What is left of such a region, from a state on. -/
def TrA (P : Program) (cx : Cx) (n : Nat) (ops : Array Oper) (fuel : Nat) (listed : Array Bool) (st : St) (Q : Post) : Prop :=
  ∀ a w, SRel cx n st a w → wpAny P .any ops (calm (lift cx n Q)) fuel listed a w
def nextQ (P : Program) (cx : Cx) (n : Nat) (ops : Array Oper) (fuel : Nat) (listed : Array Bool) (Q : Post) : Post := fun e st => match e with
  | .normal => TrA P cx n ops fuel listed st Q
  | .panic _ => False
  | .exit i => Q (.exit i) st
  | .goto l => Q (.goto l) st
  | .ret => Q .ret st
  | .outgrown => Q .outgrown st
variable {P : Program} {cx : Cx} {n : Nat} {ops : Array Oper} {Q : Post}
theorem Tr.drawA {id : Nat} {st : St} (m : Nat) (hsz : ops.size = m) (hm : P.follows .mixedOrders = true) (h : TrA P cx n ops m (Array.replicate m false) st Q) : Tr P cx n (.region id ops true) st Q := by
  subst hsz
  intro a w hs
  refine Code.wp_mono (Q := calm (lift cx n Q)) calm_imp ?_
  refine wp_region_any hm (h a _ ?_)
  obtain ⟨σ, ρ, hw, he, hn, hd⟩ := hs
  exact ⟨σ, ρ, hw.drewN 1, he, hn, hd⟩
theorem TrA.done {fuel : Nat} {listed : Array Bool} {st : St} (hr : Region.ready .any ops listed = []) (h : Q .normal st) : TrA P cx n ops fuel listed st Q := by
  intro a w hs
  cases fuel with
  | zero => exact ⟨hr, st, h, hs⟩
  | succ f => exact ⟨fun _ => ⟨st, h, hs⟩, by rw [hr]; simp⟩
/-- One of those that may come now: it is walked by itself. -/
theorem wpOp_of_TrL {i fuel : Nat} {listed : Array Bool} {st : St} {o : Oper} (ho : ops[i]? = some o) (h : TrL P cx n ops [o] st (nextQ P cx n ops fuel listed Q)) {a : Act} {w : World} (hs : SRel cx n st a w) :
    wpOp P ops (calm (lift cx n Q)) i (wpAny P .any ops (calm (lift cx n Q)) fuel listed) a w := by
  have h1 := h a w hs
  have hk : ∀ a w, wpList P ops (lift cx n (nextQ P cx n ops fuel listed Q)) [] a w → wpAny P .any ops (calm (lift cx n Q)) fuel listed a w := by
    rintro a w ⟨st', h2, h3⟩
    exact h2 a w h3
  have hq : ∀ e a w, e ≠ .normal → lift cx n (nextQ P cx n ops fuel listed Q) e a w → calm (lift cx n Q) e a w := by
    rintro e a w hne ⟨st', h2, h3⟩
    cases e <;> first | exact absurd rfl hne | exact (h2 : False).elim | exact ⟨st', h2, h3⟩
  unfold wpList at h1
  unfold wpOp
  simp only [ho]
  split at h1
  · rename_i hwant
    rw [if_pos hwant]
    rcases h1 with h1 | ⟨h1, a', w', h2⟩
    · left
      unfold Oper.wp at h1 ⊢
      generalize (execOp a.eval o).run P w = r at *
      cases r with
      | ok nx w' =>
        cases nx <;> simp only [Oper.upon] at h1 ⊢
        case enter f args =>
          refine Calls.mono h1 fun e w'' he => ?_
          cases e with
          | returned v => exact hk _ _ he
          | panicked c => exact hq _ _ _ (by simp) he
          | outgrown => obtain ⟨a', w', he⟩ := he; exact ⟨a', w', hq _ _ _ (by simp) he⟩
        case row row args => exact Go.Rows.mono h1 (fun _ _ he => hk _ _ he)
        all_goals exact hk _ _ h1
      | halt x w' => cases x <;> simp only [Oper.upon] at h1 ⊢ <;> first | exact hq _ _ _ (by simp) h1 | exact h1
    · exact .inr ⟨h1, a', w', hq _ _ _ (by simp) h2⟩
  · rename_i hwant
    rw [if_neg hwant]
    exact hk _ _ h1
theorem TrA.one {fuel : Nat} {listed : Array Bool} {st : St} (i : Nat) {o : Oper} (hr : Region.ready .any ops listed = [i]) (ho : ops[i]? = some o)
    (h : TrL P cx n ops [o] st (nextQ P cx n ops fuel (listed.setIfInBounds i true) Q)) : TrA P cx n ops (fuel + 1) listed st Q := by
  intro a w hs
  refine ⟨fun h0 => (by rw [hr] at h0; cases h0), fun j hj => ?_⟩
  rw [hr] at hj
  obtain rfl := List.mem_singleton.1 hj
  exact wpOp_of_TrL ho h hs
theorem TrA.two {fuel : Nat} {listed : Array Bool} {st : St} (i j : Nat) {o o' : Oper} (hr : Region.ready .any ops listed = [i, j]) (ho : ops[i]? = some o) (ho' : ops[j]? = some o')
    (h : TrL P cx n ops [o] st (nextQ P cx n ops fuel (listed.setIfInBounds i true) Q)) (h' : TrL P cx n ops [o'] st (nextQ P cx n ops fuel (listed.setIfInBounds j true) Q)) : TrA P cx n ops (fuel + 1) listed st Q := by
  intro a w hs
  refine ⟨fun h0 => (by rw [hr] at h0; cases h0), fun k hk => ?_⟩
  rw [hr] at hk
  simp only [List.mem_cons, List.not_mem_nil, or_false] at hk
  rcases hk with rfl | rfl
  · exact wpOp_of_TrL ho h hs
  · exact wpOp_of_TrL ho' h' hs
theorem TrA.three {fuel : Nat} {listed : Array Bool} {st : St} (i j k : Nat) {o o' o'' : Oper} (hr : Region.ready .any ops listed = [i, j, k]) (ho : ops[i]? = some o) (ho' : ops[j]? = some o') (ho'' : ops[k]? = some o'')
    (h : TrL P cx n ops [o] st (nextQ P cx n ops fuel (listed.setIfInBounds i true) Q)) (h' : TrL P cx n ops [o'] st (nextQ P cx n ops fuel (listed.setIfInBounds j true) Q))
    (h'' : TrL P cx n ops [o''] st (nextQ P cx n ops fuel (listed.setIfInBounds k true) Q)) : TrA P cx n ops (fuel + 1) listed st Q := by
  intro a w hs
  refine ⟨fun h0 => (by rw [hr] at h0; cases h0), fun x hk => ?_⟩
  rw [hr] at hk
  simp only [List.mem_cons, List.not_mem_nil, or_false] at hk
  rcases hk with rfl | rfl | rfl
  · exact wpOp_of_TrL ho h hs
  · exact wpOp_of_TrL ho' h' hs
  · exact wpOp_of_TrL ho'' h'' hs
/-- What looks at no memory, taken first. -/
theorem TrA.take {fuel : Nat} {listed : Array Bool} {env env' : Env} {tab : List Ent} {c : Option Prop} (i : Nat) {o : Oper} (ho : ops[i]? = some o) (hp : pureOp o.op = true)
    (hB : (Region.noSelect ops && Region.free .any ops listed i && (Region.ready .any ops listed).contains i) = true) (hq : quietE P n ops env tab o = some (c, env')) (hc : holds c)
    (k : TrA P cx n ops fuel (listed.setIfInBounds i true) ⟨env', tab⟩ Q) : TrA P cx n ops (fuel + 1) listed ⟨env, tab⟩ Q := by
  intro a w hs
  simp only [Bool.and_eq_true] at hB
  obtain ⟨⟨hB1, hB2⟩, hB3⟩ := hB
  obtain ⟨σ, ρ, hw, he, hn, hd⟩ := hs
  have her := he.env
  have hQ : ∀ v c a w, calm (lift cx n Q) (.panic c) (a.put o.dst v) w → calm (lift cx n Q) (.panic c) a w := fun v c a w h => h
  have h := quietE_step hq
  unfold quietStep at h
  split at h
  · rename_i known hg
    split at h
    · rename_i c0 s hq
      have hwant := wanted_iff her hg
      have hrun : fits a known → holds c0 → ∃ v, (∀ w', (execOp a.eval o).run P w' = .ok (.value v) w') ∧ SV.den σ ρ s v := fun hf hc0 => let ⟨v, h1, h2⟩ := quietOp_sound hw her hf hq hc0; ⟨v, fun w' => h1 w' (.inl hp), h2⟩
      split at h
      · rename_i bs hbs
        split at h
        · rename_i d hdst
          split at h
          · rename_i hlt
            simp only [Option.some.injEq, Prod.mk.injEq, St.mk.injEq, and_true] at h
            obtain ⟨rfl, rfl⟩ := h
            by_cases hf : fits a known
            · have hc0 : holds c0 := by
                cases c0 with
                | none => trivial
                | some p => exact gd_holds her known bs p hbs hc hf
              obtain ⟨v, hv, hdv⟩ := hrun hf hc0
              refine wpAny_take (v := v) ho hB1 hB2 hB3 (hQ v) (.inl ⟨hwant.2 hf, hv⟩) (k _ _ ⟨σ, ρ, hw, ?_, by rw [put_size]; exact hn, by rw [put_defers]; exact hd⟩)
              rw [hdst]
              exact he.put hlt.2.2 (by rw [hn]; exact hlt.1) hlt.2.1 (fun _ => hdv) (fun h => absurd hf h)
            · have hnw : Region.wanted o (yielded ops a.tmps) = false := by
                rw [Bool.eq_false_iff]
                exact fun h => hf (hwant.1 h)
              refine wpAny_take (v := undef) ho hB1 hB2 hB3 (hQ undef) (.inr ⟨hnw, rfl⟩) (k _ _ ⟨σ, ρ, hw, ?_, by rw [put_size]; exact hn, by rw [put_defers]; exact hd⟩)
              rw [hdst]
              exact he.put hlt.2.2 (by rw [hn]; exact hlt.1) hlt.2.1 (fun h => absurd h hf) (fun _ => rfl)
          · cases h
        · rename_i hdst
          simp only [Option.some.injEq, Prod.mk.injEq, St.mk.injEq, and_true] at h
          obtain ⟨rfl, rfl⟩ := h
          have hput : ∀ v, a.put o.dst v = a := fun v => by rw [hdst]; rfl
          by_cases hf : fits a known
          · have hc0 : holds c0 := by
              cases c0 with
              | none => trivial
              | some p => exact gd_holds her known bs p hbs hc hf
            obtain ⟨v, hv, hdv⟩ := hrun hf hc0
            refine wpAny_take (v := v) ho hB1 hB2 hB3 (hQ v) (.inl ⟨hwant.2 hf, hv⟩) ?_
            rw [hput]
            exact k _ _ ⟨σ, ρ, hw, he, hn, hd⟩
          · have hnw : Region.wanted o (yielded ops a.tmps) = false := by
              rw [Bool.eq_false_iff]
              exact fun h => hf (hwant.1 h)
            refine wpAny_take (v := undef) ho hB1 hB2 hB3 (hQ undef) (.inr ⟨hnw, rfl⟩) ?_
            rw [hput]
            exact k _ _ ⟨σ, ρ, hw, he, hn, hd⟩
      · cases h
    · cases h
  · cases h

/-! ### Two entries change their numbers -/
def swp (i j k : Nat) : Nat := if k = i then j else if k = j then i else k
theorem swp_swp (i j k : Nat) : swp i j (swp i j k) = k := by
  unfold swp
  by_cases h1 : k = i
  · rw [if_pos h1]
    by_cases h2 : j = i
    · rw [if_pos h2]; omega
    · rw [if_neg h2, if_pos rfl, h1]
  · rw [if_neg h1]
    by_cases h2 : k = j
    · rw [if_pos h2, if_pos rfl, h2]
    · rw [if_neg h2, if_neg h1, if_neg h2]
def swapE (i j : Nat) (env : Env) : Env := env.map fun x => (x.1, x.2.1, x.2.2.ren (swp i j))
def swapT (i j : Nat) (tab : List Ent) : List Ent := (List.range tab.length).map fun k => (tab.getD (swp i j k) .gone).ren (swp i j)
theorem swapE_look {i j : Nat} : ∀ (env : Env) (s : Nat) ch sv, look (swapE i j env) s = some (ch, sv) → ∃ sv0, look env s = some (ch, sv0) ∧ sv = sv0.ren (swp i j)
  | [], s, ch, sv, h => by simp [swapE, look] at h
  | (s0, c0, v0) :: r, s, ch, sv, h => by
    simp only [swapE, List.map_cons, look] at h ⊢
    split at h
    · rename_i he
      simp only [Option.some.injEq, Prod.mk.injEq] at h
      rw [if_pos he]
      exact ⟨v0, by rw [h.1], h.2.symm⟩
    · rename_i he
      rw [if_neg he]
      exact swapE_look r s ch sv h
theorem SRel.swap {env : Env} {tab : List Ent} {a : Act} {w : World} (i j : Nat) (hi : (decide (i < tab.length) && decide (j < tab.length) && !isBoxAt tab i && !isBoxAt tab j) = true) (h : SRel cx n ⟨env, tab⟩ a w) : SRel cx n ⟨swapE i j env, swapT i j tab⟩ a w := by
  obtain ⟨σ, ρ, hw, he, hn, hd⟩ : ∃ σ ρ, WR cx σ ρ tab w ∧ EnvA σ ρ env a ∧ a.tmps.size = n ∧ a.defers = cx.ds := h
  simp only [Bool.and_eq_true, decide_eq_true_eq, Bool.not_eq_true'] at hi
  obtain ⟨⟨⟨hi1, hi2⟩, hi3⟩, hi4⟩ := hi
  have hρ : (fun k => (fun k => ρ (swp i j k)) (swp i j k)) = ρ := by funext k; simp only [swp_swp]
  have hlt : ∀ k, k < tab.length → swp i j k < tab.length := fun k hk => by
    unfold swp
    split
    · exact hi2
    · split
      · exact hi1
      · exact hk
  have hget : ∀ (k : Nat) e, (swapT i j tab)[k]? = some e → ∃ e0, tab[swp i j k]? = some e0 ∧ e = e0.ren (swp i j) := by
    intro k e hk
    simp only [swapT, List.getElem?_map] at hk
    rcases Nat.lt_or_ge k tab.length with h | h
    · rw [List.getElem?_range h] at hk
      simp only [Option.map_some, Option.some.injEq] at hk
      refine ⟨_, List.getElem?_eq_getElem (hlt k h), ?_⟩
      rw [← hk]
      simp [List.getD_eq_getElem?_getD, List.getElem?_eq_getElem (hlt k h)]
    · rw [List.getElem?_eq_none (by simpa using h)] at hk
      cases hk
  have hrel : ∀ (k : Nat) (e0 : Ent), (e0.ren (swp i j)).at_ (fun k => ρ (swp i j k)) k = e0.at_ ρ (swp i j k) := by
    intro k e0
    have := blk_ren (ρ := fun k => ρ (swp i j k)) (m := swp i j) (i := swp i j k) e0
    rw [swp_swp, hρ] at this
    exact this
  refine ⟨σ, fun k => ρ (swp i j k), ⟨hw.sub, fun k e hk => ?_, fun k k' e e' b hk hk' hb hb' => ?_, hw.os, hw.tape, hw.output, hw.size, hw.old, hw.le, hw.new, fun k e b hk hb => ?_, hw.glob, fun k hk => ?_, fun k hk => ?_⟩, fun s ch sv hl => ?_, hn, hd⟩
  · obtain ⟨e0, h0, rfl⟩ := hget k e hk
    have := (rel_ren (σ := σ) (ρ := fun k => ρ (swp i j k)) (w := w) (m := swp i j) (i := swp i j k) e0)
    rw [swp_swp, hρ] at this
    exact this.2 (hw.ent _ _ h0)
  · obtain ⟨e0, h0, rfl⟩ := hget k e hk
    obtain ⟨e1, h1, rfl⟩ := hget k' e' hk'
    rw [hrel] at hb hb'
    have := hw.dis _ _ _ _ b h0 h1 hb hb'
    have h2 := congrArg (swp i j) this
    rwa [swp_swp, swp_swp] at h2
  · obtain ⟨e0, h0, rfl⟩ := hget k e hk
    rw [hrel] at hb
    exact hw.live _ _ b h0 hb
  · obtain ⟨tt, cs, hcs⟩ := hw.isb k hk
    have hki : swp i j k = k := by
      unfold swp
      rw [if_neg (fun e => by subst e; simp [isBoxAt, hcs] at hi3), if_neg (fun e => by subst e; simp [isBoxAt, hcs] at hi4)]
    simp only [hki]
    exact hw.keepρ k hk
  · obtain ⟨tt, cs, hcs⟩ := hw.isb k hk
    have hki : swp i j k = k := by
      unfold swp
      rw [if_neg (fun e => by subst e; simp [isBoxAt, hcs] at hi3), if_neg (fun e => by subst e; simp [isBoxAt, hcs] at hi4)]
    have hkl := (List.getElem?_eq_some_iff.1 hcs).1
    refine ⟨tt, SV.renL (swp i j) cs, ?_⟩
    simp only [swapT, List.getElem?_map, List.getElem?_range hkl, Option.map_some, hki]
    simp [List.getD_eq_getElem?_getD, hcs, Ent.ren]
  · obtain ⟨sv0, h1, rfl⟩ := swapE_look _ _ _ _ hl
    obtain ⟨g1, g2⟩ := he s ch sv0 h1
    refine ⟨fun hf => ?_, g2⟩
    obtain ⟨v, hv, hdv⟩ := g1 hf
    refine ⟨v, hv, ?_⟩
    rw [den_ren, hρ]
    exact hdv
theorem Tr.swap {env : Env} {tab : List Ent} {c : Code} (i j : Nat) (hi : (decide (i < tab.length) && decide (j < tab.length) && !isBoxAt tab i && !isBoxAt tab j) = true) (h : Tr P cx n c ⟨swapE i j env, swapT i j tab⟩ Q) : Tr P cx n c ⟨env, tab⟩ Q :=
  Tr.of h fun a w hs => hs.swap i j hi
theorem TrL.swap {env : Env} {tab : List Ent} {l : List Oper} (i j : Nat) (hi : (decide (i < tab.length) && decide (j < tab.length) && !isBoxAt tab i && !isBoxAt tab j) = true) (h : TrL P cx n ops l ⟨swapE i j env, swapT i j tab⟩ Q) : TrL P cx n ops l ⟨env, tab⟩ Q :=
  TrL.of h fun a w hs => hs.swap i j hi
/-- The state told in another way. -/
theorem Tr.eqS {st st' : St} {c : Code} (e : st = st') (h : Tr P cx n c st' Q) : Tr P cx n c st Q := e ▸ h
theorem TrL.eqS {st st' : St} {l : List Oper} (e : st = st') (h : TrL P cx n ops l st' Q) : TrL P cx n ops l st Q := e ▸ h
/-- A call under a guard that is lent entries, and leaves them as they were. -/
theorem TrL.callTG {o : Oper} {l : List Oper} {env : Env} {tab : List Ent} {c : Call} {f : Nat} {args args' : List SV} {L L' : List Ent} {r : SV} {d : Nat} {known : Chain} (m : List Nat)
    (ho : o.op = .call c) (hdst : o.dst = some d) (hg : guardOf ops env o = some known) (hc : callee env tab known c = some (f, args')) (hd : (decide (d < n) && known.all (fun p => p.1 != d) && okPut env d) = true) (hcall : CallT P f args L r L')
    (hargs : args' = SV.renL (mu m tab.length) args) (hL : lentOk tab m L) (hm : (decide m.Nodup && m.all (fun j => decide (j < tab.length))) = true) (hT : mergeTab tab m L' = tab)
    (k : TrL P cx n ops l ⟨put (cleanE (keepP tab m) env) d known (r.ren (mu m tab.length)), tab⟩ Q) : TrL P cx n ops (o :: l) ⟨env, tab⟩ Q := by
  intro a w hs
  obtain ⟨σ, ρ, hw, he, hn, hdf⟩ : ∃ σ ρ, WR cx σ ρ tab w ∧ EnvA σ ρ env a ∧ a.tmps.size = n ∧ a.defers = cx.ds := hs
  simp only [Bool.and_eq_true, decide_eq_true_eq, List.all_eq_true] at hm
  simp only [Bool.and_eq_true, decide_eq_true_eq] at hd
  obtain ⟨hlen, hL'⟩ := lentOk_get hL
  have hwant := wanted_iff he.env hg
  refine wpList_step fun K hK => ?_
  by_cases hf : fits a known
  · rw [if_pos (hwant.2 hf)]
    obtain ⟨vs, h1, h2⟩ := callee_run (P := P) hw he hf ho hc
    unfold Oper.wp
    rw [h2 w, hcall.1]
    rw [hargs, denL_ren] at h1
    refine (hcall.2.2 _ σ _ w vs (hw.lend hm.1 hlen hL') (fun i => rfl) h1).mono ?_
    rintro e w' ⟨v, τ, ρ', rfl, hle, hwr, hden⟩
    obtain ⟨hwm, hkeep⟩ := hw.merge hm.1 hm.2 hlen hcall.2.1 hL' hwr
    rw [hT] at hwm
    refine hK _ _ (k _ _ ⟨τ, _, hwm, ?_, by rw [put_size]; exact hn, by rw [put_defers]; exact hdf⟩)
    rw [hdst]
    refine ((he.clean _ hkeep).grow hle).put (okPut_clean hd.2) (by rw [hn]; exact hd.1.1) hd.1.2 (fun _ => ?_) (fun h => absurd hf h)
    rw [den_ren, rhoM_mu' hm.1 hm.2]
    exact hden
  · rw [if_neg (fun h => hf (hwant.1 h))]
    refine hK _ _ (k _ _ ⟨σ, ρ, hw, ?_, by rw [put_size]; exact hn, by rw [put_defers]; exact hdf⟩)
    rw [hdst]
    exact (he.clean _ (fun _ _ => rfl)).put (okPut_clean hd.2) (by rw [hn]; exact hd.1.1) hd.1.2 (fun h => absurd h hf) (fun _ => rfl)
theorem SRel.isC {env : Env} {tab : List Ent} {a : Act} {w : World} (d : Nat) {ch : Chain} {sv sv' : SV} (hl : look env d = some (ch, sv)) (e : sv = sv') (h : SRel cx n ⟨env, tab⟩ a w) : SRel cx n ⟨(d, ch, sv') :: env, tab⟩ a w := by
  obtain ⟨σ, ρ, hw, he, hn, hd⟩ : ∃ σ ρ, WR cx σ ρ tab w ∧ EnvA σ ρ env a ∧ a.tmps.size = n ∧ a.defers = cx.ds := h
  subst e
  refine ⟨σ, ρ, hw, ?_, hn, hd⟩
  intro s ch' v hl'
  simp only [look] at hl'
  split at hl'
  · rename_i hs
    simp only [beq_iff_eq] at hs
    subst hs
    obtain ⟨rfl, rfl⟩ : ch = ch' ∧ sv = v := by simpa using hl'
    exact he d ch _ hl
  · exact he s ch' v hl'
/-- A value under a guard told in another way. -/
theorem TrL.isC {env : Env} {tab : List Ent} {l : List Oper} (d : Nat) {ch : Chain} {sv sv' : SV} (hl : look env d = some (ch, sv)) (e : sv = sv') (h : TrL P cx n ops l ⟨(d, ch, sv') :: env, tab⟩ Q) : TrL P cx n ops l ⟨env, tab⟩ Q :=
  TrL.of h fun a w hs => hs.isC d hl e
/-- Ways that come together ahead of what stands behind. -/
theorem Tr.joinN {α : Type} {x y : Code} {st : St} (S : α → St) (I : α → Prop) (slots : List Nat) (k : Nat) (hB : ∀ i, cx.B i = true → i < k) (h1 : Tr P cx n x st (joinQ S I slots k Q)) (h2 : ∀ a, I a → Tr P cx n y (S a) Q) : Tr P cx n x st (thenQ P cx n y Q) := by
  refine h1.mono fun e st' h => ?_
  cases e with
  | normal =>
    obtain ⟨a, hI, hk⟩ := h
    exact Tr.keep (env := st'.env) (tab := st'.tab) slots k hB hk (h2 a hI)
  | _ => exact h
/-- Guards that are known. -/
def openB (env : Env) : Chain → Bool
  | [] => true
  | p :: r => (match look env p.1 with | some ([], .val .bool b) => b == p.2 | _ => false) && openB env r
theorem openB_fits {σ : Mem} {ρ : Rho} {env : Env} {a : Act} (he : EnvR σ ρ env a) : ∀ (ch : Chain), openB env ch = true → fits a ch
  | [], _ => fun p hp => by cases hp
  | q :: r, h => by
    simp only [openB, Bool.and_eq_true] at h
    intro p hp
    rcases List.mem_cons.1 hp with rfl | hp
    · have h1 := h.1
      split at h1
      · rename_i b hl
        obtain ⟨v, hv, hd⟩ := (he p.1 [] _ hl).1 (fun p hp => by cases hp)
        simp only [SV.den, Den, List.cons.injEq, and_true] at hd
        rw [hv, hd, beq_iff_eq.1 h1]
      · cases h1
    · exact openB_fits he r h.2 p hp
theorem SRel.known {env : Env} {tab : List Ent} {a : Act} {w : World} (d : Nat) {ch : Chain} {sv : SV} (hl : look env d = some (ch, sv)) (hk : openB env ch = true) (h : SRel cx n ⟨env, tab⟩ a w) : SRel cx n ⟨(d, [], sv) :: env, tab⟩ a w := by
  obtain ⟨σ, ρ, hw, he, hn, hd⟩ : ∃ σ ρ, WR cx σ ρ tab w ∧ EnvA σ ρ env a ∧ a.tmps.size = n ∧ a.defers = cx.ds := h
  refine ⟨σ, ρ, hw, ?_, hn, hd⟩
  intro s ch' v hl'
  simp only [look] at hl'
  split at hl'
  · rename_i hs
    simp only [beq_iff_eq] at hs
    subst hs
    obtain ⟨rfl, rfl⟩ : [] = ch' ∧ sv = v := by simpa using hl'
    exact ⟨fun _ => (he d ch _ hl).1 (openB_fits he.env ch hk), fun hf => absurd (fun p hp => by cases hp) hf⟩
  · exact he s ch' v hl'
theorem TrL.known {env : Env} {tab : List Ent} {l : List Oper} (d : Nat) {ch : Chain} {sv : SV} (hl : look env d = some (ch, sv)) (hk : openB env ch = true) (h : TrL P cx n ops l ⟨(d, [], sv) :: env, tab⟩ Q) : TrL P cx n ops l ⟨env, tab⟩ Q :=
  TrL.of h fun a w hs => hs.known d hl hk
end Go.Proofs.YteiickhgmmjcmaaGreatDoor.Sx
