/-
  A range over a function of two, in a function that is lent entries.
-/
import Derived.Test.YteiickhgmmjcmaaGreatDoorM5
set_option linter.unusedVariables false
set_option linter.unusedSimpArgs false
namespace Go.Proofs.YteiickhgmmjcmaaGreatDoor.Sx
open Go Go.RowKit

theorem WR.loose2 {w0 w : World} {σ σ0 : Mem} {ρ : Rho} {tab : List Ent} {R R' : Nat → Prop} {ρ0 : Rho} {B B' : Nat → Bool} {ds ds' : List Deferred} (h : WR ⟨w0, σ0, R, ρ0, B, ds⟩ σ ρ tab w) (hR : ∀ b, R b → R' b) (hB : ∀ i, B' i = true → B i = true) : WR ⟨w0, σ0, R', ρ0, B', ds'⟩ σ ρ tab w :=
  ⟨h.sub, h.ent, h.dis, h.os, h.tape, h.output, h.size, fun k hk hr => h.old k hk (fun x => hr (hR k x)), h.le, fun a v ha => (h.new a v ha).imp id (Or.imp id (hR _)), fun i e b he hb => (h.live i e b he hb).imp id (hR _), h.glob, fun i hi => h.keepρ i (hB i hi), fun i hi => h.isb i (hB i hi)⟩
theorem RW.rangeT {X : Type} {P : Program} {cx : Cx} {n : Nat} {env : Env} {tab : List Ent} {fn : Func} {R : Ending → World → Prop} {r : SV} {g : Operand} {p1 p2 id : Nat} {assign body rest : Code}
    {gf : Nat} {fs cs : List SV} {gfn : Func} {gcode : Code} {gN : Nat} {L' : List Ent} (I : X → Prop) (y1 y2 : X → SV) (T T' : X → List Ent) (Tend : List Ent)
    (hcB : ∀ i, cx.B i = true → isBoxAt tab i = true) (hcL : ∀ i, cx.B i = true → i < L'.length) (hds : cx.ds = []) (hR : ∀ v τ ρ' w', WR cx τ ρ' L' w' → SV.den τ ρ' r v → R (.returned v) w')
    (hg : opnd env [] g = some (.fn gf fs cs)) (hf : P.funcs[gf]? = some gfn) (hname : (gfn.name == "runtime.NumGoroutine") = false) (hb : gfn.body = some gcode) (hN : gfn.ntmps = gN) (hres : gfn.results = #[]) (ha : (fs ++ .yv 0 :: cs).length ≤ gN)
    (hp : (decide (p1 < n) && okPut env p1 && decide (p2 < n) && okPut (put env p1 [] .top) p2) = true)
    (hit : ∀ cx1 l, (∀ i, cx1.B i = isBoxAt tab i) → (∀ x, I x → YieldT P cx1 l [y1 x, y2 x] (T x) (T' x)) →
      Tr P cx1 gN gcode ⟨argEnv 0 (fs ++ .yv l :: cs), tab⟩ (fun e st' => (e = .normal ∨ e = .ret) ∧ st'.tab.take tab.length = Tend))
    (hbody : ∀ x, I x → ∀ cx2 l, (∀ i, cx2.B i = isBoxAt tab i) → cx2.ds = [] → TrI (some l) P cx2 n assign ⟨put (put (cleanE (isBoxAt tab) env) p1 [] (y1 x)) p2 [] (y2 x), T x⟩
      (fun e st1 => e = .normal ∧ ∀ cx3, (∀ i, cx3.B i = isBoxAt tab i) → cx3.ds = [] → TrI (some l) P cx3 n body st1 (fun e st2 => e = .normal ∧ st2.tab.take tab.length = T' x)))
    (hrest : ∀ cx4, (∀ i, cx4.B i = true → i < L'.length) → Tr P cx4 n rest ⟨cleanE (isBoxAt tab) env, Tend⟩ (retT P fn.results.toList r L')) :
    RW P cx n (.block id (.rangeFunc g #[p1, p2] assign body)) ⟨env, tab⟩ (Exit.then (rest.wp P (bodyPostM Fence.wide 0 P fn R)) (bodyPostM Fence.wide 0 P fn R)) := by
  intro a w hs
  obtain ⟨σ, ρ, hw, he, hn, hdf⟩ : ∃ σ ρ, WR cx σ ρ tab w ∧ EnvA σ ρ env a ∧ a.tmps.size = n ∧ a.defers = cx.ds := hs
  rw [hds] at hdf
  simp only [Bool.and_eq_true, decide_eq_true_eq] at hp
  have hgv := opnd_den (known := []) he (fun p hp => by cases hp) hg
  simp only [SV.den] at hgv
  obtain ⟨vf, vc, hgv, hvf, hvc⟩ := hgv
  refine wp_block (wpIn_wide.1 (wpIn_rangeFunc (n := 0) ?_))
  intro fn' _
  obtain ⟨rec, hrec⟩ : ∃ rec : LoopState → Loop, rec = fun st => { state := st, pending := none, fn := fn', tmps := a.tmps, params := #[p1, p2], assign, body, defers := w.heap.size } := ⟨_, rfl⟩
  obtain ⟨W1, hW1⟩ : ∃ W1, (w.alloc (.deferred (some []))).alloc (.loop (rec .ready)) = W1 := ⟨_, rfl⟩
  have hl1 : W1.heap[w.heap.size + 1]? = some (.loop (rec .ready)) := by
    rw [← hW1]; have := World.alloc_heap_new (w.alloc (.deferred (some []))) (.loop (rec .ready)); rwa [World.size_alloc] at this
  have hD1 : W1.heap[w.heap.size]? = some (.deferred (some [])) := by
    rw [← hW1]; exact (Below.heap_alloc _ _ _ (by simp)).trans (World.alloc_heap_new w _)
  have tA : Turn (fun _ => False) w W1 := by rw [← hW1]; exact (Turn.alloc _ w _).trans (Turn.alloc _ _ _)
  have hs1 : W1.heap.size = w.heap.size + 2 := by rw [← hW1]; simp
  have hw1 : WR ⟨W1, σ, blocks tab ρ, ρ, isBoxAt tab, []⟩ σ ρ tab W1 := hw.root tA (fun k h => h.elim) (isBoxAt tab) (fun i hi => isBoxAt_spec hi) []
  have hnbD : ¬ blocks tab ρ w.heap.size := not_block hw1 (fun o h => by rw [hD1] at h; obtain rfl := Option.some.inj h; rfl)
  have hnbl : ¬ blocks tab ρ (w.heap.size + 1) := not_block hw1 (fun o h => by rw [hl1] at h; obtain rfl := Option.some.inj h; rfl)
  have keepl : ∀ {σ' ρ' tab' W}, WR ⟨W1, σ, blocks tab ρ, ρ, isBoxAt tab, []⟩ σ' ρ' tab' W → W.heap[w.heap.size + 1]? = some (.loop (rec .ready)) := fun h => (h.old _ (by simp only [hs1]; omega) hnbl).trans hl1
  have keepD : ∀ {σ' ρ' tab' W}, WR ⟨W1, σ, blocks tab ρ, ρ, isBoxAt tab, []⟩ σ' ρ' tab' W → W.heap[w.heap.size]? = some (.deferred (some [])) := fun h => (h.old _ (by simp only [hs1]; omega) hnbD).trans hD1
  -- one round
  have hY : ∀ x, I x → YieldT P ⟨W1, σ, blocks tab ρ, ρ, isBoxAt tab, []⟩ (w.heap.size + 1) [y1 x, y2 x] (T x) (T' x) := by
    intro x hx σ2 ρ2 W vs hW hvs
    simp only [SV.denL] at hvs
    obtain ⟨v, _, rfl, hv, v2, _, rfl, hv2, rfl⟩ := hvs
    have hl := keepl hW
    have hlt : w.heap.size + 1 < W.heap.size := (Array.getElem?_eq_some_iff.1 hl).1
    have hy : (Instr.yield (w.heap.size + 1) [v, v2].toArray).run P W = .ok (.round (w.heap.size + 1) fn' ((a.tmps.setIfInBounds p1 v).setIfInBounds p2 v2) assign body) W := by
      have := run_yield (P := P) (args := [v, v2].toArray) hl (by rw [hrec]; rfl)
      rw [this, hrec]
      simp
    refine ⟨fn', _, assign, body, hy, roundIn_of_wpIn trivial ?_⟩
    have hρ : ∀ i, isBoxAt tab i = true → ρ2 i = ρ i := fun i hi => hW.keepρ i hi
    have hw2 : WR ⟨W, σ2, blocks (T x) ρ2, ρ2, isBoxAt tab, []⟩ σ2 ρ2 (T x) W := hW.root (Turn.refl (fun _ => False) W) (fun k h => h.elim) (isBoxAt tab) hW.isb []
    have henv1 := ((he.clean (isBoxAt tab) hρ).grow hW.le).put (s := y1 x) (v := v) (ch := []) (okPut_clean hp.1.1.2) (by rw [hn]; exact hp.1.1.1) rfl (fun _ => hv) (fun h => absurd (fun p hp => by cases hp) h)
    have hok2 : okPut (put (cleanE (isBoxAt tab) env) p1 [] (y1 x)) p2 = true := by
      have h1 := hp.2
      simp only [okPut, Sx.put, List.all_cons, List.all_nil, Bool.true_and] at h1 ⊢
      exact okPut_clean h1
    have henv := henv1.put (s := y2 x) (v := v2) (ch := []) hok2 (by rw [put_size, hn]; exact hp.1.2) rfl (fun _ => hv2) (fun h => absurd (fun p hp => by cases hp) h)
    refine wpIn_mono (hbody x hx ⟨W, σ2, blocks (T x) ρ2, ρ2, isBoxAt tab, []⟩ (w.heap.size + 1) (fun _ => rfl) rfl { tmps := (a.tmps.setIfInBounds p1 v).setIfInBounds p2 v2, defers := [] } W ⟨σ2, ρ2, hw2, henv, by simpa using hn, rfl⟩) ?_
    rintro e a1 w1 ⟨st1, ⟨rfl, h3⟩, σ3, ρ3, hw3, he3, hn3, hd3⟩
    have hnb2 : ¬ blocks (T x) ρ2 (w.heap.size + 1) := not_block hW (fun o h => by rw [hl] at h; obtain rfl := Option.some.inj h; rfl)
    have hl3 : w1.heap[w.heap.size + 1]? = some (.loop (rec .ready)) := (hw3.old _ hlt hnb2).trans hl
    have hlt3 : w.heap.size + 1 < w1.heap.size := (Array.getElem?_eq_some_iff.1 hl3).1
    have hnb3 : ¬ blocks st1.tab ρ3 (w.heap.size + 1) := not_block hw3 (fun o h => by rw [hl3] at h; obtain rfl := Option.some.inj h; rfl)
    refine ⟨_, run_beginRound hl3 (by rw [hrec]), ?_⟩
    obtain ⟨w1', hw1'⟩ : ∃ w1', w1.putObj (w.heap.size + 1) (.loop { rec .ready with state := .busy }) = w1' := ⟨_, rfl⟩
    rw [hw1']
    have tB : Turn (fun k => k = w.heap.size + 1) w1 w1' := by rw [← hw1']; exact Turn.putObj w1 _ _ rfl
    have hl3' : w1'.heap[w.heap.size + 1]? = some (.loop { rec .ready with state := .busy }) := by rw [← hw1']; exact World.putObj_heap_same hlt3
    have hw3' : WR ⟨w1', σ3, blocks st1.tab ρ3, ρ3, isBoxAt tab, []⟩ σ3 ρ3 st1.tab w1' := hw3.root tB (fun k hk o h => by subst hk; rw [hl3] at h; obtain rfl := Option.some.inj h; rfl) (isBoxAt tab) hw3.isb []
    refine wpIn_mono (h3 ⟨w1', σ3, blocks st1.tab ρ3, ρ3, isBoxAt tab, []⟩ (fun _ => rfl) rfl a1 w1' ⟨σ3, ρ3, hw3', he3, hn3, hd3⟩) ?_
    rintro e a2 w2 ⟨st2, ⟨rfl, htab⟩, σ4, ρ4, hw4, he4, hn4, hd4⟩
    have hl4 : w2.heap[w.heap.size + 1]? = some (.loop { rec .ready with state := .busy }) := (hw4.old _ (by have := tB.size; simp only; omega) hnb3).trans hl3'
    have hlt4 : w.heap.size + 1 < w2.heap.size := (Array.getElem?_eq_some_iff.1 hl4).1
    have hw5 := hw4.take tab.length (fun i hi => isBoxAt_lt hi)
    rw [htab] at hw5
    have hend := run_endRound (P := P) none hl4
    obtain ⟨w3, hw3e⟩ : ∃ w3, w2.putObj (w.heap.size + 1) (.loop (rec .ready)) = w3 := ⟨_, rfl⟩
    have hend' : (Instr.endRound (w.heap.size + 1) none).run P w2 = .ok (.bool true) w3 := by
      rw [← hw3e, hend, hrec]; rfl
    have tC : Turn (fun k => k = w.heap.size + 1) w2 w3 := by rw [← hw3e]; exact Turn.putObj w2 _ _ rfl
    have hl5 : w3.heap[w.heap.size + 1]? = some (.loop (rec .ready)) := by rw [← hw3e]; exact World.putObj_heap_same hlt4
    have hw6 : WR ⟨W, σ2, blocks (T x) ρ2, ρ2, isBoxAt tab, []⟩ σ4 ρ4 (T' x) w3 := hw3.comp hw3.liveR tB hw5 tC (fun k hk o h => by subst hk; rw [hl4] at h; obtain rfl := Option.some.inj h; rfl)
      (fun k hk _ _ => by rcases hk with rfl | rfl <;> exact hl5.trans hl.symm) (fun i hi => hi)
    have hw7 : WR ⟨W1, σ, blocks tab ρ, ρ, isBoxAt tab, []⟩ σ4 ρ4 (T' x) w3 := hW.comp hW.liveR (Turn.refl (fun _ => False) W) hw6 (Turn.refl (fun _ => False) w3) (fun k h => h.elim) (fun k hk => by rcases hk with h | h <;> exact h.elim) (fun i hi => hi)
    exact ⟨_, _, hend', rfl, σ4, ρ4, hw6.le, hw7⟩
  refine ⟨w.heap.size + 1, [{ target := .collected w.heap.size, args := #[] }], W1, { target := .fn (.func gf) vc.toArray, args := vf.toArray ++ #[.func (.yield (w.heap.size + 1)) #[] #[]] }, W1, gf,
    (vf ++ .func (.yield (w.heap.size + 1)) #[] #[] :: vc).toArray, W1, ?_, ?_, fun _ _ => trivial, ?_, fun h => RF.depth none h, ?_⟩
  · rw [← hW1, hrec]; exact run_enterLoop_outer _ _ _ _ _
  · simp only [resolve, hgv, Deferred.ofValue, Sem.run_bind, Sem.run_pure, Result.andThen_ok]
    simp only [List.map_toArray, List.map_cons, List.map_nil]
    rfl
  · have hen := Go.Proofs.enters_of hf hname hb (vf ++ .func (.yield (w.heap.size + 1)) #[] #[] :: vc).toArray W1
    rw [← hen]
    simp [invoke]
  · refine callsIn_wide.2 (calls_of_wp hf hb ?_)
    have hargs : SV.denL σ ρ (fs ++ .yv (w.heap.size + 1) :: cs) (vf ++ .func (.yield (w.heap.size + 1)) #[] #[] :: vc) := (denL_append _ _ _).2 ⟨_, _, rfl, hvf, _, _, rfl, by simp only [SV.den], hvc⟩
    have hlen := denL_length _ _ hargs
    refine wp_mono (hit ⟨W1, σ, blocks tab ρ, ρ, isBoxAt tab, []⟩ (w.heap.size + 1) (fun _ => rfl) hY _ W1 ⟨σ, ρ, hw1, argEnv_start (k := gfn.ntmps - (vf ++ .func (.yield (w.heap.size + 1)) #[] #[] :: vc).toArray.size) hargs, ?_, rfl⟩) ?_
    · simp only [List.length_append, List.length_cons] at ha hlen
      simp only [Array.size_append, List.size_toArray, Array.size_replicate, List.length_append, List.length_cons, hN]
      omega
    rintro e a' w' ⟨st', ⟨he', htab⟩, τ, ρ', hw', heT, hn', hd'⟩
    obtain ⟨v, hv, _⟩ := results_run (P := P) (fn := gfn) (r := .tup []) hw' heT (by rw [hres]; rfl)
    have hwE := hw'.take tab.length (fun i hi => isBoxAt_lt hi)
    rw [htab] at hwE
    have hle := keepl hwE
    have hDe := keepD hwE
    have hlte : w.heap.size + 1 < w'.heap.size := (Array.getElem?_eq_some_iff.1 hle).1
    have hend := run_endLoop (P := P) hle (by rw [hrec]; simp)
    obtain ⟨w2, hw2⟩ : ∃ w2, w'.putObj (w.heap.size + 1) (.loop { rec .ready with state := .exhausted }) = w2 := ⟨_, rfl⟩
    rw [hw2] at hend
    have hjump : (rec .ready).pending = none := by rw [hrec]
    rw [hjump] at hend
    have tD : Turn (fun k => k = w.heap.size + 1) w' w2 := by rw [← hw2]; exact Turn.putObj w' _ _ rfl
    have hD2 : w2.heap[w.heap.size]? = some (.deferred (some [])) := by rw [← hw2]; exact (World.putObj_heap_other (by omega)).trans hDe
    have hw4 : WR ⟨w2, τ, blocks Tend ρ', ρ', cx.B, [{ target := .collected w.heap.size, args := #[] }]⟩ τ ρ' Tend w2 :=
      hwE.root tD (fun k hk o h => by subst hk; rw [hle] at h; obtain rfl := Option.some.inj h; rfl) cx.B (fun i hi => hwE.isb i (hcB i hi)) _
    have hρ : ∀ i, isBoxAt tab i = true → ρ' i = ρ i := fun i hi => hwE.keepρ i hi
    have henv := (he.clean (isBoxAt tab) hρ).grow hwE.le
    have hfin : rangePost Fence.wide 0 P (w.heap.size + 1) (Exit.inBlock id (Exit.then (rest.wp P (bodyPostM Fence.wide 0 P fn R)) (bodyPostM Fence.wide 0 P fn R))) { a with defers := [{ target := .collected w.heap.size, args := #[] }] ++ a.defers } (.returned v) w' := by
      refine ⟨none, w2, hend, ?_⟩
      refine wp_mono (hrest ⟨w2, τ, blocks Tend ρ', ρ', cx.B, [{ target := .collected w.heap.size, args := #[] }]⟩ hcL { a with defers := [{ target := .collected w.heap.size, args := #[] }] ++ a.defers } w2 ⟨τ, ρ', hw4, henv, hn, by rw [hdf]; rfl⟩) ?_
      rintro e a5 w5 ⟨st5, ⟨he5, hres5, htab5⟩, τ5, ρ5, hw5, heT5, hn5, hd5⟩
      have hnbD2 : ¬ blocks Tend ρ' w.heap.size := not_block hwE (fun o h => by rw [hDe] at h; obtain rfl := Option.some.inj h; rfl)
      have hD5 : w5.heap[w.heap.size]? = some (.deferred (some [])) := (hw5.old _ (Array.getElem?_eq_some_iff.1 hD2).1 hnbD2).trans hD2
      obtain ⟨w6, hw6⟩ : ∃ w6, w5.putObj w.heap.size (.deferred none) = w6 := ⟨_, rfl⟩
      have htake := run_takeDeferred (P := P) hD5
      rw [hw6] at htake
      have tE : Turn (fun k => k = w.heap.size) w5 w6 := by rw [← hw6]; exact Turn.putObj w5 _ _ rfl
      have hNE : NoCells (fun k => k = w.heap.size) w5 := fun k hk o h => by subst hk; rw [hD5] at h; obtain rfl := Option.some.inj h; rfl
      have hw5' := hw5.root tE hNE (fun _ => false) (fun i hi => by cases hi) []
      obtain ⟨v5, hv5, hdv5⟩ := results_run (P := P) (fn := fn) hw5' heT5 hres5
      have hw5L := hw5.take L'.length hcL
      rw [htab5] at hw5L
      have hA : WR ⟨W1, σ, fun b => blocks tab ρ b ∨ b = w.heap.size ∨ b = w.heap.size + 1, ρ, cx.B, []⟩ τ ρ' Tend w' := hwE.loose2 (fun b hb => .inl hb) hcB
      have hB : WR ⟨W1, σ, fun b => blocks tab ρ b ∨ b = w.heap.size ∨ b = w.heap.size + 1, ρ, cx.B, []⟩ τ5 ρ5 L' w6 :=
        hA.comp hA.liveR tD hw5L tE hNE (fun k hk _ hn => absurd (by rcases hk with rfl | rfl <;> simp) hn) (fun i hi => hi)
      have hC : WR cx τ5 ρ5 L' w6 := hw.comp (L1 := fun _ => False) (L2 := fun _ => False) (fun b hb => by
          rcases hb with hb | rfl | rfl
          · exact hw.liveR b hb
          · exact .inl hw.size
          · exact .inl (by have := hw.size; omega)) tA hB (Turn.refl _ w6) (fun k h => h.elim) (fun k hk => by rcases hk with h | h <;> exact h.elim) (fun i hi => hi)
      have hleave : LeavesInM Fence.wide 0 P fn a5.tmps R a5.defers .returning w5 := by
        rw [hd5]
        exact ⟨by simp, .inl ⟨w.heap.size, w6, rfl, htake, v5, hv5, hR v5 τ5 ρ5 w6 hC hdv5⟩⟩
      rcases he5 with rfl | rfl <;> exact hleave
    rcases he' with rfl | rfl <;> exact ⟨hd', v, hv, hfin⟩


theorem CallT.ofRange {P : Program} {f : Nat} {fn : Func} {c : Code} {args : List SV} {L L' : List Ent} {r : SV} {N : Nat} (hf : P.funcs[f]? = some fn) (hname : (fn.name == "runtime.NumGoroutine") = false) (hb : fn.body = some c) (hN : fn.ntmps = N) (ha : args.length ≤ N)
    (hle : L.length ≤ L'.length)
    (h : ∀ cx R, (∀ i, cx.B i = isBoxAt L i) → cx.ds = [] → (∀ v τ ρ' w', WR cx τ ρ' L' w' → SV.den τ ρ' r v → R (.returned v) w') → RW P cx N c ⟨argEnv 0 args, L⟩ (bodyPostM Fence.wide 0 P fn R)) : CallT P f args L r L' := by
  refine ⟨Go.Proofs.enters_of hf hname hb, hle, fun cx σ ρ w vs hw hB hd => ?_⟩
  refine callsIn_wide.1 (callsIn_of_wp_marks (n := 0) hf hb trivial (wpIn_wide.2 ?_))
  have hlen := denL_length _ _ hd
  refine h ⟨w, σ, fun b => ∃ (i : Nat) (e : Ent), L[i]? = some e ∧ e.at_ ρ i b, ρ, cx.B, []⟩ _ hB rfl ?_ _ w ⟨σ, ρ, ?_, argEnv_start (k := fn.ntmps - vs.toArray.size) hd, ?_, rfl⟩
  · intro v τ ρ' w' hw0 hdv
    have hwc : WR cx τ ρ' L' w' := by
      refine ⟨hw0.sub, hw0.ent, hw0.dis, hw0.os.trans hw.os, hw0.tape.trans hw.tape, hw0.output.trans hw.output, Nat.le_trans hw.size hw0.size, fun k hk hR => ?_, Mem.le_trans hw.le hw0.le, fun a v ha => ?_, fun i e b hi hb => ?_, hw0.glob, fun i hi => ?_, hw0.isb⟩
      · refine (hw0.old k (Nat.lt_of_lt_of_le hk hw.size) ?_).trans (hw.old k hk hR)
        rintro ⟨i, e, he, hb⟩
        rcases hw.live i e k he hb with hl | hl
        · omega
        · exact hR hl
      · rcases hw0.new a v ha with ⟨v', hv⟩ | hv | ⟨i, e, he, hb⟩
        · exact hw.new a v' hv
        · exact .inr (.inl (Nat.le_trans hw.size hv))
        · exact .inr (hw.live i e _ he hb)
      · rcases hw0.live i e b hi hb with hl | ⟨i', e', he', hb'⟩
        · exact .inl (Nat.le_trans hw.size hl)
        · exact hw.live i' e' b he' hb'
      · rw [hw0.keepρ i hi]; exact hw.keepρ i hi
    exact ⟨v, τ, ρ', rfl, hw0.le, hwc, hdv⟩
  · exact ⟨hw.sub, hw.ent, hw.dis, rfl, rfl, rfl, Nat.le_refl _, fun _ _ _ => rfl, Mem.le_refl _, fun a v h => .inl ⟨v, h⟩, fun i e b hi hb => .inr ⟨i, e, hi, hb⟩, hw.glob, fun _ _ => rfl, hw.isb⟩
  · simp only [Array.size_append, List.size_toArray, Array.size_replicate, hlen, hN]
    omega
end Go.Proofs.YteiickhgmmjcmaaGreatDoor.Sx
