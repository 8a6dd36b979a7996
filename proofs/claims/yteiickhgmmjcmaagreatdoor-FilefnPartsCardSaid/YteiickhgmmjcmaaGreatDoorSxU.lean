/-
  strings.Builder: what its methods do to its two entries.
-/
import Derived.Test.YteiickhgmmjcmaaGreatDoorSxT
import Derived.Test.YteiickhgmmjcmaaGreatDoorShelf
import Derived.Shelf.Strings.Builder1
set_option linter.unusedVariables false
set_option linter.unusedSimpArgs false
set_option maxRecDepth 20000
namespace Go.Proofs.YteiickhgmmjcmaaGreatDoor.Sx
open Go Go.RowKit Go.Proofs

/-! ### Within a round's list of operations -/
theorem TrLI.keep {ro : Option Nat} {P : Program} {cx : Cx} {n : Nat} {ops : Array Oper} {l : List Oper} {st st' : St} {Q : Post} (slots : List Nat) (k : Nat) (hB : ∀ i, cx.B i = true → i < k) (e : keep slots k st = st') (h : TrLI ro P cx n ops l st' Q) : TrLI ro P cx n ops l st Q :=
  fun a w hs => h a w (e ▸ hs.keep slots k hB)
theorem TrLI.want {ro : Option Nat} {P : Program} {cx : Cx} {n : Nat} {ops : Array Oper} {o : Oper} {l : List Oper} {env : Env} {tab : List Ent} {Q : Post} {j d : Nat} {b : Bool}
    (hg : o.guard = some (j, b)) (hd : (ops[j]?).bind (·.dst) = some d) (hl : look env d = some ([], .val .bool b)) (k : TrLI ro P cx n ops (unguard o :: l) ⟨env, tab⟩ Q) : TrLI ro P cx n ops (o :: l) ⟨env, tab⟩ Q := by
  intro a w hs
  have hs0 := hs
  obtain ⟨σ, ρ, hw, he, hn, hdf⟩ : ∃ σ ρ, WR cx σ ρ tab w ∧ EnvA σ ρ env a ∧ a.tmps.size = n ∧ a.defers = cx.ds := hs0
  have hwant := wanted_lit he.env hg hd hl
  have := k a w hs
  unfold wpListIn at this ⊢
  rw [hwant]
  have hu : Region.wanted (unguard o) (yielded ops a.tmps) = true := rfl
  rw [hu] at this
  simp only [beq_self_eq_true, if_true] at this ⊢
  exact this

/-- Nothing was lent; what never turns lay there. -/
structure Closed (cx : Cx) : Prop where
  low : ∀ a v, cx.σ0 a = some v → a.block < cx.w0.heap.size
  none : ∀ k, ¬ cx.R k
  glob : GL cx.σ0
theorem CallV.ofC {P : Program} {f : Nat} {fn : Func} {c : Code} {args : List SV} {r : SV} {N : Nat} (hf : P.funcs[f]? = some fn) (hname : (fn.name == "runtime.NumGoroutine") = false) (hb : fn.body = some c) (hN : fn.ntmps = N) (ha : args.length ≤ N)
    (hr : r.ok (fun _ => false) = true)
    (h : ∀ cx, (∀ i, cx.B i = true → i < 0) → Closed cx → Tr P cx N c ⟨argEnv 0 args, []⟩ (retQ P fn.results.toList r)) : CallV P f args r := by
  refine ⟨Go.Proofs.enters_of hf hname hb, fun cx σ ρ w vs hw hd => ?_⟩
  refine calls_of_wp hf hb ?_
  have hlen := denL_length _ _ hd
  refine wp_mono (h ⟨w, σ, fun _ => False, ρ, fun _ => false, []⟩ (fun i hi => by cases hi) ⟨fun a v ha => sub_lt hw.sub ha, fun _ h => h, hw.glob⟩ _ w ⟨σ, ρ, hw.sub_none, argEnv_start (k := fn.ntmps - vs.toArray.size) hd, ?_, rfl⟩) ?_
  · simp only [Array.size_append, List.size_toArray, Array.size_replicate, hlen, hN]
    omega
  rintro e a' w' ⟨st', ⟨he, hr'⟩, τ, ρ', hw', he', hn', hd'⟩
  obtain ⟨v, hv, hdv⟩ := results_run (P := P) hw' he' hr'
  have hw0 : WR ⟨w, σ, fun _ => False, ρ, fun _ => false, []⟩ τ ρ [] w' := by
    have := hw'.take 0 (fun i hi => by cases hi)
    exact ⟨this.sub, fun i e h => by simp at h, fun i j e e' b h => by simp at h, this.os, this.tape, this.output, this.size, this.old, this.le, this.new, fun i e b h => by simp at h, this.glob, fun i h => (by cases h), fun i h => (by cases h)⟩
  have hden : SV.den τ ρ r v := den_step (Mem.le_refl τ) (fun _ => false) (fun _ h => by cases h) r v hr hdv
  have hfin : ∃ v, (results fn a'.tmps).run P w' = .ok v w' ∧ ∃ v₁ τ, Ending.returned v = .returned v₁ ∧ σ.le τ ∧ WR cx τ ρ [] w' ∧ SV.den τ ρ r v₁ := ⟨v, hv, v, τ, rfl, hw0.le, hw.back hw0, hden⟩
  rcases he with rfl | rfl <;> exact ⟨hd', hfin⟩

/-- No address yet, or one's own. -/
def toMptr (tab : List Ent) (i j : Nat) : List Ent := match tab[i]? with
  | some (.box tt cs) => tab.set i (.box tt (cs.set j (.mptr i)))
  | _ => tab
theorem SRel.mptr {cx : Cx} {n : Nat} {env : Env} {tab : List Ent} {a : Act} {w : World} (i j : Nat) {tt : TypeId} {cs : List SV} (hi : tab[i]? = some (.box tt cs)) (hj : cs[j]? = some .nilp) (h : SRel cx n ⟨env, tab⟩ a w) : SRel cx n ⟨env, toMptr tab i j⟩ a w := by
  obtain ⟨σ, ρ, hw, he, hn, hd⟩ : ∃ σ ρ, WR cx σ ρ tab w ∧ EnvA σ ρ env a ∧ a.tmps.size = n ∧ a.defers = cx.ds := h
  obtain ⟨vs, q1, q2, q3, q4⟩ := hw.ent i _ hi
  obtain ⟨v, hv, hdv⟩ := denL_get _ _ q2 j _ hj
  simp only [SV.den] at hdv
  have q5 := denL_set _ _ q2 j (.mptr i) v (by simp only [SV.den]; exact .inl hdv)
  have q6 : vs.set j v = vs := by
    apply List.ext_getElem?
    intro m
    rw [List.getElem?_set]
    split
    · rename_i hm
      subst hm
      rw [hv]
      simp [(List.getElem?_eq_some_iff.1 hv).1]
    · rfl
  rw [q6] at q5
  refine ⟨σ, ρ, ?_, he, hn, hd⟩
  have h2 := hw.step (k := i) (e' := .box tt (cs.set j (.mptr i))) (w' := w) (τ := σ) (ρ' := ρ) (fun _ => true) hi (Mem.le_refl σ) hw.sub (fun _ _ => rfl) (fun _ _ => rfl) (fun _ _ _ => rfl)
    (fun a v ha => .inl ⟨v, ha⟩) (fun _ => ⟨rfl, rfl⟩) ⟨vs, q1, q5, q3, q4⟩ (fun b hb => .inl hb) rfl rfl rfl (Nat.le_refl _)
  rw [cleanT_true] at h2
  simp only [toMptr, hi]
  exact h2
theorem Tr.mptr {P : Program} {cx : Cx} {n : Nat} {env : Env} {tab : List Ent} {Q : Post} {c : Code} (i j : Nat) {tt : TypeId} {cs : List SV} (hi : tab[i]? = some (.box tt cs)) (hj : cs[j]? = some .nilp) (h : Tr P cx n c ⟨env, toMptr tab i j⟩ Q) : Tr P cx n c ⟨env, tab⟩ Q :=
  Tr.of h fun a w hs => hs.mptr i j hi hj

/-- A builder's two entries. -/
abbrev bldT (T e : TypeId) (s : Str) : List Ent := [.box T [.mptr 0, .own 1], .gs e (.int .u8) (strBytes s)]

theorem rows_bytes {σ : Mem} {s : Str} {xs : List Value} (h : Rows σ (.int .u8) (strBytes s) xs) : xs = Lib.byteCells s := by
  obtain ⟨css, h1, rfl, h3⟩ := h
  have hl : css.length = s.length := by rw [h1, strBytes_length]
  have key : css = (Lib.byteCells s).map (fun v => [v]) := by
    apply List.ext_getElem?
    intro i
    by_cases hi : i < s.length
    · obtain ⟨c, hc, hd⟩ := h3 i ((s[i].toNat : Nat) : Int) (by simp [strBytes, List.getElem?_eq_getElem hi])
      rw [hc]
      rw [Den] at hd
      simp [Lib.byteCells, List.getElem?_eq_getElem hi, hd]
    · rw [List.getElem?_eq_none (by omega), List.getElem?_eq_none (by simp [Lib.byteCells]; omega)]
  rw [key]
  induction Lib.byteCells s with
  | nil => rfl
  | cons v l ih => simpa using ih

/-- What is known of a builder's entries, in the library's words. -/
theorem bld_is {cx : Cx} {σ : Mem} {ρ : Rho} {tab : List Ent} {w : World} (hw : WR cx σ ρ tab w) {T e : TypeId} {s : Str} {i k : Nat} {sv : SV} (hsv : sv = .mptr i ∨ sv = .nilp ∨ sv = .ptr i 0) (hi : tab[i]? = some (.box T [sv, .own k])) (hk : tab[k]? = some (.gs e (.int .u8) (strBytes s)))
    {B : Nat} (hB : ∀ (j : Nat) (x : Ent) b, tab[j]? = some x → x.at_ ρ j b → B ≤ b) : Lib.IsBuilder T e B (ρ i).blk (Lib.byteCells s) w := by
  obtain ⟨vs, q1, q2, q3, q4⟩ := hw.ent i _ hi
  obtain ⟨xs, r1, r2, r3⟩ := hw.ent k _ hk
  obtain rfl := rows_bytes r1
  simp only [SV.denL, SV.den] at q2
  obtain ⟨p, _, rfl, hp, v, _, rfl, rfl, rfl⟩ := q2
  have hne : (ρ k).sl.ownBlock ≠ some (ρ i).blk := by
    intro e1
    have := hw.dis i k _ _ (ρ i).blk hi hk rfl e1
    subst this
    rw [hi] at hk
    cases hk
  have hown : w.ownsRow B e 1 (ρ k).sl (Lib.byteCells s).length (Lib.byteCells s) := by
    rw [Lib.byteCells_length]
    rw [strBytes_length] at r2
    refine ⟨r2.1, ?_⟩
    rcases r2.2 with h | ⟨g, cap, cur, hv, _, r⟩
    · exact .inl h
    · exact .inr ⟨g, cap, cur, hv, hB k _ g hk (by show (ρ k).sl.ownBlock = some g; rw [hv]; rfl), r⟩
  have hBi : B ≤ (ρ i).blk := hB i _ _ hi rfl
  have hp' : p = .pointer none ∨ p = .pointer (some ⟨(ρ i).blk, 0, none⟩) := by
    rcases hsv with rfl | rfl | rfl <;> simp only [SV.den] at hp
    · exact hp
    · exact .inl hp
    · exact .inr hp
  rcases hp' with rfl | rfl
  · exact .inl ⟨hBi, _, q1, hown, hne⟩
  · exact .inr ⟨hBi, _, q1, hown, hne⟩

/-- The last that is asked of a builder: its text. -/
theorem TrL.built {P : Program} {cx : Cx} {n : Nat} {ops : Array Oper} {o : Oper} {l : List Oper} {env : Env} {tab : List Ent} {Q : Post} {c : Call} {f d : Nat} {s : Str} {i k : Nat} {T e : TypeId}
    (hcl : Closed cx) (hB : ∀ i, cx.B i = true → i < 0)
    (hcon : ∀ (B b : Nat) (s : List UInt8) (w : World), Lib.IsBuilder T e B b (Lib.byteCells s) w → B ≤ w.heap.size → Calls P f #[.pointer (some ⟨b, 0, none⟩)] w fun e w' => e = .returned (.string ⟨s.toArray⟩) ∧ Below B w w')
    (hent : Go.Proofs.Enters P f) (hg : o.guard = none) (ho : o.op = .call c) (hdst : o.dst = some d) (hd : decide (d < n) = true) (hc : callee env tab [] c = some (f, [.ptr i 0]))
    (hi : tab[i]? = some (.box T [.mptr i, .own k])) (hk : tab[k]? = some (.gs e (.int .u8) (strBytes s)))
    (kk : TrL P cx n ops l ⟨[(d, [], vS s)], []⟩ Q) : TrL P cx n ops (o :: l) ⟨env, tab⟩ Q := by
  intro a w hs
  obtain ⟨σ, ρ, hw, he, hn, hdf⟩ : ∃ σ ρ, WR cx σ ρ tab w ∧ EnvA σ ρ env a ∧ a.tmps.size = n ∧ a.defers = cx.ds := hs
  simp only [decide_eq_true_eq] at hd
  refine wpList_plain hg fun K hK => ?_
  obtain ⟨vs, h1, h2⟩ := callee_run (P := P) hw he (fun p hp => by cases hp) ho hc
  simp only [SV.denL, SV.den] at h1
  obtain ⟨_, _, rfl, rfl, rfl⟩ := h1
  unfold Oper.wp
  rw [h2 w, hent]
  have hlive : ∀ (j : Nat) (x : Ent) b, tab[j]? = some x → x.at_ ρ j b → cx.w0.heap.size ≤ b := fun j x b hx hb => (hw.live j x b hx hb).resolve_right (hcl.none b)
  refine (hcon cx.w0.heap.size (ρ i).blk s w (bld_is hw (.inl rfl) hi hk hlive) hw.size).mono ?_
  rintro e w' ⟨rfl, hbl⟩
  refine hK _ _ (kk _ _ ⟨cx.σ0, ρ, ?_, ?_, by rw [put_size]; exact hn, by rw [put_defers]; exact hdf⟩)
  · refine ⟨fun a v ha => (hbl.cell (hcl.low a v ha)).trans (hw.sub a v (hw.le a v ha)), fun i e h => by simp at h, fun i j e e' b h => by simp at h, hbl.os.trans hw.os, hbl.tape.trans hw.tape, hbl.output.trans hw.output, Nat.le_trans hw.size hbl.size,
      fun k hk hR => (hbl.block k hk).trans (hw.old k hk hR), Mem.le_refl _, fun a v ha => .inl ⟨v, ha⟩, fun i e b h => by simp at h, hcl.glob, fun i hi => ?_, fun i hi => ?_⟩
    · have := hB i hi; omega
    · have := hB i hi; omega
  · intro s' ch sv hl
    simp only [look] at hl
    split at hl
    · rename_i hs'
      simp only [beq_iff_eq] at hs'
      subst hs'
      simp only [Option.some.injEq, Prod.mk.injEq] at hl
      obtain ⟨rfl, rfl⟩ := hl
      refine ⟨fun _ => ⟨_, by rw [hdst]; exact put_same (by rw [hn]; exact hd), by simp only [SV.den, Den]; rfl⟩, fun hf => absurd (fun p hp => by cases hp) hf⟩
    · cases hl

end Go.Proofs.YteiickhgmmjcmaaGreatDoor.Sx
