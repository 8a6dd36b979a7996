/-
  Rows of the call's own that are written in place: how they begin, how they get shorter, how calls read them.
-/
import Derived.Test.YteiickhgmmjcmaaGreatDoorSxU
set_option linter.unusedVariables false
set_option linter.unusedSimpArgs false
namespace Go.Proofs.YteiickhgmmjcmaaGreatDoor.Sx
open Go Go.RowKit

/-! ### How they begin -/
theorem WR.nilEnt {cx : Cx} {σ : Mem} {ρ : Rho} {tab : List Ent} {w : World} (hw : WR cx σ ρ tab w) (e : TypeId) (ty : Ty) :
    WR cx σ (upd ρ tab.length ⟨0, none, 0, 0, []⟩) (cleanT (fun i => decide (i < tab.length)) tab ++ [Ent.ra e ty []]) w := by
  refine hw.newEnt (Mem.le_refl σ) hw.sub (fun b _ => rfl) (fun a v ha => .inl ⟨v, ha⟩) ⟨[], Rows.nil σ ty, ?_, fun g hg => ?_, fun a v ha => ?_⟩ (fun b hb => ?_) rfl rfl rfl (Nat.le_refl _)
  · rw [upd_same]; exact World.ownsRow_nil w 0 e _
  · rw [upd_same] at hg; cases hg
  · rw [upd_same]; intro h; cases h
  · simp only [Ent.at_, upd_same] at hb; cases hb
def nilRowM (env : Env) (tab : List Ent) (d : Nat) (e : TypeId) (ty : Ty) : St :=
  ⟨(d, [], .arr tab.length) :: cleanE (fun i => decide (i < tab.length)) env, cleanT (fun i => decide (i < tab.length)) tab ++ [.ra e ty []]⟩
theorem SRel.nilRowM {cx : Cx} {n : Nat} {env : Env} {tab : List Ent} {a : Act} {w : World} (d : Nat) (e : TypeId) (ty : Ty) (hl : look env d = some ([], .nils)) (h : SRel cx n ⟨env, tab⟩ a w) : SRel cx n (nilRowM env tab d e ty) a w := by
  obtain ⟨σ, ρ, hw, he, hn, hd⟩ : ∃ σ ρ, WR cx σ ρ tab w ∧ EnvA σ ρ env a ∧ a.tmps.size = n ∧ a.defers = cx.ds := h
  obtain ⟨v, hv, hdv⟩ := (he d [] _ hl).1 (fun p hp => by cases hp)
  simp only [SV.den] at hdv
  subst hdv
  have hρ : ∀ i, (decide (i < tab.length)) = true → upd ρ tab.length ⟨0, none, 0, 0, []⟩ i = ρ i := upd_lt
  refine ⟨σ, upd ρ tab.length ⟨0, none, 0, 0, []⟩, hw.nilEnt e ty, ?_, hn, hd⟩
  intro s ch sv hl'
  simp only [Sx.nilRowM, look] at hl'
  split at hl'
  · rename_i hs
    simp only [beq_iff_eq] at hs
    subst hs
    simp only [Option.some.injEq, Prod.mk.injEq] at hl'
    obtain ⟨rfl, rfl⟩ := hl'
    refine ⟨fun _ => ⟨_, hv, ?_⟩, fun hf => absurd (fun p hp => by cases hp) hf⟩
    simp only [SV.den, upd_same]
    rfl
  · exact he.clean _ hρ s ch sv hl'
theorem Tr.nilRowM {P : Program} {cx : Cx} {n : Nat} {env : Env} {tab : List Ent} {Q : Post} {c : Code} (d : Nat) (e : TypeId) (ty : Ty) (hl : look env d = some ([], .nils)) (h : Tr P cx n c (Sx.nilRowM env tab d e ty) Q) : Tr P cx n c ⟨env, tab⟩ Q :=
  Tr.of h fun a w hs => hs.nilRowM d e ty hl
/-- A variable's cell told in another way. -/
theorem WR.cellIs {cx : Cx} {σ : Mem} {ρ : Rho} {tab : List Ent} {w : World} (hw : WR cx σ ρ tab w) {i j : Nat} {tt : TypeId} {cs : List SV} {s s' : SV} (hi : tab[i]? = some (.box tt cs)) (hj : cs[j]? = some s) (hs : ∀ v, SV.den σ ρ s v → SV.den σ ρ s' v) :
    WR cx σ ρ (tab.set i (.box tt (cs.set j s'))) w := by
  obtain ⟨vs, q1, q2, q3, q4⟩ := hw.ent i _ hi
  obtain ⟨v, hv, hdv⟩ := denL_get _ _ q2 j _ hj
  have q5 := denL_set _ _ q2 j s' v (hs v hdv)
  have q6 : vs.set j v = vs := by
    apply List.ext_getElem?
    intro m
    rw [List.getElem?_set]
    split
    · rename_i hm
      subst hm
      rw [hv]
      simp [(List.getElem?_eq_some_iff.1 hv).1]
    · rfl
  rw [q6] at q5
  have h2 := hw.step (k := i) (e' := .box tt (cs.set j s')) (w' := w) (τ := σ) (ρ' := ρ) (fun _ => true) hi (Mem.le_refl σ) hw.sub (fun _ _ => rfl) (fun _ _ => rfl) (fun _ _ _ => rfl)
    (fun a v ha => .inl ⟨v, ha⟩) (fun _ => ⟨rfl, rfl⟩) ⟨vs, q1, q5, q3, q4⟩ (fun b hb => .inl hb) rfl rfl rfl (Nat.le_refl _)
  rwa [cleanT_true] at h2
def nilBoxM (env : Env) (tab : List Ent) (i j : Nat) (e : TypeId) (ty : Ty) : St :=
  ⟨cleanE (fun i => decide (i < tab.length)) env, match tab[i]? with
    | some (.box tt cs) => (cleanT (fun i => decide (i < tab.length)) tab ++ [Ent.ra e ty []]).set i (.box tt ((cleanC (fun i => decide (i < tab.length)) cs).set j (.arr tab.length)))
    | _ => tab⟩
theorem SRel.nilBoxM {cx : Cx} {n : Nat} {env : Env} {tab : List Ent} {a : Act} {w : World} (i j : Nat) (e : TypeId) (ty : Ty) {tt : TypeId} {cs : List SV} (hi : tab[i]? = some (.box tt cs)) (hj : cs[j]? = some .nils) (h : SRel cx n ⟨env, tab⟩ a w) : SRel cx n (nilBoxM env tab i j e ty) a w := by
  obtain ⟨σ, ρ, hw, he, hn, hd⟩ : ∃ σ ρ, WR cx σ ρ tab w ∧ EnvA σ ρ env a ∧ a.tmps.size = n ∧ a.defers = cx.ds := h
  have hρ : ∀ i, (decide (i < tab.length)) = true → upd ρ tab.length ⟨0, none, 0, 0, []⟩ i = ρ i := upd_lt
  have hil : i < tab.length := (List.getElem?_eq_some_iff.1 hi).1
  refine ⟨σ, upd ρ tab.length ⟨0, none, 0, 0, []⟩, ?_, he.clean _ hρ, hn, hd⟩
  have hi' : (cleanT (fun i => decide (i < tab.length)) tab ++ [Ent.ra e ty []])[i]? = some (.box tt (cleanC (fun i => decide (i < tab.length)) cs)) := by
    rw [List.getElem?_append_left (by rw [cleanT_length]; exact hil), cleanP_cleanT _ _ _ _ _ hi]
  have hj' : (cleanC (fun i => decide (i < tab.length)) cs)[j]? = some .nils := by simp [cleanC, hj, SV.ok]
  have h2 := (hw.nilEnt e ty).cellIs (s' := .arr tab.length) hi' hj' (fun v hv => by
    simp only [SV.den, upd_same] at hv ⊢
    exact hv)
  simp only [Sx.nilBoxM, hi]
  exact h2
theorem Tr.nilBoxM {P : Program} {cx : Cx} {n : Nat} {env : Env} {tab : List Ent} {Q : Post} {c : Code} (i j : Nat) (e : TypeId) (ty : Ty) {tt : TypeId} {cs : List SV} (hi : tab[i]? = some (.box tt cs)) (hj : cs[j]? = some .nils) (h : Tr P cx n c (Sx.nilBoxM env tab i j e ty) Q) : Tr P cx n c ⟨env, tab⟩ Q :=
  Tr.of h fun a w hs => hs.nilBoxM i j e ty hi hj

/-! ### How they get shorter -/
def locN (L : Loc) (n : Nat) : Loc := ⟨L.blk, L.ad, n, L.c, []⟩
theorem WR.shorter {cx : Cx} {σ : Mem} {ρ : Rho} {tab : List Ent} {w : World} (hw : WR cx σ ρ tab w) {i n : Nat} {e : TypeId} {ty : Ty} {l : List ty.D} (hi : tab[i]? = some (.ra e ty l)) (hn : n ≤ l.length) :
    WR cx σ (upd ρ i (locN (ρ i) n)) ((cleanT (fun j => decide (j ≠ i)) tab).set i (.ra e ty (l.take n))) w := by
  obtain ⟨xs, q1, q2, q3, q4⟩ := hw.ent i _ hi
  have hob : (locN (ρ i) n).sl.ownBlock = (ρ i).sl.ownBlock := by
    simp only [locN, Loc.sl]
    cases (ρ i).ad <;> rfl
  refine hw.step (k := i) (fun j => decide (j ≠ i)) hi (Mem.le_refl σ) hw.sub (fun j hj => upd_ne (by simpa using hj)) (fun j hj => upd_ne hj) (fun _ _ _ => rfl) (fun a v ha => .inl ⟨v, ha⟩) (fun h => by cases h) ?_ (fun b hb => .inl ?_) rfl rfl rfl (Nat.le_refl _)
  · have hln : (l.take n).length = n := by rw [List.length_take]; omega
    refine ⟨xs.take (n * ty.cells), q1.take n, ?_, fun g hg => ?_, fun a v ha => ?_⟩
    · rw [upd_same, hln]
      have hx := q1.length
      have hm := Nat.mul_le_mul_right ty.cells hn
      refine ⟨by rw [List.length_take]; omega, ?_⟩
      rcases q2.2 with ⟨hv, h0⟩ | ⟨g, cap, cur, hv, h1, h2, h3, h4, h5, h6⟩
      · left
        simp only [Loc.sl, Value.slice.injEq] at hv
        refine ⟨?_, by omega⟩
        simp only [locN, Loc.sl, hv.1, hv.2.2]
        have : n = 0 := by omega
        rw [this]
      · right
        simp only [Loc.sl, Value.slice.injEq] at hv
        refine ⟨g, cap, cur, by simp only [locN, Loc.sl, hv.1, hv.2.2], h1, h2, by omega, h4, h5, ?_⟩
        rw [← h6, List.take_take, Nat.min_eq_left hm]
    · rw [upd_same, hob] at hg
      rw [upd_same]
      exact q3 g hg
    · rw [upd_same, hob]
      exact q4 a v ha
  · simp only [Ent.at_, upd_same, hob] at hb ⊢
    exact hb
/-- The variable that has the first ones alone. -/
theorem SRel.shortBox {cx : Cx} {m : Nat} {env : Env} {tab : List Ent} {a : Act} {w : World} (i n b j : Nat) {e : TypeId} {ty : Ty} {l : List ty.D} {tt : TypeId} {cs : List SV} (hi : tab[i]? = some (.ra e ty l)) (hn : n ≤ l.length) (hb : tab[b]? = some (.box tt cs)) (hj : cs[j]? = some (.sub i n))
    (h : SRel cx m ⟨env, tab⟩ a w) :
    SRel cx m ⟨cleanE (fun j => decide (j ≠ i)) env, ((cleanT (fun j => decide (j ≠ i)) tab).set i (.ra e ty (l.take n))).set b (.box tt ((cleanC (fun j => decide (j ≠ i)) cs).set j (.arr i)))⟩ a w := by
  obtain ⟨σ, ρ, hw, he, hm, hd⟩ : ∃ σ ρ, WR cx σ ρ tab w ∧ EnvA σ ρ env a ∧ a.tmps.size = m ∧ a.defers = cx.ds := h
  have hbi : b ≠ i := fun e => by rw [e, hi] at hb; cases hb
  have hρ : ∀ j, (decide (j ≠ i)) = true → upd ρ i (locN (ρ i) n) j = ρ j := fun j hj => upd_ne (by simpa using hj)
  refine ⟨σ, upd ρ i (locN (ρ i) n), ?_, he.clean _ hρ, hm, hd⟩
  have hw1 := hw.shorter hi hn
  -- the value in the variable's cell
  obtain ⟨vs, q1, q2, q3, q4⟩ := hw.ent b _ hb
  obtain ⟨v, hv, hdv⟩ := denL_get _ _ q2 j _ hj
  simp only [SV.den] at hdv
  have hb' : ((cleanT (fun j => decide (j ≠ i)) tab).set i (.ra e ty (l.take n)))[b]? = some (.box tt (cleanC (fun j => decide (j ≠ i)) cs)) := by
    rw [List.getElem?_set_ne (fun e => hbi e.symm), cleanP_cleanT _ _ _ _ _ hb]
  obtain ⟨vs', p1, p2, p3, p4⟩ := hw1.ent b _ hb'
  have hvs : vs' = vs := by
    rw [upd_ne hbi, q1] at p1
    have := Option.some.inj p1
    simp only [Obj.cells.injEq] at this
    exact (List.toArray_inj this.1).symm
  subst hvs
  have hne : (cleanC (fun j => decide (j ≠ i)) cs)[j]? = some .top := by simp [cleanC, hj, SV.ok]
  -- only this value lies there
  have p5 := denL_set _ _ p2 j (.arr i) v (by simp only [SV.den, upd_same]; rw [hdv]; rfl)
  have p6 : vs'.set j v = vs' := by
    apply List.ext_getElem?
    intro m
    rw [List.getElem?_set]
    split
    · rename_i hm
      subst hm
      rw [hv]
      simp [(List.getElem?_eq_some_iff.1 hv).1]
    · rfl
  rw [p6] at p5
  have h2 := hw1.step (k := b) (e' := .box tt ((cleanC (fun j => decide (j ≠ i)) cs).set j (.arr i))) (w' := w) (τ := σ) (ρ' := upd ρ i (locN (ρ i) n)) (fun _ => true) hb' (Mem.le_refl σ) hw1.sub (fun _ _ => rfl) (fun _ _ => rfl) (fun _ _ _ => rfl)
    (fun a v ha => .inl ⟨v, ha⟩) (fun _ => ⟨rfl, rfl⟩) ⟨vs', p1, p5, p3, p4⟩ (fun b hb => .inl hb) rfl rfl rfl (Nat.le_refl _)
  rwa [cleanT_true] at h2
theorem Tr.shortBox {P : Program} {cx : Cx} {m : Nat} {env : Env} {tab : List Ent} {Q : Post} {c : Code} (i n b j : Nat) {e : TypeId} {ty : Ty} {l : List ty.D} {tt : TypeId} {cs : List SV} (hi : tab[i]? = some (.ra e ty l)) (hb : tab[b]? = some (.box tt cs)) (hj : cs[j]? = some (.sub i n)) (hn : n ≤ l.length)
    (h : Tr P cx m c ⟨cleanE (fun j => decide (j ≠ i)) env, ((cleanT (fun j => decide (j ≠ i)) tab).set i (.ra e ty (l.take n))).set b (.box tt ((cleanC (fun j => decide (j ≠ i)) cs).set j (.arr i)))⟩ Q) : Tr P cx m c ⟨env, tab⟩ Q :=
  Tr.of h fun a w hs => hs.shortBox i n b j hi hn hb hj
theorem TrL.shortBox {P : Program} {cx : Cx} {m : Nat} {env : Env} {tab : List Ent} {Q : Post} {ops : Array Oper} {c : List Oper} (i n b j : Nat) {e : TypeId} {ty : Ty} {l : List ty.D} {tt : TypeId} {cs : List SV} (hi : tab[i]? = some (.ra e ty l)) (hb : tab[b]? = some (.box tt cs)) (hj : cs[j]? = some (.sub i n)) (hn : n ≤ l.length)
    (h : TrL P cx m ops c ⟨cleanE (fun j => decide (j ≠ i)) env, ((cleanT (fun j => decide (j ≠ i)) tab).set i (.ra e ty (l.take n))).set b (.box tt ((cleanC (fun j => decide (j ≠ i)) cs).set j (.arr i)))⟩ Q) : TrL P cx m ops c ⟨env, tab⟩ Q :=
  TrL.of h fun a w hs => hs.shortBox i n b j hi hn hb hj
theorem SRel.shortVar {cx : Cx} {m : Nat} {env : Env} {tab : List Ent} {a : Act} {w : World} (i n d : Nat) {e : TypeId} {ty : Ty} {l : List ty.D} (hi : tab[i]? = some (.ra e ty l)) (hn : n ≤ l.length) (hl : look env d = some ([], .sub i n))
    (h : SRel cx m ⟨env, tab⟩ a w) : SRel cx m ⟨(d, [], .arr i) :: cleanE (fun j => decide (j ≠ i)) env, (cleanT (fun j => decide (j ≠ i)) tab).set i (.ra e ty (l.take n))⟩ a w := by
  obtain ⟨σ, ρ, hw, he, hm, hd⟩ : ∃ σ ρ, WR cx σ ρ tab w ∧ EnvA σ ρ env a ∧ a.tmps.size = m ∧ a.defers = cx.ds := h
  obtain ⟨v, hv, hdv⟩ := (he d [] _ hl).1 (fun p hp => by cases hp)
  simp only [SV.den] at hdv
  have hρ : ∀ j, (decide (j ≠ i)) = true → upd ρ i (locN (ρ i) n) j = ρ j := fun j hj => upd_ne (by simpa using hj)
  refine ⟨σ, upd ρ i (locN (ρ i) n), hw.shorter hi hn, ?_, hm, hd⟩
  intro s ch sv hl'
  simp only [look] at hl'
  split at hl'
  · rename_i hs
    simp only [beq_iff_eq] at hs
    subst hs
    simp only [Option.some.injEq, Prod.mk.injEq] at hl'
    obtain ⟨rfl, rfl⟩ := hl'
    refine ⟨fun _ => ⟨v, hv, ?_⟩, fun hf => absurd (fun p hp => by cases hp) hf⟩
    simp only [SV.den, upd_same]
    rw [hdv]
    rfl
  · exact he.clean _ hρ s ch sv hl'
theorem Tr.shortVar {P : Program} {cx : Cx} {m : Nat} {env : Env} {tab : List Ent} {Q : Post} {c : Code} (i n d : Nat) {e : TypeId} {ty : Ty} {l : List ty.D} (hi : tab[i]? = some (.ra e ty l)) (hl : look env d = some ([], .sub i n)) (hn : n ≤ l.length)
    (h : Tr P cx m c ⟨(d, [], .arr i) :: cleanE (fun j => decide (j ≠ i)) env, (cleanT (fun j => decide (j ≠ i)) tab).set i (.ra e ty (l.take n))⟩ Q) : Tr P cx m c ⟨env, tab⟩ Q :=
  Tr.of h fun a w hs => hs.shortVar i n d hi hn hl

/-! ### How calls read them -/
def viewV (i : Nat) (t : Ty) (l : List t.D) : SV → SV
  | .arr j => if j = i then .val (.list t) l else .arr j
  | .sub j n => if j = i then .val (.list t) (l.take n) else .sub j n
  | s => s
/-- First ones are no more than there are. -/
def subsOk (i n : Nat) : List SV → Prop
  | [] => True
  | .sub j m :: r => (j = i → m ≤ n) ∧ subsOk i n r
  | _ :: r => subsOk i n r
theorem subsOk_tail {i n : Nat} : ∀ {s : SV} {r : List SV}, subsOk i n (s :: r) → subsOk i n r
  | .sub _ _, _, h => h.2
  | .val _ _, _, h | .nils, _, h | .nilp, _, h | .nilf, _, h | .top, _, h | .yv _, _, h | .mptr _, _, h | .fix _ _, _, h | .own _, _, h | .arr _, _, h | .mp _, _, h | .itr _, _, h | .ptr _ _, _, h | .offs _ _ _ _, _, h | .eptr _ _ _ _, _, h | .rptr _ _, _, h | .fn _ _ _, _, h | .tup _, _, h | .agg _, _, h => h
theorem viewL_den {cx : Cx} {σ : Mem} {ρ : Rho} {tab : List Ent} {w : World} {i : Nat} {e : TypeId} {t : Ty} {l : List t.D} (hw : WR cx σ ρ tab w) (hi : tab[i]? = some (.ra e t l)) :
    ∃ τ, σ.le τ ∧ (∀ a v, τ a = some v → w.cell? a = some v) ∧ ∀ (args : List SV) (vs : List Value), subsOk i l.length args → SV.denL σ ρ args vs → SV.denL τ ρ (args.map (viewV i t l)) vs := by
  obtain ⟨xs, h1, h2, h3, h4, h5⟩ := ra_seal hw hi
  refine ⟨_, h1, h2, fun args => ?_⟩
  induction args with
  | nil => intro vs _ h; exact h
  | cons s r ih =>
    intro vs hs h
    simp only [SV.denL] at h
    obtain ⟨v, us, rfl, hv, hr⟩ := h
    refine ⟨v, us, rfl, ?_, ih us (subsOk_tail hs) hr⟩
    unfold viewV
    split
    · rename_i j
      split
      · rename_i hj
        subst hj
        simp only [SV.den] at hv ⊢
        rw [hv]
        exact h5
      · exact den_grow h1 hv
    · rename_i j n
      split
      · rename_i hj
        subst hj
        simp only [SV.den] at hv ⊢
        rw [hv]
        exact h4 n (hs.1 rfl) _ rfl
      · exact den_grow h1 hv
    · exact den_grow h1 hv
/-- What such a call does. -/
theorem callM_run {P : Program} {cx : Cx} {σ : Mem} {ρ : Rho} {tab : List Ent} {w : World} {f : Nat} {args : List SV} {r : SV} {rv : Value} {i : Nat} {e : TypeId} {t : Ty} {l : List t.D} {vs : List Value}
    (hw : WR cx σ ρ tab w) (hi : tab[i]? = some (.ra e t l)) (hs : subsOk i l.length args) (hcall : CallV P f (args.map (viewV i t l)) r) (hr : rigidT r = some rv) (hd : SV.denL σ ρ args vs) :
    Calls P f vs.toArray w fun e w' => e = .returned rv ∧ WR cx σ ρ tab w' ∧ Same w w' ∧ w.heap.size ≤ w'.heap.size := by
  obtain ⟨τ, h1, h2, h3⟩ := viewL_den hw hi
  have hw1 : WR ⟨w, τ, fun _ => False, ρ, fun _ => false, []⟩ τ ρ [] w :=
    ⟨h2, fun i e h => by simp at h, fun i j e e' b h => by simp at h, rfl, rfl, rfl, Nat.le_refl _, fun _ _ _ => rfl, Mem.le_refl _, fun a v h => .inl ⟨v, h⟩, fun i e b h => by simp at h, GL_mono h1 hw.glob, fun i h => (by cases h), fun i h => (by cases h)⟩
  refine (hcall.2 _ τ ρ w vs hw1 (h3 _ _ hs hd)).mono ?_
  rintro e w' ⟨v, τ', rfl, hle, hwr, hden⟩
  rw [(rigidT_den hr).1 hden]
  refine ⟨rfl, hw.below (Mem.le_refl σ) (fun a u ha => hwr.sub a u (hle _ _ (h1 _ _ ha))) ⟨hwr.os, hwr.tape, hwr.output, hwr.size, fun k hk => hwr.old k hk (fun h => h)⟩ (fun a v ha => .inl ⟨v, ha⟩), WR.back_same hwr, hwr.size⟩
theorem TrL.callM {P : Program} {cx : Cx} {n : Nat} {ops : Array Oper} {o : Oper} {L : List Oper} {env : Env} {tab : List Ent} {Q : Post} {c : Call} {f : Nat} {args args' : List SV} {r : SV} {rv : Value} {d : Nat} {known : Chain} {e : TypeId} {t : Ty} {l : List t.D} (i : Nat)
    (ho : o.op = .call c) (hdst : o.dst = some d) (hg : guardOf ops env o = some known) (hc : callee env tab known c = some (f, args')) (hd : (decide (d < n) && known.all (fun p => p.1 != d) && okPut env d) = true) (hi : tab[i]? = some (.ra e t l)) (hv : args'.map (viewV i t l) = args) (hcall : CallV P f args r) (hr : rigidT r = some rv)
    (hs : subsOk i l.length args')
    (k : TrL P cx n ops L ⟨put env d known r, tab⟩ Q) : TrL P cx n ops (o :: L) ⟨env, tab⟩ Q := by
  intro a w hs'
  obtain ⟨σ, ρ, hw, he, hn, hdf⟩ : ∃ σ ρ, WR cx σ ρ tab w ∧ EnvA σ ρ env a ∧ a.tmps.size = n ∧ a.defers = cx.ds := hs'
  subst hv
  simp only [Bool.and_eq_true, decide_eq_true_eq] at hd
  have hwant := wanted_iff he.env hg
  refine wpList_step fun K hK => ?_
  by_cases hf : fits a known
  · rw [if_pos (hwant.2 hf)]
    obtain ⟨vs, h1, h2⟩ := callee_run (P := P) hw he.env hf ho hc
    unfold Oper.wp
    rw [h2 w, hcall.1]
    refine (callM_run hw hi hs hcall hr h1).mono ?_
    rintro e w' ⟨rfl, hw', _, _⟩
    refine hK _ _ (k _ _ ⟨σ, ρ, hw', ?_, by rw [put_size]; exact hn, by rw [put_defers]; exact hdf⟩)
    rw [hdst]
    exact he.put hd.2 (by rw [hn]; exact hd.1.1) hd.1.2 (fun _ => (rigidT_den hr).2 rfl) (fun h => absurd hf h)
  · rw [if_neg (fun h => hf (hwant.1 h))]
    refine hK _ _ (k _ _ ⟨σ, ρ, hw, ?_, by rw [put_size]; exact hn, by rw [put_defers]; exact hdf⟩)
    rw [hdst]
    exact he.put hd.2 (by rw [hn]; exact hd.1.1) hd.1.2 (fun h => absurd h hf) (fun _ => rfl)
theorem TrD.callM {P : Program} {cx : Cx} {n : Nat} {ops : Array Oper} {o : Oper} {L : List Oper} {env : Env} {tab : List Ent} {Q : Post} {c : Call} {f : Nat} {args args' : List SV} {r : SV} {rv : Value} {d : Nat} {known : Chain} {e : TypeId} {t : Ty} {l : List t.D} (i : Nat)
    (ho : o.op = .call c) (hdst : o.dst = some d) (hg : guardOf ops env o = some known) (hc : callee env tab known c = some (f, args')) (hd : (decide (d < n) && known.all (fun p => p.1 != d) && okPut env d) = true) (hi : tab[i]? = some (.ra e t l)) (hv : args'.map (viewV i t l) = args) (hcall : CallV P f args r) (hr : rigidT r = some rv)
    (hs : subsOk i l.length args')
    (k : TrD P cx n ops L ⟨put env d known r, tab⟩ Q) : TrD P cx n ops (o :: L) ⟨env, tab⟩ Q := by
  intro σ ρ w a hw he hn hdf
  simp only at hw he
  have her := he.env
  subst hv
  simp only [Bool.and_eq_true, decide_eq_true_eq] at hd
  have hwant := wanted_iff her hg
  unfold wpQuiet
  by_cases hf : fits a known
  · rw [if_pos (hwant.2 hf)]
    obtain ⟨vs, h1, h2⟩ := callee_run (P := P) hw her hf ho hc
    refine ⟨rv, fun w1 ⟨τ, t1, t2, t3, t4⟩ => ?_, k σ ρ w _ hw ?_ (by rw [put_size]; exact hn) (by rw [put_defers]; exact hdf)⟩
    · unfold Oper.quietAt
      rw [h2 w1, hcall.1]
      refine ⟨rfl, (callM_run t2 hi hs hcall hr (denL_grow t1 h1)).mono ?_⟩
      rintro e w' ⟨rfl, hw', hsame, hsz⟩
      exact ⟨rfl, τ, t1, hw', fun b hb => (hsame b (Nat.lt_of_lt_of_le hb t4)).trans (t3 b hb), Nat.le_trans t4 hsz⟩
    · rw [hdst]
      exact he.put hd.2 (by rw [hn]; exact hd.1.1) hd.1.2 (fun _ => (rigidT_den hr).2 rfl) (fun h => absurd hf h)
  · rw [if_neg (fun h => hf (hwant.1 h))]
    refine k σ ρ w _ hw ?_ (by rw [put_size]; exact hn) (by rw [put_defers]; exact hdf)
    rw [hdst]
    exact he.put hd.2 (by rw [hn]; exact hd.1.1) hd.1.2 (fun h => absurd h hf) (fun _ => rfl)
end Go.Proofs.YteiickhgmmjcmaaGreatDoor.Sx
