/-
  A scope without jumps; a list in a variable that has not begun; more than one way out told alike.
-/
import Derived.Test.YteiickhgmmjcmaaGreatDoorSxS
import Derived.Scope
set_option linter.unusedVariables false
set_option linter.unusedSimpArgs false
namespace Go.Proofs.YteiickhgmmjcmaaGreatDoor.Sx
open Go Go.RowKit

def scopeQ (Q : Post) : Post := fun e st => match e with
  | .goto _ => False
  | .exit i => Q (.exit i) st
  | .normal => Q .normal st
  | .ret => Q .ret st
  | .panic c => Q (.panic c) st
  | .outgrown => Q .outgrown st
theorem Tr.scope {P : Program} {cx : Cx} {n : Nat} {c : Code} {st : St} {Q : Post} (h : Tr P cx n c st (scopeQ Q)) : Tr P cx n (.scope c) st Q := by
  intro a w hs
  refine wp_scope_straight (wp_mono (h a w hs) fun e a' w' ⟨st', h1, h2⟩ => ?_)
  cases e with
  | goto l => exact h1.elim
  | _ => exact ⟨st', h1, h2⟩

/-! ### A list that was written out, as a list -/
theorem SRel.plain {cx : Cx} {n : Nat} {env : Env} {tab : List Ent} {a : Act} {w : World} (d : Nat) {t : Ty} {l : List t.D} (hl : look env d = some ([], .fix t l)) (h : SRel cx n ⟨env, tab⟩ a w) : SRel cx n ⟨(d, [], .val (.list t) l) :: env, tab⟩ a w := by
  obtain ⟨σ, ρ, hw, he, hn, hd⟩ : ∃ σ ρ, WR cx σ ρ tab w ∧ EnvA σ ρ env a ∧ a.tmps.size = n ∧ a.defers = cx.ds := h
  refine ⟨σ, ρ, hw, ?_, hn, hd⟩
  intro s ch v hl'
  simp only [look] at hl'
  split at hl'
  · rename_i hs
    simp only [beq_iff_eq] at hs
    subst hs
    obtain ⟨rfl, rfl⟩ : [] = ch ∧ SV.val (.list t) l = v := by simpa using hl'
    obtain ⟨g1, g2⟩ := he d [] _ hl
    refine ⟨fun hf => ?_, g2⟩
    obtain ⟨u, hu, hd2⟩ := g1 hf
    simp only [SV.den] at hd2 ⊢
    exact ⟨u, hu, hd2.1⟩
  · exact he s ch v hl'
theorem TrL.plain {P : Program} {cx : Cx} {n : Nat} {env : Env} {tab : List Ent} {Q : Post} {ops : Array Oper} {l : List Oper} (d : Nat) {t : Ty} {xs : List t.D} (hl : look env d = some ([], .fix t xs)) (h : TrL P cx n ops l ⟨(d, [], .val (.list t) xs) :: env, tab⟩ Q) : TrL P cx n ops l ⟨env, tab⟩ Q :=
  TrL.of h fun a w hs => hs.plain d hl
theorem Tr.plain {P : Program} {cx : Cx} {n : Nat} {env : Env} {tab : List Ent} {Q : Post} {c : Code} (d : Nat) {t : Ty} {xs : List t.D} (hl : look env d = some ([], .fix t xs)) (h : Tr P cx n c ⟨(d, [], .val (.list t) xs) :: env, tab⟩ Q) : Tr P cx n c ⟨env, tab⟩ Q :=
  Tr.of h fun a w hs => hs.plain d hl

/-! ### A list in a variable that has not begun -/
def nilBox (env : Env) (tab : List Ent) (i j : Nat) (e : TypeId) (ty : Ty) : St :=
  ⟨cleanE (fun i => decide (i < tab.length)) env, match tab[i]? with
    | some (.box tt cs) => (cleanT (fun i => decide (i < tab.length)) tab ++ [Ent.gs e ty []]).set i (.box tt ((cleanC (fun i => decide (i < tab.length)) cs).set j (.own tab.length)))
    | _ => tab⟩
theorem cleanP_cleanT (p : Nat → Bool) (tab : List Ent) (i : Nat) (tt : TypeId) (cs : List SV) (h : tab[i]? = some (.box tt cs)) : (cleanT p tab)[i]? = some (.box tt (cleanC p cs)) := by
  simp [cleanT, h]
theorem SRel.nilBox {cx : Cx} {n : Nat} {env : Env} {tab : List Ent} {a : Act} {w : World} (i j : Nat) (e : TypeId) (ty : Ty) {tt : TypeId} {cs : List SV} (hi : tab[i]? = some (.box tt cs)) (hj : cs[j]? = some .nils) (h : SRel cx n ⟨env, tab⟩ a w) : SRel cx n (nilBox env tab i j e ty) a w := by
  obtain ⟨σ, ρ, hw, he, hn, hd⟩ : ∃ σ ρ, WR cx σ ρ tab w ∧ EnvA σ ρ env a ∧ a.tmps.size = n ∧ a.defers = cx.ds := h
  have hρ : ∀ i, (decide (i < tab.length)) = true → upd ρ tab.length ⟨0, none, 0, 0, []⟩ i = ρ i := upd_lt
  have hil : i < tab.length := (List.getElem?_eq_some_iff.1 hi).1
  refine ⟨σ, upd ρ tab.length ⟨0, none, 0, 0, []⟩, ?_, he.clean _ hρ, hn, hd⟩
  have h1 : WR cx σ (upd ρ tab.length ⟨0, none, 0, 0, []⟩) (cleanT (fun i => decide (i < tab.length)) tab ++ [Ent.gs e ty []]) w := by
    refine hw.newEnt (Mem.le_refl σ) hw.sub (fun b _ => rfl) (fun a v ha => .inl ⟨v, ha⟩) ⟨[], Rows.nil σ ty, ?_, fun g hg => ?_⟩ (fun b hb => ?_) rfl rfl rfl (Nat.le_refl _)
    · rw [upd_same]; exact World.ownsRow_nil w 0 e _
    · rw [upd_same] at hg; cases hg
    · simp only [Ent.at_, upd_same] at hb; cases hb
  have hi' : (cleanT (fun i => decide (i < tab.length)) tab ++ [Ent.gs e ty []])[i]? = some (.box tt (cleanC (fun i => decide (i < tab.length)) cs)) := by
    rw [List.getElem?_append_left (by rw [cleanT_length]; exact hil), cleanP_cleanT _ _ _ _ _ hi]
  have hj' : (cleanC (fun i => decide (i < tab.length)) cs)[j]? = some .nils := by simp [cleanC, hj, SV.ok]
  obtain ⟨vs, q1, q2, q3, q4⟩ := h1.ent i _ hi'
  obtain ⟨v, hv, hdv⟩ := denL_get _ _ q2 j _ hj'
  simp only [SV.den] at hdv
  have q5 := denL_set _ _ q2 j (.own tab.length) v (by simp only [SV.den, upd_same]; exact hdv)
  have q6 : vs.set j v = vs := by
    apply List.ext_getElem?
    intro m
    rw [List.getElem?_set]
    split
    · rename_i hm
      subst hm
      rw [hv]
      simp [(List.getElem?_eq_some_iff.1 hv).1]
    · rfl
  rw [q6] at q5
  have h2 := h1.step (k := i) (e' := .box tt ((cleanC (fun i => decide (i < tab.length)) cs).set j (.own tab.length))) (w' := w) (τ := σ) (ρ' := upd ρ tab.length ⟨0, none, 0, 0, []⟩) (fun _ => true) hi' (Mem.le_refl σ) h1.sub (fun _ _ => rfl) (fun _ _ => rfl) (fun _ _ _ => rfl)
    (fun a v ha => .inl ⟨v, ha⟩) (fun _ => ⟨rfl, rfl⟩) ⟨vs, q1, q5, q3, q4⟩ (fun b hb => .inl hb) rfl rfl rfl (Nat.le_refl _)
  rw [cleanT_true] at h2
  simp only [Sx.nilBox, hi]
  exact h2
theorem RW.nilBox {P : Program} {cx : Cx} {n : Nat} {env : Env} {tab : List Ent} {Q : Exit → Act → World → Prop} {c : Code} (i j : Nat) (e : TypeId) (ty : Ty) {tt : TypeId} {cs : List SV} (hi : tab[i]? = some (.box tt cs)) (hj : cs[j]? = some .nils) (h : RW P cx n c (Sx.nilBox env tab i j e ty) Q) : RW P cx n c ⟨env, tab⟩ Q :=
  RW.of h fun a w hs => hs.nilBox i j e ty hi hj
theorem RW.keep {P : Program} {cx : Cx} {n : Nat} {st : St} {Q : Exit → Act → World → Prop} {c : Code} (slots : List Nat) (k : Nat) (hB : ∀ i, cx.B i = true → i < k) {st' : St} (e : keep slots k st = st') (h : RW P cx n c st' Q) : RW P cx n c st Q :=
  RW.of h fun a w hs => e ▸ hs.keep slots k hB
theorem Tr.nilBox {P : Program} {cx : Cx} {n : Nat} {env : Env} {tab : List Ent} {Q : Post} {c : Code} (i j : Nat) (e : TypeId) (ty : Ty) {tt : TypeId} {cs : List SV} (hi : tab[i]? = some (.box tt cs)) (hj : cs[j]? = some .nils) (h : Tr P cx n c (Sx.nilBox env tab i j e ty) Q) : Tr P cx n c ⟨env, tab⟩ Q :=
  Tr.of h fun a w hs => hs.nilBox i j e ty hi hj
end Go.Proofs.YteiickhgmmjcmaaGreatDoor.Sx
