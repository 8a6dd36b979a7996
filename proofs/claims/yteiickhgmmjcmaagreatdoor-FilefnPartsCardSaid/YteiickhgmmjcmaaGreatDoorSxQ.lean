/-
  A value told in another way.
-/
import Derived.Test.YteiickhgmmjcmaaGreatDoorSxP
set_option linter.unusedVariables false
namespace Go.Proofs.YteiickhgmmjcmaaGreatDoor.Sx
open Go Go.RowKit
variable {P : Program} {cx : Cx} {n : Nat} {Q : Post} {env : Env} {tab : List Ent}
theorem SRel.is {a : Act} {w : World} (d : Nat) {sv sv' : SV} (hl : look env d = some ([], sv)) (e : sv = sv') (h : SRel cx n ⟨env, tab⟩ a w) : SRel cx n ⟨(d, [], sv') :: env, tab⟩ a w := by
  obtain ⟨σ, ρ, hw, he, hn, hd⟩ : ∃ σ ρ, WR cx σ ρ tab w ∧ EnvA σ ρ env a ∧ a.tmps.size = n ∧ a.defers = cx.ds := h
  subst e
  refine ⟨σ, ρ, hw, ?_, hn, hd⟩
  intro s ch v hl'
  simp only [look] at hl'
  split at hl'
  · rename_i hs
    simp only [beq_iff_eq] at hs
    subst hs
    obtain ⟨rfl, rfl⟩ : [] = ch ∧ sv = v := by simpa using hl'
    exact he d [] _ hl
  · exact he s ch v hl'
theorem Tr.is {c : Code} (d : Nat) {sv sv' : SV} (hl : look env d = some ([], sv)) (e : sv = sv') (h : Tr P cx n c ⟨(d, [], sv') :: env, tab⟩ Q) : Tr P cx n c ⟨env, tab⟩ Q :=
  Tr.of h fun a w hs => hs.is d hl e
theorem TrL.is {ops : Array Oper} {l : List Oper} (d : Nat) {sv sv' : SV} (hl : look env d = some ([], sv)) (e : sv = sv') (h : TrL P cx n ops l ⟨(d, [], sv') :: env, tab⟩ Q) : TrL P cx n ops l ⟨env, tab⟩ Q :=
  TrL.of h fun a w hs => hs.is d hl e
/-- Only this is told on. -/
theorem Tr.keep {c : Code} (slots : List Nat) (k : Nat) (hB : ∀ i, cx.B i = true → i < k) {st' : St} (e : keep slots k ⟨env, tab⟩ = st') (h : Tr P cx n c st' Q) : Tr P cx n c ⟨env, tab⟩ Q :=
  Tr.of h fun a w hs => e ▸ hs.keep slots k hB
theorem TrL.keep {ops : Array Oper} {l : List Oper} (slots : List Nat) (k : Nat) (hB : ∀ i, cx.B i = true → i < k) {st' : St} (e : keep slots k ⟨env, tab⟩ = st') (h : TrL P cx n ops l st' Q) : TrL P cx n ops l ⟨env, tab⟩ Q :=
  TrL.of h fun a w hs => e ▸ hs.keep slots k hB
/-- Two ways that come together: what both leave. -/
def joinQ {α : Type} (S : α → St) (I : α → Prop) (slots : List Nat) (k : Nat) (Q : Post) : Post := fun e st => match e with
  | .normal => ∃ y, I y ∧ keep slots k st = S y
  | .exit i => Q (.exit i) st
  | .goto l => Q (.goto l) st
  | .ret => Q .ret st
  | .panic c => Q (.panic c) st
  | .outgrown => Q .outgrown st
theorem Tr.join {α : Type} {x y : Code} {st : St} (S : α → St) (I : α → Prop) (slots : List Nat) (k : Nat) (hB : ∀ i, cx.B i = true → i < k) (h1 : Tr P cx n x st (joinQ S I slots k Q)) (h2 : ∀ a, I a → Tr P cx n y (S a) Q) : Tr P cx n (.seq x y) st Q := by
  refine Tr.seq (h1.mono fun e st' h => ?_)
  cases e with
  | normal =>
    obtain ⟨a, hI, hk⟩ := h
    exact Tr.keep (env := st'.env) (tab := st'.tab) slots k hB hk (h2 a hI)
  | _ => exact h
end Go.Proofs.YteiickhgmmjcmaaGreatDoor.Sx
