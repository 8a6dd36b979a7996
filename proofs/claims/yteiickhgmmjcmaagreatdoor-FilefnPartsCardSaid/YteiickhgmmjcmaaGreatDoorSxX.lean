/-
  Bytes that are written in place, read as a string.
-/
import Derived.Test.YteiickhgmmjcmaaGreatDoorSxW
set_option linter.unusedVariables false
set_option linter.unusedSimpArgs false
namespace Go.Proofs.YteiickhgmmjcmaaGreatDoor.Sx
open Go Go.RowKit

theorem TrL.convM {P : Program} {cx : Cx} {n : Nat} {ops : Array Oper} {o : Oper} {L : List Oper} {env : Env} {tab : List Ent} {Q : Post} {s0 d0 : TypeId} {x : Operand} {sx : SV} {str : Str} {d : Nat} {e : TypeId} {t : Ty} {l : List t.D} (i : Nat)
    (ho : o.op = .convert s0 d0 x) (hdst : o.dst = some d) (hg : o.guard = none) (hx : opnd env [] x = some sx) (hd : (decide (d < n) && okPut env d) = true) (hi : tab[i]? = some (.ra e t l)) (hs : subsOk i l.length [sx])
    (hc : convBytes P s0 d0 (viewV i t l sx) = some (none, .val .str str)) (k : TrL P cx n ops L ⟨put env d [] (.val .str str), tab⟩ Q) : TrL P cx n ops (o :: L) ⟨env, tab⟩ Q := by
  intro a w hs'
  obtain ⟨σ, ρ, hw, he, hn, hdf⟩ : ∃ σ ρ, WR cx σ ρ tab w ∧ EnvA σ ρ env a ∧ a.tmps.size = n ∧ a.defers = cx.ds := hs'
  simp only [Bool.and_eq_true, decide_eq_true_eq] at hd
  have hv := opnd_den he.env (fun p hp => by cases hp) hx
  obtain ⟨τ, h1, h2, h3⟩ := viewL_den hw hi
  have hw1 : WR ⟨w, τ, fun _ => False, ρ, fun _ => false, []⟩ τ ρ [] w :=
    ⟨h2, fun i e h => by simp at h, fun i j e e' b h => by simp at h, rfl, rfl, rfl, Nat.le_refl _, fun _ _ _ => rfl, Mem.le_refl _, fun a v h => .inl ⟨v, h⟩, fun i e b h => by simp at h, GL_mono h1 hw.glob, fun i h => (by cases h), fun i h => (by cases h)⟩
  have h4 := h3 [sx] [a.eval x] hs ⟨_, _, rfl, hv, rfl⟩
  simp only [List.map_cons, List.map_nil, SV.denL] at h4
  obtain ⟨_, _, h5, h6, rfl⟩ := h4
  obtain rfl : a.eval x = _ := by simpa using h5
  obtain ⟨v, r1, r2⟩ := convBytes_sound (P := P) hw1 hc h6
  have r3 := r1 w (Same.refl w)
  refine wpList_plain hg fun K hK => ?_
  refine wp_of_value (v := v) (w' := w) (by simp only [execOp, ho]; simp [r3]) (hK _ _ (k _ _ ⟨σ, ρ, hw, ?_, by rw [put_size]; exact hn, by rw [put_defers]; exact hdf⟩))
  rw [hdst]
  refine he.put hd.2 (by rw [hn]; exact hd.1) rfl (fun _ => ?_) (fun h => absurd (fun p hp => by cases hp) h)
  simp only [SV.den, Den] at r2 ⊢
  exact r2
/-! ### Less is told of a value -/
def weaker (s : SV) (t : Ty) (l : List t.D) : Prop := ∀ (σ : Mem) (ρ : Rho) v, SV.den σ ρ s v → SV.den σ ρ (.val (.list t) l) v
theorem fix_weak (t : Ty) (l : List t.D) : weaker (.fix t l) t l := fun σ ρ v h => by
  have := listOf_den (t := t) (l := l) rfl h
  simpa only [SV.den] using this
theorem nil_weak (t : Ty) : weaker .nils t [] := fun σ ρ v h => by
  simp only [SV.den] at h ⊢
  subst h
  exact nil_den
theorem SRel.weak {cx : Cx} {n : Nat} {env : Env} {tab : List Ent} {a : Act} {w : World} (d : Nat) {sv : SV} {t : Ty} {l : List t.D} (hl : look env d = some ([], sv)) (e : weaker sv t l) (h : SRel cx n ⟨env, tab⟩ a w) : SRel cx n ⟨(d, [], .val (.list t) l) :: env, tab⟩ a w := by
  obtain ⟨σ, ρ, hw, he, hn, hd⟩ : ∃ σ ρ, WR cx σ ρ tab w ∧ EnvA σ ρ env a ∧ a.tmps.size = n ∧ a.defers = cx.ds := h
  refine ⟨σ, ρ, hw, ?_, hn, hd⟩
  intro s ch v hl'
  simp only [look] at hl'
  split at hl'
  · rename_i hs
    simp only [beq_iff_eq] at hs
    subst hs
    obtain ⟨rfl, rfl⟩ : [] = ch ∧ SV.val (.list t) l = v := by simpa using hl'
    have h1 := he d [] _ hl
    refine ⟨fun hf => ?_, h1.2⟩
    obtain ⟨v, hv, hdv⟩ := h1.1 hf
    exact ⟨v, hv, e _ _ _ hdv⟩
  · exact he s ch v hl'
theorem Tr.weak {P : Program} {cx : Cx} {n : Nat} {env : Env} {tab : List Ent} {Q : Post} {c : Code} (d : Nat) {sv : SV} {t : Ty} {l : List t.D} (hl : look env d = some ([], sv)) (e : weaker sv t l) (h : Tr P cx n c ⟨(d, [], .val (.list t) l) :: env, tab⟩ Q) : Tr P cx n c ⟨env, tab⟩ Q :=
  Tr.of h fun a w hs => hs.weak d hl e
theorem TrL.weak {P : Program} {cx : Cx} {n : Nat} {env : Env} {tab : List Ent} {Q : Post} {ops : Array Oper} {c : List Oper} (d : Nat) {sv : SV} {t : Ty} {l : List t.D} (hl : look env d = some ([], sv)) (e : weaker sv t l) (h : TrL P cx n ops c ⟨(d, [], .val (.list t) l) :: env, tab⟩ Q) : TrL P cx n ops c ⟨env, tab⟩ Q :=
  TrL.of h fun a w hs => hs.weak d hl e
end Go.Proofs.YteiickhgmmjcmaaGreatDoor.Sx
