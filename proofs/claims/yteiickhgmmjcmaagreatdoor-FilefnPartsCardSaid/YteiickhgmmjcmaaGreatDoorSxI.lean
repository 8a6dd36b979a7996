/-
  What an operation that writes or makes memory does to a state.
-/
import Derived.Test.YteiickhgmmjcmaaGreatDoorSxH
import Derived.Laws.CopyRow
import Derived.Laws.MakeOwn
set_option linter.unusedVariables false
set_option linter.unusedSimpArgs false
namespace Go.Proofs.YteiickhgmmjcmaaGreatDoor.Sx
open Go Go.RowKit

theorem sub_lt {σ : Mem} {w : World} (h : ∀ a v, σ a = some v → w.cell? a = some v) {a : Addr} {v : Value} (ha : σ a = some v) : a.block < w.heap.size :=
  World.block_lt_of_cell? w a (h a v ha)

theorem EnvR.clean {σ : Mem} {ρ ρ' : Rho} {env : Env} {a : Act} (he : EnvA σ ρ env a) (p : Nat → Bool) (hr : ∀ i, p i = true → ρ' i = ρ i) : EnvA σ ρ' (cleanE p env) a := by
  intro s ch sv hl
  obtain ⟨_, h2, h3⟩ := cleanS_look _ _ s ch sv hl
  obtain ⟨g1, g2⟩ := he s ch sv h2
  exact ⟨fun hf => let ⟨v, h4, h5⟩ := g1 hf; ⟨v, h4, den_step (Mem.le_refl σ) p hr _ v h3 h5⟩, g2⟩
theorem okPut_clean {p : Nat → Bool} {env : Env} {d : Nat} (h : okPut env d = true) : okPut (cleanE p env) d = true := by
  have key : ∀ (env : Env) (seen : List Nat), okPut env d = true → okPut (cleanS p seen env) d = true := by
    intro env
    induction env with
    | nil => intro seen _; rfl
    | cons x r ih =>
      intro seen h
      obtain ⟨s, ch, sv⟩ := x
      simp only [okPut, List.all_cons, Bool.and_eq_true] at h
      simp only [cleanS]
      split
      · exact ih _ h.2
      · split
        · simp only [okPut, List.all_cons, Bool.and_eq_true]
          exact ⟨h.1, ih _ h.2⟩
        · exact ih _ h.2
  exact key env [] h

def Loc0 (b : Nat) : Loc := ⟨b, none, 0, 0, []⟩
def upd (ρ : Rho) (n : Nat) (L : Loc) : Rho := fun i => if i = n then L else ρ i
theorem upd_same (ρ : Rho) (n : Nat) (L : Loc) : upd ρ n L n = L := by simp [upd]
theorem upd_lt {ρ : Rho} {n : Nat} {L : Loc} : ∀ i, (decide (i < n)) = true → upd ρ n L i = ρ i := by
  intro i hi
  simp only [decide_eq_true_eq] at hi
  simp only [upd]
  rw [if_neg (by omega)]
theorem upd_ne {ρ : Rho} {n i : Nat} {L : Loc} (h : i ≠ n) : upd ρ n L i = ρ i := by simp [upd, h]

theorem cleanT_length (p : Nat → Bool) (tab : List Ent) : (cleanT p tab).length = tab.length := by simp [cleanT]

theorem get_snoc {α : Type} {l : List α} {x : α} {i : Nat} {e : α} (h : (l ++ [x])[i]? = some e) : (i < l.length ∧ l[i]? = some e) ∨ (i = l.length ∧ e = x) := by
  rw [List.getElem?_append] at h
  split at h
  · rename_i hi; exact .inl ⟨hi, h⟩
  · rename_i hi
    have : i - l.length = 0 := by
      rcases Nat.eq_zero_or_pos (i - l.length) with h0 | h0
      · exact h0
      · rw [List.getElem?_eq_none (by simp; omega)] at h; cases h
    rw [this] at h
    simp at h
    exact .inr ⟨by omega, h.symm⟩

/-- A new entry over a new block. -/
theorem WR.newEnt {cx : Cx} {σ τ : Mem} {ρ : Rho} {tab : List Ent} {w w' : World} (h : WR cx σ ρ tab w) {e : Ent} {L : Loc}
    (hle : σ.le τ) (hsub : ∀ a v, τ a = some v → w'.cell? a = some v) (hheap : ∀ b, b < w.heap.size → w'.heap[b]? = w.heap[b]?)
    (hnew : ∀ a v, τ a = some v → (∃ v', σ a = some v') ∨ w.heap.size ≤ a.block)
    (hrel : e.rel τ (upd ρ tab.length L) w' tab.length) (hblk : ∀ b, e.at_ (upd ρ tab.length L) tab.length b → w.heap.size ≤ b)
    (hos : w'.os = w.os) (htape : w'.tape = w.tape) (hout : w'.output = w.output) (hsize : w.heap.size ≤ w'.heap.size) :
    WR cx τ (upd ρ tab.length L) (cleanT (fun i => decide (i < tab.length)) tab ++ [e]) w' := by
  have hc := h.clean (fun i => decide (i < tab.length))
  have hlen := cleanT_length (fun i => decide (i < tab.length)) tab
  have hget : ∀ (i : Nat) x, (cleanT (fun i => decide (i < tab.length)) tab ++ [e])[i]? = some x → (i < tab.length ∧ (cleanT (fun i => decide (i < tab.length)) tab)[i]? = some x) ∨ (i = tab.length ∧ x = e) := by
    intro i x hx
    have := get_snoc hx
    rwa [hlen] at this
  have hρ : ∀ i, i < tab.length → upd ρ tab.length L i = ρ i := fun i hi => upd_ne (by omega)
  have hold : ∀ (i : Nat) x b, i < tab.length → (cleanT (fun i => decide (i < tab.length)) tab)[i]? = some x → x.at_ (upd ρ tab.length L) i b → x.at_ ρ i b := by
    intro i x b hi hx hb
    have hr := hρ i hi
    cases x <;> simp only [Ent.at_, hr] at hb ⊢ <;> exact hb
  refine ⟨hsub, fun i x hx => ?_, fun i j x y b hx hy hb hb' => ?_, hos.trans h.os, htape.trans h.tape, hout.trans h.output, Nat.le_trans h.size hsize,
    fun k hk hR => (hheap k (Nat.lt_of_lt_of_le hk h.size)).trans (h.old k hk hR), Mem.le_trans h.le hle, fun a v ha => ?_, fun i x b hx hb => ?_, GL_mono hle h.glob, fun i hi => ?_, fun i hi => ?_⟩
  · rcases hget i x hx with ⟨hi, hx⟩ | ⟨rfl, rfl⟩
    · obtain ⟨e0, h1, he0⟩ := cleanT_get hx
      refine Ent.rel_keep (hc.ent i x hx) hle (fun i => decide (i < tab.length)) upd_lt (by rw [he0]; exact clean_ok) (hρ i hi) (fun b hb => hheap b (Ent.rel_lt (hc.ent i x hx) hb)) (fun a v ha => ?_)
      rcases hnew a v ha with hv | hv
      · exact .inl hv
      · exact .inr fun hb => by have := Ent.rel_lt (hc.ent i x hx) hb; omega
    · exact hrel
  · rcases hget i x hx with ⟨hi, hx1⟩ | ⟨rfl, rfl⟩ <;> rcases hget j y hy with ⟨hj, hy1⟩ | ⟨rfl, rfl⟩
    · exact hc.dis i j x y b hx1 hy1 (hold i x b hi hx1 hb) (hold j y b hj hy1 hb')
    · have h1 := Ent.rel_lt (hc.ent i x hx1) (hold i x b hi hx1 hb)
      have h2 := hblk b hb'
      omega
    · have h1 := Ent.rel_lt (hc.ent j y hy1) (hold j y b hj hy1 hb')
      have h2 := hblk b hb
      omega
    · rfl
  · rcases hnew a v ha with ⟨v', hv⟩ | hv
    · exact h.new a v' hv
    · exact .inr (.inl (Nat.le_trans h.size hv))
  · rcases hget i x hx with ⟨hi, hx⟩ | ⟨rfl, rfl⟩
    · exact hc.live i x b hx (hold i x b hi hx hb)
    · exact .inl (Nat.le_trans h.size (hblk b hb))
  · obtain ⟨tt, cs, hcs⟩ := h.isb i hi
    rw [hρ i (List.getElem?_eq_some_iff.1 hcs).1]
    exact h.keepρ i hi
  · obtain ⟨tt, cs, hcs⟩ := hc.isb i hi
    exact ⟨tt, cs, by rw [List.getElem?_append_left (List.getElem?_eq_some_iff.1 hcs).1]; exact hcs⟩

/-- An entry turns. -/
theorem WR.step {cx : Cx} {σ τ : Mem} {ρ ρ' : Rho} {tab : List Ent} {w w' : World} (h : WR cx σ ρ tab w) {k : Nat} {e e' : Ent} (p : Nat → Bool) (hk : tab[k]? = some e)
    (hle : σ.le τ) (hsub : ∀ a v, τ a = some v → w'.cell? a = some v) (hp : ∀ i, p i = true → ρ' i = ρ i) (hpk : ∀ i, i ≠ k → ρ' i = ρ i)
    (hheap : ∀ b, b < w.heap.size → ¬ e.at_ ρ k b → w'.heap[b]? = w.heap[b]?)
    (hnew : ∀ a v, τ a = some v → (∃ v', σ a = some v') ∨ (e.at_ ρ k a.block ∧ e.isBox = false) ∨ w.heap.size ≤ a.block) (hbox : e.isBox = true → e'.isBox = true ∧ ρ' k = ρ k)
    (hrel : e'.rel τ ρ' w' k) (hblk : ∀ b, e'.at_ ρ' k b → e.at_ ρ k b ∨ w.heap.size ≤ b)
    (hos : w'.os = w.os) (htape : w'.tape = w.tape) (hout : w'.output = w.output) (hsize : w.heap.size ≤ w'.heap.size) :
    WR cx τ ρ' ((cleanT p tab).set k e') w' := by
  have hc := h.clean p
  have hlen := cleanT_length p tab
  have hkl : k < (cleanT p tab).length := by rw [hlen]; exact (List.getElem?_eq_some_iff.1 hk).1
  have hget : ∀ (i : Nat) x, ((cleanT p tab).set k e')[i]? = some x → (i ≠ k ∧ (cleanT p tab)[i]? = some x) ∨ (i = k ∧ x = e') := by
    intro i x hx
    rw [List.getElem?_set] at hx
    split at hx
    · rename_i hi
      subst hi
      exact .inr ⟨rfl, (Option.some.inj hx).symm⟩
    · rename_i hi
      exact .inl ⟨fun e => hi e.symm, hx⟩
  have hkb : ∀ (i : Nat) x b, i ≠ k → (cleanT p tab)[i]? = some x → x.at_ ρ i b → ¬ e.at_ ρ k b := by
    intro i x b hi hx hb hkb
    obtain ⟨e0, h1, rfl⟩ := cleanT_get hx
    rw [clean_blk] at hb
    exact hi (h.dis i k e0 e b h1 hk hb hkb)
  have hold : ∀ (i : Nat) (x : Ent) b, i ≠ k → x.at_ ρ' i b → x.at_ ρ i b := by
    intro i x b hi hb
    have hr := hpk i hi
    cases x <;> simp only [Ent.at_, hr] at hb ⊢ <;> exact hb
  refine ⟨hsub, fun i x hx => ?_, fun i j x y b hx hy hb hb' => ?_, hos.trans h.os, htape.trans h.tape, hout.trans h.output, Nat.le_trans h.size hsize,
    fun b hb hR => (hheap b (Nat.lt_of_lt_of_le hb h.size) (fun e1 => ?_)).trans (h.old b hb hR), Mem.le_trans h.le hle, fun a v ha => ?_, fun i x b hx hb => ?_, GL_mono hle h.glob, fun i hi => ?_, fun i hi => ?_⟩
  · rcases hget i x hx with ⟨hi, hx⟩ | ⟨rfl, rfl⟩
    · obtain ⟨e0, h1, he0⟩ := cleanT_get hx
      refine Ent.rel_keep (hc.ent i x hx) hle p hp (by rw [he0]; exact clean_ok) (hpk i hi) (fun b hb => hheap b (Ent.rel_lt (hc.ent i x hx) hb) (hkb i x b hi hx hb)) (fun a v ha => ?_)
      rcases hnew a v ha with hv | hv | hv
      · exact .inl hv
      · exact .inr fun hb => hkb i x _ hi hx hb hv.1
      · exact .inr fun hb => by have := Ent.rel_lt (hc.ent i x hx) hb; omega
    · exact hrel
  · rcases hget i x hx with ⟨hi, hx1⟩ | ⟨rfl, rfl⟩ <;> rcases hget j y hy with ⟨hj, hy1⟩ | ⟨rfl, rfl⟩
    · exact hc.dis i j x y b hx1 hy1 (hold i x b hi hb) (hold j y b hj hb')
    · rcases hblk b hb' with h2 | h2
      · exact absurd h2 (hkb i x b hi hx1 (hold i x b hi hb))
      · have := Ent.rel_lt (hc.ent i x hx1) (hold i x b hi hb); omega
    · rcases hblk b hb with h2 | h2
      · exact absurd h2 (hkb j y b hj hy1 (hold j y b hj hb'))
      · have := Ent.rel_lt (hc.ent j y hy1) (hold j y b hj hb'); omega
    · rfl
  · rcases h.live k e b hk e1 with h2 | h2
    · omega
    · exact hR h2
  · rcases hnew a v ha with ⟨v', hv⟩ | hv | hv
    · exact h.new a v' hv
    · rcases h.live k e _ hk hv.1 with h2 | h2
      · exact .inr (.inl h2)
      · exact .inr (.inr h2)
    · exact .inr (.inl (Nat.le_trans h.size hv))
  · rcases hget i x hx with ⟨hi, hx⟩ | ⟨rfl, rfl⟩
    · exact hc.live i x b hx (hold i x b hi hb)
    · rcases hblk b hb with h2 | h2
      · exact h.live i e b hk h2
      · exact .inl (Nat.le_trans h.size h2)
  · by_cases hik : i = k
    · subst hik
      obtain ⟨tt, cs, hcs⟩ := h.isb i hi
      rw [hk] at hcs
      obtain rfl := Option.some.inj hcs
      rw [(hbox rfl).2]
      exact h.keepρ i hi
    · rw [hpk i hik]; exact h.keepρ i hi
  · by_cases hik : i = k
    · subst hik
      obtain ⟨tt, cs, hcs⟩ := h.isb i hi
      rw [hk] at hcs
      obtain rfl := Option.some.inj hcs
      have hb := (hbox rfl).1
      rw [List.getElem?_set_self hkl]
      cases e' <;> first | exact ⟨_, _, rfl⟩ | cases hb
    · obtain ⟨tt, cs, hcs⟩ := hc.isb i hi
      exact ⟨tt, cs, by rw [List.getElem?_set_ne (fun e => hik e.symm)]; exact hcs⟩

/-- A new block whose cells never turn again. -/
def sealM (σ : Mem) (b : Nat) (vs : List Value) : Mem := fun a => if a.block = b ∧ a.spot = none then vs[a.off]? else σ a
theorem sealM_le {σ : Mem} {w : World} {vs : List Value} (h : ∀ a v, σ a = some v → w.cell? a = some v) : σ.le (sealM σ w.heap.size vs) := by
  intro a v ha
  have := sub_lt h ha
  simp only [sealM]
  rw [if_neg (by omega)]
  exact ha
theorem sealM_at {σ : Mem} {b : Nat} {vs : List Value} (j : Nat) : sealM σ b vs ⟨b, j, none⟩ = vs[j]? := by simp [sealM]
theorem WR.below {cx : Cx} {σ τ : Mem} {ρ : Rho} {tab : List Ent} {w w' : World} (h : WR cx σ ρ tab w) (hle : σ.le τ) (hsub : ∀ a v, τ a = some v → w'.cell? a = some v)
    (hB : Below w.heap.size w w') (hnew : ∀ a v, τ a = some v → (∃ v', σ a = some v') ∨ w.heap.size ≤ a.block) : WR cx τ ρ tab w' := by
  refine ⟨hsub, fun i x hx => ?_, h.dis, hB.os.trans h.os, hB.tape.trans h.tape, hB.output.trans h.output, Nat.le_trans h.size hB.size,
    fun k hk hR => (hB.block k (Nat.lt_of_lt_of_le hk h.size)).trans (h.old k hk hR), Mem.le_trans h.le hle, fun a v ha => ?_, h.live, GL_mono hle h.glob, h.keepρ, h.isb⟩
  · refine Ent.rel_keep (h.ent i x hx) hle (fun _ => true) (fun _ _ => rfl) (by cases x <;> first | rfl | exact okL_true _) rfl (fun b hb => hB.block b (Ent.rel_lt (h.ent i x hx) hb)) (fun a v ha => ?_)
    rcases hnew a v ha with hv | hv
    · exact .inl hv
    · exact .inr fun hb => by have := Ent.rel_lt (h.ent i x hx) hb; omega
  · rcases hnew a v ha with ⟨v', hv⟩ | hv
    · exact h.new a v' hv
    · exact .inr (.inl (Nat.le_trans h.size hv))
theorem below_alloc' (w : World) (o : Obj) : Below w.heap.size w (w.alloc o) := (Below.refl _ _).alloc (Nat.le_refl _) o
theorem WR.sealed {cx : Cx} {σ : Mem} {ρ : Rho} {tab : List Ent} {w : World} (h : WR cx σ ρ tab w) (vs : List Value) (tt : TypeId) :
    WR cx (sealM σ w.heap.size vs) ρ tab (w.alloc (.cells vs.toArray tt)) := by
  refine h.below (sealM_le h.sub) (fun a v ha => ?_) (below_alloc' w _) (fun a v ha => ?_)
  · simp only [sealM] at ha
    split at ha
    · rename_i hb
      obtain ⟨b, o, sp⟩ := a
      simp only at hb ha
      obtain ⟨rfl, rfl⟩ := hb
      rw [World.cell?_alloc_at _ _ _ _ rfl]
      simpa using ha
    · have hlt := sub_lt h.sub ha
      exact ((below_alloc' w _).cell hlt).trans (h.sub a v ha)
  · simp only [sealM] at ha
    split at ha
    · rename_i hb; exact .inr (by omega)
    · exact .inl ⟨v, ha⟩

end Go.Proofs.YteiickhgmmjcmaaGreatDoor.Sx
