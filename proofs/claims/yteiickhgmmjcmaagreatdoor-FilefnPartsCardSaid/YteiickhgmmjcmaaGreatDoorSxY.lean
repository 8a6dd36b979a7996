/-
  Resources that turn: what else is told stays told.
-/
import Derived.Test.YteiickhgmmjcmaaGreatDoorSxX
set_option linter.unusedVariables false
set_option linter.unusedSimpArgs false
namespace Go.Proofs.YteiickhgmmjcmaaGreatDoor.Sx
open Go Go.RowKit

/-- The same places, other blocks besides. -/
def subOf (ρ : Rho) (k : Nat) (S : List Nat) : Rho := fun i => if i = k then ⟨(ρ k).blk, (ρ k).ad, (ρ k).n, (ρ k).c, S⟩ else ρ i
theorem subOf_same (ρ : Rho) (k : Nat) (S : List Nat) : subOf ρ k S k = ⟨(ρ k).blk, (ρ k).ad, (ρ k).n, (ρ k).c, S⟩ := by simp [subOf]
theorem subOf_ne {ρ : Rho} {k i : Nat} (S : List Nat) (h : i ≠ k) : subOf ρ k S i = ρ i := by simp [subOf, h]
theorem subOf_blk (ρ : Rho) (k : Nat) (S : List Nat) (i : Nat) : (subOf ρ k S i).blk = (ρ i).blk := by
  unfold subOf; split
  · rename_i h; rw [h]
  · rfl
theorem subOf_ad (ρ : Rho) (k : Nat) (S : List Nat) (i : Nat) : (subOf ρ k S i).ad = (ρ i).ad := by
  unfold subOf; split
  · rename_i h; rw [h]
  · rfl
theorem subOf_n (ρ : Rho) (k : Nat) (S : List Nat) (i : Nat) : (subOf ρ k S i).n = (ρ i).n := by
  unfold subOf; split
  · rename_i h; rw [h]
  · rfl
theorem subOf_c (ρ : Rho) (k : Nat) (S : List Nat) (i : Nat) : (subOf ρ k S i).c = (ρ i).c := by
  unfold subOf; split
  · rename_i h; rw [h]
  · rfl
theorem subOf_sl (ρ : Rho) (k : Nat) (S : List Nat) (i : Nat) : (subOf ρ k S i).sl = (ρ i).sl := by
  simp only [Loc.sl, subOf_ad, subOf_n, subOf_c]
mutual
theorem den_sub {σ : Mem} {ρ : Rho} (k : Nat) (S : List Nat) : ∀ (s : SV) (v : Value), SV.den σ ρ s v → SV.den σ (subOf ρ k S) s v
  | .val t x, v, hd => by simpa only [SV.den] using hd
  | .nils, v, hd => by simpa only [SV.den] using hd
  | .nilp, v, hd => by simpa only [SV.den] using hd
  | .nilf, v, hd => by simpa only [SV.den] using hd
  | .top, v, hd => by simpa only [SV.den] using hd
  | .yv _, v, hd => by simpa only [SV.den] using hd
  | .mptr i, v, hd => by simp only [SV.den, subOf_blk] at hd ⊢; exact hd
  | .fix t l, v, hd => by simpa only [SV.den] using hd
  | .own i, v, hd => by simp only [SV.den, subOf_sl] at hd ⊢; exact hd
  | .arr i, v, hd => by simp only [SV.den, subOf_sl] at hd ⊢; exact hd
  | .mp i, v, hd => by simp only [SV.den, subOf_blk] at hd ⊢; exact hd
  | .itr _, v, hd => by simpa only [SV.den] using hd
  | .ptr i off, v, hd => by simp only [SV.den, subOf_blk] at hd ⊢; exact hd
  | .sub i n, v, hd => by simp only [SV.den, subOf_ad, subOf_c] at hd ⊢; exact hd
  | .offs i j k2 n, v, hd => by simp only [SV.den, subOf_ad, subOf_c] at hd ⊢; exact hd
  | .eptr i j k' o, v, hd => by simp only [SV.den, subOf_blk] at hd ⊢; exact hd
  | .rptr cs off, v, hd => by simp only [SV.den] at hd ⊢; obtain ⟨b, e, hc⟩ := hd; exact ⟨b, e, denC_sub k S b 0 cs hc⟩
  | .fn f fs cs, v, hd => by
    simp only [SV.den] at hd ⊢
    obtain ⟨vs, us, e, h1, h2⟩ := hd
    exact ⟨vs, us, e, denL_sub k S fs vs h1, denL_sub k S cs us h2⟩
  | .tup l, v, hd => by simp only [SV.den] at hd ⊢; obtain ⟨vs, e, h1⟩ := hd; exact ⟨vs, e, denL_sub k S l vs h1⟩
  | .agg l, v, hd => by simp only [SV.den] at hd ⊢; obtain ⟨vs, e, h1⟩ := hd; exact ⟨vs, e, denL_sub k S l vs h1⟩
theorem denL_sub {σ : Mem} {ρ : Rho} (k : Nat) (S : List Nat) : ∀ (l : List SV) (vs : List Value), SV.denL σ ρ l vs → SV.denL σ (subOf ρ k S) l vs
  | [], vs, hd => by simpa only [SV.denL] using hd
  | s :: l, vs, hd => by
    simp only [SV.denL] at hd ⊢
    obtain ⟨v, r, e, h1, h2⟩ := hd
    exact ⟨v, r, e, den_sub k S s v h1, denL_sub k S l r h2⟩
theorem denC_sub {σ : Mem} {ρ : Rho} (k : Nat) (S : List Nat) (base : Addr) : ∀ (j : Nat) (l : List SV), SV.denC σ ρ base j l → SV.denC σ (subOf ρ k S) base j l
  | _, [], _ => by simp only [SV.denC]
  | j, s :: l, hd => by
    simp only [SV.denC] at hd ⊢
    obtain ⟨⟨v, e, h1⟩, h2⟩ := hd
    exact ⟨⟨v, e, den_sub k S s v h1⟩, denC_sub k S base (j + 1) l h2⟩
end
theorem EnvR.sub {σ : Mem} {ρ : Rho} {env : Env} {a : Act} (he : EnvA σ ρ env a) (k : Nat) (S : List Nat) : EnvA σ (subOf ρ k S) env a := by
  intro s ch sv hl
  obtain ⟨h1, h2⟩ := he s ch sv hl
  refine ⟨fun hf => ?_, h2⟩
  obtain ⟨v, hv, hd⟩ := h1 hf
  exact ⟨v, hv, den_sub k S _ _ hd⟩
theorem Ent.rel_sub {σ : Mem} {ρ : Rho} {w : World} {i k : Nat} {e : Ent} (S : List Nat) (hi : i ≠ k) (h : e.rel σ ρ w i) : e.rel σ (subOf ρ k S) w i := by
  have hr := subOf_ne (ρ := ρ) S hi
  cases e with
  | gone => trivial
  | box tt cs =>
    obtain ⟨vs, h1, h2, h3, h4⟩ := h
    exact ⟨vs, by rw [hr]; exact h1, denL_sub k S cs vs h2, h3, by rw [hr]; exact h4⟩
  | gs e t l =>
    obtain ⟨xs, h1, h2, h3⟩ := h
    exact ⟨xs, h1, by rw [hr]; exact h2, by rw [hr]; exact h3⟩
  | ra e t l =>
    obtain ⟨xs, h1, h2, h3, h4⟩ := h
    exact ⟨xs, h1, by rw [hr]; exact h2, by rw [hr]; exact h3, by rw [hr]; exact h4⟩
  | res R =>
    show R.rel w (subOf ρ k S i)
    rw [hr]
    exact h
theorem at_sub {ρ : Rho} {i k : Nat} {e : Ent} {b : Nat} (S : List Nat) (hi : i ≠ k) : e.at_ (subOf ρ k S) i b ↔ e.at_ ρ i b := by
  have hr := subOf_ne (ρ := ρ) S hi
  cases e <;> simp only [Ent.at_, hr]
/-- A resource turns, over its own blocks and new ones. -/
theorem WR.resStep {cx : Cx} {σ : Mem} {ρ : Rho} {tab : List Ent} {w w' : World} (h : WR cx σ ρ tab w) {k : Nat} {R R' : Res} {S : List Nat} (hk : tab[k]? = some (.res R))
    (hheap : ∀ b, b < w.heap.size → ¬ (b = (ρ k).blk ∨ b ∈ (ρ k).sub) → w'.heap[b]? = w.heap[b]?)
    (hrel : R'.rel w' (subOf ρ k S k)) (hS : ∀ b ∈ S, b ∈ (ρ k).sub ∨ w.heap.size ≤ b)
    (hos : w'.os = w.os) (htape : w'.tape = w.tape) (hout : w'.output = w.output) (hsize : w.heap.size ≤ w'.heap.size) :
    WR cx σ (subOf ρ k S) (tab.set k (.res R')) w' := by
  have hkl : k < tab.length := (List.getElem?_eq_some_iff.1 hk).1
  have hRk : R.rel w (ρ k) := h.ent k _ hk
  have hget : ∀ (i : Nat) x, (tab.set k (.res R'))[i]? = some x → (i ≠ k ∧ tab[i]? = some x) ∨ (i = k ∧ x = .res R') := by
    intro i x hx
    rw [List.getElem?_set] at hx
    split at hx
    · rename_i hi
      subst hi
      exact .inr ⟨rfl, (Option.some.inj hx).symm⟩
    · rename_i hi
      exact .inl ⟨fun e => hi e.symm, hx⟩
  have hother : ∀ (i : Nat) (x : Ent) b, i ≠ k → tab[i]? = some x → x.at_ ρ i b → ¬ (b = (ρ k).blk ∨ b ∈ (ρ k).sub) := fun i x b hi hx hb hb' => hi (h.dis i k x _ b hx hk hb hb')
  have hblk : ∀ b, (Ent.res R').at_ (subOf ρ k S) k b → (Ent.res R).at_ ρ k b ∨ w.heap.size ≤ b := by
    intro b hb
    have hb' : b = (subOf ρ k S k).blk ∨ b ∈ (subOf ρ k S k).sub := hb
    rw [subOf_same] at hb'
    rcases hb' with hb' | hb'
    · exact .inl (.inl hb')
    · rcases hS b hb' with h1 | h1
      · exact .inl (.inr h1)
      · exact .inr h1
  refine ⟨fun a v ha => ?_, fun i x hx => ?_, fun i j x y b hx hy hb hb' => ?_, hos.trans h.os, htape.trans h.tape, hout.trans h.output, Nat.le_trans h.size hsize, fun b hb hR => ?_, h.le, h.new, fun i x b hx hb => ?_, h.glob, fun i hi => ?_, fun i hi => ?_⟩
  · have hc := h.sub a v ha
    obtain ⟨o, ho, hd⟩ : ∃ o, w.heap[a.block]? = some o ∧ mapObj o = false := by
      unfold World.cell? at hc
      split at hc
      · rename_i hk'; exact ⟨_, hk', rfl⟩
      · cases hc
    rw [World.cell?_of_block (w := w) (hheap _ (Array.getElem?_eq_some_iff.1 ho).1 fun hb => ?_)]
    · exact hc
    · obtain ⟨o', ho', hd'⟩ := R.data w _ hRk _ hb
      rw [ho] at ho'
      obtain rfl := Option.some.inj ho'
      rw [hd] at hd'
      cases hd'
  · rcases hget i x hx with ⟨hi, hx⟩ | ⟨rfl, rfl⟩
    · refine Ent.rel_sub S hi (Ent.rel_keep (h.ent i x hx) (Mem.le_refl _) (fun _ => true) (fun _ _ => rfl) (by cases x <;> first | rfl | exact okL_true _) rfl (fun b hb => hheap b (Ent.rel_lt (h.ent i x hx) hb) (hother i x b hi hx hb)) fun a v ha => .inl ⟨v, ha⟩)
    · exact hrel
  · rcases hget i x hx with ⟨hi, hx1⟩ | ⟨rfl, rfl⟩ <;> rcases hget j y hy with ⟨hj, hy1⟩ | ⟨rfl, rfl⟩
    · exact h.dis i j x y b hx1 hy1 ((at_sub S hi).1 hb) ((at_sub S hj).1 hb')
    · have h1 := (at_sub S hi).1 hb
      rcases hblk b hb' with h2 | h2
      · exact absurd h2 (hother i x b hi hx1 h1)
      · have := Ent.rel_lt (h.ent i x hx1) h1; omega
    · have h1 := (at_sub S hj).1 hb'
      rcases hblk b hb with h2 | h2
      · exact absurd h2 (hother j y b hj hy1 h1)
      · have := Ent.rel_lt (h.ent j y hy1) h1; omega
    · rfl
  · refine (hheap b (Nat.lt_of_lt_of_le hb h.size) fun e1 => ?_).trans (h.old b hb hR)
    rcases h.live k _ b hk e1 with h2 | h2
    · omega
    · exact hR h2
  · rcases hget i x hx with ⟨hi, hx⟩ | ⟨rfl, rfl⟩
    · exact h.live i x b hx ((at_sub S hi).1 hb)
    · rcases hblk b hb with h2 | h2
      · exact h.live i _ b hk h2
      · exact .inl (Nat.le_trans h.size h2)
  · have hik : i ≠ k := by
      rintro rfl
      obtain ⟨tt, cs, hcs⟩ := h.isb i hi
      rw [hk] at hcs
      cases hcs
    rw [subOf_ne S hik]
    exact h.keepρ i hi
  · obtain ⟨tt, cs, hcs⟩ := h.isb i hi
    have hik : k ≠ i := by
      rintro rfl
      rw [hk] at hcs
      cases hcs
    exact ⟨tt, cs, by rw [List.getElem?_set_ne hik]; exact hcs⟩
end Go.Proofs.YteiickhgmmjcmaaGreatDoor.Sx
