/-
  Entries (memory of the call's own), and how a world stands to a state.
-/
import Derived.Test.YteiickhgmmjcmaaGreatDoorSxC
import Derived.Deep.Draws
set_option linter.unusedVariables false
set_option linter.unusedSimpArgs false
namespace Go.Proofs.YteiickhgmmjcmaaGreatDoor.Sx
open Go Go.RowKit

/-- Maps, and who ranges over them. -/
def mapObj : Obj → Bool
  | .map .. | .mapIter .. => true
  | _ => false
def dataObj : Obj → Bool
  | .cells .. | .map .. | .mapIter .. => true
  | _ => false
theorem mapObj_data {o : Obj} (h : mapObj o = true) : dataObj o = true := by
  cases o <;> first | rfl | cases h
/-- What the call owns besides: maps; where they lie, and that it hangs on its own blocks alone. -/
structure Res where
  rel : World → Loc → Prop
  keep : ∀ (w w' : World) (L : Loc), rel w L → (∀ b, (b = L.blk ∨ b ∈ L.sub) → w'.heap[b]? = w.heap[b]?) → rel w' L
  data : ∀ (w : World) (L : Loc), rel w L → ∀ b, (b = L.blk ∨ b ∈ L.sub) → ∃ o, w.heap[b]? = some o ∧ mapObj o = true
inductive Ent where
  | box (tt : TypeId) (cs : List SV)
  | gs (e : TypeId) (t : Ty) (l : List t.D)
  | ra (e : TypeId) (t : Ty) (l : List t.D)
  | res (R : Res)
  | gone

/-- A list's cells, one behind the other. -/
def Rows (σ : Mem) (t : Ty) (l : List t.D) (xs : List Value) : Prop :=
  ∃ css : List (List Value), css.length = l.length ∧ xs = css.flatten ∧ ∀ (i : Nat) x, l[i]? = some x → ∃ c, css[i]? = some c ∧ Den σ t x c

theorem Rows.mono {σ τ : Mem} (h : σ.le τ) {t : Ty} {l : List t.D} {xs : List Value} (hr : Rows σ t l xs) : Rows τ t l xs := by
  obtain ⟨css, h1, h2, h3⟩ := hr
  exact ⟨css, h1, h2, fun i x hx => let ⟨c, hc, hd⟩ := h3 i x hx; ⟨c, hc, Den_mono h _ _ _ hd⟩⟩
theorem Rows.nil (σ : Mem) (t : Ty) : Rows σ t [] [] := ⟨[], rfl, rfl, fun i x hx => by simp at hx⟩
theorem Rows.all {σ : Mem} {t : Ty} {l : List t.D} {css : List (List Value)} (h1 : css.length = l.length) (h3 : ∀ (i : Nat) x, l[i]? = some x → ∃ c, css[i]? = some c ∧ Den σ t x c) : ∀ c ∈ css, c.length = t.cells := by
  intro c hc
  obtain ⟨i, hi⟩ := List.mem_iff_getElem?.1 hc
  have hil : i < l.length := by
    have := (List.getElem?_eq_some_iff.1 hi).1
    omega
  obtain ⟨c', h4, h5⟩ := h3 i l[i] (List.getElem?_eq_getElem hil)
  rw [hi] at h4
  obtain rfl := Option.some.inj h4
  exact Den_length _ _ _ h5
theorem Rows.length {σ : Mem} {t : Ty} {l : List t.D} {xs : List Value} (hr : Rows σ t l xs) : xs.length = l.length * t.cells := by
  obtain ⟨css, h1, rfl, h3⟩ := hr
  rw [flatten_length_const css (Rows.all h1 h3), h1]
theorem flatten_get {m : Nat} : ∀ (css : List (List Value)), (∀ c ∈ css, c.length = m) → ∀ (i p : Nat) c, css[i]? = some c → p < m → css.flatten[i * m + p]? = c[p]?
  | [], _, i, p, c, hi, _ => by simp at hi
  | c0 :: r, h, i, p, c, hi, hp => by
    have h0 := h c0 (by simp)
    cases i with
    | zero =>
      simp only [List.getElem?_cons_zero, Option.some.injEq] at hi
      subst hi
      simp only [List.flatten_cons, Nat.zero_mul, Nat.zero_add]
      exact List.getElem?_append_left (by omega)
    | succ i =>
      have := flatten_get r (fun x hx => h x (by simp [hx])) i p c (by simpa using hi) hp
      simp only [List.flatten_cons]
      rw [List.getElem?_append_right (by rw [h0, Nat.add_mul]; omega), ← this, h0]
      congr 1
      rw [Nat.add_mul]
      omega
/-- Its element's cells. -/
theorem Rows.elem {σ : Mem} {t : Ty} {l : List t.D} {xs : List Value} (hr : Rows σ t l xs) {i : Nat} {x : t.D} (hx : l[i]? = some x) :
    ∃ c, Den σ t x c ∧ ∀ (p : Nat) v, c[p]? = some v → xs[i * t.cells + p]? = some v := by
  obtain ⟨css, h1, rfl, h3⟩ := hr
  obtain ⟨c, hc, hd⟩ := h3 i x hx
  refine ⟨c, hd, fun p v hv => ?_⟩
  have hp : p < t.cells := by
    rw [← Den_length _ _ _ hd]
    exact (List.getElem?_eq_some_iff.1 hv).1
  rw [flatten_get css (Rows.all h1 h3) i p c hc hp]
  exact hv
theorem Rows.append {σ : Mem} {t : Ty} {l m : List t.D} {xs ys : List Value} (h : Rows σ t l xs) (k : Rows σ t m ys) : Rows σ t (l ++ m) (xs ++ ys) := by
  obtain ⟨c1, a1, rfl, a3⟩ := h
  obtain ⟨c2, b1, rfl, b3⟩ := k
  refine ⟨c1 ++ c2, by simp [a1, b1], by simp, fun i x hx => ?_⟩
  rw [List.getElem?_append] at hx
  split at hx
  · rename_i hi
    obtain ⟨c, hc, hd⟩ := a3 i x hx
    exact ⟨c, by rw [List.getElem?_append_left (by omega)]; exact hc, hd⟩
  · rename_i hi
    obtain ⟨c, hc, hd⟩ := b3 _ x hx
    exact ⟨c, by rw [List.getElem?_append_right (by omega), a1]; exact hc, hd⟩
theorem Rows.one {σ : Mem} {t : Ty} {x : t.D} {c : List Value} (h : Den σ t x c) : Rows σ t [x] c :=
  ⟨[c], rfl, by simp, fun i y hy => by
    cases i with
    | zero => simp at hy; subst hy; exact ⟨c, by simp, h⟩
    | succ i => simp at hy⟩
theorem Rows.oneCell {σ : Mem} {t : Ty} {l : List t.D} {xs : List Value} (hr : Rows σ t l xs) : ∀ u ∈ xs, u.oneCell' = true := by
  obtain ⟨css, h1, rfl, h3⟩ := hr
  intro u hu
  obtain ⟨c, hc, huc⟩ := List.mem_flatten.1 hu
  obtain ⟨i, hi⟩ := List.mem_iff_getElem?.1 hc
  have hil : i < l.length := by
    have := (List.getElem?_eq_some_iff.1 hi).1
    omega
  obtain ⟨c', h4, h5⟩ := h3 i l[i] (List.getElem?_eq_getElem hil)
  rw [hi] at h4
  obtain rfl := Option.some.inj h4
  exact Den_one _ _ _ h5 u huc
/-- A list in memory that never turns. -/
theorem Rows.den {σ : Mem} {t : Ty} {l : List t.D} {xs : List Value} (hr : Rows σ t l xs) {A : Option Addr} {c : Nat} (hc : l.length ≤ c) (hm : c ≤ maxLen)
    (hA : 0 < l.length → ∃ ad, A = some ad ∧ ∀ (j : Nat) u, xs[j]? = some u → σ (ad.add j) = some u) : Den σ (.list t) l [.slice A l.length c] := by
  refine ⟨A, l.length, c, rfl, rfl, hc, hm, fun h0 => ?_⟩
  obtain ⟨ad, rfl, hs⟩ := hA h0
  refine ⟨ad, rfl, fun i x hx => ?_⟩
  obtain ⟨cx, h1, h2⟩ := hr.elem hx
  exact ⟨cx, h1, fun p v hv => hs _ _ (h2 p v hv)⟩
theorem den_rows {σ : Mem} {t : Ty} {l : List t.D} {A : Option Addr} {n c : Nat} (hd : Den σ (.list t) l [.slice A n c]) :
    ∃ xs, Rows σ t l xs ∧ n = l.length ∧ n ≤ c ∧ c ≤ maxLen ∧ (0 < n → ∃ ad, A = some ad ∧ ∀ (j : Nat) u, xs[j]? = some u → σ (ad.add j) = some u) := by
  obtain ⟨A', n', c', hv, hn, hc, hm, hcells⟩ := hd
  simp only [List.cons.injEq, Value.slice.injEq, and_true] at hv
  obtain ⟨rfl, rfl, rfl⟩ := hv
  by_cases h0 : 0 < n
  · obtain ⟨ad, rfl, hcl⟩ := hcells h0
    have hch : ∀ i : Fin l.length, ∃ cx, Den σ t l[i] cx ∧ ∀ (p : Nat) v, cx[p]? = some v → σ (ad.add (i * t.cells + p)) = some v := fun i => hcl i.1 _ (List.getElem?_eq_getElem i.2)
    refine ⟨((List.finRange l.length).map fun i => Classical.choose (hch i)).flatten, ⟨_, by simp, rfl, fun i x hx => ?_⟩, hn, hc, hm, fun _ => ⟨ad, rfl, fun j u hu => ?_⟩⟩
    · have hi : i < l.length := (List.getElem?_eq_some_iff.1 hx).1
      refine ⟨Classical.choose (hch ⟨i, hi⟩), by simp [hi], ?_⟩
      have := (Classical.choose_spec (hch ⟨i, hi⟩)).1
      rw [List.getElem?_eq_getElem hi] at hx
      obtain rfl := Option.some.inj hx
      exact this
    · have hall : ∀ c ∈ ((List.finRange l.length).map fun i => Classical.choose (hch i)), c.length = t.cells := by
        intro c hc
        obtain ⟨i, _, rfl⟩ := List.mem_map.1 hc
        exact Den_length _ _ _ (Classical.choose_spec (hch i)).1
      have hj : j < l.length * t.cells := by
        have := (List.getElem?_eq_some_iff.1 hu).1
        rwa [flatten_length_const _ hall, List.length_map, List.length_finRange] at this
      have hpos : 0 < t.cells := by
        rcases Nat.eq_zero_or_pos t.cells with h | h
        · rw [h] at hj; omega
        · exact h
      have hi : j / t.cells < l.length := (Nat.div_lt_iff_lt_mul hpos).2 hj
      have hp : j % t.cells < t.cells := Nat.mod_lt _ hpos
      have hdec : j / t.cells * t.cells + j % t.cells = j := by rw [Nat.mul_comm]; exact Nat.div_add_mod j t.cells
      have hg := flatten_get _ hall (j / t.cells) (j % t.cells) (Classical.choose (hch ⟨j / t.cells, hi⟩)) (by simp [hi]) hp
      rw [hdec, hu] at hg
      have := (Classical.choose_spec (hch ⟨j / t.cells, hi⟩)).2 (j % t.cells) u hg.symm
      simp only at this
      rwa [hdec] at this
  · have hl : l = [] := List.eq_nil_of_length_eq_zero (by omega)
    subst hl
    exact ⟨[], Rows.nil σ t, hn, hc, hm, fun h => absurd h h0⟩

/-! ### Entries in a world -/
def Ent.at_ (ρ : Rho) (i : Nat) : Ent → Nat → Prop
  | .box _ _, b => some (ρ i).blk = some b
  | .gs .., b => (ρ i).sl.ownBlock = some b
  | .ra .., b => (ρ i).sl.ownBlock = some b
  | .res _, b => b = (ρ i).blk ∨ b ∈ (ρ i).sub
  | .gone, b => (none : Option Nat) = some b

def Ent.rel (σ : Mem) (ρ : Rho) (w : World) (i : Nat) : Ent → Prop
  | .box tt cs => ∃ vs, w.heap[(ρ i).blk]? = some (.cells (List.toArray vs) tt (0, 0)) ∧ SV.denL σ ρ cs vs ∧ (∀ u ∈ vs, u.oneCell' = true) ∧ ∀ a v, σ a = some v → a.block ≠ (ρ i).blk
  | .gs e t l => ∃ xs, Rows σ t l xs ∧ w.ownsRow 0 e t.cells (ρ i).sl l.length xs ∧
      ∀ g, (ρ i).sl.ownBlock = some g → (∀ (j : Nat) u, xs[j]? = some u → σ ⟨g, j, none⟩ = some u) ∧ ∀ a v, σ a = some v → a.block = g → a.off < xs.length
  | .ra e t l => ∃ xs, Rows σ t l xs ∧ w.ownsRow 0 e t.cells (ρ i).sl l.length xs ∧ (∀ g, (ρ i).sl.ownBlock = some g → g = (ρ i).blk) ∧ ∀ a v, σ a = some v → (ρ i).sl.ownBlock ≠ some a.block
  | .res R => R.rel w (ρ i)
  | .gone => True

def Ent.isBox : Ent → Bool
  | .box _ _ => true
  | _ => false
def Ent.ok (p : Nat → Bool) : Ent → Bool
  | .box _ cs => SV.okL p cs
  | _ => true

theorem ownsRow_block {w w' : World} {base : Nat} {e : TypeId} {size : Nat} {v : Value} {n : Nat} {xs : List Value} (h : w.ownsRow base e size v n xs)
    (hb : ∀ b, v.ownBlock = some b → w'.heap[b]? = w.heap[b]?) : w'.ownsRow base e size v n xs := by
  refine ⟨h.1, ?_⟩
  rcases h.2 with h2 | ⟨g, cap, cur, rfl, hbg, hg, r⟩
  · exact .inl h2
  · exact .inr ⟨g, cap, cur, rfl, hbg, by rw [hb g rfl]; exact hg, r⟩

/-- An entry stays as it is where its own block does. -/
theorem Ent.rel_keep {σ τ : Mem} {ρ ρ' : Rho} {w w' : World} {i : Nat} {e : Ent} (h : e.rel σ ρ w i) (hle : σ.le τ) (p : Nat → Bool) (hr : ∀ i, p i = true → ρ' i = ρ i)
    (hok : e.ok p = true) (hi : ρ' i = ρ i) (hb : ∀ b, e.at_ ρ i b → w'.heap[b]? = w.heap[b]?)
    (hn : ∀ a v, τ a = some v → (∃ v', σ a = some v') ∨ ¬ e.at_ ρ i a.block) : e.rel τ ρ' w' i := by
  cases e with
  | gone => trivial
  | box tt cs =>
    obtain ⟨vs, h1, h2, h3, h4⟩ := h
    refine ⟨vs, by rw [hi, hb _ rfl]; exact h1, denL_step hle p hr cs vs hok h2, h3, fun a v ha => ?_⟩
    rw [hi]
    rcases hn a v ha with ⟨v', hv⟩ | hne
    · exact h4 a v' hv
    · exact fun e => hne (by rw [e]; rfl)
  | gs e t l =>
    obtain ⟨xs, h1, h2, h3⟩ := h
    refine ⟨xs, h1.mono hle, by rw [hi]; exact ownsRow_block h2 hb, fun g hg => ?_⟩
    rw [hi] at hg
    obtain ⟨h4, h5⟩ := h3 g hg
    refine ⟨fun j u hu => hle _ _ (h4 j u hu), fun a v ha hag => ?_⟩
    rcases hn a v ha with ⟨v', hv⟩ | hne
    · exact h5 a v' hv hag
    · exact absurd (by rw [hag]; exact hg) hne
  | ra e t l =>
    obtain ⟨xs, h1, h2, h3, h4⟩ := h
    refine ⟨xs, h1.mono hle, by rw [hi]; exact ownsRow_block h2 hb, by rw [hi]; exact h3, fun a v ha => ?_⟩
    rw [hi]
    rcases hn a v ha with ⟨v', hv⟩ | hne
    · exact h4 a v' hv
    · exact fun e => hne e
  | res R =>
    show R.rel w' (ρ' i)
    rw [hi]
    exact R.keep w w' _ h fun b hb' => hb b hb'

/-- What lay below a bound lies as it lay. -/
def Same (w w' : World) : Prop := ∀ b, b < w.heap.size → w'.heap[b]? = w.heap[b]?
theorem Same.refl (w : World) : Same w w := fun _ _ => rfl
theorem Same.cell {w w' : World} (h : Same w w') {a : Addr} {v : Value} (hc : w.cell? a = some v) : w'.cell? a = some v := by
  rw [World.cell?_of_block (w := w) (h _ (World.block_lt_of_cell? w a (by rw [hc])))]
  exact hc

/-- What a function's call began with: the world, what never turns, the blocks that were lent to it. -/
structure Cx where
  w0 : World
  σ0 : Mem
  R : Nat → Prop
  ρ0 : Rho
  B : Nat → Bool
  ds : List Deferred
/-- What the package-level variables hold. -/
def GL (σ : Mem) : Prop := ∃ m, σ ⟨0, 0, none⟩ = some (.int .i64 m)
theorem GL_mono {σ τ : Mem} (h : σ.le τ) (g : GL σ) : GL τ := by
  unfold GL at *
  first | trivial | exact g.mono h | (obtain ⟨m, hm⟩ := g; exact ⟨m, h _ _ hm⟩)

/-- A world stands to the entries. -/
structure WR (cx : Cx) (σ : Mem) (ρ : Rho) (tab : List Ent) (w : World) : Prop where
  sub : ∀ a v, σ a = some v → w.cell? a = some v
  ent : ∀ (i : Nat) e, tab[i]? = some e → e.rel σ ρ w i
  dis : ∀ (i j : Nat) e e' b, tab[i]? = some e → tab[j]? = some e' → e.at_ ρ i b → e'.at_ ρ j b → i = j
  os : w.os = cx.w0.os
  tape : w.tape = cx.w0.tape
  output : w.output = cx.w0.output
  size : cx.w0.heap.size ≤ w.heap.size
  old : ∀ k, k < cx.w0.heap.size → ¬ cx.R k → w.heap[k]? = cx.w0.heap[k]?
  le : cx.σ0.le σ
  new : ∀ a v, σ a = some v → (∃ v', cx.σ0 a = some v') ∨ cx.w0.heap.size ≤ a.block ∨ cx.R a.block
  live : ∀ (i : Nat) e b, tab[i]? = some e → e.at_ ρ i b → cx.w0.heap.size ≤ b ∨ cx.R b
  glob : GL σ
  keepρ : ∀ i, cx.B i = true → ρ i = cx.ρ0 i
  isb : ∀ i, cx.B i = true → ∃ tt cs, tab[i]? = some (.box tt cs)

theorem Ent.rel_lt {σ : Mem} {ρ : Rho} {w : World} {i : Nat} {e : Ent} (h : e.rel σ ρ w i) {b : Nat} (hb : e.at_ ρ i b) : b < w.heap.size := by
  cases e with
  | gone => cases hb
  | box tt cs =>
    obtain ⟨vs, h1, _⟩ := h
    obtain rfl := Option.some.inj hb
    exact (Array.getElem?_eq_some_iff.1 h1).1
  | gs e t l =>
    obtain ⟨xs, h1, h2, h3⟩ := h
    exact (h2.lt b hb).2
  | ra e t l =>
    obtain ⟨xs, h1, h2, h3⟩ := h
    exact (h2.lt b hb).2
  | res R =>
    obtain ⟨o, h1, _⟩ := R.data w _ h b hb
    exact (Array.getElem?_eq_some_iff.1 h1).1

theorem WR.drewN {cx : Cx} {σ : Mem} {ρ : Rho} {tab : List Ent} {w : World} (h : WR cx σ ρ tab w) (n : Nat) : WR cx σ ρ tab (w.drewN n) :=
  ⟨h.sub, fun i e he => Ent.rel_keep (h.ent i e he) (Mem.le_refl _) (fun _ => true) (fun _ _ => rfl) (by cases e <;> first | rfl | exact okL_true _) rfl (fun _ _ => rfl) (fun a v ha => .inl ⟨v, ha⟩), h.dis, h.os, h.tape, h.output, h.size, h.old, h.le, h.new, h.live, h.glob, h.keepρ, h.isb⟩

end Go.Proofs.YteiickhgmmjcmaaGreatDoor.Sx
