/-
  Typed data and how they lie in memory: 'Den σ t x cs': the cells cs hold x : t.D; what slices refer to lies in σ, a map from addresses to values that never turn.
-/
import Derived.WalkKit
import Derived.Laws.OwnMore
import Derived.OwnWalk
set_option linter.unusedVariables false
set_option linter.unusedSimpArgs false
namespace Go.Proofs.YteiickhgmmjcmaaGreatDoor.Sx
open Go

abbrev Str := List UInt8

inductive Ty where
  | int (k : IntKind) | bool | str | unit
  | list (t : Ty) | prod (a b : Ty) | st (t : Ty) | arr (n : Nat) (t : Ty)
  deriving DecidableEq

@[reducible] def Ty.D : Ty → Type
  | .int _ => Int
  | .bool => Bool
  | .str => Str
  | .unit => Unit
  | .list t => List t.D
  | .prod a b => a.D × b.D
  | .st t => t.D
  | .arr _ t => List t.D

def Ty.cells : Ty → Nat
  | .unit => 0
  | .prod a b => a.cells + b.cells
  | .st t => t.cells
  | .arr n t => n * t.cells
  | _ => 1

def Ty.dflt : (t : Ty) → t.D
  | .int _ => (0 : Int)
  | .bool => false
  | .str => ([] : Str)
  | .unit => ()
  | .list _ => []
  | .prod a b => (a.dflt, b.dflt)
  | .st t => t.dflt
  | .arr n t => List.replicate n t.dflt

/-- Memory that never turns again. -/
abbrev Mem := Addr → Option Value
def Mem.le (σ τ : Mem) : Prop := ∀ a v, σ a = some v → τ a = some v
theorem Mem.le_refl (σ : Mem) : σ.le σ := fun _ _ h => h
theorem Mem.le_trans {a b c : Mem} (h : a.le b) (k : b.le c) : a.le c := fun _ _ x => k _ _ (h _ _ x)

def strV (s : Str) : Value := .string ⟨s.toArray⟩

def Den (σ : Mem) : (t : Ty) → t.D → List Value → Prop
  | .int k, x, cs => cs = [.int k x]
  | .bool, x, cs => cs = [.bool x]
  | .str, s, cs => cs = [strV s]
  | .unit, _, cs => cs = []
  | .prod a b, x, cs => ∃ c1 c2, cs = c1 ++ c2 ∧ Den σ a x.1 c1 ∧ Den σ b x.2 c2
  | .st t, x, cs => Den σ t x cs
  | .arr n t, l, cs => l.length = n ∧ ∃ css : List (List Value), css.length = l.length ∧ cs = css.flatten ∧ ∀ (i : Nat) x, l[i]? = some x → ∃ c, css[i]? = some c ∧ Den σ t x c
  | .list t, l, cs => ∃ A n c, cs = [.slice A n c] ∧ n = l.length ∧ n ≤ c ∧ c ≤ maxLen ∧
      (0 < n → ∃ ad, A = some ad ∧ ∀ (i : Nat) x, l[i]? = some x → ∃ cx, Den σ t x cx ∧ ∀ (p : Nat) v, cx[p]? = some v → σ (ad.add (i * t.cells + p)) = some v)

theorem Den_mono {σ τ : Mem} (h : σ.le τ) : ∀ (t : Ty) (x : t.D) (cs : List Value), Den σ t x cs → Den τ t x cs := by
  intro t
  induction t with
  | int k => intro x cs hd; exact hd
  | bool => intro x cs hd; exact hd
  | str => intro x cs hd; exact hd
  | unit => intro x cs hd; exact hd
  | prod a b iha ihb =>
    rintro x cs ⟨c1, c2, rfl, h1, h2⟩
    exact ⟨c1, c2, rfl, iha _ _ h1, ihb _ _ h2⟩
  | st t ih => intro x cs hd; exact ih _ _ hd
  | arr n t ih =>
    rintro l cs ⟨hn, css, hl, rfl, hd⟩
    exact ⟨hn, css, hl, rfl, fun i x hx => let ⟨c, hc, hcd⟩ := hd i x hx; ⟨c, hc, ih _ _ hcd⟩⟩
  | list t ih =>
    rintro l cs ⟨A, n, c, rfl, hn, hc, hm, hd⟩
    refine ⟨A, n, c, rfl, hn, hc, hm, fun h0 => ?_⟩
    obtain ⟨ad, e, hd'⟩ := hd h0
    exact ⟨ad, e, fun i x hx => let ⟨cx, h1, h2⟩ := hd' i x hx; ⟨cx, ih _ _ h1, fun p v hv => h _ _ (h2 p v hv)⟩⟩

theorem flatten_length_const {m : Nat} : ∀ (css : List (List Value)), (∀ c ∈ css, c.length = m) → css.flatten.length = css.length * m
  | [], _ => by simp
  | c :: r, h => by
    have h1 := h c (by simp)
    have h2 := flatten_length_const r (fun x hx => h x (by simp [hx]))
    simp only [List.flatten_cons, List.length_append, List.length_cons, h1, h2, Nat.add_mul]
    omega

theorem Den_length {σ : Mem} : ∀ (t : Ty) (x : t.D) (cs : List Value), Den σ t x cs → cs.length = t.cells := by
  intro t
  induction t with
  | int k => intro x cs hd; rw [hd]; rfl
  | bool => intro x cs hd; rw [hd]; rfl
  | str => intro x cs hd; rw [hd]; rfl
  | unit => intro x cs hd; rw [hd]; rfl
  | prod a b iha ihb =>
    rintro x cs ⟨c1, c2, rfl, h1, h2⟩
    simp [Ty.cells, iha _ _ h1, ihb _ _ h2]
  | st t ih => intro x cs hd; exact ih _ _ hd
  | arr n t ih =>
    rintro l cs ⟨hn, css, hl, rfl, hd⟩
    rw [flatten_length_const (m := t.cells) css ?_, hl, hn]; rfl
    intro c hc
    obtain ⟨i, hi⟩ := List.mem_iff_getElem?.1 hc
    have hil : i < l.length := by
      have := (List.getElem?_eq_some_iff.1 hi).1
      omega
    obtain ⟨c', h1, h2⟩ := hd i l[i] (List.getElem?_eq_getElem hil)
    rw [hi] at h1
    obtain rfl := Option.some.inj h1
    exact ih _ _ h2
  | list t ih =>
    rintro l cs ⟨A, n, c, rfl, _⟩
    rfl

theorem Den_one {σ : Mem} : ∀ (t : Ty) (x : t.D) (cs : List Value), Den σ t x cs → ∀ u ∈ cs, u.oneCell' = true := by
  intro t
  induction t with
  | int k => intro x cs hd; rw [hd]; simp [Value.oneCell']
  | bool => intro x cs hd; rw [hd]; simp [Value.oneCell']
  | str => intro x cs hd; rw [hd]; simp [Value.oneCell', strV]
  | unit => intro x cs hd; rw [hd]; simp
  | prod a b iha ihb =>
    rintro x cs ⟨c1, c2, rfl, h1, h2⟩ u hu
    rcases List.mem_append.1 hu with hu | hu
    · exact iha _ _ h1 u hu
    · exact ihb _ _ h2 u hu
  | st t ih => intro x cs hd; exact ih _ _ hd
  | arr n t ih =>
    rintro l cs ⟨hn, css, hl, rfl, hd⟩ u hu
    obtain ⟨c, hc, huc⟩ := List.mem_flatten.1 hu
    obtain ⟨i, hi⟩ := List.mem_iff_getElem?.1 hc
    have hil : i < l.length := by
      have := (List.getElem?_eq_some_iff.1 hi).1
      omega
    obtain ⟨c', h1, h2⟩ := hd i l[i] (List.getElem?_eq_getElem hil)
    rw [hi] at h1
    obtain rfl := Option.some.inj h1
    exact ih _ _ h2 u huc
  | list t ih =>
    rintro l cs ⟨A, n, c, rfl, _⟩
    simp [Value.oneCell']

/-- A leaf's value. -/
def Ty.leaf : Ty → Bool
  | .int _ | .bool | .str | .list _ => true
  | _ => false

theorem Addr.add_add' (a : Addr) (x y : Nat) : (a.add x).add y = a.add (x + y) := by
  unfold Addr.add
  by_cases hx : x = 0
  · simp [hx]
  · by_cases hy : y = 0
    · simp [hx, hy]
    · have : x + y ≠ 0 := by omega
      simp [hx, hy, this, Nat.add_assoc]
theorem Addr.add_zero' (a : Addr) : a.add 0 = a := by simp [Addr.add]
theorem Addr.add_block' (a : Addr) (n : Nat) : (a.add n).block = a.block := by unfold Addr.add; split <;> rfl

end Go.Proofs.YteiickhgmmjcmaaGreatDoor.Sx
