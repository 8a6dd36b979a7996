/-
  Symbolic values, what they stand for, and the operations that only reckon.
-/
import Derived.Test.YteiickhgmmjcmaaGreatDoorSxA
import Derived.Laws.Strings
import Derived.Laws.Slices
import Derived.Laws.Small
import Derived.Laws.Entries
import Derived.Laws.Tables
import Derived.Laws.Pointers
set_option linter.unusedVariables false
set_option linter.unusedSimpArgs false
namespace Go.Proofs.YteiickhgmmjcmaaGreatDoor.Sx
open Go

inductive SV where
  | val (t : Ty) (x : t.D)
  | nils | nilp | nilf | top
  | yv (l : Nat)
  | mptr (i : Nat)
  | fix (t : Ty) (l : List t.D)
  | own (i : Nat)
  | arr (i : Nat)
  | mp (i : Nat)
  | itr (b : Option Nat)
  | ptr (i off : Nat)
  | sub (i n : Nat)
  | offs (i j k n : Nat)
  | eptr (i j k o : Nat)
  | rptr (cs : List SV) (off : Nat)
  | fn (f : FuncId) (first cap : List SV)
  | tup (l : List SV)
  | agg (l : List SV)

/-- Where the entries lie: a block; for rows the slice's value. -/
structure Loc where
  blk : Nat
  ad : Option Addr
  n : Nat
  c : Nat
  sub : List Nat
def Loc.sl (L : Loc) : Value := .slice L.ad L.n L.c
abbrev Rho := Nat → Loc

mutual
def SV.den (σ : Mem) (ρ : Rho) : SV → Value → Prop
  | .val t x, v => Den σ t x [v]
  | .nils, v => v = .slice none 0 0
  | .nilp, v => v = .pointer none
  | .nilf, v => v = .nilFunc
  | .top, v => v.oneCell' = true
  | .yv l, v => v = .func (.yield l) #[] #[]
  | .mptr i, v => v = .pointer none ∨ v = .pointer (some ⟨(ρ i).blk, 0, none⟩)
  | .fix t l, v => Den σ (.list t) l [v] ∧ ∃ A n, v = .slice A n n
  | .own i, v => v = (ρ i).sl
  | .arr i, v => v = (ρ i).sl
  | .mp i, v => v = .map (some (ρ i).blk)
  | .itr b, v => v = .map b
  | .ptr i off, v => v = .pointer (some ⟨(ρ i).blk, off, none⟩)
  | .sub i n, v => v = .slice (ρ i).ad n (ρ i).c
  | .offs i j k n, v => v = .slice (if (ρ i).c = j then (ρ i).ad else (ρ i).ad.map (·.add (j * k))) (n - j) ((ρ i).c - j)
  | .eptr i j k o, v => v = .pointer (some ⟨(ρ i).blk, j * k + o, none⟩)
  | .rptr cs off, v => ∃ base : Addr, v = .pointer (some (base.add off)) ∧ SV.denC σ ρ base 0 cs
  | .fn f fs cs, v => ∃ vs us, v = .func (.func f) (List.toArray vs) (List.toArray us) ∧ SV.denL σ ρ fs vs ∧ SV.denL σ ρ cs us
  | .tup l, v => ∃ vs, v = .tuple (List.toArray vs) ∧ SV.denL σ ρ l vs
  | .agg l, v => ∃ vs, v = .agg (List.toArray vs) ∧ SV.denL σ ρ l vs
def SV.denL (σ : Mem) (ρ : Rho) : List SV → List Value → Prop
  | [], vs => vs = []
  | s :: l, vs => ∃ v r, vs = v :: r ∧ SV.den σ ρ s v ∧ SV.denL σ ρ l r
def SV.denC (σ : Mem) (ρ : Rho) (base : Addr) : Nat → List SV → Prop
  | _, [] => True
  | j, s :: l => (∃ v, σ (base.add j) = some v ∧ SV.den σ ρ s v) ∧ SV.denC σ ρ base (j + 1) l
end

theorem denL_length {σ : Mem} {ρ : Rho} : ∀ (l : List SV) (vs : List Value), SV.denL σ ρ l vs → vs.length = l.length
  | [], vs, h => by simp only [SV.denL] at h; simp [h]
  | s :: l, vs, h => by
    simp only [SV.denL] at h
    obtain ⟨v, r, rfl, _, hr⟩ := h
    simp [denL_length l r hr]
theorem denL_get {σ : Mem} {ρ : Rho} : ∀ (l : List SV) (vs : List Value), SV.denL σ ρ l vs → ∀ (i : Nat) s, l[i]? = some s → ∃ v, vs[i]? = some v ∧ SV.den σ ρ s v
  | [], vs, h, i, s, hi => by simp at hi
  | x :: l, vs, h, i, s, hi => by
    simp only [SV.denL] at h
    obtain ⟨v, r, rfl, hv, hr⟩ := h
    cases i with
    | zero => simp at hi; subst hi; exact ⟨v, by simp, hv⟩
    | succ i => simpa using denL_get l r hr i s (by simpa using hi)
theorem denL_append {σ : Mem} {ρ : Rho} : ∀ (l m : List SV) (vs : List Value), SV.denL σ ρ (l ++ m) vs ↔ ∃ a b, vs = a ++ b ∧ SV.denL σ ρ l a ∧ SV.denL σ ρ m b
  | [], m, vs => by
    simp only [List.nil_append, SV.denL]
    exact ⟨fun h => ⟨[], vs, rfl, rfl, h⟩, fun ⟨a, b, e, ea, h⟩ => by subst ea; simpa [e] using h⟩
  | s :: l, m, vs => by
    simp only [List.cons_append, SV.denL, denL_append l m]
    constructor
    · rintro ⟨v, r, rfl, hv, a, b, rfl, ha, hb⟩
      exact ⟨v :: a, b, rfl, ⟨v, a, rfl, hv, ha⟩, hb⟩
    · rintro ⟨_, b, rfl, ⟨v, a, rfl, hv, ha⟩, hb⟩
      exact ⟨v, a ++ b, rfl, hv, a, b, rfl, ha, hb⟩
theorem denL_set {σ : Mem} {ρ : Rho} : ∀ (l : List SV) (vs : List Value), SV.denL σ ρ l vs → ∀ (i : Nat) s v, SV.den σ ρ s v → SV.denL σ ρ (l.set i s) (vs.set i v)
  | [], vs, h, i, s, v, hv => by simp only [SV.denL] at h; subst h; simp [SV.denL]
  | x :: l, vs, h, i, s, v, hv => by
    simp only [SV.denL] at h
    obtain ⟨u, r, rfl, hu, hr⟩ := h
    cases i with
    | zero => exact ⟨v, r, rfl, hv, hr⟩
    | succ i => exact ⟨u, r.set i v, rfl, hu, denL_set l r hr i s v hv⟩
theorem denC_get {σ : Mem} {ρ : Rho} {base : Addr} : ∀ (l : List SV) (k : Nat), SV.denC σ ρ base k l → ∀ (i : Nat) s, l[i]? = some s → ∃ v, σ (base.add (k + i)) = some v ∧ SV.den σ ρ s v
  | [], k, h, i, s, hi => by simp at hi
  | x :: l, k, h, i, s, hi => by
    simp only [SV.denC] at h
    cases i with
    | zero => simp at hi; subst hi; simpa using h.1
    | succ i =>
      have := denC_get l (k + 1) h.2 i s (by simpa using hi)
      rwa [show k + (i + 1) = k + 1 + i by omega]

/-! What a state's turn leaves: σ grows, the entries that are named lie where they lay. -/
mutual
def SV.ok (p : Nat → Bool) : SV → Bool
  | .own i => p i
  | .arr i => p i
  | .mp i => p i
  | .itr _ => true
  | .ptr i _ => p i
  | .mptr i => p i
  | .sub i _ => p i
  | .offs i _ _ _ => p i
  | .eptr i _ _ _ => p i
  | .rptr cs _ => SV.okL p cs
  | .fn _ a b => SV.okL p a && SV.okL p b
  | .tup l => SV.okL p l
  | .agg l => SV.okL p l
  | .val _ _ => true
  | .nils => true
  | .nilp => true
  | .nilf => true
  | .top => true
  | .yv _ => true
  | .fix _ _ => true
def SV.okL (p : Nat → Bool) : List SV → Bool
  | [] => true
  | s :: l => SV.ok p s && SV.okL p l
end
mutual
theorem den_step {σ τ : Mem} {ρ ρ' : Rho} (h : σ.le τ) (p : Nat → Bool) (hr : ∀ i, p i = true → ρ' i = ρ i) : ∀ (s : SV) (v : Value), s.ok p = true → SV.den σ ρ s v → SV.den τ ρ' s v
  | .val t x, v, _, hd => by simp only [SV.den] at hd ⊢; exact Den_mono h _ _ _ hd
  | .nils, v, _, hd => by simpa only [SV.den] using hd
  | .nilp, v, _, hd => by simpa only [SV.den] using hd
  | .nilf, v, _, hd => by simpa only [SV.den] using hd
  | .top, v, _, hd => by simpa only [SV.den] using hd
  | .yv _, v, _, hd => by simpa only [SV.den] using hd
  | .mptr i, v, hp, hd => by simp only [SV.ok] at hp; simp only [SV.den] at hd ⊢; rw [hr i hp]; exact hd
  | .fix t l, v, _, hd => by simp only [SV.den] at hd ⊢; exact ⟨Den_mono h _ _ _ hd.1, hd.2⟩
  | .own i, v, hp, hd => by simp only [SV.ok] at hp; simp only [SV.den] at hd ⊢; rw [hr i hp]; exact hd
  | .arr i, v, hp, hd => by simp only [SV.ok] at hp; simp only [SV.den] at hd ⊢; rw [hr i hp]; exact hd
  | .mp i, v, hp, hd => by simp only [SV.ok] at hp; simp only [SV.den] at hd ⊢; rw [hr i hp]; exact hd
  | .itr _, v, _, hd => by simpa only [SV.den] using hd
  | .ptr i off, v, hp, hd => by simp only [SV.ok] at hp; simp only [SV.den] at hd ⊢; rw [hr i hp]; exact hd
  | .sub i n, v, hp, hd => by simp only [SV.ok] at hp; simp only [SV.den] at hd ⊢; rw [hr i hp]; exact hd
  | .offs i j k n, v, hp, hd => by simp only [SV.ok] at hp; simp only [SV.den] at hd ⊢; rw [hr i hp]; exact hd
  | .eptr i j k o, v, hp, hd => by simp only [SV.ok] at hp; simp only [SV.den] at hd ⊢; rw [hr i hp]; exact hd
  | .rptr cs off, v, hp, hd => by simp only [SV.ok] at hp; simp only [SV.den] at hd ⊢; obtain ⟨b, e, hc⟩ := hd; exact ⟨b, e, denC_step h p hr b 0 cs hp hc⟩
  | .fn f fs cs, v, hp, hd => by
    simp only [SV.ok, Bool.and_eq_true] at hp
    simp only [SV.den] at hd ⊢
    obtain ⟨vs, us, e, h1, h2⟩ := hd
    exact ⟨vs, us, e, denL_step h p hr fs vs hp.1 h1, denL_step h p hr cs us hp.2 h2⟩
  | .tup l, v, hp, hd => by simp only [SV.ok] at hp; simp only [SV.den] at hd ⊢; obtain ⟨vs, e, h1⟩ := hd; exact ⟨vs, e, denL_step h p hr l vs hp h1⟩
  | .agg l, v, hp, hd => by simp only [SV.ok] at hp; simp only [SV.den] at hd ⊢; obtain ⟨vs, e, h1⟩ := hd; exact ⟨vs, e, denL_step h p hr l vs hp h1⟩
theorem denL_step {σ τ : Mem} {ρ ρ' : Rho} (h : σ.le τ) (p : Nat → Bool) (hr : ∀ i, p i = true → ρ' i = ρ i) : ∀ (l : List SV) (vs : List Value), SV.okL p l = true → SV.denL σ ρ l vs → SV.denL τ ρ' l vs
  | [], vs, _, hd => by simpa only [SV.denL] using hd
  | s :: l, vs, hp, hd => by
    simp only [SV.okL, Bool.and_eq_true] at hp
    simp only [SV.denL] at hd ⊢
    obtain ⟨v, r, e, h1, h2⟩ := hd
    exact ⟨v, r, e, den_step h p hr s v hp.1 h1, denL_step h p hr l r hp.2 h2⟩
theorem denC_step {σ τ : Mem} {ρ ρ' : Rho} (h : σ.le τ) (p : Nat → Bool) (hr : ∀ i, p i = true → ρ' i = ρ i) (base : Addr) : ∀ (j : Nat) (l : List SV), SV.okL p l = true → SV.denC σ ρ base j l → SV.denC τ ρ' base j l
  | _, [], _, _ => by simp only [SV.denC]
  | j, s :: l, hp, hd => by
    simp only [SV.okL, Bool.and_eq_true] at hp
    simp only [SV.denC] at hd ⊢
    obtain ⟨⟨v, e, h1⟩, h2⟩ := hd
    exact ⟨⟨v, h _ _ e, den_step h p hr s v hp.1 h1⟩, denC_step h p hr base (j + 1) l hp.2 h2⟩
end
mutual
theorem ok_true : ∀ (s : SV), s.ok (fun _ => true) = true
  | .val t x => rfl
  | .nils => rfl
  | .nilp => rfl
  | .nilf => rfl
  | .top => rfl
  | .yv _ => rfl
  | .mptr _ => rfl
  | .fix t l => rfl
  | .own i => rfl
  | .arr i => rfl
  | .mp i => rfl
  | .itr i => rfl
  | .ptr i off => rfl
  | .sub i n => rfl
  | .offs i j k n => rfl
  | .eptr i j k o => rfl
  | .rptr cs off => by simp only [SV.ok]; exact okL_true cs
  | .fn f fs cs => by simp only [SV.ok, okL_true fs, okL_true cs, Bool.and_self]
  | .tup l => by simp only [SV.ok]; exact okL_true l
  | .agg l => by simp only [SV.ok]; exact okL_true l
theorem okL_true : ∀ (l : List SV), SV.okL (fun _ => true) l = true
  | [] => rfl
  | s :: l => by simp only [SV.okL, ok_true s, okL_true l, Bool.and_self]
end
theorem den_grow {σ τ : Mem} {ρ : Rho} (h : σ.le τ) {s : SV} {v : Value} (hd : SV.den σ ρ s v) : SV.den τ ρ s v := den_step h (fun _ => true) (fun _ _ => rfl) s v (ok_true s) hd
theorem denL_grow {σ τ : Mem} {ρ : Rho} (h : σ.le τ) {l : List SV} {vs : List Value} (hd : SV.denL σ ρ l vs) : SV.denL τ ρ l vs := denL_step h (fun _ => true) (fun _ _ => rfl) l vs (okL_true l) hd

/-! ### Leaves and their data -/
/-- A leaf's symbolic value as data of a type. -/
def SV.toVal : (t : Ty) → SV → Option t.D
  | .int k, .val (.int k') x => if k = k' then some x else none
  | .bool, .val .bool x => some x
  | .str, .val .str x => some x
  | .list t, .nils => some []
  | _, _ => none

/-- A datum's cells as symbolic values. -/
def svs : (t : Ty) → t.D → List SV
  | .unit, _ => []
  | .prod a b, x => svs a x.1 ++ svs b x.2
  | .st t, x => svs t x
  | .int k, x => [.val (.int k) x]
  | .bool, x => [.val .bool x]
  | .str, x => [.val .str x]
  | .list t, x => [.val (.list t) x]
  | .arr _ _, _ => []
/-- No array in it. -/
def Ty.flat : Ty → Bool
  | .arr _ _ => false
  | .prod a b => a.flat && b.flat
  | .st t => t.flat
  | _ => true
theorem svs_den {σ : Mem} {ρ : Rho} : ∀ (t : Ty) (x : t.D) (cs : List Value), t.flat = true → Den σ t x cs → SV.denL σ ρ (svs t x) cs := by
  intro t
  induction t with
  | int k => intro x cs _ hd; rw [Den] at hd; subst hd; simp [svs, SV.denL, SV.den, Den]
  | bool => intro x cs _ hd; rw [Den] at hd; subst hd; simp [svs, SV.denL, SV.den, Den]
  | str => intro x cs _ hd; rw [Den] at hd; subst hd; simp [svs, SV.denL, SV.den, Den]
  | unit => intro x cs _ hd; rw [Den] at hd; subst hd; simp [svs, SV.denL]
  | prod a b iha ihb =>
    rintro x cs hf ⟨c1, c2, rfl, h1, h2⟩
    simp only [Ty.flat, Bool.and_eq_true] at hf
    simp only [svs, denL_append]
    exact ⟨c1, c2, rfl, iha _ _ hf.1 h1, ihb _ _ hf.2 h2⟩
  | st t ih => intro x cs hf hd; exact ih _ _ hf hd
  | arr n t ih => intro x cs hf; simp [Ty.flat] at hf
  | list t ih =>
    intro x cs _ hd
    have hd' := hd
    obtain ⟨A, n, c, rfl, _⟩ := hd'
    simp only [svs, SV.denL]
    exact ⟨_, [], rfl, by simpa only [SV.den] using hd, rfl⟩

/-- One element of a list as a symbolic value. -/
def elemSV : (t : Ty) → t.D → SV
  | .st t, x => .agg (svs t x)
  | .int k, x => .val (.int k) x
  | .bool, x => .val .bool x
  | .str, x => .val .str x
  | .list t, x => .val (.list t) x
  | .unit, _ => .agg []
  | .prod a b, x => .agg (svs (.prod a b) x)
  | .arr n t, x => .agg []

def nth {t : Ty} (l : List t.D) (i : Int) : t.D := l.getD i.toNat t.dflt
def byteAt (s : Str) (i : Int) : Int := ((s.getD i.toNat 0).toNat : Int)

/-! ### Operations on symbolic values -/
/-- What must hold (nothing: none), and the value. -/
abbrev Ans := Option (Option Prop × SV)
def holds : Option Prop → Prop
  | none => True
  | some c => c

abbrev inR (i : Int) (n : Nat) : Prop := 0 ≤ i ∧ i < (n : Int)
def binInt (op : BinOp) (k : IntKind) (a b : Int) : Ans :=
  match op with
  | .add => some (none, .val (.int k) (k.wrap (a + b)))
  | .sub => some (none, .val (.int k) (k.wrap (a - b)))
  | .mul => some (none, .val (.int k) (k.wrap (a * b)))
  | .quo => some (some (b ≠ 0), .val (.int k) (k.wrap (a.tdiv b)))
  | .rem => some (some (b ≠ 0), .val (.int k) (a.tmod b))
  | .eql => some (none, .val .bool (a == b))
  | .neq => some (none, .val .bool (a != b))
  | .lss => some (none, .val .bool (decide (a < b)))
  | .leq => some (none, .val .bool (decide (a ≤ b)))
  | .gtr => some (none, .val .bool (decide (a > b)))
  | .geq => some (none, .val .bool (decide (a ≥ b)))
  | _ => none
def negInt (k : IntKind) (n : Int) : SV := .val (.int k) (k.wrap (0 - n))
def pureBin (P : Program) (op : BinOp) (t : TypeId) : SV → SV → Ans
  | .val (.int k) a, .val (.int k') b => if k = k' then binInt op k a b else none
  | .val .str a, .val .str b =>
    match op with
    | .add => some (some (((a.length + b.length : Nat) : Int) ≤ 9223372036854775807), .val .str (a ++ b))
    | .eql => some (none, .val .bool (a == b))
    | .neq => some (none, .val .bool (!(a == b)))
    | .lss => some (none, .val .bool (Op.bytesLess a b))
    | .leq => some (none, .val .bool (Op.bytesLess a b || a == b))
    | .gtr => some (none, .val .bool (!(Op.bytesLess a b || a == b)))
    | .geq => some (none, .val .bool (!(Op.bytesLess a b)))
    | _ => none
  | .val .bool a, .val .bool b =>
    match op, P.underlying t with
    | .eql, some .bool => some (none, .val .bool (a == b))
    | .neq, some .bool => some (none, .val .bool (!(a == b)))
    | _, _ => none
  | .ptr _ _, .nilp =>
    match op, P.underlying t with
    | .eql, some (.pointer _) => some (none, .val .bool false)
    | .neq, some (.pointer _) => some (none, .val .bool true)
    | _, _ => none
  | _, _ => none

theorem toList_mk (s : Str) : (⟨s.toArray⟩ : ByteArray).toList = s := by rw [ByteArray.toList_eq]
theorem size_mk (s : Str) : (⟨s.toArray⟩ : ByteArray).size = s.length := by simp [ByteArray.size]
theorem append_mk (a b : Str) : (⟨a.toArray⟩ : ByteArray) ++ ⟨b.toArray⟩ = ⟨(a ++ b).toArray⟩ := by
  apply ByteArray.ext
  simp [ByteArray.data_append]

theorem eqGuard_run {P : Program} {w : World} {op : BinOp} {t : TypeId} {x y : Operand} {a b : Value}
    (h : ∀ cs, a ≠ .agg cs) (h' : a ≠ .nilIface) : (eqGuard op t x y a b).run P w = .ok () w := by
  unfold eqGuard
  cases op <;> first | rfl | (cases a <;> first | (exact absurd rfl h') | (exact absurd rfl (h _)) | rfl)

theorem pureBin_sound {P : Program} {σ : Mem} {ρ : Rho} {op : BinOp} {t : TypeId} {x y : Operand} {sx sy s : SV} {c : Option Prop} {vx vy : Value}
    (h : pureBin P op t sx sy = some (c, s)) (hc : holds c) (hx : sx.den σ ρ vx) (hy : sy.den σ ρ vy) :
    ∃ v, (∀ w, ((do eqGuard op t x y vx vy; binOp op t vx vy) : Sem Value).run P w = .ok v w) ∧ s.den σ ρ v := by
  unfold pureBin at h
  split at h
  · rename_i k a k' b
    split at h
    · rename_i hk
      subst hk
      simp only [SV.den, Den, List.cons.injEq, and_true] at hx hy
      subst hx hy
      simp only [Sem.run_bind, fun (w : World) => eqGuard_run (P := P) (w := w) (op := op) (t := t) (x := x) (y := y) (a := .int k a) (b := .int k b) (by simp) (by simp), Result.andThen_ok]
      cases op <;> simp only [binInt, Option.some.injEq, Prod.mk.injEq, reduceCtorEq] at h <;> obtain ⟨rfl, rfl⟩ := h <;>
        first
        | exact ⟨_, fun w => by simp [binOp, Op.intArith, Op.intCmp, Sem.run_pure]; rfl, by simp [SV.den, Den]⟩
        | exact ⟨_, fun w => by simp only [holds] at hc; simp [binOp, Op.intDiv, hc]; rfl, by simp [SV.den, Den]⟩
    · cases h
  · rename_i a b
    simp only [SV.den, Den, List.cons.injEq, and_true] at hx hy
    subst hx hy
    simp only [Sem.run_bind, fun (w : World) => eqGuard_run (P := P) (w := w) (op := op) (t := t) (x := x) (y := y) (a := strV a) (b := strV b) (by simp [strV]) (by simp [strV]), Result.andThen_ok]
    cases op <;> simp only [Option.some.injEq, Prod.mk.injEq, reduceCtorEq] at h <;> obtain ⟨rfl, rfl⟩ := h
    case add =>
      refine ⟨strV (a ++ b), fun w => ?_, by simp [SV.den, Den]⟩
      simp only [strV, binOp, Op.stringOp, size_mk, append_mk]
      simp only [holds] at hc
      rw [IntKind.max_i64, if_neg (by omega)]
      simp
    all_goals exact ⟨_, fun w => by simp [binOp, strV, Op.stringOp, toList_mk]; rfl, by simp [SV.den, Den]⟩
  · rename_i a b
    simp only [SV.den, Den, List.cons.injEq, and_true] at hx hy
    subst hx hy
    simp only [Sem.run_bind, fun (w : World) => eqGuard_run (P := P) (w := w) (op := op) (t := t) (x := x) (y := y) (a := .bool a) (b := .bool b) (by simp) (by simp), Result.andThen_ok]
    split at h
    · rename_i hu
      simp only [Option.some.injEq, Prod.mk.injEq] at h
      obtain ⟨rfl, rfl⟩ := h
      refine ⟨.bool (a == b), fun w => ?_, by simp [SV.den, Den]⟩
      show ((do pure (.bool (← Op.equal t (.bool a) (.bool b))) : Sem Value)).run P w = _
      simp [run_equal_bool _ _ _ _ hu]
    · rename_i hu
      simp only [Option.some.injEq, Prod.mk.injEq] at h
      obtain ⟨rfl, rfl⟩ := h
      refine ⟨.bool (!(a == b)), fun w => ?_, by simp [SV.den, Den]⟩
      show ((do pure (.bool (!(← Op.equal t (.bool a) (.bool b)))) : Sem Value)).run P w = _
      simp [run_equal_bool _ _ _ _ hu]
    · cases h
  · rename_i i o
    simp only [SV.den] at hx hy
    subst hx hy
    simp only [Sem.run_bind, fun (w : World) => eqGuard_run (P := P) (w := w) (op := op) (t := t) (x := x) (y := y) (a := .pointer (some ⟨(ρ i).blk, o, none⟩)) (b := .pointer none) (by simp) (by simp), Result.andThen_ok]
    split at h
    · rename_i e hu
      simp only [Option.some.injEq, Prod.mk.injEq] at h
      obtain ⟨rfl, rfl⟩ := h
      refine ⟨.bool false, fun w => ?_, by simp [SV.den, Den]⟩
      show ((do pure (.bool (← Op.equal t (.pointer (some _)) (.pointer none))) : Sem Value)).run P w = _
      have hu' : P.underlying t = some (.pointer (P.pointee t)) := by simp [Program.pointee, hu]
      simp [run_equal_pointer_nil w t _ hu']
    · rename_i e hu
      simp only [Option.some.injEq, Prod.mk.injEq] at h
      obtain ⟨rfl, rfl⟩ := h
      refine ⟨.bool true, fun w => ?_, by simp [SV.den, Den]⟩
      show ((do pure (.bool (!(← Op.equal t (.pointer (some _)) (.pointer none)))) : Sem Value)).run P w = _
      have hu' : P.underlying t = some (.pointer (P.pointee t)) := by simp [Program.pointee, hu]
      simp [run_equal_pointer_nil w t _ hu']
    · cases h
  · cases h

def pureUn (op : UnOp) : SV → Ans
  | .val .bool b => match op with | .not => some (none, .val .bool (!b)) | _ => none
  | .val (.int k) n => match op with | .neg => some (none, negInt k n) | _ => none
  | _ => none
theorem pureUn_sound {P : Program} {σ : Mem} {ρ : Rho} {op : UnOp} {sx s : SV} {c : Option Prop} {vx : Value}
    (h : pureUn op sx = some (c, s)) (hx : sx.den σ ρ vx) : ∃ v, (∀ w, (Op.unary op vx).run P w = .ok v w) ∧ s.den σ ρ v := by
  unfold pureUn at h
  split at h
  · simp only [SV.den, Den, List.cons.injEq, and_true] at hx
    subst hx
    cases op <;> simp only [Option.some.injEq, Prod.mk.injEq, reduceCtorEq] at h <;> obtain ⟨rfl, rfl⟩ := h
    exact ⟨_, fun w => by simp [Op.unary]; rfl, by simp [SV.den, Den]⟩
  · simp only [SV.den, Den, List.cons.injEq, and_true] at hx
    subst hx
    cases op <;> simp only [Option.some.injEq, Prod.mk.injEq, reduceCtorEq] at h <;> obtain ⟨rfl, rfl⟩ := h
    exact ⟨_, fun w => by simp [Op.unary, Op.intArith]; rfl, by simp [negInt, SV.den, Den]⟩
  · cases h

/-- A number as a text. -/
def runeStr (n : Int) : Str := (Utf8.encode n).data.toList
def pureConv (P : Program) (src dst : TypeId) : SV → Ans
  | .val (.int k) n => match P.underlying src, P.underlying dst with
    | some _, some (.int k') => some (none, .val (.int k') (k'.wrap n))
    | some _, some .string => some (none, .val .str (runeStr n))
    | _, _ => none
  | .val .str s => match P.underlying src, P.underlying dst with
    | some .string, some .string => some (none, .val .str s)
    | _, _ => none
  | _ => none
theorem pureConv_sound {P : Program} {σ : Mem} {ρ : Rho} {src dst : TypeId} {sx s : SV} {c : Option Prop} {vx : Value}
    (h : pureConv P src dst sx = some (c, s)) (hx : sx.den σ ρ vx) : ∃ v, (∀ w, (convert src dst vx).run P w = .ok v w) ∧ s.den σ ρ v := by
  unfold pureConv at h
  split at h
  · simp only [SV.den, Den, List.cons.injEq, and_true] at hx
    subst hx
    split at h
    · rename_i d k' h1 h2
      simp only [Option.some.injEq, Prod.mk.injEq] at h
      obtain ⟨rfl, rfl⟩ := h
      exact ⟨_, fun w => by simp [convert, run_underlying h1, run_underlying h2, Conv.intToInt]; rfl, by simp [SV.den, Den]⟩
    · rename_i d h1 h2
      simp only [Option.some.injEq, Prod.mk.injEq] at h
      obtain ⟨rfl, rfl⟩ := h
      refine ⟨.string (Utf8.encode _), fun w => by simp [convert, run_underlying h1, run_underlying h2, Conv.intToString]; rfl, ?_⟩
      simp only [SV.den, Den, strV, runeStr]
    · cases h
  · simp only [SV.den, Den, List.cons.injEq, and_true] at hx
    subst hx
    split at h
    · rename_i h1 h2
      simp only [Option.some.injEq, Prod.mk.injEq] at h
      obtain ⟨rfl, rfl⟩ := h
      exact ⟨_, fun w => by simp [convert, strV, run_underlying h1, run_underlying h2]; rfl, by simp [SV.den, Den, strV]⟩
    · cases h
  · cases h

/-- A slice's list, whichever way it is told. -/
def listOf : SV → Option ((t : Ty) × List t.D)
  | .val (.list t) l => some ⟨t, l⟩
  | .fix t l => some ⟨t, l⟩
  | _ => none
theorem listOf_den {σ : Mem} {ρ : Rho} {s : SV} {v : Value} {t : Ty} {l : List t.D} (h : listOf s = some ⟨t, l⟩) (hs : s.den σ ρ v) : Den σ (.list t) l [v] := by
  unfold listOf at h
  split at h
  · simp only [Option.some.injEq, Sigma.mk.injEq] at h
    obtain ⟨rfl, h⟩ := h
    obtain rfl := eq_of_heq h
    simpa only [SV.den] using hs
  · simp only [Option.some.injEq, Sigma.mk.injEq] at h
    obtain ⟨rfl, h⟩ := h
    obtain rfl := eq_of_heq h
    simp only [SV.den] at hs
    exact hs.1
  · cases h

def pureLen (P : Program) (t : TypeId) : SV → Ans
  | .val .str s => match P.underlying t with | some .string => some (none, .val (.int .i64) (s.length : Int)) | _ => none
  | .nils => match P.underlying t with | some (.slice _) => some (none, .val (.int .i64) 0) | _ => none
  | s => match listOf s, P.underlying t with | some ⟨_, l⟩, some (.slice _) => some (none, .val (.int .i64) (l.length : Int)) | _, _ => none
theorem pureLen_sound {P : Program} {σ : Mem} {ρ : Rho} {t ty : TypeId} {sx s : SV} {c : Option Prop} {vx : Value} {ts : Array TypeId} (ht : ts[0]? = some t)
    (h : pureLen P t sx = some (c, s)) (hx : sx.den σ ρ vx) : ∃ v, (∀ w, (Builtin.len_ ts ty #[vx]).run P w = .ok v w) ∧ s.den σ ρ v := by
  unfold pureLen at h
  split at h
  · simp only [SV.den, Den, List.cons.injEq, and_true] at hx
    subst hx
    split at h
    · rename_i h1
      simp only [Option.some.injEq, Prod.mk.injEq] at h
      obtain ⟨rfl, rfl⟩ := h
      exact ⟨_, fun w => by simp [Builtin.len_, ht, run_underlying h1, strV]; rfl, by simp [SV.den, Den, goInt, size_mk]⟩
    · cases h
  · simp only [SV.den] at hx
    subst hx
    split at h
    · rename_i h1
      simp only [Option.some.injEq, Prod.mk.injEq] at h
      obtain ⟨rfl, rfl⟩ := h
      exact ⟨_, fun w => by simp [Builtin.len_, ht, run_underlying h1]; rfl, by simp [SV.den, Den, goInt]⟩
    · cases h
  · split at h
    · rename_i tt l e hl h1
      have hd := listOf_den hl hx
      obtain ⟨A, n, cc, hv, hn, _⟩ := hd
      simp only [List.cons.injEq, and_true] at hv
      subst hv
      simp only [Option.some.injEq, Prod.mk.injEq] at h
      obtain ⟨rfl, rfl⟩ := h
      exact ⟨_, fun w => by simp [Builtin.len_, ht, run_underlying h1]; rfl, by simp [SV.den, Den, goInt, hn]⟩
    · cases h

theorem min_if (a b : Int) : (if b < a then b else a) = min a b := by split <;> omega
theorem max_if (a b : Int) : (if b > a then b else a) = max a b := by split <;> omega
theorem toNat_lt (i : Int) (n : Nat) (h0 : 0 ≤ i) (h : i < (n : Int)) : i.toNat < n := by omega
def pureMin : List SV → Ans
  | [.val (.int k) a, .val (.int k') b] => if k = k' then some (none, .val (.int k) (min a b)) else none
  | _ => none
def pureMax : List SV → Ans
  | [.val (.int k) a, .val (.int k') b] => if k = k' then some (none, .val (.int k) (max a b)) else none
  | _ => none
theorem pureMin_sound {P : Program} {σ : Mem} {ρ : Rho} {ts : Array TypeId} {ty : TypeId} {l : List SV} {s : SV} {c : Option Prop} {vs : List Value}
    (h : pureMin l = some (c, s)) (hx : SV.denL σ ρ l vs) : ∃ v, (∀ w, (Builtin.min_ ts ty vs.toArray).run P w = .ok v w) ∧ s.den σ ρ v := by
  unfold pureMin at h
  split at h
  · rename_i k a k' b
    split at h
    · rename_i hk
      subst hk
      simp only [Option.some.injEq, Prod.mk.injEq] at h
      obtain ⟨rfl, rfl⟩ := h
      simp only [SV.denL, SV.den, Den, List.cons.injEq, and_true] at hx
      obtain ⟨_, _, rfl, rfl, _, _, rfl, rfl, rfl⟩ := hx
      refine ⟨.int k (min a b), fun w => ?_, by simp [SV.den, Den]⟩
      simp only [Builtin.min_, List.foldlM, Builtin.min2]
      have : (if b < a then b else a) = min a b := min_if a b
      simp [this]
    · cases h
  · cases h
theorem pureMax_sound {P : Program} {σ : Mem} {ρ : Rho} {ts : Array TypeId} {ty : TypeId} {l : List SV} {s : SV} {c : Option Prop} {vs : List Value}
    (h : pureMax l = some (c, s)) (hx : SV.denL σ ρ l vs) : ∃ v, (∀ w, (Builtin.max_ ts ty vs.toArray).run P w = .ok v w) ∧ s.den σ ρ v := by
  unfold pureMax at h
  split at h
  · rename_i k a k' b
    split at h
    · rename_i hk
      subst hk
      simp only [Option.some.injEq, Prod.mk.injEq] at h
      obtain ⟨rfl, rfl⟩ := h
      simp only [SV.denL, SV.den, Den, List.cons.injEq, and_true] at hx
      obtain ⟨_, _, rfl, rfl, _, _, rfl, rfl, rfl⟩ := hx
      refine ⟨.int k (max a b), fun w => ?_, by simp [SV.den, Den]⟩
      simp only [Builtin.max_, List.foldlM, Builtin.max2]
      have : (if b > a then b else a) = max a b := max_if a b
      simp [this]
    · cases h
  · cases h

/-- A type's leaf kind. -/
def leafTy (P : Program) (e : TypeId) : Option Ty :=
  match P.underlying e with
  | some (.int k) => some (.int k)
  | some .bool => some .bool
  | some .string => some .str
  | _ => none
theorem toVal_den {σ : Mem} {ρ : Rho} {t : Ty} {s : SV} {x : t.D} {v : Value} (h : s.toVal t = some x) (hs : s.den σ ρ v) : Den σ t x [v] := by
  unfold SV.toVal at h
  split at h
  · split at h
    · rename_i hk
      subst hk
      obtain rfl := Option.some.inj h
      simpa only [SV.den] using hs
    · cases h
  · obtain rfl := Option.some.inj h
    simpa only [SV.den] using hs
  · obtain rfl := Option.some.inj h
    simpa only [SV.den] using hs
  · obtain rfl := Option.some.inj h
    simp only [SV.den] at hs
    subst hs
    exact ⟨none, 0, 0, rfl, rfl, Nat.le_refl _, Nat.zero_le _, fun h0 => absurd h0 (by omega)⟩
  · cases h
def toVals (t : Ty) : List SV → Option (List t.D)
  | [] => some []
  | s :: l => match s.toVal t, toVals t l with | some x, some r => some (x :: r) | _, _ => none
theorem toVals_get {t : Ty} : ∀ (l : List SV) (xs : List t.D), toVals t l = some xs → xs.length = l.length ∧ ∀ (i : Nat) s, l[i]? = some s → ∃ x, xs[i]? = some x ∧ s.toVal t = some x
  | [], xs, h => by simp [toVals] at h; subst h; simp
  | s :: l, xs, h => by
    simp only [toVals] at h
    split at h
    · rename_i x r h1 h2
      obtain rfl := Option.some.inj h
      obtain ⟨ih1, ih2⟩ := toVals_get l r h2
      refine ⟨by simp [ih1], fun i s' hi => ?_⟩
      cases i with
      | zero => simp at hi; subst hi; exact ⟨x, by simp, h1⟩
      | succ i => simpa using ih2 i s' (by simpa using hi)
    · cases h

def pureIndex (P : Program) (t : TypeId) : SV → SV → Ans
  | .val .str s, .val (.int _) i => match P.underlying t with
    | some .string => some (some (inR i s.length), .val (.int .u8) (byteAt s i))
    | _ => none
  | .agg cs, .val (.int _) i => match P.underlying t with
    | some (.array n e) => match leafTy P e, P.info? e with
      | some ty, some inf => match toVals ty cs with
        | some xs => if inf.size = 1 ∧ cs.length = n then some (some (inR i n), .val ty (nth xs i)) else none
        | none => none
      | _, _ => none
    | _ => none
  | _, _ => none
def aggD : TypeDesc → Bool
  | .struct _ => true
  | .array _ _ => true
  | _ => false
theorem isAgg_run {P : Program} {w : World} {t : TypeId} {d : TypeDesc} (h : P.underlying t = some d) : (isAgg t).run P w = .ok (aggD d) w := by
  simp only [isAgg, Sem.run_bind, run_underlying h, Result.andThen_ok]
  cases d <;> rfl
theorem sizeOf_run {P : Program} {w : World} {t : TypeId} {i : TypeInfo} (h : P.info? t = some i) : (sizeOf t).run P w = .ok i.size w := by
  simp [sizeOf, typeInfo, h]
theorem leafTy_agg {P : Program} {e : TypeId} {ty : Ty} (h : leafTy P e = some ty) (w : World) : (isAgg e).run P w = .ok false w := by
  unfold leafTy at h
  split at h <;> first | (rename_i h1; rw [isAgg_run h1]; rfl) | (rename_i k h1; rw [isAgg_run h1]; rfl) | cases h
theorem pureIndex_sound {P : Program} {σ : Mem} {ρ : Rho} {t : TypeId} {sx si s : SV} {c : Option Prop} {vx vi : Value}
    (h : pureIndex P t sx si = some (c, s)) (hc : holds c) (hx : sx.den σ ρ vx) (hi : si.den σ ρ vi) : ∃ v, (∀ w, (Instr.index t vx vi).run P w = .ok v w) ∧ s.den σ ρ v := by
  unfold pureIndex at h
  split at h
  · rename_i s0 k i
    simp only [SV.den, Den, List.cons.injEq, and_true] at hx hi
    subst hx hi
    split at h
    · rename_i h1
      simp only [Option.some.injEq, Prod.mk.injEq] at h
      obtain ⟨rfl, rfl⟩ := h
      obtain ⟨h0, hl⟩ := hc
      have hlt : i.toNat < s0.length := toNat_lt i _ h0 hl
      refine ⟨.int .u8 (byteAt s0 i), fun w => ?_, by simp [SV.den, Den]⟩
      simp only [Instr.index, asIntOf, Sem.run_bind, Sem.run_pure, Result.andThen_ok, run_underlying h1, strV]
      have hb : (⟨s0.toArray⟩ : ByteArray)[i.toNat]? = some s0[i.toNat] := by
        rw [getElem?_pos (⟨s0.toArray⟩ : ByteArray) i.toNat (by rw [size_mk]; exact hlt)]
        rfl
      rw [if_pos h0, hb]
      simp [byteAt, List.getD_eq_getElem?_getD, List.getElem?_eq_getElem hlt]
    · cases h
  · rename_i cs k i
    simp only [SV.den, Den, List.cons.injEq, and_true] at hx hi
    obtain ⟨vs, rfl, hvs⟩ := hx
    subst hi
    split at h
    · rename_i n e h1
      split at h
      · rename_i ty inf h2 h3
        split at h
        · rename_i xs h4
          split at h
          · rename_i h5
            simp only [Option.some.injEq, Prod.mk.injEq] at h
            obtain ⟨rfl, rfl⟩ := h
            obtain ⟨h0, hl⟩ := hc
            obtain ⟨hlen, hget⟩ := toVals_get cs xs h4
            have hlt : i.toNat < cs.length := by rw [h5.2]; exact toNat_lt i _ h0 hl
            obtain ⟨x, hx1, hx2⟩ := hget i.toNat cs[i.toNat] (List.getElem?_eq_getElem hlt)
            obtain ⟨v, hv1, hv2⟩ := denL_get cs vs hvs i.toNat cs[i.toNat] (List.getElem?_eq_getElem hlt)
            refine ⟨v, fun w => ?_, ?_⟩
            · simp only [Instr.index, asIntOf, Sem.run_bind, Sem.run_pure, Result.andThen_ok, run_underlying h1]
              rw [if_pos ⟨h0, hl⟩]
              simp only [Sem.run_bind, sizeOf_run h3, Result.andThen_ok, part, leafTy_agg h2, h5.1, Nat.mul_one, Bool.false_eq_true, if_false]
              simp [hv1]
            · have := toVal_den hx2 hv2
              simp only [SV.den, nth, List.getD_eq_getElem?_getD, hx1, Option.getD_some]
              exact this
          · cases h
        · cases h
      · cases h
    · cases h
  · cases h

end Go.Proofs.YteiickhgmmjcmaaGreatDoor.Sx
