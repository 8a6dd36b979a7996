/-
  glob: plain; set, next, unit, in, one.
  glob: set, next, unit.
  glob: in, one, Magic.
  glob: Match.
  strings.Builder's WriteByte and String (as F20 and F33, for a seat with V1).
  glob.Plain, wild.plain.
  strings.Split as a row; clear; wild.parts.
  slices.IndexFunc, ContainsFunc, DeleteFunc of texts; wild.parts.
  slices.DeleteFunc of empty texts; wild.parts.
-/

import Derived.Test.YteiickhgmmjcmaaGreatDoorF33

import Derived.Test.YteiickhgmmjcmaaGreatDoorSxX
import Derived.Test.YteiickhgmmjcmaaGreatDoorProg
import Derived.Test.YteiickhgmmjcmaaGreatDoorV1
import Derived.Test.YteiickhgmmjcmaaGreatDoorSxU
import Derived.Shelf.Strings.Builder2Cap
import Derived.Lib.UnsafeStr
import Derived.WalkSpells
import Derived.WalkLawsBesides
import Derived.Test.YteiickhgmmjcmaaGreatDoorV18
import Derived.Laws.CopyRow
set_option linter.unusedVariables false
set_option linter.unusedSimpArgs false
set_option maxRecDepth 20000
set_option maxHeartbeats 4000000
set_option maxRecDepth 100000
set_option maxHeartbeats 2000000
namespace Go.Proofs.YteiickhgmmjcmaaGreatDoor.Sx
open Go Go.Proofs Go.RowKit Go.Shelf

/-! ### Plain -/
/-- Where a set is over (behind its ]); 0: nowhere. -/
def setGo (p : Str) (first : Nat) : Nat → Nat → Nat
  | 0, _ => 0
  | f + 1, i => if p.length ≤ i then 0 else if byteAt p i = 93 ∧ first < i then i + 1 else if byteAt p i = 92 ∧ i + 1 < p.length then setGo p first f (i + 2) else setGo p first f (i + 1)
def setI (p : Str) : Nat := if 1 < p.length ∧ (byteAt p 1 = 33 ∨ byteAt p 1 = 94) then 2 else 1
def setF (p : Str) : Nat := setGo p (setI p) (p.length + 1) (setI p)
abbrev PieceD := Int × Int × Str × Int
def nextF (p : Str) : PieceD :=
  if byteAt p 0 = 92 ∧ 1 < p.length then (0, byteAt p 1, [], 2)
  else if byteAt p 0 = 42 ∨ byteAt p 0 = 63 then (byteAt p 0, 0, [], 1)
  else if byteAt p 0 = 91 ∧ 0 < setF p then (byteAt p 0, 0, cut p (some 1) (some ((setF p : Int) - 1)), (setF p : Int))
  else (0, byteAt p 0, [], 1)
def unitF (s : Str) : Int × Nat := if byteAt s 0 = 92 ∧ 1 < s.length then (byteAt s 1, 2) else (byteAt s 0, 1)
def rangeF (s : Str) : Int × Int × Str :=
  if 1 < (s.drop (unitF s).2).length ∧ byteAt (s.drop (unitF s).2) 0 = 45 then
    ((unitF s).1, (unitF ((s.drop (unitF s).2).drop 1)).1, (s.drop (unitF s).2).drop (1 + (unitF ((s.drop (unitF s).2).drop 1)).2))
  else ((unitF s).1, (unitF s).1, s.drop (unitF s).2)
def inGo (c : Int) : Nat → Str → Bool → Bool
  | 0, _, b => b
  | f + 1, s, b => if s = [] then b else inGo c f (rangeF s).2.2 (b || (decide ((rangeF s).1 ≤ c) && decide (c ≤ (rangeF s).2.1)))
def notF (s : Str) : Bool := decide (s ≠ []) && (byteAt s 0 == 33 || byteAt s 0 == 94)
def inF (s : Str) (c : Int) : Bool := inGo c (s.length + 1) (if notF s then s.drop 1 else s) false != notF s
def oneF (x : PieceD) (c : Int) : Bool := if x.1 = 63 then true else if x.1 = 91 then inF x.2.2.1 c else c == x.2.1
theorem setGo_le (p : Str) (first : Nat) : ∀ (f i : Nat), setGo p first f i ≤ p.length
  | 0, _ => Nat.zero_le _
  | f + 1, i => by
    rw [setGo]
    split
    · exact Nat.zero_le _
    · split
      · omega
      · split
        · exact setGo_le p first f _
        · exact setGo_le p first f _
theorem setGo_gt (p : Str) (first : Nat) : ∀ (f i : Nat), 0 < setGo p first f i → first + 2 ≤ setGo p first f i
  | 0, _, h => by cases h
  | f + 1, i, h => by
    rw [setGo] at h ⊢
    split at h
    · omega
    · rename_i h1
      rw [if_neg h1]
      split at h
      · rename_i h2
        rw [if_pos h2]
        omega
      · rename_i h2
        rw [if_neg h2]
        split at h
        · rename_i h3
          rw [if_pos h3]
          exact setGo_gt p first f _ h
        · rename_i h3
          rw [if_neg h3]
          exact setGo_gt p first f _ h
theorem unitF_pos (s : Str) : 1 ≤ (unitF s).2 ∧ (unitF s).2 ≤ 2 ∧ (s ≠ [] → (unitF s).2 ≤ s.length) := by
  unfold unitF
  split
  · rename_i h
    exact ⟨by omega, by omega, fun _ => h.2⟩
  · refine ⟨by omega, by omega, fun h => ?_⟩
    cases s with
    | nil => exact absurd rfl h
    | cons a b => simp
theorem nextF_pos {p : Str} (hp : p ≠ []) : 1 ≤ (nextF p).2.2.2 ∧ (nextF p).2.2.2 ≤ p.length := by
  have hl : 1 ≤ p.length := by
    cases p with
    | nil => exact absurd rfl hp
    | cons a b => simp
  have h1 := setGo_le p (setI p) (p.length + 1) (setI p)
  unfold nextF
  split
  · dsimp only; omega
  · split
    · dsimp only; omega
    · split
      · dsimp only
        unfold setF at *
        omega
      · dsimp only; omega

/-! ### Match, Magic, Plain -/
def goM : Nat → Str → Str → Str → Str → Bool → Bool
  | 0, _, _, _, _, _ => false
  | f + 1, p, s, back, rest, star =>
    if p ≠ [] ∧ (nextF p).1 = 42 then goM f (p.drop (nextF p).2.2.2.toNat) s (p.drop (nextF p).2.2.2.toNat) s true
    else if p ≠ [] ∧ s ≠ [] ∧ oneF (nextF p) (byteAt s 0) = true then goM f (p.drop (nextF p).2.2.2.toNat) (s.drop 1) back rest star
    else if p = [] ∧ s = [] then true
    else if star = false ∨ rest = [] then false
    else goM f back (rest.drop 1) back (rest.drop 1) true
def muM (S P : Nat) (p rest : Str) (star : Bool) : Nat := (if star then rest.length else S + 1) * (P + 1) + p.length
structure InvM (S P : Nat) (p s back rest : Str) (star : Bool) : Prop where
  p : p.length ≤ P
  b : back.length ≤ P
  s : s.length ≤ if star then rest.length else S
theorem next_drop {p : Str} (hp : p ≠ []) : (p.drop (nextF p).2.2.2.toNat).length < p.length := by
  have h := nextF_pos hp
  rw [List.length_drop]
  omega
theorem mul_lt {a b P : Nat} (h : a < b) : a * (P + 1) + P < b * (P + 1) := by
  have h1 : (a + 1) * (P + 1) ≤ b * (P + 1) := Nat.mul_le_mul_right _ h
  rw [Nat.add_mul, Nat.one_mul] at h1
  omega
theorem goM_star {S P : Nat} {p s back rest : Str} {star : Bool} (h : InvM S P p s back rest star) (hp : p ≠ []) : InvM S P (p.drop (nextF p).2.2.2.toNat) s (p.drop (nextF p).2.2.2.toNat) s true ∧ muM S P (p.drop (nextF p).2.2.2.toNat) s true < muM S P p rest star := by
  have h1 := next_drop hp
  obtain ⟨a, b, c⟩ := h
  refine ⟨⟨by omega, by omega, by simp⟩, ?_⟩
  unfold muM
  rw [if_pos rfl]
  have : s.length ≤ if star = true then rest.length else S + 1 := by
    cases star
    · simp at c ⊢; omega
    · simpa using c
  have h2 : s.length * (P + 1) ≤ (if star = true then rest.length else S + 1) * (P + 1) := Nat.mul_le_mul_right _ this
  omega
theorem goM_eat {S P : Nat} {p s back rest : Str} {star : Bool} (h : InvM S P p s back rest star) (hp : p ≠ []) : InvM S P (p.drop (nextF p).2.2.2.toNat) (s.drop 1) back rest star ∧ muM S P (p.drop (nextF p).2.2.2.toNat) rest star < muM S P p rest star := by
  have h1 := next_drop hp
  obtain ⟨a, b, c⟩ := h
  refine ⟨⟨by omega, b, by rw [List.length_drop]; omega⟩, ?_⟩
  unfold muM
  omega
theorem goM_back {S P : Nat} {p s back rest : Str} (h : InvM S P p s back rest true) (hr : rest ≠ []) : InvM S P back (rest.drop 1) back (rest.drop 1) true ∧ muM S P back (rest.drop 1) true < muM S P p rest true := by
  obtain ⟨a, b, c⟩ := h
  have hl : 1 ≤ rest.length := by
    cases rest with
    | nil => exact absurd rfl hr
    | cons a b => simp
  refine ⟨⟨b, b, by simp⟩, ?_⟩
  unfold muM
  rw [if_pos rfl, if_pos rfl, List.length_drop]
  have := mul_lt (a := rest.length - 1) (b := rest.length) (P := P) (by omega)
  omega
def dotF (p s : Str) : Bool := [46].isPrefixOf s && !([46].isPrefixOf p) && !([92, 46].isPrefixOf p)
def matchF (p s : Str) : Bool := if dotF p s then false else goM ((s.length + 1) * (p.length + 1) + p.length + 1) p s [] [] false
theorem inv0 (p s : Str) : InvM s.length p.length p s [] [] false := ⟨Nat.le_refl _, Nat.zero_le _, by simp⟩
theorem mu0 (p s : Str) : muM s.length p.length p [] false < (s.length + 1) * (p.length + 1) + p.length + 1 := by
  unfold muM
  rw [if_neg (by decide)]
  omega
def magGo : Nat → Str → Bool
  | 0, _ => false
  | f + 1, p => if p = [] then false else if (nextF p).1 = 0 then magGo f (p.drop (nextF p).2.2.2.toNat) else true
def magF (p : Str) : Bool := magGo (p.length + 1) p
def plnGo : Nat → Str → Str
  | 0, _ => []
  | f + 1, p => if p = [] then [] else UInt8.ofNat (unitF p).1.toNat :: plnGo f (p.drop (unitF p).2)
def plnF (p : Str) : Str := plnGo (p.length + 1) p

theorem c_unit (s : Str) (hs : s ≠ []) : CallV Tryz.prog 90 [vS s] (.tup [vY (unitF s).1, vI (unitF s).2]) := by
  have hl : 0 < s.length := by
    cases s with
    | nil => exact absurd rfl hs
    | cons a b => simp
  refine CallV.of Tryz.func90 (by kernel_rfl) rfl Tryz.ntmps90 (by simp) rfl fun cx hB => ?_
  refine Tr.seq ?_; refine Tr.region ?_; refine TrL.quiets 2 rfl (by exact True.intro) ?_; refine TrL.nil ?_; refine Tr.seq ?_; refine Tr.seq ?_; refine Tr.region ?_; refine TrL.quiets 8 rfl (by (simp only [allOf, impO, imp, inR, loOk, and_true]; omega)) ?_; refine TrL.nil ?_
  refine Tr.cond rfl (fun c1 => ?_) (fun c1 => ?_)
  · have h1 : byteAt s 0 = 92 ∧ 1 < s.length := by
      simp only [Bool.and_eq_true, beq_iff_eq, decide_eq_true_eq] at c1
      exact ⟨c1.1, by omega⟩
    refine Tr.seq ?_; refine Tr.region ?_; refine TrL.quiets 4 rfl (by (simp only [allOf, impO, imp, inR, loOk, and_true]; omega)) ?_; refine TrL.nil ?_; refine Tr.ret ?_
    refine retQ.of rfl ?_
    unfold unitF
    rw [if_pos h1]
    rfl
  · have h1 : ¬ (byteAt s 0 = 92 ∧ 1 < s.length) := by
      rintro ⟨h2, h3⟩
      rw [h2] at c1
      simp at c1
      omega
    refine Tr.skip ?_; refine Tr.seq ?_; refine Tr.region ?_; refine TrL.quiets 4 rfl (by (simp only [allOf, impO, imp, inR, loOk, and_true]; omega)) ?_; refine TrL.nil ?_; refine Tr.ret ?_
    refine retQ.of rfl ?_
    unfold unitF
    rw [if_neg h1]
    rfl
theorem c_set (p : Str) (hp : p.length ≤ 1099511627776) : CallV Tryz.prog 110 [vS p] (vI (setF p)) := by
  refine CallV.of Tryz.func110 (by kernel_rfl) rfl Tryz.ntmps110 (by simp) rfl fun cx hB => ?_
  refine Tr.seq ?_; refine Tr.region ?_; refine TrL.quiets 1 rfl (by exact True.intro) ?_; refine TrL.nil ?_; refine Tr.seq ?_; refine Tr.region ?_; refine TrL.quiets 1 rfl (by exact True.intro) ?_; refine TrL.nil ?_
  refine Tr.join (α := Unit) (fun _ => ⟨[(0, [], vS p), (3, [], vI (setI p))], []⟩) (fun _ => True) [0, 3] 0 (fun i h => hB i h) ?_ fun _ _ => ?_
  · refine Tr.seq ?_; refine Tr.region ?_; refine TrL.quiets 16 rfl (by (simp (disch := omega) only [allOf, impO, imp, inR, loOk, and_true, w64, List.length_set, List.length_cons, List.length_nil, Option.getD_none, Option.getD_some, Ty.D, true_and, decide_eq_true_eq, decide_eq_false_iff_not, Bool.and_eq_true, Bool.or_eq_false_iff]; omega)) ?_; refine TrL.nil ?_
    refine Tr.cond rfl (fun c1 => ?_) (fun c1 => ?_)
    · have h1 : 1 < p.length ∧ (byteAt p 1 = 33 ∨ byteAt p 1 = 94) := by
        simp only [Bool.and_eq_true, Bool.or_eq_true, beq_iff_eq, decide_eq_true_eq] at c1
        exact ⟨by omega, c1.2⟩
      refine Tr.region ?_; refine TrL.quiets 3 rfl (by exact True.intro) ?_; refine TrL.nil ?_
      refine ⟨(), trivial, ?_⟩
      unfold setI
      rw [if_pos h1]
      rfl
    · have h1 : ¬ (1 < p.length ∧ (byteAt p 1 = 33 ∨ byteAt p 1 = 94)) := by
        rintro ⟨h2, h3⟩
        simp only [Bool.and_eq_false_iff, Bool.or_eq_false_iff, beq_eq_false_iff_ne, decide_eq_false_iff_not] at c1
        rcases c1 with c1 | c1
        · omega
        · rcases h3 with h3 | h3
          · exact c1.1 h3
          · exact c1.2 h3
      refine Tr.skip ?_
      refine ⟨(), trivial, ?_⟩
      unfold setI
      rw [if_neg h1]
      rfl
  have hI : 1 ≤ setI p ∧ setI p ≤ 2 := by
    unfold setI
    split <;> omega
  refine Tr.seq ?_; refine Tr.seq ?_; refine Tr.region ?_; refine TrL.quiets 2 rfl (by exact True.intro) ?_; refine TrL.nil ?_; refine Tr.block ?_
  refine Tr.loop (fun x : Nat × Nat => ⟨[(0, [], vS p), (3, [], vI x.1), (4, [], vI (setI p))], []⟩) (fun x => x.1 ≤ p.length + 2 ∧ p.length < x.2 + x.1 ∧ setGo p (setI p) x.2 x.1 = setF p) (fun x => x.2) (setI p, p.length + 1) [0, 3, 4] 0 (fun i h => hB i h) rfl ⟨by dsimp only; omega, by dsimp only; omega, rfl⟩ ?_
  rintro ⟨i, f⟩ ⟨i1, i2, i3⟩
  dsimp only at i1 i2 i3
  refine Tr.seq ?_; refine Tr.seq ?_; refine Tr.region ?_; refine TrL.quiets 4 rfl (by exact True.intro) ?_; refine TrL.nil ?_
  refine Tr.cond rfl (fun c2 => ?_) (fun c2 => ?_)
  · have hi : i < p.length := by simpa using c2
    obtain ⟨g, rfl⟩ : ∃ g, f = g + 1 := ⟨f - 1, by omega⟩
    rw [setGo, if_neg (by omega)] at i3
    refine Tr.skip ?_; refine Tr.seq ?_; refine Tr.block ?_; refine Tr.block ?_; refine Tr.seq ?_; refine Tr.region ?_; refine TrL.quiets 10 rfl (by (simp only [allOf, impO, imp, inR, loOk, and_true]; omega)) ?_; refine TrL.nil ?_
    refine Tr.cond rfl (fun c3 => ?_) (fun c3 => ?_)
    · have h3 : byteAt p i = 93 ∧ setI p < i := by
        simp only [Bool.and_eq_true, beq_iff_eq, decide_eq_true_eq] at c3
        exact ⟨c3.1, by omega⟩
      rw [if_pos h3] at i3
      refine Tr.seq ?_; refine Tr.region ?_; refine TrL.quiets 3 rfl (by exact True.intro) ?_; refine TrL.nil ?_; refine Tr.ret ?_
      refine retQ.of rfl ?_
      rw [w64n (y := i + 1) (by omega) (by omega), i3]
    have h3 : ¬ (byteAt p i = 93 ∧ setI p < i) := by
      rintro ⟨h4, h5⟩
      simp only [Bool.and_eq_false_iff, beq_eq_false_iff_ne, decide_eq_false_iff_not] at c3
      rcases c3 with c3 | c3
      · exact c3 h4
      · omega
    rw [if_neg h3] at i3
    have ew : IntKind.i64.wrap ((i : Int) + 1) = ((i + 1 : Nat) : Int) := w64n (by omega) (by omega)
    refine Tr.seq ?_; refine Tr.region ?_; refine TrL.quiets 12 rfl (by (simp only [allOf, impO, imp, inR, loOk, and_true]; omega)) ?_; refine TrL.nil ?_
    refine Tr.cond rfl (fun c4 => ?_) (fun c4 => ?_)
    · have h4 : byteAt p i = 92 ∧ i + 1 < p.length := by
        rw [ew] at c4
        simp only [Bool.and_eq_true, beq_iff_eq, decide_eq_true_eq] at c4
        exact ⟨c4.1, by omega⟩
      rw [if_pos h4] at i3
      refine Tr.region ?_; refine TrL.quiets 3 rfl (by exact True.intro) ?_; refine TrL.nil ?_; refine Tr.region ?_; refine TrL.quiets 3 rfl (by exact True.intro) ?_; refine TrL.nil ?_
      refine ⟨(i + 2, g), ⟨by dsimp only; omega, by dsimp only; omega, i3⟩, by dsimp only; omega, ?_⟩
      refine Eq.trans (b := (⟨[(0, [], vS p), (3, [], vI (IntKind.i64.wrap (IntKind.i64.wrap ((i : Int) + 1) + 1))), (4, [], vI (setI p))], []⟩ : St)) rfl ?_
      dsimp only
      rw [ew, w64n (y := i + 2) (by omega) (by omega)]
    · have h4 : ¬ (byteAt p i = 92 ∧ i + 1 < p.length) := by
        rintro ⟨h5, h6⟩
        rw [ew] at c4
        simp only [Bool.and_eq_false_iff, beq_eq_false_iff_ne, decide_eq_false_iff_not] at c4
        rcases c4 with c4 | c4
        · exact c4 h5
        · omega
      rw [if_neg h4] at i3
      refine Tr.skip ?_; refine Tr.region ?_; refine TrL.quiets 3 rfl (by exact True.intro) ?_; refine TrL.nil ?_
      refine ⟨(i + 1, g), ⟨by dsimp only; omega, by dsimp only; omega, i3⟩, by dsimp only; omega, ?_⟩
      refine Eq.trans (b := (⟨[(0, [], vS p), (3, [], vI (IntKind.i64.wrap ((i : Int) + 1))), (4, [], vI (setI p))], []⟩ : St)) rfl ?_
      dsimp only
      rw [ew]
  · have hi : p.length ≤ i := by
      have : ¬ (i : Int) < p.length := by simpa using c2
      omega
    have h0 : setF p = 0 := by
      rw [← i3]
      cases f with
      | zero => rfl
      | succ f => rw [setGo, if_pos hi]
    refine Tr.exit ?_; refine Tr.seq ?_; refine Tr.region ?_; refine TrL.quiets 1 rfl (by exact True.intro) ?_; refine TrL.nil ?_; refine Tr.ret ?_
    refine retQ.of rfl ?_
    rw [h0]
    rfl
theorem setF_facts (p : Str) : setF p ≤ p.length ∧ (0 < setF p → 3 ≤ setF p) := by
  have h1 := setGo_le p (setI p) (p.length + 1) (setI p)
  have h2 := setGo_gt p (setI p) (p.length + 1) (setI p)
  have hI : 1 ≤ setI p := by
    unfold setI
    split <;> omega
  unfold setF
  exact ⟨h1, fun h => by have := h2 h; omega⟩
abbrev pieceS (x : PieceD) : SV := .agg [vY x.1, vY x.2.1, vS x.2.2.1, vI x.2.2.2]
theorem c_next (p : Str) (hp0 : p ≠ []) (hp : p.length ≤ 1099511627776) : CallV Tryz.prog 88 [vS p] (pieceS (nextF p)) := by
  have hl : 0 < p.length := by
    cases p with
    | nil => exact absurd rfl hp0
    | cons a b => simp
  obtain ⟨s1, s2⟩ := setF_facts p
  refine CallV.of Tryz.func88 (by kernel_rfl) rfl Tryz.ntmps88 (by simp) rfl fun cx hB => ?_
  refine Tr.seq ?_; refine Tr.region ?_; refine TrL.eff (effBox_sound rfl) (by exact True.intro) ?_; refine TrL.nil ?_; refine Tr.seq ?_; refine Tr.seq ?_; refine Tr.region ?_; refine TrL.quiets 3 rfl (by (simp only [allOf, impO, imp, inR, loOk, and_true]; omega)) ?_; refine TrL.nil ?_; refine Tr.block ?_; refine Tr.seq ?_; refine Tr.region ?_; refine TrL.quiets 8 rfl (by exact True.intro) ?_; refine TrL.nil ?_
  refine Tr.cond rfl (fun c1 => ?_) (fun c1 => ?_)
  · have h1 : byteAt p 0 = 92 ∧ 1 < p.length := by
      simp only [Bool.and_eq_true, beq_iff_eq, decide_eq_true_eq] at c1
      exact ⟨c1.1, by omega⟩
    refine Tr.seq ?_; refine Tr.region ?_; refine TrL.quiets 3 rfl (by (simp only [allOf, impO, imp, inR, loOk, and_true]; omega)) ?_; refine TrL.eff (effStore_sound rfl) (by exact True.intro) ?_; refine TrL.nil ?_; refine Tr.ret ?_
    refine retQ.of rfl ?_
    unfold nextF
    rw [if_pos h1]
    rfl
  have h1 : ¬ (byteAt p 0 = 92 ∧ 1 < p.length) := by
    rintro ⟨h2, h3⟩
    simp only [Bool.and_eq_false_iff, beq_eq_false_iff_ne, decide_eq_false_iff_not] at c1
    rcases c1 with c1 | c1
    · exact c1 h2
    · omega
  refine Tr.seq ?_; refine Tr.region ?_; refine TrL.quiets 7 rfl (by exact True.intro) ?_; refine TrL.nil ?_
  refine Tr.cond rfl (fun c2 => ?_) (fun c2 => ?_)
  · have h2 : byteAt p 0 = 42 ∨ byteAt p 0 = 63 := by simpa using c2
    refine Tr.seq ?_; refine Tr.region ?_; refine TrL.quiets 2 rfl (by exact True.intro) ?_; refine TrL.eff (effStore_sound rfl) (by exact True.intro) ?_; refine TrL.nil ?_; refine Tr.ret ?_
    refine retQ.of rfl ?_
    unfold nextF
    rw [if_neg h1, if_pos h2]
    rfl
  have h2 : ¬ (byteAt p 0 = 42 ∨ byteAt p 0 = 63) := by
    rintro (h3 | h3)
    · rw [h3] at c2; simp at c2
    · rw [h3] at c2; simp at c2
  refine Tr.seq ?_; refine Tr.region ?_; refine TrL.quiets 3 rfl (by exact True.intro) ?_; refine TrL.nil ?_
  refine Tr.cond rfl (fun c3 => ?_) (fun c3 => ?_)
  · have h3 : byteAt p 0 = 91 := by simpa using c3
    refine Tr.seq ?_; refine Tr.region ?_; refine TrL.quiets 1 rfl (by exact True.intro) ?_
    first | refine TrL.callV rfl rfl rfl rfl rfl (c_set p hp) ?_ | refine TrD.callV rfl rfl rfl rfl rfl (c_set p hp) rfl ?_
    refine TrL.quiets 1 rfl (by exact True.intro) ?_; refine TrL.nil ?_; refine Tr.seq ?_; refine Tr.region ?_; refine TrL.quiets 2 rfl (by exact True.intro) ?_; refine TrL.nil ?_
    refine Tr.cond rfl (fun c4 => ?_) (fun c4 => ?_)
    · have h4 : 0 < setF p := by
        have : (setF p : Int) > 0 := by simpa using c4
        omega
      have h5 := s2 h4
      have ew : IntKind.i64.wrap ((setF p : Int) - 1) = (setF p : Int) - 1 := w64 (by omega) (by omega)
      refine Tr.seq ?_; refine Tr.region ?_; refine TrL.quiets 7 rfl (by (simp (disch := omega) only [allOf, impO, imp, inR, loOk, and_true, w64, List.length_set, List.length_cons, List.length_nil, Option.getD_none, Option.getD_some, Ty.D, true_and, decide_eq_true_eq, decide_eq_false_iff_not, Bool.and_eq_true, Bool.or_eq_false_iff]; omega)) ?_; refine TrL.eff (effStore_sound rfl) (by exact True.intro) ?_; refine TrL.nil ?_; refine Tr.ret ?_
      refine retQ.of rfl ?_
      unfold nextF
      rw [if_neg h1, if_neg h2, if_pos ⟨h3, h4⟩, ew]
      rfl
    · have h4 : ¬ 0 < setF p := by
        have : ¬ (setF p : Int) > 0 := by simpa using c4
        omega
      refine Tr.skip ?_; refine Tr.seq ?_; refine Tr.region ?_; refine TrL.quiets 3 rfl (by (simp only [allOf, impO, imp, inR, loOk, and_true]; omega)) ?_; refine TrL.eff (effStore_sound rfl) (by exact True.intro) ?_; refine TrL.nil ?_; refine Tr.ret ?_
      refine retQ.of rfl ?_
      unfold nextF
      rw [if_neg h1, if_neg h2, if_neg (fun h => h4 h.2)]
      rfl
  · have h3 : ¬ byteAt p 0 = 91 := by simpa using c3
    refine Tr.skip ?_; refine Tr.seq ?_; refine Tr.region ?_; refine TrL.quiets 3 rfl (by (simp only [allOf, impO, imp, inR, loOk, and_true]; omega)) ?_; refine TrL.eff (effStore_sound rfl) (by exact True.intro) ?_; refine TrL.nil ?_; refine Tr.ret ?_
    refine retQ.of rfl ?_
    unfold nextF
    rw [if_neg h1, if_neg h2, if_neg (fun h => h3 h.1)]
    rfl

theorem len_pos {s : Str} (h : s ≠ []) : 0 < s.length := by
  cases s with
  | nil => exact absurd rfl h
  | cons a b => simp
theorem cutN (s : Str) (n : Nat) : cut s (some (n : Int)) none = s.drop n := by simp only [cut, Int.toNat_natCast]
theorem c_in (s0 : Str) (c : Int) (hs : s0.length ≤ 1099511627776) : CallV Tryz.prog 111 [vS s0, vY c] (vB (inF s0 c)) := by
  refine CallV.of Tryz.func111 (by kernel_rfl) rfl Tryz.ntmps111 (by simp) rfl fun cx hB => ?_
  refine Tr.seq ?_; refine Tr.region ?_; refine TrL.quiets 1 rfl (by exact True.intro) ?_; refine TrL.nil ?_; refine Tr.seq ?_; refine Tr.region ?_; refine TrL.quiets 13 rfl ?_ ?_
  · by_cases h0 : s0 = []
    · subst h0
      simp [allOf, impO, imp]
    · have hl := len_pos h0
      simp only [allOf, impO, imp, inR, and_true]
      exact ⟨fun _ => by omega, fun _ _ => by omega⟩
  refine TrL.nil ?_
  refine Tr.join (α := Unit) (fun _ => ⟨[(0, [], vS (if notF s0 then s0.drop 1 else s0)), (1, [], vY c), (5, [], vB (notF s0))], []⟩) (fun _ => True) [0, 1, 5] 0 (fun i h => hB i h) ?_ fun _ _ => ?_
  · have hnf : (!s0 == ({ data := #[] } : ByteArray).data.toList && (byteAt s0 0 == 33 || byteAt s0 0 == 94)) = notF s0 := by
      unfold notF
      cases s0 <;> simp
    refine Tr.seq ?_; refine Tr.region ?_; refine TrL.quiets 1 rfl (by exact True.intro) ?_; refine TrL.nil ?_
    refine Tr.cond rfl (fun c1 => ?_) (fun c1 => ?_)
    · have c1' : notF s0 = true := hnf ▸ c1
      have hl : 0 < s0.length := by
        unfold notF at c1'
        simp only [Bool.and_eq_true, decide_eq_true_eq] at c1'
        exact len_pos c1'.1
      refine Tr.region ?_; refine TrL.quiets 3 rfl (by (simp (disch := omega) only [allOf, impO, imp, inR, loOk, and_true, w64, List.length_set, List.length_cons, List.length_nil, Option.getD_none, Option.getD_some, Ty.D, true_and, decide_eq_true_eq, decide_eq_false_iff_not, Bool.and_eq_true, Bool.or_eq_false_iff]; omega)) ?_; refine TrL.nil ?_
      refine ⟨(), trivial, ?_⟩
      refine Eq.trans (b := (⟨[(0, [], vS (cut s0 (some 1) none)), (1, [], vY c), (5, [], vB (!s0 == ({ data := #[] } : ByteArray).data.toList && (byteAt s0 0 == 33 || byteAt s0 0 == 94)))], []⟩ : St)) rfl ?_
      dsimp only
      rw [hnf, if_pos c1']
      rfl
    · have c1' : notF s0 = false := hnf ▸ c1
      refine Tr.skip ?_
      refine ⟨(), trivial, ?_⟩
      refine Eq.trans (b := (⟨[(0, [], vS s0), (1, [], vY c), (5, [], vB (!s0 == ({ data := #[] } : ByteArray).data.toList && (byteAt s0 0 == 33 || byteAt s0 0 == 94)))], []⟩ : St)) rfl ?_
      dsimp only
      rw [hnf, if_neg (by rw [c1']; decide)]
  refine Tr.seq ?_; refine Tr.region ?_; refine TrL.quiets 1 rfl (by exact True.intro) ?_; refine TrL.nil ?_; refine Tr.seq ?_; refine Tr.block ?_
  refine Tr.loop (fun x : Nat × Str × Bool => ⟨[(0, [], vS x.2.1), (1, [], vY c), (5, [], vB (notF s0)), (6, [], vB x.2.2)], []⟩) (fun x => x.2.1.length ≤ s0.length ∧ x.2.1.length < x.1 ∧ inGo c x.1 x.2.1 x.2.2 = inGo c (s0.length + 1) (if notF s0 then s0.drop 1 else s0) false) (fun x => x.1) (s0.length + 1, (if notF s0 then s0.drop 1 else s0), false) [0, 1, 5, 6] 0 (fun i h => hB i h) rfl ?_ ?_
  · dsimp only
    split
    · rw [List.length_drop]; exact ⟨by omega, by omega, rfl⟩
    · exact ⟨by omega, by omega, rfl⟩
  rintro ⟨f, s, b⟩ ⟨i1, i2, i3⟩
  dsimp only at i1 i2 i3
  refine Tr.seq ?_; refine Tr.seq ?_; refine Tr.region ?_; refine TrL.quiets 2 rfl (by exact True.intro) ?_; refine TrL.nil ?_
  refine Tr.cond rfl (fun c2 => ?_) (fun c2 => ?_)
  · have h0 : s ≠ [] := by simpa using c2
    have hl := len_pos h0
    obtain ⟨u1, u2, u3⟩ := unitF_pos s
    have u4 := u3 h0
    obtain ⟨g, rfl⟩ : ∃ g, f = g + 1 := ⟨f - 1, by omega⟩
    rw [inGo, if_neg h0] at i3
    refine Tr.skip ?_; refine Tr.block ?_; refine Tr.seq ?_; refine Tr.region ?_; refine TrL.quiets 1 rfl (by exact True.intro) ?_
    first | refine TrL.callV rfl rfl rfl rfl rfl (c_unit s h0) ?_ | refine TrD.callV rfl rfl rfl rfl rfl (c_unit s h0) rfl ?_
    have e1 := cutN s (unitF s).2
    refine TrL.quiets 5 rfl (by exact True.intro) ?_; refine TrL.nil ?_; refine Tr.seq ?_; refine Tr.region ?_; refine TrL.quiets 4 rfl (by (simp (disch := omega) only [allOf, impO, imp, inR, loOk, and_true, w64, List.length_set, List.length_cons, List.length_nil, Option.getD_none, Option.getD_some, Ty.D, true_and, decide_eq_true_eq, decide_eq_false_iff_not, Bool.and_eq_true, Bool.or_eq_false_iff]; omega)) ?_; refine TrL.nil ?_; refine Tr.seq ?_; refine Tr.region ?_; refine TrL.quiets 2 rfl (by exact True.intro) ?_; refine TrL.nil ?_; refine Tr.seq ?_; refine Tr.seq ?_; refine Tr.region ?_; refine TrL.quiets 8 rfl (by (simp (disch := omega) only [allOf, impO, imp, inR, loOk, and_true, w64, List.length_set, List.length_cons, List.length_nil, Option.getD_none, Option.getD_some, Ty.D, true_and, decide_eq_true_eq, decide_eq_false_iff_not, Bool.and_eq_true, Bool.or_eq_false_iff]; omega)) ?_; refine TrL.nil ?_
    have hdl : (s.drop (unitF s).2).length = s.length - (unitF s).2 := List.length_drop
    refine Tr.cond rfl (fun c3 => ?_) (fun c3 => ?_)
    · have h3 : 1 < (s.drop (unitF s).2).length ∧ byteAt (s.drop (unitF s).2) 0 = 45 := by
        rw [e1] at c3
        simp only [Bool.and_eq_true, beq_iff_eq, decide_eq_true_eq] at c3
        exact ⟨by omega, c3.2⟩
      have hr : rangeF s = ((unitF s).1, (unitF ((s.drop (unitF s).2).drop 1)).1, (s.drop (unitF s).2).drop (1 + (unitF ((s.drop (unitF s).2).drop 1)).2)) := by
        unfold rangeF
        rw [if_pos h3]
      rw [hr] at i3
      dsimp only at i3
      refine Tr.keep [0, 1, 5, 6, 7, 8, 9] 0 (fun i h => hB i h) (st' := ⟨[(0, [], vS (cut s (some ((unitF s).2 : Int)) none)), (1, [], vY c), (5, [], vB (notF s0)), (6, [], vB b), (7, [], vY (unitF s).1), (8, [], vI (unitF s).2), (9, [], vY (unitF s).1)], []⟩) rfl ?_
      rw [e1]
      generalize hs1 : s.drop (unitF s).2 = s1 at h3 i3 hdl
      have hne : s1.drop 1 ≠ [] := by
        intro h
        have := congrArg List.length h
        rw [List.length_drop, List.length_nil] at this
        omega
      obtain ⟨v1, v2, v3⟩ := unitF_pos (s1.drop 1)
      have v4 := v3 hne
      rw [List.length_drop] at v4
      have ew : IntKind.i64.wrap (1 + ((unitF (s1.drop 1)).2 : Int)) = ((1 + (unitF (s1.drop 1)).2 : Nat) : Int) := w64n (by omega) (by omega)
      have e3 := cutN s1 (1 + (unitF (s1.drop 1)).2)
      have hls : (s1.drop (1 + (unitF (s1.drop 1)).2)).length = s1.length - (1 + (unitF (s1.drop 1)).2) := List.length_drop
      refine Tr.seq ?_; refine Tr.region ?_; refine TrL.quiets 2 rfl (by (simp (disch := omega) only [allOf, impO, imp, inR, loOk, and_true, w64, List.length_set, List.length_cons, List.length_nil, Option.getD_none, Option.getD_some, Ty.D, true_and, decide_eq_true_eq, decide_eq_false_iff_not, Bool.and_eq_true, Bool.or_eq_false_iff]; omega)) ?_
      first | refine TrL.callV rfl rfl rfl rfl rfl (c_unit (s1.drop 1) hne) ?_ | refine TrD.callV rfl rfl rfl rfl rfl (c_unit (s1.drop 1) hne) rfl ?_
      refine TrL.quiets 5 rfl (by exact True.intro) ?_; refine TrL.nil ?_; refine Tr.region ?_; refine TrL.quiets 5 rfl (by (simp (disch := omega) only [allOf, impO, imp, inR, loOk, and_true, w64, List.length_set, List.length_cons, List.length_nil, Option.getD_none, Option.getD_some, Ty.D, true_and, decide_eq_true_eq, decide_eq_false_iff_not, Bool.and_eq_true, Bool.or_eq_false_iff]; omega)) ?_; refine TrL.nil ?_; refine Tr.region ?_; refine TrL.quiets 12 rfl (by exact True.intro) ?_; refine TrL.nil ?_
      refine ⟨(g, s1.drop (1 + (unitF (s1.drop 1)).2), b || (decide ((unitF s).1 ≤ c) && decide (c ≤ (unitF (s1.drop 1)).1))), ⟨by dsimp only; omega, by dsimp only; omega, i3⟩, by dsimp only; omega, ?_⟩
      refine Eq.trans (b := (⟨[(0, [], vS (cut s1 (some (IntKind.i64.wrap (1 + ((unitF (s1.drop 1)).2 : Int)))) none)), (1, [], vY c), (5, [], vB (notF s0)), (6, [], vB (b || (decide ((unitF s).1 ≤ c) && decide (c ≤ (unitF (s1.drop 1)).1))))], []⟩ : St)) rfl ?_
      dsimp only
      rw [ew, e3]
    · have h3 : ¬ (1 < (s.drop (unitF s).2).length ∧ byteAt (s.drop (unitF s).2) 0 = 45) := by
        rintro ⟨h4, h5⟩
        rw [e1] at c3
        simp only [Bool.and_eq_false_iff, beq_eq_false_iff_ne, decide_eq_false_iff_not] at c3
        rcases c3 with c3 | c3
        · omega
        · exact c3 h5
      have hr : rangeF s = ((unitF s).1, (unitF s).1, s.drop (unitF s).2) := by
        unfold rangeF
        rw [if_neg h3]
      rw [hr] at i3
      dsimp only at i3
      refine Tr.keep [0, 1, 5, 6, 7, 8, 9] 0 (fun i h => hB i h) (st' := ⟨[(0, [], vS (cut s (some ((unitF s).2 : Int)) none)), (1, [], vY c), (5, [], vB (notF s0)), (6, [], vB b), (7, [], vY (unitF s).1), (8, [], vI (unitF s).2), (9, [], vY (unitF s).1)], []⟩) rfl ?_
      rw [e1]
      refine Tr.skip ?_; refine Tr.region ?_; refine TrL.quiets 12 rfl (by exact True.intro) ?_; refine TrL.nil ?_
      refine ⟨(g, s.drop (unitF s).2, b || (decide ((unitF s).1 ≤ c) && decide (c ≤ (unitF s).1))), ⟨by dsimp only; omega, by dsimp only; omega, i3⟩, by dsimp only; omega, rfl⟩
  · have h0 : s = [] := by simpa using c2
    subst h0
    have hr : inGo c f [] b = b := by
      cases f with
      | zero => rfl
      | succ f => rw [inGo, if_pos rfl]
    refine Tr.exit ?_; refine Tr.seq ?_; refine Tr.region ?_; refine TrL.quiets 4 rfl (by exact True.intro) ?_; refine TrL.nil ?_; refine Tr.ret ?_
    refine retQ.of rfl ?_
    unfold inF
    rw [← i3, hr]
    rfl
theorem c_one (x : PieceD) (c : Int) (hx : x.2.2.1.length ≤ 1099511627776) : CallV Tryz.prog 92 [pieceS x, vY c] (vB (oneF x c)) := by
  refine CallV.of Tryz.func92 (by kernel_rfl) rfl Tryz.ntmps92 (by simp) rfl fun cx hB => ?_
  refine Tr.seq ?_; refine Tr.region ?_; refine TrL.eff (effBox_sound rfl) (by exact True.intro) ?_; refine TrL.quiets 1 rfl (by exact True.intro) ?_; refine TrL.nil ?_; refine Tr.seq ?_; refine Tr.seq ?_; refine Tr.region ?_; refine TrL.quiets 2 rfl (by exact True.intro) ?_; refine TrL.nil ?_; refine Tr.block ?_; refine Tr.seq ?_; refine Tr.region ?_; refine TrL.quiets 2 rfl (by exact True.intro) ?_; refine TrL.nil ?_
  refine Tr.cond rfl (fun c1 => ?_) (fun c1 => ?_)
  · have h1 : x.1 = 63 := by simpa using c1
    refine Tr.seq ?_; refine Tr.region ?_; refine TrL.quiets 1 rfl (by exact True.intro) ?_; refine TrL.nil ?_; refine Tr.ret ?_
    refine retQ.of rfl ?_
    unfold oneF
    rw [if_pos h1]
  have h1 : ¬ x.1 = 63 := by simpa using c1
  refine Tr.seq ?_; refine Tr.region ?_; refine TrL.quiets 2 rfl (by exact True.intro) ?_; refine TrL.nil ?_
  refine Tr.cond rfl (fun c2 => ?_) (fun c2 => ?_)
  · have h2 : x.1 = 91 := by simpa using c2
    refine Tr.seq ?_; refine Tr.region ?_; refine TrL.quiets 3 rfl (by exact True.intro) ?_
    first | refine TrL.callV rfl rfl rfl rfl rfl (c_in x.2.2.1 c hx) ?_ | refine TrD.callV rfl rfl rfl rfl rfl (c_in x.2.2.1 c hx) rfl ?_
    refine TrL.quiets 1 rfl (by exact True.intro) ?_; refine TrL.nil ?_; refine Tr.ret ?_
    refine retQ.of rfl ?_
    unfold oneF
    rw [if_neg h1, if_pos h2]
  · have h2 : ¬ x.1 = 91 := by simpa using c2
    refine Tr.skip ?_; refine Tr.seq ?_; refine Tr.region ?_; refine TrL.quiets 5 rfl (by exact True.intro) ?_; refine TrL.nil ?_; refine Tr.ret ?_
    refine retQ.of rfl ?_
    unfold oneF
    rw [if_neg h1, if_neg h2]
theorem c_Magic (p0 : Str) (hp : p0.length ≤ 1099511627776) : CallV Tryz.prog 58 [vS p0] (vB (magF p0)) := by
  refine CallV.of Tryz.func58 (by kernel_rfl) rfl Tryz.ntmps58 (by simp) rfl fun cx hB => ?_
  refine Tr.seq ?_; refine Tr.region ?_; refine TrL.quiets 1 rfl (by exact True.intro) ?_; refine TrL.nil ?_; refine Tr.seq ?_; refine Tr.block ?_
  refine Tr.loop (fun x : Nat × Str => ⟨[(0, [], vS x.2)], []⟩) (fun x => x.2.length ≤ p0.length ∧ x.2.length < x.1 ∧ magGo x.1 x.2 = magF p0) (fun x => x.1) (p0.length + 1, p0) [0] 0 (fun i h => hB i h) rfl ⟨Nat.le_refl _, Nat.lt_succ_self _, rfl⟩ ?_
  rintro ⟨f, p⟩ ⟨i1, i2, i3⟩
  dsimp only at i1 i2 i3
  refine Tr.seq ?_; refine Tr.seq ?_; refine Tr.region ?_; refine TrL.quiets 2 rfl (by exact True.intro) ?_; refine TrL.nil ?_
  refine Tr.cond rfl (fun c1 => ?_) (fun c1 => ?_)
  · have h0 : p ≠ [] := by simpa using c1
    obtain ⟨g, rfl⟩ : ∃ g, f = g + 1 := ⟨f - 1, by omega⟩
    rw [magGo, if_neg h0] at i3
    have hn := nextF_pos h0
    have hd := next_drop h0
    refine Tr.skip ?_; refine Tr.block ?_; refine Tr.seq ?_; refine Tr.region ?_; refine TrL.quiets 1 rfl (by exact True.intro) ?_
    first | refine TrL.callV rfl rfl rfl rfl rfl (c_next p h0 (by omega)) ?_ | refine TrD.callV rfl rfl rfl rfl rfl (c_next p h0 (by omega)) rfl ?_
    refine TrL.eff (effBox_sound rfl) (by exact True.intro) ?_; refine TrL.eff (effStore_sound rfl) (by exact True.intro) ?_; refine TrL.nil ?_; refine Tr.seq ?_; refine Tr.seq ?_; refine Tr.region ?_; refine TrL.quiets 3 rfl (by exact True.intro) ?_; refine TrL.nil ?_
    refine Tr.cond rfl (fun c2 => ?_) (fun c2 => ?_)
    · have h2 : ¬ (nextF p).1 = 0 := by simpa using c2
      rw [if_neg h2] at i3
      refine Tr.seq ?_; refine Tr.region ?_; refine TrL.quiets 1 rfl (by exact True.intro) ?_; refine TrL.nil ?_; refine Tr.ret ?_
      refine retQ.of rfl ?_
      rw [← i3]
    · have h2 : (nextF p).1 = 0 := by simpa using c2
      rw [if_pos h2] at i3
      refine Tr.skip ?_; refine Tr.region ?_; refine TrL.quiets 5 rfl (by (simp (disch := omega) only [allOf, impO, imp, inR, loOk, and_true, w64, List.length_set, List.length_cons, List.length_nil, Option.getD_none, Option.getD_some, Ty.D, true_and, decide_eq_true_eq, decide_eq_false_iff_not, Bool.and_eq_true, Bool.or_eq_false_iff]; omega)) ?_; refine TrL.nil ?_
      refine ⟨(g, p.drop (nextF p).2.2.2.toNat), ⟨by dsimp only; omega, by dsimp only; omega, i3⟩, by dsimp only; omega, rfl⟩
  · have h0 : p = [] := by simpa using c1
    subst h0
    have hr : magGo f [] = false := by
      cases f with
      | zero => rfl
      | succ f => rw [magGo, if_pos rfl]
    refine Tr.exit ?_; refine Tr.seq ?_; refine Tr.region ?_; refine TrL.quiets 1 rfl (by exact True.intro) ?_; refine TrL.nil ?_; refine Tr.ret ?_
    refine retQ.of rfl ?_
    rw [← i3, hr]

theorem c_HasPre (s p : Str) : CallV Tryz.prog 55 [vS s, vS p] (vB (p.isPrefixOf s)) :=
  CallV.of_same (Go.Proofs.enters_of Tryz.func55 (by kernel_rfl) rfl) rfl rfl fun w => Tryz.strings_HasPrefix ⟨s.toArray⟩ ⟨p.toArray⟩ w
theorem c_Match (p0 s0 : Str) (hp : p0.length ≤ 1099511627) (hs : s0.length ≤ 1099511627) : CallV Tryz.prog 65 [vS p0, vS s0] (vB (matchF p0 s0)) := by
  refine CallV.of Tryz.func65 (by kernel_rfl) rfl Tryz.ntmps65 (by simp) rfl fun cx hB => ?_
  refine Tr.seq ?_; refine Tr.region ?_; refine TrL.quiets 1 rfl (by exact True.intro) ?_; refine TrL.nil ?_; refine Tr.scope ?_; refine Tr.seq ?_; refine Tr.seq ?_; refine Tr.region ?_; refine TrL.quiets 1 rfl (by exact True.intro) ?_
  first | refine TrL.callV rfl rfl rfl rfl rfl (c_HasPre s0 [46]) ?_ | refine TrD.callV rfl rfl rfl rfl rfl (c_HasPre s0 [46]) rfl ?_
  refine TrL.quiets 2 rfl (by exact True.intro) ?_
  first | refine TrL.callV rfl rfl rfl rfl rfl (c_HasPre p0 [46]) ?_ | refine TrD.callV rfl rfl rfl rfl rfl (c_HasPre p0 [46]) rfl ?_
  refine TrL.quiets 4 rfl (by exact True.intro) ?_
  first | refine TrL.callV rfl rfl rfl rfl rfl (c_HasPre p0 [92, 46]) ?_ | refine TrD.callV rfl rfl rfl rfl rfl (c_HasPre p0 [92, 46]) rfl ?_
  refine TrL.quiets 2 rfl (by exact True.intro) ?_; refine TrL.nil ?_
  refine Tr.cond rfl (fun c1 => ?_) (fun c1 => ?_)
  · have h1 : dotF p0 s0 = true := c1
    refine Tr.seq ?_; refine Tr.region ?_; refine TrL.quiets 1 rfl (by exact True.intro) ?_; refine TrL.nil ?_; refine Tr.ret ?_
    refine retQ.of rfl ?_
    unfold matchF
    rw [if_pos h1]
  have h1 : dotF p0 s0 = false := c1
  have hm : matchF p0 s0 = goM ((s0.length + 1) * (p0.length + 1) + p0.length + 1) p0 s0 [] [] false := by
    unfold matchF
    rw [if_neg (by rw [h1]; decide)]
  rw [hm]
  refine Tr.skip ?_; refine Tr.seq ?_; refine Tr.region ?_; refine TrL.quiets 2 rfl (by exact True.intro) ?_; refine TrL.nil ?_; refine Tr.seq ?_; refine Tr.region ?_; refine TrL.quiets 1 rfl (by exact True.intro) ?_; refine TrL.nil ?_; refine Tr.seq ?_; refine Tr.label ?_; refine Tr.seq ?_; refine Tr.block ?_
  refine Tr.loop (fun x : Nat × Str × Str × Str × Str × Bool => ⟨[(0, [], vS x.2.1), (1, [], vS x.2.2.1), (5, [], vS x.2.2.2.1), (6, [], vS x.2.2.2.2.1), (7, [], vB x.2.2.2.2.2)], []⟩)
    (fun x => InvM s0.length p0.length x.2.1 x.2.2.1 x.2.2.2.1 x.2.2.2.2.1 x.2.2.2.2.2 ∧ muM s0.length p0.length x.2.1 x.2.2.2.2.1 x.2.2.2.2.2 < x.1 ∧ goM x.1 x.2.1 x.2.2.1 x.2.2.2.1 x.2.2.2.2.1 x.2.2.2.2.2 = goM ((s0.length + 1) * (p0.length + 1) + p0.length + 1) p0 s0 [] [] false)
    (fun x => x.1) ((s0.length + 1) * (p0.length + 1) + p0.length + 1, p0, s0, [], [], false) [0, 1, 5, 6, 7] 0 (fun i h => hB i h) rfl ⟨inv0 p0 s0, mu0 p0 s0, rfl⟩ ?_
  rintro ⟨f, p, s, back, rest, star⟩ ⟨inv, i2, i3⟩
  dsimp only at inv i2 i3
  obtain ⟨g, rfl⟩ : ∃ g, f = g + 1 := ⟨f - 1, by omega⟩
  generalize goM ((s0.length + 1) * (p0.length + 1) + p0.length + 1) p0 s0 [] [] false = R at i3
  rw [goM] at i3
  obtain ⟨v1, v2, v3⟩ := inv
  have hsl : s.length ≤ 1099511627 ∨ star = true := by
    cases star
    · left; simp at v3; omega
    · right; rfl
  refine Tr.block ?_
  refine Tr.join (α := Unit) (fun _ => ⟨[(0, [], vS p), (1, [], vS s), (5, [], vS back), (6, [], vS rest), (7, [], vB star)], []⟩) (fun _ => (if star = false ∨ rest = [] then false else goM g back (rest.drop 1) back (rest.drop 1) true) = R) [0, 1, 5, 6, 7] 0 (fun i h => hB i h) ?_ fun _ i4 => ?_
  · refine Tr.seq ?_; refine Tr.region ?_; refine TrL.quiets 2 rfl (by exact True.intro) ?_; refine TrL.nil ?_
    refine Tr.cond rfl (fun c2 => ?_) (fun c2 => ?_)
    · have h0 : p ≠ [] := by simpa using c2
      have hn := nextF_pos h0
      have hd := next_drop h0
      refine Tr.seq ?_; refine Tr.region ?_; refine TrL.quiets 1 rfl (by exact True.intro) ?_
      first | refine TrL.callV rfl rfl rfl rfl rfl (c_next p h0 (by omega)) ?_ | refine TrD.callV rfl rfl rfl rfl rfl (c_next p h0 (by omega)) rfl ?_
      refine TrL.eff (effBox_sound rfl) (by exact True.intro) ?_; refine TrL.eff (effStore_sound rfl) (by exact True.intro) ?_; refine TrL.nil ?_; refine Tr.seq ?_; refine Tr.seq ?_; refine Tr.region ?_; refine TrL.quiets 3 rfl (by exact True.intro) ?_; refine TrL.nil ?_
      refine Tr.cond rfl (fun c3 => ?_) (fun c3 => ?_)
      · have h3 : (nextF p).1 = 42 := by simpa using c3
        rw [if_pos ⟨h0, h3⟩] at i3
        obtain ⟨j1, j2⟩ := goM_star ⟨v1, v2, v3⟩ h0
        refine Tr.seq ?_; refine Tr.region ?_; refine TrL.quiets 5 rfl (by (simp (disch := omega) only [allOf, impO, imp, inR, loOk, and_true, w64, List.length_set, List.length_cons, List.length_nil, Option.getD_none, Option.getD_some, Ty.D, true_and, decide_eq_true_eq, decide_eq_false_iff_not, Bool.and_eq_true, Bool.or_eq_false_iff]; omega)) ?_; refine TrL.nil ?_; refine Tr.seq ?_; refine Tr.region ?_; refine TrL.quiets 5 rfl (by exact True.intro) ?_; refine TrL.nil ?_; refine Tr.exit ?_
        refine ⟨(g, p.drop (nextF p).2.2.2.toNat, s, p.drop (nextF p).2.2.2.toNat, s, true), ⟨j1, by dsimp only; omega, i3⟩, by dsimp only; omega, rfl⟩
      have h3 : ¬ (nextF p).1 = 42 := by simpa using c3
      rw [if_neg (fun h => h3 h.2)] at i3
      have hset : (nextF p).2.2.1.length ≤ 1099511627776 := by
        unfold nextF
        split
        · simp
        · split
          · simp
          · split
            · simp only [cut, List.length_drop, List.length_take]; omega
            · simp
      by_cases hs0 : s = []
      · subst hs0
        rw [if_neg (fun h => h.2.1 rfl), if_neg (fun h => h0 h.1)] at i3
        refine Tr.skip ?_; refine Tr.seq ?_; refine Tr.draw (by kernel_rfl) (by kernel_rfl) ?_; refine TrD.quiets 6 rfl (by (simp [allOf, impO, imp, inR, loOk] <;> omega)) ?_
        first | refine TrL.callV rfl rfl rfl rfl rfl (c_one (nextF p) (byteAt [] 0) hset) ?_ | refine TrD.callV rfl rfl rfl rfl rfl (c_one (nextF p) (byteAt [] 0) hset) rfl ?_
        refine TrD.quiets 1 rfl (by exact True.intro) ?_; refine TrD.nil ?_
        refine Tr.cond rfl (fun c4 => ?_) (fun c4 => ?_)
        · simp at c4
        refine Tr.skip ?_
        exact ⟨(), i3, rfl⟩
      · have hsp := len_pos hs0
        refine Tr.skip ?_; refine Tr.seq ?_; refine Tr.draw (by kernel_rfl) (by kernel_rfl) ?_; refine TrD.quiets 6 rfl (by (simp only [allOf, impO, imp, inR, loOk, and_true]; omega)) ?_
        first | refine TrL.callV rfl rfl rfl rfl rfl (c_one (nextF p) (byteAt s 0) hset) ?_ | refine TrD.callV rfl rfl rfl rfl rfl (c_one (nextF p) (byteAt s 0) hset) rfl ?_
        refine TrD.quiets 1 rfl (by exact True.intro) ?_; refine TrD.nil ?_
        refine Tr.cond rfl (fun c4 => ?_) (fun c4 => ?_)
        · have h4 : oneF (nextF p) (byteAt s 0) = true := by
            simp only [Bool.and_eq_true] at c4
            exact c4.2
          rw [if_pos ⟨h0, hs0, h4⟩] at i3
          obtain ⟨j1, j2⟩ := goM_eat ⟨v1, v2, v3⟩ h0
          refine Tr.seq ?_; refine Tr.draw (by kernel_rfl) (by kernel_rfl) ?_; refine TrD.quiets 8 rfl (by (simp (disch := omega) only [allOf, impO, imp, inR, loOk, and_true, w64, List.length_set, List.length_cons, List.length_nil, Option.getD_none, Option.getD_some, Ty.D, true_and, decide_eq_true_eq, decide_eq_false_iff_not, Bool.and_eq_true, Bool.or_eq_false_iff]; omega)) ?_; refine TrD.nil ?_; refine Tr.exit ?_
          refine ⟨(g, p.drop (nextF p).2.2.2.toNat, s.drop 1, back, rest, star), ⟨j1, by dsimp only; omega, i3⟩, by dsimp only; omega, rfl⟩
        · have h4 : ¬ oneF (nextF p) (byteAt s 0) = true := by
            intro h5
            rw [h5] at c4
            simp [hs0] at c4
          rw [if_neg (fun h => h4 h.2.2), if_neg (fun h => h0 h.1)] at i3
          refine Tr.skip ?_
          exact ⟨(), i3, rfl⟩
    · have h0 : p = [] := by simpa using c2
      rw [if_neg (fun h => h.1 h0), if_neg (fun h => h.1 h0)] at i3
      refine Tr.seq ?_; refine Tr.region ?_; refine TrL.quiets 2 rfl (by exact True.intro) ?_; refine TrL.nil ?_
      refine Tr.cond rfl (fun c3 => ?_) (fun c3 => ?_)
      · have h3 : s = [] := by simpa using c3
        rw [if_pos ⟨h0, h3⟩] at i3
        refine Tr.seq ?_; refine Tr.region ?_; refine TrL.quiets 1 rfl (by exact True.intro) ?_; refine TrL.nil ?_; refine Tr.ret ?_
        refine retQ.of rfl ?_
        rw [← i3]
      · have h3 : ¬ s = [] := by simpa using c3
        rw [if_neg (fun h => h3 h.2)] at i3
        refine Tr.skip ?_
        exact ⟨(), i3, rfl⟩
  refine Tr.seq ?_; refine Tr.seq ?_; refine Tr.region ?_; refine TrL.quiets 6 rfl (by exact True.intro) ?_; refine TrL.nil ?_
  refine Tr.cond rfl (fun c4 => ?_) (fun c4 => ?_)
  · have h4 : star = false ∨ rest = [] := by
      cases star
      · exact .inl rfl
      · right; simpa using c4
    rw [if_pos h4] at i4
    refine Tr.exit ?_; refine Tr.seq ?_; refine Tr.region ?_; refine TrL.quiets 1 rfl (by exact True.intro) ?_; refine TrL.nil ?_; refine Tr.ret ?_
    refine retQ.of rfl ?_
    rw [← i4]
  have h4 : ¬ (star = false ∨ rest = []) := by
    rintro (h5 | h5)
    · rw [h5] at c4; simp at c4
    · rw [h5] at c4; simp at c4
  rw [if_neg h4] at i4
  have hst : star = true := by
    cases star
    · exact absurd (.inl rfl) h4
    · rfl
  subst hst
  have hr : rest ≠ [] := fun h => h4 (.inr h)
  have hrl := len_pos hr
  obtain ⟨j1, j2⟩ := goM_back ⟨v1, v2, v3⟩ hr
  refine Tr.skip ?_; refine Tr.seq ?_; refine Tr.region ?_; refine TrL.quiets 3 rfl (by (simp (disch := omega) only [allOf, impO, imp, inR, loOk, and_true, w64, List.length_set, List.length_cons, List.length_nil, Option.getD_none, Option.getD_some, Ty.D, true_and, decide_eq_true_eq, decide_eq_false_iff_not, Bool.and_eq_true, Bool.or_eq_false_iff]; omega)) ?_; refine TrL.nil ?_; refine Tr.region ?_; refine TrL.quiets 4 rfl (by exact True.intro) ?_; refine TrL.nil ?_
  refine ⟨(g, back, rest.drop 1, back, rest.drop 1, true), ⟨j1, by dsimp only; omega, i4⟩, by dsimp only; omega, rfl⟩





































































































































































































































































































































theorem unit_byte {p : Str} (hp : p ≠ []) : ∃ c : UInt8, (unitF p).1 = (c.toNat : Int) ∧ UInt8.ofNat (unitF p).1.toNat = c := by
  have hl := len_pos hp
  have key : ∀ i, i < p.length → ∃ c : UInt8, byteAt p (i : Int) = (c.toNat : Int) ∧ UInt8.ofNat (byteAt p (i : Int)).toNat = c := fun i hi => ⟨p[i], byteAt_get p i hi, by rw [byteAt_get p i hi]; simp⟩
  unfold unitF
  split
  · rename_i h
    exact key 1 h.2
  · exact key 0 hl
theorem c_Plain (p0 : Str) (hp : p0.length ≤ 1099511627) : CallV Tryz.prog 63 [vS p0] (vS (plnF p0)) := by
  refine CallV.of Tryz.func63 (by kernel_rfl) rfl Tryz.ntmps63 (by simp) rfl fun cx hB => ?_
  refine Tr.seq ?_; refine Tr.region ?_; refine TrL.quiets 1 rfl (by exact True.intro) ?_; refine TrL.nil ?_; refine Tr.seq ?_; refine Tr.region ?_; refine TrL.eff (effBox_sound rfl) (by exact True.intro) ?_; refine TrL.nil ?_
  change Tr _ _ _ _ _ _
  refine Tr.nilBox 0 1 5 (.int .u8) rfl rfl ?_
  refine Tr.mptr 0 0 rfl rfl ?_
  refine Tr.seq ?_; refine Tr.block ?_
  refine Tr.loop (fun x : Nat × Str × Str => ⟨[(0, [], vS x.2.1), (3, [], .ptr 0 0)], bldT 87 5 x.2.2⟩) (fun x => x.2.1.length ≤ p0.length ∧ x.2.1.length < x.1 ∧ x.2.2.length + x.2.1.length ≤ p0.length ∧ x.2.2 ++ plnGo x.1 x.2.1 = plnF p0) (fun x => x.1) (p0.length + 1, p0, []) [0, 3] 2 (fun i h => by have := hB i h; omega) rfl ⟨Nat.le_refl _, Nat.lt_succ_self _, by simp, rfl⟩ ?_
  rintro ⟨f, p, out⟩ ⟨i1, i2, i4, i3⟩
  dsimp only at i1 i2 i3 i4
  refine Tr.seq ?_; refine Tr.seq ?_; refine Tr.region ?_; refine TrL.quiets 2 rfl (by exact True.intro) ?_; refine TrL.nil ?_
  refine Tr.cond rfl (fun c1 => ?_) (fun c1 => ?_)
  · have h0 : p ≠ [] := by simpa using c1
    obtain ⟨g, rfl⟩ : ∃ g, f = g + 1 := ⟨f - 1, by omega⟩
    rw [plnGo, if_neg h0] at i3
    obtain ⟨u1, u2, u3⟩ := unitF_pos p
    have u4 := u3 h0
    obtain ⟨c, hc1, hc2⟩ := unit_byte h0
    rw [hc2] at i3
    have hcu := c_unit p h0
    rw [hc1] at hcu
    have hd : (p.drop (unitF p).2).length = p.length - (unitF p).2 := List.length_drop
    refine Tr.skip ?_; refine Tr.block ?_; refine Tr.seq ?_; refine Tr.region ?_; refine TrL.quiets 1 rfl (by exact True.intro) ?_
    first | refine TrL.callV rfl rfl rfl rfl rfl hcu ?_ | refine TrD.callV rfl rfl rfl rfl rfl hcu rfl ?_
    refine TrL.quiets 5 rfl (by exact True.intro) ?_; refine TrL.nil ?_; refine Tr.seq ?_; refine Tr.region ?_; refine TrL.quiets 1 rfl (by exact True.intro) ?_
    refine TrL.callT [0, 1] rfl rfl rfl rfl rfl (c_WriteByte out c (by omega)) rfl rfl rfl ?_
    refine TrL.nil ?_; refine Tr.region ?_; refine TrL.quiets 4 rfl (by (simp (disch := omega) only [allOf, impO, imp, inR, loOk, and_true, w64, List.length_set, List.length_cons, List.length_nil, Option.getD_none, Option.getD_some, Ty.D, true_and, decide_eq_true_eq, decide_eq_false_iff_not, Bool.and_eq_true, Bool.or_eq_false_iff]; omega)) ?_; refine TrL.nil ?_
    refine ⟨(g, p.drop (unitF p).2, out ++ [c]), ⟨by dsimp only; omega, by dsimp only; omega, ?_, ?_⟩, by dsimp only; omega, rfl⟩
    · simp only [List.length_append, List.length_singleton]
      omega
    · rw [List.append_assoc]
      exact i3
  · have h0 : p = [] := by simpa using c1
    subst h0
    have hr : plnGo f [] = [] := by
      cases f with
      | zero => rfl
      | succ f => rw [plnGo, if_pos rfl]
    rw [hr, List.append_nil] at i3
    rw [← i3]
    refine Tr.exit ?_; refine Tr.seq ?_; refine Tr.region ?_
    refine TrL.callT [0, 1] rfl rfl rfl rfl rfl (c_BString out) rfl rfl rfl ?_
    refine TrL.quiets 1 rfl (by exact True.intro) ?_; refine TrL.nil ?_; refine Tr.ret ?_
    refine retQ.of rfl ?_
    rfl
def plainF (l : List Str) : Str := l.flatMap fun x => 47 :: plnF x
theorem plnGo_len : ∀ (f : Nat) (p : Str), (plnGo f p).length ≤ p.length
  | 0, p => Nat.zero_le _
  | f + 1, p => by
    rw [plnGo]
    split
    · exact Nat.zero_le _
    · rename_i h
      obtain ⟨u1, u2, u3⟩ := unitF_pos p
      have u4 := u3 h
      have := plnGo_len f (p.drop (unitF p).2)
      rw [List.length_drop] at this
      rw [List.length_cons]
      omega
theorem plainF_snoc (l : List Str) (x : Str) : plainF (l ++ [x]) = plainF l ++ (47 :: plnF x) := by
  unfold plainF
  rw [List.flatMap_append]
  simp
theorem plainF_take_le (l : List Str) (i : Nat) : (plainF (l.take i)).length ≤ (plainF l).length := by
  conv => rhs; rw [← List.take_append_drop i l]
  unfold plainF
  rw [List.flatMap_append, List.length_append]
  omega
theorem c_plain (l : List Str) (hl : l.length ≤ 1099511627) (hx : ∀ x ∈ l, x.length ≤ 1099511627) (hp : (plainF l).length ≤ 1099511627) : CallV Tryz.prog 60 [vL .str l] (vS (plainF l)) := by
  refine CallV.of Tryz.func60 (by kernel_rfl) rfl Tryz.ntmps60 (by simp) rfl fun cx hB => ?_
  refine Tr.seq ?_; refine Tr.region ?_; refine TrL.quiets 1 rfl (by exact True.intro) ?_; refine TrL.nil ?_; refine Tr.seq ?_; refine Tr.region ?_; refine TrL.quiets 1 rfl (by exact True.intro) ?_; refine TrL.nil ?_; refine Tr.seq ?_; refine Tr.seq ?_; refine Tr.region ?_; refine TrL.quiets 3 rfl (by exact True.intro) ?_; refine TrL.nil ?_; refine Tr.block ?_
  refine Tr.loop (fun i : Nat => ⟨[(3, [], vS (plainF (l.take i))), (6, [], vL .str l), (7, [], vI l.length), (8, [], vI i)], []⟩) (fun i => i ≤ l.length) (fun i => l.length - i) 0 [3, 6, 7, 8] 0 (fun i h => hB i h) rfl (Nat.zero_le _) fun i hi => ?_
  refine Tr.seq ?_; refine Tr.region ?_; refine TrL.quiets 1 rfl (by exact True.intro) ?_; refine TrL.nil ?_; refine Tr.seq ?_
  refine Tr.cond rfl (fun c1 => ?_) (fun c1 => ?_)
  · have hi1 : i < l.length := by simpa using c1
    have hnth : nth (t := .str) l (i : Int) = l[i] := nth_get' (t := .str) _ _ hi1
    have hst : plainF (l.take (i + 1)) = plainF (l.take i) ++ (47 :: plnF l[i]) := by rw [List.take_succ_eq_append_getElem hi1, plainF_snoc]
    have hle := plainF_take_le l (i + 1)
    rw [hst, List.length_append, List.length_cons] at hle
    have hxi := hx _ (List.getElem_mem hi1)
    have hcp := c_Plain (nth (t := .str) l (i : Int)) (by rw [hnth]; exact hxi)
    refine Tr.skip ?_; refine Tr.seq ?_; refine Tr.block ?_; refine Tr.seq ?_; refine Tr.region ?_; refine TrL.quiets 3 rfl (by (simp only [allOf, impO, imp, inR, loOk, and_true]; omega)) ?_; refine TrL.nil ?_; refine Tr.region ?_; refine TrL.quiets 2 rfl (by exact True.intro) ?_
    first | refine TrL.callV rfl rfl rfl rfl rfl hcp ?_ | refine TrD.callV rfl rfl rfl rfl rfl hcp rfl ?_
    refine TrL.quiets 3 rfl ?_ ?_
    · rw [hnth, show ({ data := #[47] } : ByteArray).data.toList = ([47] : Str) from rfl]
      simp only [allOf, impO, imp, and_true, List.length_append, List.length_singleton]
      omega
    refine TrL.nil ?_; refine Tr.region ?_; refine TrL.quiets 2 rfl (by exact True.intro) ?_; refine TrL.nil ?_
    refine ⟨i + 1, hi1, by dsimp only; omega, ?_⟩
    refine Eq.trans (b := (⟨[(3, [], vS (plainF (l.take i) ++ ([47] ++ plnF (nth (t := .str) l (i : Int))))), (6, [], vL .str l), (7, [], vI l.length), (8, [], vI (IntKind.i64.wrap ((i : Int) + 1)))], []⟩ : St)) rfl ?_
    dsimp only
    rw [hst, w64n (y := i + 1) (by omega) (by omega), hnth]
    rfl
  · have hi1 : i = l.length := by
      have : ¬ (i : Int) < l.length := by simpa using c1
      omega
    subst hi1
    rw [List.take_length]
    refine Tr.exit ?_; refine Tr.seq ?_; refine Tr.region ?_; refine TrL.quiets 2 rfl (by exact True.intro) ?_; refine TrL.nil ?_; refine Tr.ret ?_
    refine retQ.of rfl ?_
    rfl

theorem c_SplitM (s : Str) (hs : s.length < 4294967281) : CallT Tryz.prog 27 [vS s, vS [47]] [] (.arr 0) [.ra 9 .str (spS [] s)] := by
  refine ⟨Go.Proofs.enters_of Tryz.func27 (by kernel_rfl) rfl, by simp, fun cx σ ρ w vs hw hB hd => ?_⟩
  simp only [SV.denL, SV.den] at hd
  obtain ⟨v1, r1, rfl, h1, v2, r2, rfl, h2, rfl⟩ := hd
  simp only [Den, List.cons.injEq, and_true] at h1 h2
  subst h1 h2
  obtain ⟨m, hm⟩ := hw.glob
  have hcell := hw.sub _ _ hm
  refine (Tryz.strings_Split ⟨s.toArray⟩ ⟨#[47]⟩ m w (by rw [size_mk]; exact hs) hcell (by decide)).mono ?_
  rintro e w' ⟨rfl, rfl⟩
  have hl : (Lib.splitB ⟨#[47]⟩ 0 (Lib.countB ⟨s.toArray⟩ ⟨#[47]⟩) ⟨s.toArray⟩).map (·.data.toList) = spS [] s := by
    rw [Lib.splitB_data, countB_slash, mk_data]
    exact splitK_one s
  have hv : (Lib.splitB ⟨#[47]⟩ 0 (Lib.countB ⟨s.toArray⟩ ⟨#[47]⟩) ⟨s.toArray⟩).map Value.string = (spS [] s).map strV := by
    rw [← hl, List.map_map]
    rfl
  have hlen : (spS [] s).length = Lib.countB ⟨s.toArray⟩ ⟨#[47]⟩ + 1 := by rw [spS_length, countB_slash]
  rw [hv, ← hlen]
  have hle := spS_le s
  have hm : (spS [] s).length ≤ maxLen := by unfold maxLen; omega
  have hnew := hw.newEnt (τ := σ) (w' := w.alloc (.cells ((spS [] s).map strV).toArray 9)) (e := .ra 9 .str (spS [] s)) (L := ⟨w.heap.size, some ⟨w.heap.size, 0, none⟩, (spS [] s).length, (spS [] s).length, []⟩)
    (Mem.le_refl σ) (fun a v ha => ((below_alloc' w _).cell (sub_lt hw.sub ha)).trans (hw.sub a v ha)) (fun b hb => Below.heap_alloc w _ b hb) (fun a v ha => .inl ⟨v, ha⟩) ?_ (fun b hb => ?_) rfl rfl rfl (by simp)
  · exact ⟨_, σ, _, rfl, Mem.le_refl _, hnew, by simp only [SV.den]; rw [show ([] : List Ent).length = 0 from rfl, upd_same]; rfl⟩
  · refine ⟨_, rows_of_str σ _, ?_, fun g hg => ?_, fun a v ha => ?_⟩
    · rw [upd_same]
      refine ⟨by simp [Ty.cells], .inr ⟨w.heap.size, (spS [] s).length, _, rfl, Nat.zero_le _, heap_alloc_new w _, Nat.le_refl _, hm, by simp [Ty.cells], ?_⟩⟩
      simp only [Ty.cells, Nat.mul_one]
      exact List.take_of_length_le (by simp)
    · rw [upd_same] at hg ⊢
      exact (Option.some.inj hg).symm
    · rw [upd_same]
      have := sub_lt hw.sub ha
      intro heq
      have heq' := Option.some.inj heq
      simp only at heq'
      omega
  · simp only [Ent.at_, upd_same, Loc.sl, Value.ownBlock, Option.some.injEq] at hb
    omega
theorem zeroS_cells (n : Nat) : (Builtin.zeroCells #[strV []] n).toList = List.replicate n (strV []) := by
  unfold Builtin.zeroCells
  apply List.ext_getElem?
  intro i
  simp only [Array.toList_map, Array.toList_range, List.getElem?_map, List.getElem?_range, List.getElem?_replicate]
  by_cases h : i < n
  · have h1 : i < n * (#[strV []] : Array Value).size := by simpa using h
    rw [List.getElem?_range h1, if_pos h]
    simp [Nat.mod_one]
  · rw [List.getElem?_eq_none (by simp; omega), if_neg h]
    rfl
theorem TrL.clearS {P : Program} {cx : Cx} {n : Nat} {ops : Array Oper} {o : Oper} {L : List Oper} {env : Env} {tab : List Ent} {Q : Post} {c : Call} {i j : Nat} {t e : TypeId} {x : Operand} {l : List Str}
    (hg : o.guard = none) (ho : o.op = .call c) (hdst : o.dst = none) (hc : c.callee = .builtin .clear) (ha : c.args.toList = [x]) (ht : c.argTypes.toList = [t]) (hu : P.underlying t = some (.slice e)) (hz : ∀ w, (zeroValue e).run P w = .ok (strV []) w)
    (hx : opnd env [] x = some (.offs i j 1 l.length)) (hr : tab[i]? = some (.ra e .str l)) (h1 : j ≤ l.length)
    (k : TrL P cx n ops L ⟨env, tab.set i (.ra e .str (l.take j ++ List.replicate (l.length - j) []))⟩ Q) : TrL P cx n ops (o :: L) ⟨env, tab⟩ Q := by
  intro a w hsr
  obtain ⟨σ, ρ, hw, he, hn, hdf⟩ : ∃ σ ρ, WR cx σ ρ tab w ∧ EnvA σ ρ env a ∧ a.tmps.size = n ∧ a.defers = cx.ds := hsr
  have dx := opnd_den (known := []) he.env (fun p hp => by cases hp) hx
  simp only [SV.den] at dx
  obtain ⟨xs, q1, q2, q3, q4⟩ := hw.ent i _ hr
  obtain rfl := rows_str q1
  have e1 : c.args = #[x] := Array.toList_inj.1 (by rw [ha])
  have e2 : c.argTypes = #[t] := Array.toList_inj.1 (by rw [ht])
  by_cases hz0 : l.length - j = 0
  · have hrun : (execOp a.eval o).run P w = .ok (.value (.tuple #[])) w := by
      generalize (if (ρ i).c = j then (ρ i).ad else Option.map (fun x => x.add (j * 1)) (ρ i).ad) = A at dx
      simp only [execOp, ho, resolve, hc, invoke, builtin, Sem.run_bind, Sem.run_pure, Result.andThen_ok, e1, e2, List.map_toArray, List.map_cons, List.map_nil, dx, hz0]
      cases A <;> simp [Builtin.clear_, run_underlying hu]
    refine wpList_plain hg fun K hK => wp_of_value hrun (hK _ _ ?_)
    rw [hdst]
    rw [hz0, List.replicate_zero, List.append_nil, List.take_of_length_le (by omega)] at k
    have : tab.set i (.ra e .str l) = tab := by
      obtain ⟨hlt, hev⟩ := List.getElem?_eq_some_iff.1 hr
      rw [← hev, List.set_getElem_self]
    rw [this] at k
    exact k _ _ ⟨σ, ρ, hw, he, hn, hdf⟩
  rcases q2.2 with ⟨_, hz1⟩ | ⟨g, cap, cur, hsl, _, hgc, hnc, hcm, hcs, htake⟩
  · omega
  simp only [Ty.cells, Nat.mul_one] at hcs htake
  have hρ : (ρ i).ad = some ⟨g, 0, none⟩ ∧ (ρ i).c = cap := by
    unfold Loc.sl at hsl
    simp only [Value.slice.injEq] at hsl
    exact ⟨hsl.1, hsl.2.2⟩
  have hadd : (⟨g, 0, none⟩ : Addr).add (j * 1) = ⟨g, j, none⟩ := by unfold Addr.add; simp; omega
  rw [hρ.1, hρ.2, if_neg (by omega), Option.map_some, hadd] at dx
  have hst := run_storeCells_at P g j e (List.replicate (l.length - j) (strV [])) 0 cur w hgc (by rw [hcs, List.length_replicate]; omega) (fun v hv => by rw [List.eq_of_mem_replicate hv]; rfl)
  rw [Nat.add_zero, List.length_replicate] at hst
  have hrun : (execOp a.eval o).run P w = .ok (.value (.tuple #[])) (w.setRow g (cur.toList.take j ++ List.replicate (l.length - j) (strV []) ++ cur.toList.drop (j + (l.length - j))).toArray) := by
    obtain ⟨q, hq⟩ : ∃ q, l.length - j = q + 1 := ⟨l.length - j - 1, by omega⟩
    simp only [execOp, ho, resolve, hc, invoke, builtin, Sem.run_bind, Sem.run_pure, Result.andThen_ok, e1, e2, List.map_toArray, List.map_cons, List.map_nil, dx]
    rw [hq] at hst ⊢
    have hzc : (strV []).cells = #[strV []] := rfl
    simp [Builtin.clear_, run_underlying hu, hz, hzc, zeroS_cells, hst]
  refine wpList_plain hg fun K hK => wp_of_value hrun (hK _ _ ?_)
  rw [hdst]
  have hcl : cur.toList.length = cap := by rw [Array.length_toList, hcs]
  refine k _ _ ⟨σ, ρ, hw.setTexts hr hsl hgc hnc hcm hcs (by simp; omega) ?_ ?_, he, hn, hdf⟩
  · simp only [List.length_append, List.length_take, List.length_drop, List.length_replicate, hcl]
    omega
  · have e3 : j + (l.length - j) = l.length := by omega
    rw [e3, List.take_append_of_le_length (by simp only [List.length_append, List.length_take, List.length_replicate, hcl]; omega), List.take_of_length_le (by simp only [List.length_append, List.length_take, List.length_replicate, hcl]; omega), List.map_append, List.map_replicate]
    congr 1
    have := congrArg (List.take j) htake
    rw [List.take_take, Nat.min_eq_left h1] at this
    rw [this, List.map_take]

def idxI (pr : Str → Bool) (l : List Str) : Int := match l.findIdx? pr with | some k => (k : Int) | none => -1
theorem c_IndexFunc (F : Nat) (pr : Str → Bool) (B : Nat) (hF : ∀ x : Str, x.length ≤ B → CallV Tryz.prog F [vS x] (vB (pr x))) (l : List Str) (hl : l.length ≤ 1099511627) (hx : ∀ x ∈ l, x.length ≤ B) :
    CallV Tryz.prog 87 [vL .str l, .fn F [] []] (vI (idxI pr l)) := by
  refine CallV.of Tryz.func87 (by kernel_rfl) rfl Tryz.ntmps87 (by simp) rfl fun cx hB => ?_
  refine Tr.seq ?_; refine Tr.region ?_; refine TrL.quiets 1 rfl (by exact True.intro) ?_; refine TrL.nil ?_; refine Tr.seq ?_; refine Tr.seq ?_; refine Tr.region ?_; refine TrL.quiets 3 rfl (by exact True.intro) ?_; refine TrL.nil ?_; refine Tr.block ?_
  refine Tr.loop (fun i : Nat => ⟨[(0, [], vL .str l), (1, [], .fn F [] []), (7, [], vI l.length), (8, [], vI i)], []⟩) (fun i => i ≤ l.length ∧ ∀ (j : Nat) (h : j < l.length), j < i → pr l[j] = false) (fun i => l.length - i) 0 [0, 1, 7, 8] 0 (fun i h => hB i h) rfl ⟨Nat.zero_le _, fun j h hj => absurd hj (Nat.not_lt_zero _)⟩ fun i hi => ?_
  obtain ⟨hi, hs⟩ := hi
  refine Tr.seq ?_; refine Tr.region ?_; refine TrL.quiets 1 rfl (by exact True.intro) ?_; refine TrL.nil ?_; refine Tr.seq ?_
  refine Tr.cond rfl (fun c1 => ?_) (fun c1 => ?_)
  · have hi1 : i < l.length := by simpa using c1
    have hnth : nth (t := .str) l (i : Int) = l[i] := nth_get' (t := .str) _ _ hi1
    have hcf := hF (nth (t := .str) l (i : Int)) (by rw [hnth]; exact hx _ (List.getElem_mem hi1))
    refine Tr.skip ?_; refine Tr.seq ?_; refine Tr.block ?_; refine Tr.seq ?_; refine Tr.region ?_; refine TrL.quiets 2 rfl (by exact True.intro) ?_; refine TrL.nil ?_; refine Tr.seq ?_; refine Tr.region ?_; refine TrL.quiets 5 rfl (by (simp only [allOf, impO, imp, inR, loOk, and_true]; omega)) ?_
    first | refine TrL.callV rfl rfl rfl rfl rfl hcf ?_ | refine TrD.callV rfl rfl rfl rfl rfl hcf rfl ?_
    refine TrL.nil ?_
    refine Tr.cond rfl (fun c2 => ?_) (fun c2 => ?_)
    · have h2 : pr l[i] = true := by rw [← hnth]; exact c2
      have hp : idxI pr l = (i : Int) := by
        unfold idxI
        rw [List.findIdx?_eq_some_iff_getElem.2 ⟨hi1, h2, fun j hj => by simpa using hs j (by omega) hj⟩]
      refine Tr.seq ?_; refine Tr.region ?_; refine TrL.quiets 2 rfl (by exact True.intro) ?_; refine TrL.nil ?_; refine Tr.ret ?_
      refine retQ.of rfl ?_
      rw [hp]
    · have h2 : pr l[i] = false := by rw [← hnth]; exact c2
      refine Tr.skip ?_; refine Tr.region ?_; refine TrL.quiets 2 rfl (by exact True.intro) ?_; refine TrL.nil ?_
      refine ⟨i + 1, ⟨hi1, fun j h hj => ?_⟩, by dsimp only; omega, ?_⟩
      · by_cases hji : j = i
        · subst hji; exact h2
        · exact hs j h (by omega)
      · refine Eq.trans (b := (⟨[(0, [], vL .str l), (1, [], .fn F [] []), (7, [], vI l.length), (8, [], vI (IntKind.i64.wrap ((i : Int) + 1)))], []⟩ : St)) rfl ?_
        dsimp only
        rw [w64n (y := i + 1) (by omega) (by omega)]
  · have hi1 : i = l.length := by
      have : ¬ (i : Int) < l.length := by simpa using c1
      omega
    subst hi1
    have hp : idxI pr l = -1 := by
      unfold idxI
      rw [List.findIdx?_eq_none_iff.2 fun x hx => by
        obtain ⟨j, hj, rfl⟩ := List.mem_iff_getElem.1 hx
        exact hs j hj hj]
    refine Tr.exit ?_; refine Tr.seq ?_; refine Tr.region ?_; refine TrL.quiets 1 rfl (by exact True.intro) ?_; refine TrL.nil ?_; refine Tr.ret ?_
    refine retQ.of rfl ?_
    rw [hp]
theorem idxI_any (pr : Str → Bool) (l : List Str) : decide (idxI pr l ≥ 0) = l.any pr := by
  unfold idxI
  rw [Bool.eq_iff_iff]
  cases h : l.findIdx? pr with
  | none =>
    rw [List.findIdx?_eq_none_iff] at h
    simp
    exact fun x hx => h x hx
  | some k =>
    obtain ⟨h1, h2, _⟩ := List.findIdx?_eq_some_iff_getElem.1 h
    simp
    exact ⟨_, List.getElem_mem h1, h2⟩
theorem c_ContainsFunc (F : Nat) (pr : Str → Bool) (B : Nat) (hF : ∀ x : Str, x.length ≤ B → CallV Tryz.prog F [vS x] (vB (pr x))) (l : List Str) (hl : l.length ≤ 1099511627) (hx : ∀ x ∈ l, x.length ≤ B) :
    CallV Tryz.prog 57 [vL .str l, .fn F [] []] (vB (l.any pr)) := by
  refine CallV.of Tryz.func57 (by kernel_rfl) rfl Tryz.ntmps57 (by simp) rfl fun cx hB => ?_
  refine Tr.seq ?_; refine Tr.region ?_; refine TrL.quiets 1 rfl (by exact True.intro) ?_; refine TrL.nil ?_; refine Tr.seq ?_; refine Tr.region ?_; refine TrL.quiets 2 rfl (by exact True.intro) ?_
  first | refine TrL.callV rfl rfl rfl rfl rfl (c_IndexFunc F pr B hF l hl hx) ?_ | refine TrD.callV rfl rfl rfl rfl rfl (c_IndexFunc F pr B hF l hl hx) rfl ?_
  refine TrL.quiets 2 rfl (by exact True.intro) ?_; refine TrL.nil ?_; refine Tr.ret ?_
  refine retQ.of rfl ?_
  rw [← idxI_any pr l]
theorem c_isEmpty (x : Str) : CallV Tryz.prog 84 [vS x] (vB (x == [])) := by
  refine CallV.of Tryz.func84 (by kernel_rfl) rfl Tryz.ntmps84 (by simp) rfl fun cx hB => ?_
  refine Tr.seq ?_; refine Tr.region ?_; refine TrL.quiets 1 rfl (by exact True.intro) ?_; refine TrL.nil ?_; refine Tr.seq ?_; refine Tr.region ?_; refine TrL.quiets 3 rfl (by exact True.intro) ?_; refine TrL.nil ?_; refine Tr.ret ?_
  refine retQ.of rfl ?_
  rfl

/-- A row as its first ones, all of them. -/
theorem SRel.arrSub {cx : Cx} {n : Nat} {env : Env} {tab : List Ent} {a : Act} {w : World} (d i : Nat) {e : TypeId} {ty : Ty} {l : List ty.D} (hl : look env d = some ([], .arr i)) (hi : tab[i]? = some (.ra e ty l)) (h : SRel cx n ⟨env, tab⟩ a w) : SRel cx n ⟨(d, [], .sub i l.length) :: env, tab⟩ a w := by
  obtain ⟨σ, ρ, hw, he, hn, hd⟩ : ∃ σ ρ, WR cx σ ρ tab w ∧ EnvA σ ρ env a ∧ a.tmps.size = n ∧ a.defers = cx.ds := h
  refine ⟨σ, ρ, hw, ?_, hn, hd⟩
  intro s ch v hl'
  simp only [look] at hl'
  split at hl'
  · rename_i hs
    simp only [beq_iff_eq] at hs
    subst hs
    obtain ⟨rfl, rfl⟩ : [] = ch ∧ SV.sub i l.length = v := by simpa using hl'
    have h1 := he d [] _ hl
    refine ⟨fun hf => ?_, h1.2⟩
    obtain ⟨v, hv, hdv⟩ := h1.1 hf
    refine ⟨v, hv, ?_⟩
    simp only [SV.den] at hdv ⊢
    obtain ⟨A, cap, hsl⟩ := ra_any (hw.ent i _ hi)
    rw [hdv, hsl]
    unfold Loc.sl at hsl
    simp only [Value.slice.injEq] at hsl
    rw [hsl.1, hsl.2.2]
  · exact he s ch v hl'
theorem Tr.arrSub {P : Program} {cx : Cx} {n : Nat} {env : Env} {tab : List Ent} {Q : Post} {c : Code} (d i : Nat) {e : TypeId} {ty : Ty} {l : List ty.D} (hl : look env d = some ([], .arr i)) (hi : tab[i]? = some (.ra e ty l)) (h : Tr P cx n c ⟨(d, [], .sub i l.length) :: env, tab⟩ Q) : Tr P cx n c ⟨env, tab⟩ Q :=
  Tr.of h fun a w hs => hs.arrSub d i hl hi
def neF (l : List Str) : List Str := l.filter fun x => x ≠ []
abbrev delL (l : List Str) : List Str := neF l ++ List.replicate (l.length - (neF l).length) []
theorem c_DeleteEmpty (l : List Str) (hl : l.length ≤ 1099511627) (hx : ∀ x ∈ l, x.length ≤ 1099511627776) : CallT Tryz.prog 83 [.arr 0, .fn 84 [] []] [.ra 9 .str l] (.sub 0 (neF l).length) [.ra 9 .str (delL l)] := by
  refine CallT.of Tryz.func83 (by kernel_rfl) rfl Tryz.ntmps83 (by simp) (by simp) fun cx hB => ?_
  refine Tr.seq ?_; refine Tr.region ?_; refine TrL.quiets 1 rfl (by exact True.intro) ?_; refine TrL.nil ?_; refine Tr.seq ?_; refine Tr.region ?_; refine TrL.quiets 2 rfl (by exact True.intro) ?_
  refine TrL.callM 0 rfl rfl rfl rfl rfl rfl rfl (c_IndexFunc 84 (fun x => x == []) 1099511627776 (fun x _ => c_isEmpty x) l hl hx) rfl True.intro ?_
  refine TrL.quiets 1 rfl (by exact True.intro) ?_; refine TrL.nil ?_; refine Tr.seq ?_; refine Tr.seq ?_; refine Tr.region ?_; refine TrL.quiets 2 rfl (by exact True.intro) ?_; refine TrL.nil ?_
  refine Tr.cond rfl (fun c1 => ?_) (fun c1 => ?_)
  · have h1 : idxI (fun x => x == []) l = -1 := by simpa using c1
    have hno : neF l = l := by
      unfold neF
      rw [List.filter_eq_self]
      intro x hx
      have := idxI_any (fun x => x == []) l
      rw [h1] at this
      have h2 : l.any (fun x => x == []) = false := by rw [← this]; decide
      have h3 := List.any_eq_false.1 h2 x hx
      simpa using h3
    rw [hno]
    refine Tr.seq ?_; refine Tr.region ?_; refine TrL.quiets 2 rfl (by exact True.intro) ?_; refine TrL.nil ?_
    change Tr _ _ _ _ _ _
    refine Tr.arrSub 4 0 rfl rfl ?_
    refine Tr.ret ?_
    refine retT.of rfl ?_ ?_
    · rfl
    · unfold delL
      rw [hno]
      simp
  obtain ⟨k, hk1, hk2, hk3, hk4⟩ : ∃ k : Nat, idxI (fun x => x == []) l = (k : Int) ∧ k < l.length ∧ l[k]? = some [] ∧ ∀ x ∈ l.take k, x ≠ [] := by
    unfold idxI at c1 ⊢
    cases h : l.findIdx? (fun x => x == []) with
    | none => rw [h] at c1; simp at c1
    | some k =>
      obtain ⟨a1, a2, a3⟩ := List.findIdx?_eq_some_iff_getElem.1 h
      refine ⟨k, rfl, a1, ?_, fun x hxm => ?_⟩
      · rw [List.getElem?_eq_getElem a1]
        exact congrArg some (by simpa using a2)
      · obtain ⟨j, hj⟩ := List.mem_iff_getElem?.1 hxm
        rw [List.getElem?_take] at hj
        split at hj
        · rename_i hjk
          have := a3 j hjk
          rw [List.getElem?_eq_getElem (by omega)] at hj
          rw [← Option.some.inj hj]
          simpa using this
        · cases hj
  have hstart : l.take k = neF (l.take (k + 1)) := by
    have e : l.take (k + 1) = l.take k ++ [[]] := by
      rw [List.take_succ_eq_append_getElem hk2]
      rw [List.getElem?_eq_getElem hk2] at hk3
      rw [Option.some.inj hk3]
    rw [e]
    unfold neF
    rw [List.filter_append, List.filter_cons_of_neg (by simp), List.filter_nil, List.append_nil]
    symm
    rw [List.filter_eq_self]
    exact fun x hxm => by simpa using hk4 x hxm
  rw [hk1]
  refine Tr.skip ?_; refine Tr.seq ?_; refine Tr.seq ?_; refine Tr.region ?_; refine TrL.quiets 3 rfl (by exact True.intro) ?_; refine TrL.nil ?_; refine Tr.block ?_
  refine Tr.loop (fun x : Nat × List Str × Nat => ⟨[(0, [], .arr 0), (1, [], .fn 84 [] []), (5, [], vI x.2.2), (6, [], vI x.1)], [.ra 9 .str x.2.1]⟩) (fun x => x.2.2 < x.1 ∧ x.1 ≤ l.length ∧ x.2.1.length = l.length ∧ x.2.1.take x.2.2 = neF (l.take x.1) ∧ x.2.1.drop x.1 = l.drop x.1) (fun x => l.length - x.1) (k + 1, l, k) [0, 1, 5, 6] 1 (fun i h => hB i h) ?_ ⟨Nat.lt_succ_self _, hk2, rfl, hstart, rfl⟩ ?_
  · refine Eq.trans (b := (⟨[(0, [], .arr 0), (1, [], .fn 84 [] []), (5, [], vI k), (6, [], vI (IntKind.i64.wrap ((k : Int) + 1)))], [.ra 9 .str l]⟩ : St)) rfl ?_
    rw [w64n (y := k + 1) (by omega) (by omega)]
  rintro ⟨j, row, i⟩ ⟨i1, i2, i3, i4, i5⟩
  dsimp only at i1 i2 i3 i4 i5
  refine Tr.seq ?_; refine Tr.seq ?_; refine Tr.region ?_; refine TrL.quiets 4 rfl (by exact True.intro) ?_; refine TrL.nil ?_
  refine Tr.cond rfl (fun c2 => ?_) (fun c2 => ?_)
  · have hj : j < l.length := by
      have : (j : Int) < (row.length : Int) := by simpa using c2
      omega
    have hjr : j < row.length := by omega
    have hnth : nth (t := .str) row (j : Int) = l[j] := by
      rw [nth_get' (t := .str) _ _ hjr]
      have := congrArg (fun z => z[0]?) i5
      simp only [List.getElem?_drop, Nat.add_zero] at this
      rw [List.getElem?_eq_getElem hjr, List.getElem?_eq_getElem hj] at this
      exact Option.some.inj this
    have hcl := c_isEmpty (nth (t := .str) row (j : Int))
    have hnx : neF (l.take (j + 1)) = neF (l.take j) ++ (if l[j] = [] then [] else [l[j]]) := by
      rw [List.take_succ_eq_append_getElem hj]
      unfold neF
      rw [List.filter_append]
      congr 1
      by_cases h : l[j] = []
      · rw [if_pos h, List.filter_cons_of_neg (by simpa using h), List.filter_nil]
      · rw [if_neg h, List.filter_cons_of_pos (by simpa using h), List.filter_nil]
    have hdrop : row.drop (j + 1) = l.drop (j + 1) := by
      have := congrArg (List.drop 1) i5
      rwa [List.drop_drop, List.drop_drop] at this
    refine Tr.skip ?_; refine Tr.seq ?_; refine Tr.block ?_; refine Tr.seq ?_; refine Tr.region ?_; refine TrL.quiets 5 rfl (by (simp only [allOf, impO, imp, inR, loOk, and_true]; omega)) ?_; refine TrL.nil ?_; refine Tr.seq ?_; refine Tr.region ?_; refine TrL.quiets 2 rfl (by exact True.intro) ?_
    refine TrL.is 7 (sv' := vS l[j]) rfl (congrArg vS (by rw [Int.toNat_natCast, hnth])) ?_
    refine TrL.is 27 (sv' := vS l[j]) rfl (congrArg vS (by rw [Int.toNat_natCast, hnth])) ?_
    first | refine TrL.callV rfl rfl rfl rfl rfl (c_isEmpty l[j]) ?_ | refine TrD.callV rfl rfl rfl rfl rfl (c_isEmpty l[j]) rfl ?_
    refine TrL.quiets 1 rfl (by exact True.intro) ?_; refine TrL.nil ?_
    refine Tr.cond rfl (fun c3 => ?_) (fun c3 => ?_)
    · have h3 : l[j] ≠ [] := by simpa using c3
      rw [if_neg h3] at hnx
      have hir : i < row.length := by omega
      refine Tr.seq ?_; refine Tr.region ?_; refine TrL.quiets 4 rfl (by (simp only [allOf, impO, imp, inR, loOk, and_true]; omega)) ?_; refine TrL.eff (effStore_sound rfl) (by assumption) ?_; refine TrL.nil ?_; refine Tr.region ?_; refine TrL.quiets 3 rfl (by exact True.intro) ?_; refine TrL.nil ?_; refine Tr.region ?_; refine TrL.quiets 3 rfl (by exact True.intro) ?_; refine TrL.nil ?_
      refine ⟨(j + 1, row.set i l[j], i + 1), ⟨by dsimp only; omega, by dsimp only; omega, by rw [List.length_set]; exact i3, ?_, ?_⟩, by dsimp only; omega, ?_⟩
      · dsimp only
        rw [hnx, ← i4, List.take_succ_eq_append_getElem (by rw [List.length_set]; exact hir), List.getElem_set_self, List.take_set_of_le (Nat.le_refl _)]
      · dsimp only
        rw [List.drop_set_of_lt (by omega), hdrop]
      · refine Eq.trans (b := (⟨[(0, [], .arr 0), (1, [], .fn 84 [] []), (5, [], vI (IntKind.i64.wrap ((i : Int) + 1))), (6, [], vI (IntKind.i64.wrap ((j : Int) + 1)))], [.ra 9 .str (row.set i l[j])]⟩ : St)) rfl ?_
        dsimp only
        rw [w64n (y := i + 1) (by omega) (by omega), w64n (y := j + 1) (by omega) (by omega)]
    · have h3 : l[j] = [] := by simpa using c3
      rw [if_pos h3, List.append_nil] at hnx
      refine Tr.skip ?_; refine Tr.region ?_; refine TrL.quiets 3 rfl (by exact True.intro) ?_; refine TrL.nil ?_
      refine ⟨(j + 1, row, i), ⟨by dsimp only; omega, by dsimp only; omega, i3, ?_, hdrop⟩, by dsimp only; omega, ?_⟩
      · dsimp only
        rw [hnx, i4]
      · refine Eq.trans (b := (⟨[(0, [], .arr 0), (1, [], .fn 84 [] []), (5, [], vI i), (6, [], vI (IntKind.i64.wrap ((j : Int) + 1)))], [.ra 9 .str row]⟩ : St)) rfl ?_
        dsimp only
        rw [w64n (y := j + 1) (by omega) (by omega)]
  · have hj : j = l.length := by
      have : ¬ (j : Int) < (row.length : Int) := by simpa using c2
      omega
    subst hj
    rw [List.take_length] at i4
    have hil : (neF l).length = i := by
      rw [← i4, List.length_take]
      omega
    have hir : i ≤ row.length := by omega
    refine Tr.exit ?_; refine Tr.seq ?_; refine Tr.region ?_
    refine TrL.quiets 3 rfl ?_ ?_
    · simp only [allOf, impO, imp, inR, and_true]
      exact ⟨Int.natCast_nonneg _, Int.ofNat_le.2 hir⟩
    refine TrL.is 38 (sv' := .offs 0 i 1 row.length) rfl rfl ?_
    refine TrL.clearS (i := 0) (j := i) (l := row) rfl rfl rfl rfl rfl rfl Tryz.underlying36 Tryz.zeroValue9 rfl rfl hir ?_
    rw [i4, i3, hil.symm]
    refine TrL.nil ?_; refine Tr.seq ?_; refine Tr.region ?_; refine TrL.quiets 4 rfl (by (simp (disch := omega) only [allOf, impO, imp, inR, loOk, and_true, w64, List.length_set, List.length_cons, List.length_nil, cut, List.length_take, List.length_drop, List.length_append, Int.toNat_natCast, Option.getD_none, Option.getD_some, Ty.D, true_and, decide_eq_true_eq, decide_eq_false_iff_not, Bool.and_eq_true, Bool.or_eq_false_iff]; omega)) ?_; refine TrL.nil ?_; refine Tr.ret ?_
    refine retT.of rfl ?_ ?_
    · rfl
    · rfl
end Go.Proofs.YteiickhgmmjcmaaGreatDoor.Sx
