/-
  cond: the reference answers as the program does.
-/
import Derived.Test.YtckgeebihhhapaaDoorG20
import Derived.Test.YtckgeebihhhapaaDoorG21
set_option linter.unusedVariables false
set_option linter.unusedSimpArgs false
set_option maxRecDepth 20000
set_option maxHeartbeats 4000000
namespace Go.Proofs.YtckgeebihhhapaaDoor.Sx
open Go Go.RowKit Go.Proofs

/-! ### The first word -/
def openC (c : UInt8) : Bool := decide (c = 40) || decide (c = 39) || decide (c = 34)
theorem u8_all {f : UInt8 → Bool} (h : ((List.range 256).all fun n => f (UInt8.ofNat n)) = true) (c : UInt8) : f c = true := by
  have h1 := List.all_eq_true.1 h c.toNat (List.mem_range.2 c.toNat_lt)
  simpa using h1
theorem any_blank (c : UInt8) : decide (Lib.indexAny [c] blanks ≥ 0) = isBlank c := by
  have := u8_all (f := fun c => decide (Lib.indexAny [c] blanks ≥ 0) == isBlank c) (by kernel_rfl) c
  simpa using this
theorem any_open (c : UInt8) : decide (Lib.indexAny [c] opens ≥ 0) = openC c := by
  have := u8_all (f := fun c => decide (Lib.indexAny [c] opens ≥ 0) == openC c) (by kernel_rfl) c
  simpa using this
theorem okAfter_cons (w : Str) (c : UInt8) (r : Str) : okAfter w (c :: r) = stopB w c := by
  have h1 := any_blank c
  have h2 := any_open c
  unfold okAfter stopB
  show (false || decide (Lib.indexAny [c] blanks ≥ 0) || ((w == wIfeq || w == wIfneq) && decide (Lib.indexAny [c] opens ≥ 0))) = _
  rw [h1, h2, Bool.false_or]
  rfl
theorem okAfter_nil (w : Str) : okAfter w [] = true := rfl
/-- No byte of it ends a word. -/
def Good (w : Str) : Prop := ∀ c ∈ w, isBlank c = false ∧ openC c = false
theorem firstR_good : ∀ (w pre r : Str), Good w → firstR pre (w ++ r) = firstR (pre ++ w) r
  | [], pre, r, _ => by simp
  | c :: w, pre, r, h => by
    have hc := h c (by simp)
    have hs : ¬ stopB pre c = true := by
      have e : stopB pre c = (isBlank c || ((pre == wIfeq || pre == wIfneq) && openC c)) := rfl
      rw [e, hc.1, hc.2]
      simp
    rw [List.cons_append, firstR, if_neg hs, firstR_good w (pre ++ [c]) r (fun d hd => h d (by simp [hd]))]
    simp
theorem firstR_ends : ∀ (r pre : Str), ∃ x y, firstR pre r = (pre ++ x, y) ∧ r = x ++ y ∧ okAfter (pre ++ x) y = true
  | [], pre => ⟨[], [], by simp [firstR], rfl, rfl⟩
  | c :: r, pre => by
    by_cases hs : stopB pre c = true
    · exact ⟨[], c :: r, by rw [firstR, if_pos hs]; simp, rfl, by rw [okAfter_cons, List.append_nil]; exact hs⟩
    · obtain ⟨x, y, h1, h2, h3⟩ := firstR_ends r (pre ++ [c])
      exact ⟨c :: x, y, by rw [firstR, if_neg hs, h1]; simp, by rw [h2]; rfl, by simpa using h3⟩
theorem first_word {t w : Str} (hw : Good w) : (hasPre t w && okAfter w (t.drop w.length)) = decide ((firstR [] t).1 = w) ∧ ((firstR [] t).1 = w → firstR [] t = (w, t.drop w.length)) := by
  obtain ⟨x, y, h1, h2, h3⟩ := firstR_ends t []
  rw [List.nil_append] at h1 h3
  have hback : (firstR [] t).1 = w → firstR [] t = (w, t.drop w.length) := by
    intro h
    rw [h1] at h ⊢
    dsimp only at h
    subst h
    rw [h2, List.drop_left]
  refine ⟨?_, hback⟩
  rw [Bool.eq_iff_iff, decide_eq_true_eq, Bool.and_eq_true]
  constructor
  · rintro ⟨ha, hb⟩
    obtain ⟨r, hr⟩ := List.isPrefixOf_iff_prefix.1 ha
    rw [← hr, List.drop_left] at hb
    rw [← hr, firstR_good w [] r hw, List.nil_append]
    cases r with
    | nil => rfl
    | cons c r =>
      rw [okAfter_cons] at hb
      rw [firstR, if_pos hb]
  · intro h
    rw [h1] at h
    dsimp only at h
    subst h
    refine ⟨List.isPrefixOf_iff_prefix.2 ⟨y, h2.symm⟩, ?_⟩
    rw [h2, List.drop_left]
    exact h3
theorem startW_first (t : Str) : ∀ ws : List Str, (∀ w ∈ ws, Good w) → startW t ws = if (firstR [] t).1 ∈ ws then firstR [] t else ([], [])
  | [], _ => rfl
  | w :: ws, h => by
    obtain ⟨h1, h2⟩ := first_word (t := t) (h w (by simp))
    rw [startW, h1, startW_first t ws (fun x hx => h x (by simp [hx]))]
    by_cases e : (firstR [] t).1 = w
    · rw [if_pos (decide_eq_true e), if_pos (by rw [e]; simp), h2 e]
    · rw [if_neg (by simpa using e)]
      simp only [List.mem_cons, e, false_or]
theorem six_good : ∀ w ∈ sixW, Good w := by
  have h : (sixW.all fun w => w.all fun c => !isBlank c && !openC c) = true := by kernel_rfl
  intro w hw c hc
  have h1 := List.all_eq_true.1 (List.all_eq_true.1 h w hw) c hc
  simpa using h1
theorem startF_first (s : Str) : startF s = if (firstF s).1 ∈ sixW then firstF s else ([], []) := startW_first _ _ six_good

/-! ### The sides -/
theorem brk_no (s : Str) : ∀ (r : Str) (i d : Nat) (m : Option Nat), (brkR s r i d m).2.2 = false → brkR s r i d m = ([], [], false)
  | [], i, d, m, _ => rfl
  | c :: r, i, d, m, h => by
    rw [brkR] at h ⊢
    split
    · rename_i h1
      rw [if_pos h1] at h
      exact brk_no s r _ _ _ h
    · rename_i h1
      rw [if_neg h1] at h
      split
      · rename_i h2
        rw [if_pos h2] at h
        cases m with
        | none => rfl
        | some k =>
          simp only [brkEnd] at h ⊢
          split
          · rename_i h3
            rw [if_pos h3] at h
            cases h
          · rfl
      · rename_i h2
        rw [if_neg h2] at h
        split
        · rename_i h3
          rw [if_pos h3] at h
          exact brk_no s r _ _ _ h
        · rename_i h3
          rw [if_neg h3] at h
          split
          · rename_i h4
            rw [if_pos h4] at h
            exact brk_no s r _ _ _ h
          · rename_i h4
            rw [if_neg h4] at h
            exact brk_no s r _ _ _ h
theorem sides_no {s : Str} (h : (sidesF s).2.2 = false) : sidesF s = ([], [], false) := by
  unfold sidesF at h ⊢
  split
  · rename_i h1
    rw [if_pos h1] at h
    exact brk_no _ _ _ _ _ h
  · rename_i h1
    rw [if_neg h1] at h
    split
    · rfl
    · rename_i h2
      rw [if_neg h2] at h
      split
      · rfl
      · rename_i h3
        rw [if_neg h3] at h
        cases h
theorem tail_same (e : Bool) {w : Str} (hw : fourB w = true) (rest : Str) : tailR e w rest = tailF e w rest := by
  unfold tailR tailF askF
  have h4 : w = wIfeq ∨ w = wIfneq ∨ w = wIfdef ∨ w = wIfndef := by
    simp only [fourB, Bool.or_eq_true, beq_iff_eq, or_assoc] at hw
    exact hw
  by_cases h1 : w = wIfeq ∨ w = wIfneq
  · have h2 : ¬ (w = wIfdef ∨ w = wIfndef) := by
      rcases h1 with rfl | rfl <;> decide
    rw [if_pos h1, if_neg h2]
    cases hs : (sidesF rest).2.2 with
    | true => rfl
    | false => rw [sides_no hs]; rfl
  · have h2 : w = wIfdef ∨ w = wIfndef := by
      rcases h4 with h | h | h | h
      · exact absurd (.inl h) h1
      · exact absurd (.inr h) h1
      · exact .inl h
      · exact .inr h
    rw [if_neg h1, if_pos h2]
    dsimp only
    rw [splitW_trim]
    by_cases h3 : (splitW rest).length = 1
    · obtain ⟨x, hx⟩ := List.length_eq_one_iff.1 h3
      have ht := splitW_one hx
      rw [hx, ht]
      rfl
    · have h5 : ¬ ((splitW rest).length == 1) = true := by simpa using h3
      rw [if_neg h5, if_pos h3]
theorem read_same (s : Str) : rReadF s = readF s := by
  unfold rReadF readF
  rw [startF_first]
  by_cases h6 : (firstF s).1 ∈ sixW
  · rw [if_pos h6]
    have hne : ¬ (firstF s).1 = [] := by intro h; rw [h] at h6; revert h6; decide
    rw [if_neg hne]
    by_cases e1 : (firstF s).1 = wEndif
    · rw [if_pos e1, if_pos e1]
    rw [if_neg e1, if_neg e1]
    by_cases e2 : (firstF s).1 = wElse
    · rw [if_pos e2, if_pos e2]
      by_cases e3 : trim (firstF s).2 = []
      · rw [if_pos e3, if_pos e3]
      rw [if_neg e3, if_neg e3, startF_first]
      generalize firstF (firstF s).2 = q
      obtain ⟨w, r⟩ := q
      dsimp only
      by_cases h7 : fourB w = true
      · have h8 : w ∈ sixW ∧ ¬ (w = [] ∨ w = wElse ∨ w = wEndif) := by
          simp only [fourB, Bool.or_eq_true, beq_iff_eq, or_assoc] at h7
          rcases h7 with rfl | rfl | rfl | rfl <;> decide
        rw [if_pos h7, if_pos h8.1]
        dsimp only
        rw [if_neg h8.2, tail_same true h7]
      · rw [if_neg h7]
        by_cases h8 : w ∈ sixW
        · rw [if_pos h8]
          dsimp only
          have h9 : w = [] ∨ w = wElse ∨ w = wEndif := by
            simp only [List.mem_cons, List.not_mem_nil, or_false] at h8
            simp only [fourB, Bool.or_eq_true, beq_iff_eq, not_or] at h7
            rcases h8 with h | h | h | h | h | h
            · exact absurd h h7.1.1.1
            · exact absurd h h7.1.1.2
            · exact absurd h h7.1.2
            · exact absurd h h7.2
            · exact .inr (.inl h)
            · exact .inr (.inr h)
          rw [if_pos h9]
        · rw [if_neg h8]
          dsimp only
          rw [if_pos (.inl rfl)]
    rw [if_neg e2, if_neg e2]
    have h7 : fourB (firstF s).1 = true := by
      simp only [List.mem_cons, List.not_mem_nil, or_false] at h6
      simp only [fourB, Bool.or_eq_true, beq_iff_eq, or_assoc]
      rcases h6 with h | h | h | h | h | h
      · exact .inl h
      · exact .inr (.inl h)
      · exact .inr (.inr (.inl h))
      · exact .inr (.inr (.inr h))
      · exact absurd h e2
      · exact absurd h e1
    rw [if_pos h7, tail_same false h7]
  · rw [if_neg h6]
    have e1 : ¬ (firstF s).1 = wEndif := by intro h; rw [h] at h6; revert h6; decide
    have e2 : ¬ (firstF s).1 = wElse := by intro h; rw [h] at h6; revert h6; decide
    have h7 : ¬ fourB (firstF s).1 = true := by
      intro h
      simp only [fourB, Bool.or_eq_true, beq_iff_eq, or_assoc] at h
      apply h6
      rcases h with h | h | h | h <;> rw [h] <;> decide
    rw [if_neg e1, if_neg e2, if_neg h7]
    rfl
end Go.Proofs.YtckgeebihhhapaaDoor.Sx
