/-
  Contracts of Go's library, taken off the shelf.
-/
import Derived.Test.YtckgeebihhhapaaDoorF2
import Derived.Test.YtckgeebihhhapaaDoorSxO
import Derived.Test.YtckgeebihhhapaaDoorShelf
import Derived.Shelf.Strings.SlTrimAscii
import Derived.Shelf.Strings.OnBuilder
import Derived.Shelf.Strings.Prefix
import Derived.Shelf.Small.Wraps
set_option linter.unusedVariables false
set_option linter.unusedSimpArgs false
set_option maxRecDepth 20000
namespace Go.Proofs.YtckgeebihhhapaaDoor.Sx
open Go Go.RowKit Go.Proofs

/-- A contract that hands back one value, whatever the world, and lays new blocks alone. -/
theorem CallV.of_below {P : Program} {f : Nat} {args : List SV} {r : SV} {avs : List Value} {rv : Value} (hent : Go.Proofs.Enters P f) (ha : rigids args = some avs) (hr : rigidT r = some rv)
    (h : ∀ w, Calls P f avs.toArray w fun e w' => e = .returned rv ∧ Below w.heap.size w w') : CallV P f args r := by
  refine ⟨hent, fun cx σ ρ w vs hw hd => ?_⟩
  obtain rfl := (rigids_den _ _ _ ha).1 hd
  refine (h w).mono ?_
  rintro e w' ⟨rfl, hB⟩
  refine ⟨rv, σ, rfl, Mem.le_refl _, hw.below (Mem.le_refl _) (fun a v ha => ?_) hB (fun a v ha => .inl ⟨v, ha⟩), (rigidT_den hr).2 rfl⟩
  exact (hB.cell (sub_lt hw.sub ha)).trans (hw.sub a v ha)
theorem CallV.of_same {P : Program} {f : Nat} {args : List SV} {r : SV} {avs : List Value} {rv : Value} (hent : Go.Proofs.Enters P f) (ha : rigids args = some avs) (hr : rigidT r = some rv)
    (h : ∀ w, Calls P f avs.toArray w fun e w' => e = .returned rv ∧ w' = w) : CallV P f args r :=
  CallV.of_below hent ha hr fun w => (h w).mono fun e w' ⟨h1, h2⟩ => ⟨h1, h2 ▸ Below.refl _ _⟩
theorem mk_data (s : Str) : (⟨s.toArray⟩ : ByteArray).data.toList = s := rfl


theorem c_HasPrefix (s p : Str) : CallV Tryd.prog 90 [vS s, vS p] (vB (hasPre s p)) :=
  CallV.of_same (Go.Proofs.enters_of Tryd.func90 (by kernel_rfl) rfl) rfl rfl fun w => Tryd.strings_HasPrefix ⟨s.toArray⟩ ⟨p.toArray⟩ w

def trimPre (s p : Str) : Str := if hasPre s p then s.drop p.length else s





theorem c_CutPrefix (s p : Str) : CallV Tryd.prog 39 [vS s, vS p] (.tup [vS (trimPre s p), vB (hasPre s p)]) :=
  CallV.of_same (Go.Proofs.enters_of Tryd.func39 (by kernel_rfl) rfl) rfl rfl fun w => Tryd.strings_CutPrefix ⟨s.toArray⟩ ⟨p.toArray⟩ w


theorem c_IndexByte (s : Str) (c : Int) : CallV Tryd.prog 73 [vS s, vY c] (vI (Lib.indexByte s c.toNat.toUInt8)) :=
  CallV.of_same (Go.Proofs.enters_of Tryd.func73 (by kernel_rfl) rfl) rfl rfl fun w => Tryd.strings_IndexByte ⟨s.toArray⟩ c w


abbrev blanks : Str := [32, 9, 10]
theorem blanks_contains (c : UInt8) : blanks.contains c = isBlank c := by
  rw [Bool.eq_iff_iff]
  simp [blanks, isBlank, or_assoc]
theorem blanks_fun : (fun c => blanks.contains c) = isBlank := funext blanks_contains
theorem ascii_blanks : ∀ (j : Nat) b, blanks[j]? = some b → b.toNat < 128 := ascii_of_all (by decide)

theorem c_TrimLeft (s : Str) : CallV Tryd.prog 98 [vS s, vS blanks] (vS (left s)) :=
  CallV.of_below (Go.Proofs.enters_of Tryd.func98 (by kernel_rfl) rfl) rfl rfl fun w => by
    have := Any.strings_TrimLeft_laid Tryd.lays161 (by kernel_rfl) ⟨s.toArray⟩ ⟨blanks.toArray⟩ w (by decide) ascii_blanks
    rw [mk_data, mk_data, show Lib.trimLeftS s blanks = left s by simp only [Lib.trimLeftS, blanks_fun]; rfl] at this
    exact this


theorem c_TrimRight (s : Str) (hs : s.length ≤ 9223372036854775807) : CallV Tryd.prog 106 [vS s, vS blanks] (vS (right s)) :=
  CallV.of_below (Go.Proofs.enters_of Tryd.func106 (by kernel_rfl) rfl) rfl rfl fun w => by
    have := Any.strings_TrimRight_laid Tryd.lays162 (by kernel_rfl) ⟨s.toArray⟩ ⟨blanks.toArray⟩ w (by rw [size_mk]; exact hs) (by decide) ascii_blanks
    rw [mk_data, mk_data, show Lib.trimRightS s blanks = right s by simp only [Lib.trimRightS, blanks_fun]; rfl] at this
    exact this

theorem dropWhile_nil {p : UInt8 → Bool} : ∀ (l : Str), l.dropWhile p = [] → ∀ x ∈ l, p x = true
  | [], _, x, hx => by cases hx
  | c :: l, h, x, hx => by
    by_cases hc : p c = true
    · simp only [List.dropWhile_cons, hc, if_true] at h
      rcases List.mem_cons.1 hx with rfl | hx
      · exact hc
      · exact dropWhile_nil l h x hx
    · simp [List.dropWhile_cons, hc] at h
theorem trim_comm (s : Str) : left (right s) = right (left s) := by
  by_cases h : s.all isBlank = true
  · have h1 : ∀ l : Str, l.all isBlank = true → l.dropWhile isBlank = [] := fun l => by
      induction l with
      | nil => intro _; rfl
      | cons c l ih => intro h; simp only [List.all_cons, Bool.and_eq_true] at h; simp [List.dropWhile_cons, h.1, ih h.2]
    have h2 : right s = [] := by simp [right, h1 s.reverse (by simpa using h)]
    rw [h2, show left s = [] from h1 s h]
    rfl
  · -- some byte is no blank: both ends are cut apart
    have key : ∀ (s : Str), s.all isBlank ≠ true → right (left s) = left (right s) := by
      intro s
      induction s with
      | nil => intro h; exact absurd rfl h
      | cons c s ih =>
        intro h
        by_cases hc : isBlank c = true
        · have hs : s.all isBlank ≠ true := fun e => h (by simp [hc, e])
          have hr : right (c :: s) = c :: right s := by
            have : s.reverse.dropWhile isBlank ≠ [] := fun e => hs (by
              rw [List.all_eq_true]
              intro x hx
              exact dropWhile_nil _ e x (by simpa using hx))
            simp only [right, List.reverse_cons, List.dropWhile_append]
            rw [if_neg (by simpa using this)]
            simp
          rw [hr]
          have e1 : left (c :: s) = left s := by simp [left, List.dropWhile_cons, hc]
          have e2 : left (c :: right s) = left (right s) := by simp [left, List.dropWhile_cons, hc]
          rw [e1, e2]
          exact ih hs
        · have e1 : left (c :: s) = c :: s := by simp [left, List.dropWhile_cons, hc]
          have hr : ∃ t, right (c :: s) = c :: t := by
            simp only [right, List.reverse_cons, List.dropWhile_append]
            split
            · exact ⟨[], by simp [List.dropWhile_cons, hc]⟩
            · exact ⟨(s.reverse.dropWhile isBlank).reverse, by simp⟩
          obtain ⟨t, ht⟩ := hr
          rw [e1, ht]
          simp [left, List.dropWhile_cons, hc]
    exact (key s h).symm

theorem c_lib_Trim (s : Str) (hs : s.length ≤ 9223372036854775807) : CallV Tryd.prog 79 [vS s, vS blanks] (vS (trim s)) :=
  CallV.of_below (Go.Proofs.enters_of Tryd.func79 (by kernel_rfl) rfl) rfl rfl fun w => by
    have := Any.strings_Trim_laid Tryd.lays160 (by kernel_rfl) ⟨s.toArray⟩ ⟨blanks.toArray⟩ w (by rw [size_mk]; exact hs) (by decide) ascii_blanks
    rw [mk_data, mk_data, show Lib.trimS s blanks = trim s by simp only [Lib.trimS, Lib.trimLeftS, Lib.trimRightS, blanks_fun]; exact trim_comm s] at this
    exact this



theorem c_words_Left (s : Str) : CallV Tryd.prog 77 [vS s] (vS (left s)) := by
  refine CallV.of Tryd.func77 (by kernel_rfl) rfl Tryd.ntmps77 (by simp) rfl fun cx hB => ?_
  refine Tr.seq (Tr.region (TrL.quiets 1 rfl True.intro (TrL.nil (Tr.seq (Tr.region (TrL.quiets 1 rfl True.intro (TrL.callV rfl rfl rfl rfl rfl (c_TrimLeft ..) (TrL.quiets 1 rfl True.intro (TrL.nil (Tr.ret (retQ.of rfl ?_)))))))))))
  rfl


theorem c_words_Trim (s : Str) (hs : s.length ≤ 9223372036854775807) : CallV Tryd.prog 53 [vS s] (vS (trim s)) := by
  refine CallV.of Tryd.func53 (by kernel_rfl) rfl Tryd.ntmps53 (by simp) rfl fun cx hB => ?_
  refine Tr.seq (Tr.region (TrL.quiets 1 rfl True.intro (TrL.nil (Tr.seq (Tr.region (TrL.quiets 1 rfl True.intro (TrL.callV rfl rfl rfl rfl rfl (c_lib_Trim _ hs) (TrL.quiets 1 rfl True.intro (TrL.nil (Tr.ret (retQ.of rfl ?_)))))))))))
  rfl


theorem join_joinW (l : List Str) : Lib.join l [32] = joinW l := by
  induction l with
  | nil => rfl
  | cons a l ih =>
    cases l with
    | nil => simp [Lib.join, joinW, List.intercalate]
    | cons b l =>
      simp only [Lib.join, List.intercalate, List.intersperse, List.flatten_cons, joinW] at ih ⊢
      rw [← ih]
      simp























































end Go.Proofs.YtckgeebihhhapaaDoor.Sx
