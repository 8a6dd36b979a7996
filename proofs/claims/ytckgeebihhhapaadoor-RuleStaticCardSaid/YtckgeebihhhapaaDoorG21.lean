/-
  Words of a text: plain.
-/
import Derived.Test.YtckgeebihhhapaaDoorF15
set_option linter.unusedVariables false
set_option linter.unusedSimpArgs false
set_option maxRecDepth 20000
set_option maxHeartbeats 4000000
namespace Go.Proofs.YtckgeebihhhapaaDoor.Sx
open Go Go.RowKit Go.Proofs

/-! ### Plain -/
theorem spl_cut (c : UInt8) (hc : isBlank c = true) (y : Str) : ∀ (x acc : Str), spl acc (x ++ c :: y) = spl acc x ++ spl [] y := by
  intro x
  induction x with
  | nil =>
    intro acc
    simp only [List.nil_append, spl, hc, if_true]
    split <;> simp
  | cons d x ih =>
    intro acc
    simp only [List.cons_append, spl]
    split
    · split
      · exact ih []
      · rw [ih []]; rfl
    · exact ih _
/-- Bytes that are no blanks, one at least. -/
structure Word (w : Str) : Prop where
  ne : w ≠ []
  no : ∀ c ∈ w, isBlank c = false
theorem Word.tw {w : Str} (h : Word w) : w.takeWhile (fun c => !isBlank c) = w := by
  have : ∀ l : Str, (∀ c ∈ l, isBlank c = false) → l.takeWhile (fun c => !isBlank c) = l := by
    intro l
    induction l with
    | nil => intro _; rfl
    | cons c l ih => intro h; simp [List.takeWhile_cons, h c (by simp), ih (fun d hd => h d (by simp [hd]))]
  exact this w h.no
theorem Word.split {w : Str} (h : Word w) : splitW w = [w] := by
  have hd : w.dropWhile (fun c => !isBlank c) = [] := by
    have := List.takeWhile_append_dropWhile (p := fun c => !isBlank c) (l := w)
    rw [h.tw] at this
    exact List.append_cancel_left (this.trans (List.append_nil w).symm)
  simp only [splitW]
  rw [spl_word w [] (by rw [h.tw]; simpa using h.ne), h.tw, hd]
  rfl
structure Gap (g : Str) : Prop where
  ne : g ≠ []
  all : ∀ c ∈ g, isBlank c = true
theorem splitW_blank {g : Str} (h : ∀ c ∈ g, isBlank c = true) (s : Str) : splitW (g ++ s) = splitW s := by
  simp only [splitW]
  rw [← spl_left (g ++ s), ← spl_left s]
  congr 1
  induction g with
  | nil => rfl
  | cons c g ih =>
    have hc := h c (by simp)
    simp only [left, List.cons_append, List.dropWhile_cons, hc, if_true]
    exact ih (fun d hd => h d (by simp [hd]))
theorem splitW_gap {g : Str} (h : Gap g) (x s : Str) : splitW (x ++ g ++ s) = splitW x ++ splitW s := by
  cases g with
  | nil => exact absurd rfl h.ne
  | cons c g =>
    have := spl_cut c (h.all c (by simp)) (g ++ s) x []
    simp only [splitW, List.append_assoc, List.cons_append]
    rw [this]
    congr 1
    exact splitW_blank (fun d hd => h.all d (by simp [hd])) s
theorem splitW_snoc {g w : Str} (hg : Gap g) (hw : Word w) (s : Str) : splitW (s ++ g ++ w) = splitW s ++ [w] := by rw [splitW_gap hg, hw.split]
theorem splitW_joinW : ∀ (l : List Str), (∀ w ∈ l, Word w) → splitW (joinW l) = l
  | [], _ => rfl
  | [a], h => (h a (by simp)).split
  | a :: b :: l, h => by
    have e : joinW (a :: b :: l) = a ++ [32] ++ joinW (b :: l) := by simp [joinW]
    rw [e, splitW_gap ⟨by simp, by simp [isBlank]⟩, (h a (by simp)).split, splitW_joinW (b :: l) (fun w hw => h w (by simp [hw]))]
    rfl
theorem Word.right_app {w : Str} (h : Word w) (s : Str) : right (s ++ w) = s ++ w := by
  have hne : w.reverse ≠ [] := by simpa using h.ne
  simp only [right, List.reverse_append]
  cases hr : w.reverse with
  | nil => exact absurd hr hne
  | cons c r =>
    have hc : isBlank c = false := h.no c (by rw [← List.mem_reverse, hr]; simp)
    simp only [List.cons_append, List.dropWhile_cons, hc, Bool.false_eq_true, if_false]
    rw [← List.cons_append, ← hr]
    simp
theorem left_blank (g x : Str) (hg : ∀ c ∈ g, isBlank c = true) : Sx.left (g ++ x) = Sx.left x := by
  induction g with
  | nil => rfl
  | cons c g ih =>
    have := hg c List.mem_cons_self
    simp only [Sx.left, List.cons_append, List.dropWhile_cons, this, if_true]
    exact ih fun d hd => hg d (List.mem_cons_of_mem _ hd)
theorem right_blank (x g : Str) (hg : ∀ c ∈ g, isBlank c = true) : Sx.right (x ++ g) = Sx.right x := by
  have h2 : (x ++ g).reverse = g.reverse ++ x.reverse := List.reverse_append
  have := left_blank g.reverse x.reverse (fun c hc => hg c (List.mem_reverse.1 hc))
  unfold Sx.right
  rw [h2]
  unfold Sx.left at this
  rw [this]
/-! ### A trimmed text -/
theorem right_split (s : Str) : ∃ g : Str, s = right s ++ g ∧ ∀ c ∈ g, isBlank c = true := by
  refine ⟨(s.reverse.takeWhile isBlank).reverse, ?_, fun c hc => ?_⟩
  · rw [right, ← List.reverse_append, List.takeWhile_append_dropWhile, List.reverse_reverse]
  · rw [List.mem_reverse] at hc
    exact List.all_eq_true.1 (List.all_takeWhile (p := isBlank) (l := s.reverse)) c hc
theorem splitW_nil_blank {g : Str} (h : ∀ c ∈ g, isBlank c = true) : splitW g = [] := by
  have := splitW_blank h []
  rw [List.append_nil] at this
  rw [this]
  rfl
theorem splitW_right (s : Str) : splitW (right s) = splitW s := by
  obtain ⟨g, hg, hb⟩ := right_split s
  cases g with
  | nil => rw [List.append_nil] at hg; rw [← hg]
  | cons c g =>
    have := splitW_gap (g := c :: g) ⟨by simp, hb⟩ (right s) []
    rw [List.append_nil, ← hg] at this
    rw [this]
    simp [splitW, spl]
theorem splitW_left (s : Str) : splitW (left s) = splitW s := spl_left s
theorem splitW_trim (s : Str) : splitW (trim s) = splitW s := by rw [trim, splitW_right, splitW_left]
theorem left_all {s : Str} (h : left s = []) : ∀ c ∈ s, isBlank c = true := by
  intro c hc
  have h2 := List.takeWhile_append_dropWhile (p := isBlank) (l := s)
  rw [show s.dropWhile isBlank = [] from h, List.append_nil] at h2
  rw [← h2] at hc
  exact List.all_eq_true.1 (List.all_takeWhile (p := isBlank) (l := s)) c hc
theorem splitW_nil {s : Str} (h : splitW s = []) : left s = [] := by
  rw [← splitW_left] at h
  cases hl : left s with
  | nil => rfl
  | cons c r =>
    rw [splitW_word (left_left s) (by rw [hl]; simp)] at h
    cases h
theorem splitW_one {s x : Str} (h : splitW s = [x]) : trim s = x := by
  have hne : left s ≠ [] := by
    intro e
    rw [← splitW_left, e] at h
    cases h
  rw [← splitW_left, splitW_word (left_left s) hne] at h
  simp only [List.cons.injEq] at h
  obtain ⟨h1, h2⟩ := h
  have h3 := left_all (by rw [← left_left]; exact splitW_nil h2)
  have h4 : left s = x ++ (left s).drop (wlen (left s)) := by rw [← h1, List.take_append_drop]
  have hx : ∀ c ∈ x, isBlank c = false := by
    intro c hc
    rw [← h1, take_wlen] at hc
    have := List.all_eq_true.1 (List.all_takeWhile (p := fun c => !isBlank c) (l := left s)) c hc
    simpa using this
  have hxn : x ≠ [] := by
    intro e
    have := wlen_pos (left_left s) hne
    have h5 := congrArg List.length h1
    rw [List.length_take, e, List.length_nil] at h5
    have := wlen_le (left s)
    omega
  have hw : Word x := ⟨hxn, hx⟩
  rw [trim, h4, right_blank _ _ h3]
  have := hw.right_app []
  simpa using this
end Go.Proofs.YtckgeebihhhapaaDoor.Sx
