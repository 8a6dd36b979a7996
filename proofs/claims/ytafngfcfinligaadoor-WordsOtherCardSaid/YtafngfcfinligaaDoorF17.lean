/-
  WordsBack.
-/
import Derived.Test.YtafngfcfinligaaDoorF16
import Derived.Test.YtafngfcfinligaaDoorF10
set_option linter.unusedVariables false
set_option linter.unusedSimpArgs false
set_option maxRecDepth 20000
set_option maxHeartbeats 4000000
namespace Go.Proofs.YtafngfcfinligaaDoor.Sx
open Go Go.RowKit Go.Proofs

/-! ### Plain -/
theorem spl_cut (c : UInt8) (hc : isBlank c = true) (y : Str) : ∀ (x acc : Str), spl acc (x ++ c :: y) = spl acc x ++ spl [] y := by
  intro x
  induction x with
  | nil =>
    intro acc
    simp only [List.nil_append, spl, hc, if_true]
    split <;> simp
  | cons d x ih =>
    intro acc
    simp only [List.cons_append, spl]
    split
    · split
      · exact ih []
      · rw [ih []]; rfl
    · exact ih _
/-- Bytes that are no blanks, one at least. -/
structure Word (w : Str) : Prop where
  ne : w ≠ []
  no : ∀ c ∈ w, isBlank c = false
theorem Word.tw {w : Str} (h : Word w) : w.takeWhile (fun c => !isBlank c) = w := by
  have : ∀ l : Str, (∀ c ∈ l, isBlank c = false) → l.takeWhile (fun c => !isBlank c) = l := by
    intro l
    induction l with
    | nil => intro _; rfl
    | cons c l ih => intro h; simp [List.takeWhile_cons, h c (by simp), ih (fun d hd => h d (by simp [hd]))]
  exact this w h.no
theorem Word.split {w : Str} (h : Word w) : splitW w = [w] := by
  have hd : w.dropWhile (fun c => !isBlank c) = [] := by
    have := List.takeWhile_append_dropWhile (p := fun c => !isBlank c) (l := w)
    rw [h.tw] at this
    exact List.append_cancel_left (this.trans (List.append_nil w).symm)
  simp only [splitW]
  rw [spl_word w [] (by rw [h.tw]; simpa using h.ne), h.tw, hd]
  rfl
structure Gap (g : Str) : Prop where
  ne : g ≠ []
  all : ∀ c ∈ g, isBlank c = true
theorem splitW_blank {g : Str} (h : ∀ c ∈ g, isBlank c = true) (s : Str) : splitW (g ++ s) = splitW s := by
  simp only [splitW]
  rw [← spl_left (g ++ s), ← spl_left s]
  congr 1
  induction g with
  | nil => rfl
  | cons c g ih =>
    have hc := h c (by simp)
    simp only [left, List.cons_append, List.dropWhile_cons, hc, if_true]
    exact ih (fun d hd => h d (by simp [hd]))
theorem splitW_gap {g : Str} (h : Gap g) (x s : Str) : splitW (x ++ g ++ s) = splitW x ++ splitW s := by
  cases g with
  | nil => exact absurd rfl h.ne
  | cons c g =>
    have := spl_cut c (h.all c (by simp)) (g ++ s) x []
    simp only [splitW, List.append_assoc, List.cons_append]
    rw [this]
    congr 1
    exact splitW_blank (fun d hd => h.all d (by simp [hd])) s
theorem splitW_snoc {g w : Str} (hg : Gap g) (hw : Word w) (s : Str) : splitW (s ++ g ++ w) = splitW s ++ [w] := by rw [splitW_gap hg, hw.split]
theorem splitW_joinW : ∀ (l : List Str), (∀ w ∈ l, Word w) → splitW (joinW l) = l
  | [], _ => rfl
  | [a], h => (h a (by simp)).split
  | a :: b :: l, h => by
    have e : joinW (a :: b :: l) = a ++ [32] ++ joinW (b :: l) := by simp [joinW]
    rw [e, splitW_gap ⟨by simp, by simp [isBlank]⟩, (h a (by simp)).split, splitW_joinW (b :: l) (fun w hw => h w (by simp [hw]))]
    rfl
theorem Word.right_app {w : Str} (h : Word w) (s : Str) : right (s ++ w) = s ++ w := by
  have hne : w.reverse ≠ [] := by simpa using h.ne
  simp only [right, List.reverse_append]
  cases hr : w.reverse with
  | nil => exact absurd hr hne
  | cons c r =>
    have hc : isBlank c = false := h.no c (by rw [← List.mem_reverse, hr]; simp)
    simp only [List.cons_append, List.dropWhile_cons, hc, Bool.false_eq_true, if_false]
    rw [← List.cons_append, ← hr]
    simp
theorem word_Word (v : Int) : Word (word v) := by
  have : ∀ w ∈ tblWord, w ≠ [] ∧ ∀ c ∈ w, isBlank c = false := by decide
  exact ⟨(this _ (word_mem v)).1, (this _ (word_mem v)).2⟩

def tblBlank : List Str := [[32], [9], [10], [32, 32, 9], [32, 10, 32]]
theorem tblBlank_gap (v : Int) : Gap (nth (t := .str) tblBlank (v % 5)) ∧ (nth (t := .str) tblBlank (v % 5) : Str).length ≤ 3 := by
  have : ∀ g ∈ tblBlank, (g ≠ [] ∧ ∀ c ∈ g, isBlank c = true) ∧ g.length ≤ 3 := by decide
  have h := this _ (nth_mem (n := 5) (l := tblBlank) (v := v) (by decide) rfl)
  exact ⟨⟨h.1.1, h.1.2⟩, h.2⟩

/-- What has been put together. -/
structure Put (w : List Str) (s : Str) : Prop where
  words : ∀ x ∈ w, Word x
  short : ∀ x ∈ w, x.length ≤ 9
  split : splitW s = w
  len : s.length ≤ 12 * w.length
  right : Sx.right s = s
theorem Put.nil : Put [] [] := ⟨by simp, by simp, rfl, by simp, rfl⟩
theorem Put.snoc {w : List Str} {s g x : Str} (h : Put w s) (hg : Gap g) (hg3 : g.length ≤ 3) (hx : Word x) (hx9 : x.length ≤ 9) : Put (w ++ [x]) (s ++ g ++ x) := by
  refine ⟨fun y hy => ?_, fun y hy => ?_, by rw [splitW_snoc hg hx, h.split], ?_, hx.right_app _⟩
  · rcases List.mem_append.1 hy with hy | hy
    · exact h.words y hy
    · rw [List.mem_singleton.1 hy]; exact hx
  · rcases List.mem_append.1 hy with hy | hy
    · exact h.short y hy
    · rw [List.mem_singleton.1 hy]; exact hx9
  · have := h.len
    simp only [List.length_append, List.length_cons, List.length_nil]
    omega
theorem Put.trim {w : List Str} {s : Str} (h : Put w s) : Sx.trim (s ++ [32]) = left s := by
  rw [Sx.trim, ← trim_comm, right_blank s [32] (by simp [isBlank]), h.right]

/-! ### The walk -/
theorem c_WordsBack (l bs : List Int) (hl : okInts l) (hb : okInts bs) : CallV Tryd.prog 7 [vL (.int .i64) l, vL (.int .i64) bs] (vB true) := by
  refine CallV.of Tryd.func7 (by kernel_rfl) rfl Tryd.ntmps7 (by simp) rfl fun cx hB => ?_
  refine Tr.seq ?_; refine Tr.region ?_; refine TrL.quiets 1 rfl (by exact True.intro) ?_; refine TrL.nil ?_; refine Tr.seq ?_; refine Tr.region ?_; refine TrL.quiets 1 rfl (by exact True.intro) ?_; refine TrL.nil ?_; refine Tr.seq ?_; refine Tr.region ?_; refine TrL.quiets 1 rfl (by exact True.intro) ?_; refine TrL.nil ?_; refine Tr.seq ?_; refine Tr.seq ?_; refine Tr.region ?_; refine TrL.quiets 1 rfl (by exact True.intro) ?_; refine TrL.nil ?_; refine Tr.block ?_
  refine Tr.nilRow 5 9 .str rfl ?_
  refine Tr.loop (fun ((i, w, s) : Nat × List Str × Str) => ⟨[(0, [], vL (.int .i64) l), (1, [], vL (.int .i64) bs), (5, [], .own 0), (6, [], vS s), (7, [], vI i)], [.gs 9 .str w]⟩)
    (fun (i, w, s) => i ≤ 40 ∧ w.length = i ∧ Put w s) (fun (i, w, s) => 40 - i) (0, [], []) [0, 1, 5, 6, 7] 1 (fun i h => by have := hB i h; omega) rfl ⟨by decide, rfl, Put.nil⟩ fun x hx => ?_
  obtain ⟨i, w, s⟩ := x
  obtain ⟨hi, hwl, hp⟩ := hx
  refine Tr.seq ?_; refine Tr.seq ?_; refine Tr.region ?_; refine TrL.quiets 8 rfl (by exact True.intro) ?_; refine TrL.nil ?_
  refine Tr.cond rfl (fun h1 => ?_) (fun h1 => ?_)
  · simp only [Bool.and_eq_true, decide_eq_true_eq] at h1
    have hi1 : i < l.length := by omega
    obtain ⟨hv1, hv2⟩ := okInts_nth hl i
    refine Tr.skip ?_; refine Tr.seq ?_; refine Tr.block ?_; refine Tr.seq ?_; refine Tr.region ?_; refine TrL.quiets 5 rfl (by (simp only [allOf, impO, imp, inR, loOk, and_true]; omega)) ?_
    first | refine TrL.callV rfl rfl rfl rfl rfl (c_Word _ hv1 hv2) ?_ | refine TrD.callV rfl rfl rfl rfl rfl (c_Word _ hv1 hv2) rfl ?_
    generalize hx : nth (t := .int .i64) l (i : Int) = v at *
    refine TrL.eff (effLit_sound rfl) (by exact True.intro) ?_; refine TrL.eff (effAppend_sound rfl) ?_ ?_
    · show w.length + 1 ≤ 1099511627776
      omega
    refine TrL.quiets 1 rfl (by exact True.intro) ?_; refine TrL.nil ?_; refine Tr.seq ?_; refine Tr.region ?_; refine TrL.quiets 1 rfl (by exact True.intro) ?_; refine TrL.nil ?_
    refine Tr.join (fun (g : Str) => ⟨[(0, [], vL (.int .i64) l), (1, [], vL (.int .i64) bs), (5, [], .own 0), (6, [], vS s), (7, [], vI i), (8, [], vS g)], [.gs 9 .str (w ++ [word v])]⟩) (fun g => Gap g ∧ g.length ≤ 3)
      [0, 1, 5, 6, 7, 8] 1 (fun i h => by have := hB i h; omega) ?_ fun g hg => ?_
    · refine Tr.seq ?_; refine Tr.region ?_; refine TrL.quiets 4 rfl (by exact True.intro) ?_; refine TrL.nil ?_
      refine Tr.cond rfl (fun h2 => ?_) (fun h2 => ?_)
      · have hi2 : i < bs.length := by
          have : ((i : Nat) : Int) < (bs.length : Int) := of_decide_eq_true h2
          omega
        obtain ⟨hw1, hw2⟩ := okInts_nth hb i
        refine Tr.region ?_; refine TrL.quiets 5 rfl (by (simp only [allOf, impO, imp, inR, loOk, and_true]; omega)) ?_
        first | refine TrL.callV rfl rfl rfl rfl rfl (c_Place _ 5 (by decide) (by decide) hw1 hw2) ?_ | refine TrD.callV rfl rfl rfl rfl rfl (c_Place _ 5 (by decide) (by decide) hw1 hw2) rfl ?_
        refine TrL.quiets 2 rfl (by (simp only [allOf, impO, imp, inR, loOk, and_true]; omega)) ?_; refine TrL.nil ?_
        exact ⟨_, tblBlank_gap _, rfl⟩
      · refine Tr.skip ?_
        exact ⟨[32], ⟨⟨by simp, by simp [isBlank]⟩, by decide⟩, rfl⟩
    · have hn : nth (t := .str) (w ++ [word v]) (i : Int) = word v := by
        rw [nth_get' (t := .str) _ i (by simp; omega)]
        simp [← hwl]
      have hw9 := word_le v
      have hlen := hp.len
      obtain ⟨hg1, hg2⟩ := hg
      refine Tr.region ?_; refine TrL.quiets 9 rfl ?_ ?_
      · simp only [allOf, impO, imp, inR, loOk, and_true, hn]
        simp only [List.length_append, List.length_cons, List.length_nil]
        omega
      refine TrL.nil ?_; refine Tr.region ?_; refine TrL.quiets 3 rfl (by exact True.intro) ?_; refine TrL.nil ?_
      refine ⟨(i + 1, w ++ [word v], s ++ g ++ word v), ⟨by omega, by simp [hwl], hp.snoc hg1 hg2 (word_Word v) hw9⟩, by dsimp only; omega, ?_⟩
      refine Eq.trans (b := (⟨[(_, [], _), (_, [], _), (_, [], _), (_, [], _), (_, [], _)], [_]⟩ : St)) rfl ?_
      rw [w64n (y := i + 1) (by omega) (by omega), hn]
  refine Tr.exit ?_; refine Tr.seq ?_; refine Tr.region ?_; refine TrL.quiets 1 rfl (by exact True.intro) ?_
  have hjl := joinW_le w 9 hp.short
  have hlen := hp.len
  have hle : s.length ≤ 480 := by omega
  have hsw : strip s = joinW w := by simp only [strip, hp.split]
  have hjw := splitW_joinW w hp.words
  first | refine TrL.callV rfl rfl rfl rfl rfl (c_words_Strip s (by omega)) ?_ | refine TrD.callV rfl rfl rfl rfl rfl (c_words_Strip s (by omega)) rfl ?_
  refine TrL.quiets 1 rfl (by exact True.intro) ?_; refine TrL.nil ?_; refine Tr.seq ?_; refine Tr.region ?_; refine TrL.quiets 1 rfl (by exact True.intro) ?_
  first | refine TrL.callV rfl rfl rfl rfl rfl (c_Split s (by omega)) ?_ | refine TrD.callV rfl rfl rfl rfl rfl (c_Split s (by omega)) rfl ?_
  refine TrL.quiets 1 rfl (by exact True.intro) ?_
  first | refine TrL.callV rfl rfl rfl rfl rfl (c_ref_Same _ _ (by rw [hp.split]; omega)) ?_ | refine TrD.callV rfl rfl rfl rfl rfl (c_ref_Same _ _ (by rw [hp.split]; omega)) rfl ?_
  refine TrL.quiets 2 rfl (by exact True.intro) ?_
  first | refine TrL.callV rfl rfl rfl rfl rfl (c_words_Join w (by omega) (by omega)) ?_ | refine TrD.callV rfl rfl rfl rfl rfl (c_words_Join w (by omega) (by omega)) rfl ?_
  first | refine TrL.callV rfl rfl rfl rfl rfl (c_Split (joinW w) (by omega)) ?_ | refine TrD.callV rfl rfl rfl rfl rfl (c_Split (joinW w) (by omega)) rfl ?_
  refine TrL.quiets 1 rfl (by exact True.intro) ?_
  first | refine TrL.callV rfl rfl rfl rfl rfl (c_ref_Same _ _ (by rw [hjw]; omega)) ?_ | refine TrD.callV rfl rfl rfl rfl rfl (c_ref_Same _ _ (by rw [hjw]; omega)) rfl ?_
  refine TrL.quiets 4 rfl (by exact True.intro) ?_
  first | refine TrL.callV rfl rfl rfl rfl rfl (c_words_Join w (by omega) (by omega)) ?_ | refine TrD.callV rfl rfl rfl rfl rfl (c_words_Join w (by omega) (by omega)) rfl ?_
  refine TrL.quiets 4 rfl (by exact True.intro) ?_
  first | refine TrL.callV rfl rfl rfl rfl rfl (c_words_Strip (strip s) (by rw [hsw]; omega)) ?_ | refine TrD.callV rfl rfl rfl rfl rfl (c_words_Strip (strip s) (by rw [hsw]; omega)) rfl ?_
  refine TrL.quiets 6 rfl (by (simp (disch := omega) only [allOf, impO, imp, inR, loOk, and_true, w64, List.length_set, List.length_cons, List.length_nil, Option.getD_none, Option.getD_some, Ty.D, true_and, decide_eq_true_eq, decide_eq_false_iff_not, Bool.and_eq_true, Bool.or_eq_false_iff]; omega)) ?_
  first | refine TrL.callV rfl rfl rfl rfl rfl (c_words_Trim _ (by simp; omega)) ?_ | refine TrD.callV rfl rfl rfl rfl rfl (c_words_Trim _ (by simp; omega)) rfl ?_
  refine TrL.quiets 1 rfl (by exact True.intro) ?_
  first | refine TrL.callV rfl rfl rfl rfl rfl (c_words_Left s) ?_ | refine TrD.callV rfl rfl rfl rfl rfl (c_words_Left s) rfl ?_
  refine TrL.quiets 3 rfl (by exact True.intro) ?_
  first | refine TrL.callV rfl rfl rfl rfl rfl c_awake01 ?_ | refine TrD.callV rfl rfl rfl rfl rfl c_awake01 rfl ?_
  refine TrL.quiets 2 rfl (by exact True.intro) ?_; refine TrL.nil ?_; refine Tr.ret ?_
  refine retQ.of rfl ?_
  refine congrArg vB ?_
  have ht := hp.trim
  have h3 : strip (joinW w) = joinW w := by simp only [strip, hjw]
  simp only [hp.split, hjw, hsw, h3]
  simp
  exact ht
end Go.Proofs.YtafngfcfinligaaDoor.Sx
