/-
  Rules of plain words: plain.
-/
import Derived.Test.YtckgeebihhhapaaDoorG32
import Derived.Test.YtckgeebihhhapaaDoorG21
set_option linter.unusedVariables false
set_option linter.unusedSimpArgs false
set_option maxRecDepth 20000
set_option maxHeartbeats 4000000
namespace Go.Proofs.YtckgeebihhhapaaDoor.Sx
open Go Go.RowKit Go.Proofs

/-! ### Texts without references -/
/-- No dollar, no colon. -/
def Calm (x : Str) : Prop := ∀ c ∈ x, c ≠ 36 ∧ c ≠ 58
theorem Calm.app {x y : Str} (h : Calm x) (k : Calm y) : Calm (x ++ y) := fun c hc => by
  rcases List.mem_append.1 hc with hc | hc
  · exact h c hc
  · exact k c hc
theorem outs_calm {c : UInt8} (h : c ≠ 36) (r : Str) : outs 0 (c :: r) = true :: outs 0 r := by
  have h1 : (c == 36) = false := by simpa using h
  rw [outs.eq_def]
  simp [h1]
theorem firstO_calm : ∀ (x r : Str) (i : Nat), Calm x → firstO (· == 58) i (outs 0 (x ++ 58 :: r)) (x ++ 58 :: r) = some (i + x.length)
  | [], r, i, _ => by
    rw [List.nil_append, outs_calm (by decide), firstO_cons]
    rfl
  | c :: x, r, i, h => by
    obtain ⟨h1, h2⟩ := h c List.mem_cons_self
    have h3 : (c == 58) = false := by simpa using h2
    rw [List.cons_append, outs_calm h1, firstO_cons, h3, Bool.and_false, if_neg (by decide), firstO_calm x r (i + 1) (fun d hd => h d (List.mem_cons_of_mem _ hd)), List.length_cons]
    congr 1
    omega
theorem firstO_none : ∀ (x : Str) (i : Nat), Calm x → firstO (· == 58) i (outs 0 x) x = none
  | [], i, _ => by cases outs 0 [] <;> rfl
  | c :: x, i, h => by
    obtain ⟨h1, h2⟩ := h c List.mem_cons_self
    have h3 : (c == 58) = false := by simpa using h2
    rw [outs_calm h1, firstO_cons, h3, Bool.and_false, if_neg (by decide), firstO_none x (i + 1) (fun d hd => h d (List.mem_cons_of_mem _ hd))]
theorem place_calm {x : Str} (h : Calm x) (r : Str) : place 58 (x ++ 58 :: r) = (x.length : Int) := by
  unfold place
  rw [scan_firstO _ _ (by decide) _ _ (Nat.le_refl _), firstO_calm x r 0 h]
  simp [idxOf]
theorem place_none {x : Str} (h : Calm x) : place 58 x = -1 := by
  unfold place
  rw [scan_firstO _ _ (by decide) _ _ (Nat.le_refl _), firstO_none x 0 h]
  rfl
/-! ### Words, each behind a blank -/
def joinS : List Str → Str
  | [] => []
  | w :: r => [32] ++ w ++ joinS r
theorem joinS_app : ∀ (l m : List Str), joinS (l ++ m) = joinS l ++ joinS m
  | [], m => rfl
  | w :: l, m => by
    rw [List.cons_append, joinS, joinS, joinS_app l m]
    simp
/-- A word of these, calm. -/
structure CalmW (w : Str) : Prop where
  word : Word w
  calm : Calm w
theorem joinS_calm : ∀ (l : List Str), (∀ w ∈ l, CalmW w) → Calm (joinS l)
  | [], _ => fun c hc => by cases hc
  | w :: l, h => by
    rw [joinS]
    refine Calm.app (Calm.app (fun c hc => ?_) (h w (by simp)).calm) (joinS_calm l fun x hx => h x (by simp [hx]))
    rw [List.mem_singleton.1 hc]
    decide
theorem splitW_word1 {w : Str} (h : Word w) (l : List Str) (hl : ∀ x ∈ l, Word x) : splitW (w ++ joinS l) = w :: splitW (joinS l) := by
  cases l with
  | nil =>
    rw [joinS, List.append_nil, h.split]
    rfl
  | cons x r =>
    have e : w ++ joinS (x :: r) = w ++ [32] ++ (x ++ joinS r) := by simp [joinS]
    have e2 : joinS (x :: r) = [32] ++ (x ++ joinS r) := by simp [joinS]
    have hb : ∀ c ∈ ([32] : Str), isBlank c = true := fun c hc => by rw [List.mem_singleton.1 hc]; rfl
    rw [e, splitW_gap ⟨by simp, hb⟩, h.split, e2, splitW_blank hb]
    rfl
theorem splitW_joinS : ∀ (l : List Str), (∀ w ∈ l, Word w) → splitW (joinS l) = l
  | [], _ => rfl
  | w :: l, h => by
    have hb : ∀ c ∈ ([32] : Str), isBlank c = true := fun c hc => by rw [List.mem_singleton.1 hc]; rfl
    rw [joinS, List.append_assoc, splitW_blank hb, splitW_word1 (h w (by simp)) l (fun x hx => h x (by simp [hx])), splitW_joinS l (fun x hx => h x (by simp [hx]))]
theorem bar_none : ∀ (l : List Str), (∀ w ∈ l, w ≠ [124]) → bar l = (l, [])
  | [], _ => rfl
  | w :: l, h => by rw [bar, if_neg (h w (by simp)), bar_none l (fun x hx => h x (by simp [hx]))]
theorem bar_at : ∀ (l m : List Str), (∀ w ∈ l, w ≠ [124]) → bar (l ++ [124] :: m) = (l, m)
  | [], m, _ => by rw [List.nil_append, bar, if_pos rfl]
  | w :: l, m, h => by rw [List.cons_append, bar, if_neg (h w (by simp)), bar_at l m (fun x hx => h x (by simp [hx]))]
/-! ### The words of the law -/
def tbl6 : List Str := [[97], [98, 46, 99], [100, 105, 114, 47, 120], [121, 45, 49], [122, 46, 111], [102, 111, 111]]
theorem tbl_at {l : List Str} {n v : Int} (hn : 0 < n) (hl : n = l.length) : (nth (t := .str) l (v % n) : Str) ∈ l := by
  have h1 := Int.emod_nonneg v (show n ≠ 0 by omega)
  have h2 := Int.emod_lt_of_pos v hn
  have h3 : (v % n).toNat < l.length := by omega
  simp only [nth, List.getD_eq_getElem?_getD, List.getElem?_eq_getElem h3, Option.getD_some]
  exact List.getElem_mem h3
theorem tbl6_calm {w : Str} (h : w ∈ tbl6) : CalmW w := by
  have h1 : (tbl6.all fun w => !w.isEmpty && w.all fun c => !isBlank c && c != 36 && c != 58) = true := by decide
  have h2 := List.all_eq_true.1 h1 w h
  rw [Bool.and_eq_true] at h2
  refine ⟨⟨fun e => ?_, fun c hc => ?_⟩, fun c hc => ?_⟩
  · rw [e] at h2; cases h2.1
  · have := List.all_eq_true.1 h2.2 c hc
    simp only [Bool.and_eq_true, Bool.not_eq_true'] at this
    exact this.1.1
  · have := List.all_eq_true.1 h2.2 c hc
    simp only [Bool.and_eq_true, bne_iff_ne] at this
    exact ⟨this.1.2, this.2⟩
theorem tbl6_bar {w : Str} (h : w ∈ tbl6) : w ≠ [124] := by
  intro e
  subst e
  revert h
  decide
theorem tbl6_hasP {w : Str} (h : w ∈ tbl6) : hasP w = false := by
  have h1 : (tbl6.all fun w => !hasP w) = true := by kernel_rfl
  simpa using List.all_eq_true.1 h1 w h
def orderT (c : List Str) : Str := if c = [] then [] else [32, 124] ++ joinS c
def plainT (a b c : List Str) (dbl : Bool) : Str := joinS a ++ 58 :: ((if dbl then [58] else []) ++ (joinS b ++ orderT c))
theorem orderT_calm {c : List Str} (h : ∀ w ∈ c, CalmW w) : Calm (orderT c) := by
  unfold orderT
  split
  · intro d hd; cases hd
  · refine Calm.app (fun d hd => ?_) (joinS_calm c h)
    simp only [List.mem_cons, List.not_mem_nil, or_false] at hd
    rcases hd with rfl | rfl <;> decide
theorem order_split {b c : List Str} (hb : ∀ w ∈ b, Word w) (hc : ∀ w ∈ c, Word w) : splitW (joinS b ++ orderT c) = b ++ (if c = [] then [] else [124] :: c) := by
  unfold orderT
  by_cases e : c = []
  · rw [if_pos e, if_pos e, List.append_nil, List.append_nil, splitW_joinS b hb]
  · rw [if_neg e, if_neg e]
    have h1 : joinS b ++ ([32, 124] ++ joinS c) = joinS (b ++ [124] :: c) := by
      rw [joinS_app, joinS]
      simp
    rw [h1, splitW_joinS]
    intro w hw
    rcases List.mem_append.1 hw with hw | hw
    · exact hb w hw
    · rcases List.mem_cons.1 hw with rfl | hw
      · exact ⟨by simp, fun c hc => by rw [List.mem_singleton.1 hc]; rfl⟩
      · exact hc w hw
theorem no_colon {x : Str} (h : Calm x) : hasPre x [58] = false := by
  cases x with
  | nil => rfl
  | cons c r =>
    have h2 := (h c List.mem_cons_self).2
    show ((58 : UInt8) == c && true) = false
    rw [Bool.and_true, beq_eq_false_iff_ne]
    exact fun e => h2 e.symm
theorem any_no {l : List Str} (h : ∀ w ∈ l, w ∈ tbl6) : l.any hasP = false := by
  rw [List.any_eq_false]
  intro w hw
  rw [tbl6_hasP (h w hw)]
  decide
theorem plain_rule {a b c : List Str} (ha : ∀ w ∈ a, w ∈ tbl6) (hb : ∀ w ∈ b, w ∈ tbl6) (hc : ∀ w ∈ c, w ∈ tbl6) (dbl : Bool) :
    ruleF (plainT a b c dbl) = if a = [] then ([], 16) else ([(a, b, c, [], dbl, false, [], 0)], 0) := by
  have hp := place_calm (joinS_calm a fun w hw => tbl6_calm (ha w hw)) ((if dbl then [58] else []) ++ (joinS b ++ orderT c))
  have hs := splitW_joinS a fun w hw => (tbl6_calm (ha w hw)).word
  have hcalm : Calm (joinS b ++ orderT c) := Calm.app (joinS_calm b fun w hw => tbl6_calm (hb w hw)) (orderT_calm fun w hw => tbl6_calm (hc w hw))
  have htail : trimPre ((if dbl then [58] else []) ++ (joinS b ++ orderT c)) [58] = joinS b ++ orderT c ∧ hasPre ((if dbl then [58] else []) ++ (joinS b ++ orderT c)) [58] = dbl := by
    cases dbl with
    | true => exact ⟨rfl, rfl⟩
    | false =>
      have h1 := no_colon hcalm
      refine ⟨?_, h1⟩
      show trimPre (joinS b ++ orderT c) [58] = _
      rw [trimPre, if_neg (by rw [h1]; decide)]
  unfold ruleF plainT
  rw [hp, if_neg (by omega), Int.toNat_natCast, List.take_left, hs]
  by_cases e : a = []
  · rw [if_pos e, if_pos e]
  · rw [if_neg e, if_neg e]
    have hd : (joinS a ++ 58 :: ((if dbl then [58] else []) ++ (joinS b ++ orderT c))).drop ((joinS a).length + 1) = (if dbl then [58] else []) ++ (joinS b ++ orderT c) := by
      rw [List.drop_append]
      simp
    rw [hd, htail.1, htail.2]
    unfold tailF1
    rw [place_none hcalm, if_neg (by decide), any_no ha, Bool.false_and, if_neg (by decide), partsF, order_split (fun w hw => (tbl6_calm (hb w hw)).word) (fun w hw => (tbl6_calm (hc w hw)).word)]
    have hbar : bar (b ++ (if c = [] then [] else [124] :: c)) = (b, c) := by
      by_cases e2 : c = []
      · rw [if_pos e2, e2, List.append_nil, bar_none b fun w hw => tbl6_bar (hb w hw)]
      · rw [if_neg e2, bar_at b c fun w hw => tbl6_bar (hb w hw)]
    rw [hbar]
end Go.Proofs.YtckgeebihhhapaaDoor.Sx
