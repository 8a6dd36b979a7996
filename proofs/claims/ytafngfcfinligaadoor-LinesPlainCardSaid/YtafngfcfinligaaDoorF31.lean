/-
  LinesRecipes.
-/
import Derived.Test.YtafngfcfinligaaDoorF30
set_option linter.unusedVariables false
set_option linter.unusedSimpArgs false
set_option maxRecDepth 20000
set_option maxHeartbeats 4000000
namespace Go.Proofs.YtafngfcfinligaaDoor.Sx
open Go Go.RowKit Go.Proofs

/-! ### Plain -/
/-- A raw line within a text. -/
theorem raw_at (P x y : Str) (hx : ∀ c ∈ x, c ≠ 10) : rawS (P ++ x ++ 10 :: y) P.length = x ∧ rawN (P ++ x ++ 10 :: y) P.length = P.length + x.length + 1 := by
  have hd : (P ++ x ++ 10 :: y).drop P.length = x ++ 10 :: y := by rw [List.append_assoc]; exact List.drop_left
  have hs : rawS (P ++ x ++ 10 :: y) P.length = x := by
    rw [rawS, hd]
    clear hd
    induction x with
    | nil => rfl
    | cons c x ih =>
      have hc : c ≠ 10 := hx c (by simp)
      rw [List.cons_append, List.takeWhile_cons, if_pos (by simpa [notNl] using hc)]
      rw [ih (fun d hd => hx d (by simp [hd]))]
  refine ⟨hs, ?_⟩
  rw [rawN, hs, hd, if_pos (by simp)]
theorem bsl_last (x y : Str) (c : UInt8) (hc : c ≠ 92) : bsl (x ++ (y ++ [c])) = 0 := by rw [← List.append_assoc, bsl_snoc, if_neg hc]

/-- A word that no line's end, no backslash is in. -/
structure LWord (w : Str) : Prop where
  nl : ∀ c ∈ w, c ≠ 10 ∧ c ≠ 92 ∧ c ≠ 35 ∧ isBlank c = false
  ne : w ≠ []
theorem word_LWord (v : Int) : LWord (word v) := by
  have : ∀ w ∈ tblWord, (∀ c ∈ w, c ≠ 10 ∧ c ≠ 92 ∧ c ≠ 35 ∧ isBlank c = false) ∧ w ≠ [] := by decide
  exact ⟨(this _ (word_mem v)).1, (this _ (word_mem v)).2⟩
theorem LWord.bsl {w : Str} (h : LWord w) (x : Str) : bsl (x ++ w) = 0 := by
  rcases List.eq_nil_or_concat w with e | ⟨y, c, e⟩
  · exact absurd e h.ne
  · subst e
    rw [List.concat_eq_append]
    exact bsl_last x y c (h.nl c (by simp)).2.1

abbrev Round := Bool × Str
def tabB (b : Bool) : Str := if b then [9] else []
def nextT : Str := [110, 101, 120, 116, 32, 35, 32, 121]
def endB (r : List Round) : Str := if r.isEmpty then [] else [92]
def restT : List Round → Str
  | [] => nextT ++ [10]
  | (b, w) :: r => (tabB b ++ 32 :: w ++ endB r) ++ 10 :: restT r
def mid : List Round → Str
  | [] => []
  | (b, w) :: r => 92 :: 10 :: (tabB b ++ 32 :: w) ++ mid r
def wantT : List Round → Str
  | [] => []
  | (b, w) :: r => 92 :: 10 :: 32 :: w ++ wantT r
theorem restT_len : ∀ r : List Round, 9 ≤ (restT r).length
  | [] => by decide
  | (b, w) :: r => by
    have := restT_len r
    simp only [restT, List.length_append, List.length_cons]
    omega
theorem mid_rest : ∀ r : List Round, mid r ++ 10 :: (nextT ++ [10]) = endB r ++ 10 :: restT r
  | [] => rfl
  | (b, w) :: r => by
    have ih := mid_rest r
    simp only [mid, restT, endB, List.isEmpty_cons, Bool.false_eq_true, if_false, List.cons_append, List.append_assoc, List.nil_append]
    rw [ih]
    rfl
theorem mid_snoc (r : List Round) (b : Bool) (w : Str) : mid (r ++ [(b, w)]) = mid r ++ (92 :: 10 :: (tabB b ++ 32 :: w)) := by
  induction r with
  | nil => simp [mid]
  | cons x r ih =>
    obtain ⟨b', w'⟩ := x
    simp only [List.cons_append, mid, ih, List.append_assoc]
theorem wantT_snoc (r : List Round) (b : Bool) (w : Str) : wantT (r ++ [(b, w)]) = wantT r ++ (92 :: 10 :: 32 :: w) := by
  induction r with
  | nil => simp [wantT]
  | cons x r ih =>
    obtain ⟨b', w'⟩ := x
    simp only [List.cons_append, wantT, ih, List.append_assoc]
theorem trim_round (b : Bool) (x : Str) : trimPre (tabB b ++ 32 :: x) [9] = 32 :: x := by
  cases b
  · rw [trimPre, if_neg (by simp [tabB, hasPre])]
    rfl
  · rw [trimPre, if_pos (by simp [tabB, hasPre])]
    rfl
theorem more_rounds : ∀ (r : List Round) (P u : Str) (n : Nat), (∀ x ∈ r, LWord x.2) → bsl u = 0 →
    more joinRec (P ++ restT r) (u ++ endB r) P.length n = (u ++ wantT r, (P ++ restT r).length - 9, n + r.length)
  | [], P, u, n, hr, hu => by
    rw [more_stop (by simp [endB, hu])]
    simp [endB, wantT, restT, nextT]
  | (b, w) :: r, P, u, n, hr, hu => by
    have hw : LWord w := hr (b, w) (by simp)
    have hx : ∀ c ∈ tabB b ++ 32 :: w ++ endB r, c ≠ 10 := by
      intro c hc
      simp only [List.mem_append, List.mem_cons] at hc
      rcases hc with (hc | hc | hc) | hc
      · cases b <;> simp [tabB] at hc
        subst hc; decide
      · subst hc; decide
      · exact (hw.nl c hc).1
      · cases r <;> simp [endB] at hc
        subst hc; decide
    obtain ⟨h1, h2⟩ := raw_at P _ (restT r) hx
    have ht : P ++ restT ((b, w) :: r) = P ++ (tabB b ++ 32 :: w ++ endB r) ++ 10 :: restT r := by simp [restT]
    have hb : bsl (u ++ endB ((b, w) :: r)) % 2 = 1 := by
      show bsl (u ++ [92]) % 2 = 1
      rw [bsl_snoc, if_pos rfl, hu]
    rw [more_step hb (by rw [ht]; simp; omega), ht, h1, h2]
    have hj : joinRec (u ++ endB ((b, w) :: r)) (tabB b ++ 32 :: w ++ endB r) = (u ++ 92 :: 10 :: 32 :: w) ++ endB r := by
      have := trim_round b (w ++ endB r)
      simp only [joinRec, List.append_assoc, List.cons_append] at this ⊢
      rw [this]
      simp [endB]
    rw [hj]
    have hP : P ++ (tabB b ++ 32 :: w ++ endB r) ++ 10 :: restT r = (P ++ (tabB b ++ 32 :: w ++ endB r) ++ [10]) ++ restT r := by simp
    have hl : P.length + (tabB b ++ 32 :: w ++ endB r).length + 1 = (P ++ (tabB b ++ 32 :: w ++ endB r) ++ [10]).length := by simp [Nat.add_assoc]
    rw [hP, hl, more_rounds r _ (u ++ 92 :: 10 :: 32 :: w) (n + 1) (fun x hx => hr x (by simp [hx]))]
    · simp only [wantT, List.length_cons, List.append_assoc, List.cons_append]
      rw [Nat.add_assoc, Nat.add_comm 1]
    · have := hw.bsl (u ++ [92, 10, 32])
      simpa using this

def firstT : Str := [102, 105, 114, 115, 116, 32, 35, 32, 120]
def recText (r : List Round) : Str := 9 :: firstT ++ mid r ++ 10 :: (nextT ++ [10])
theorem rec_lines (r : List Round) (hr : ∀ x ∈ r, LWord x.2) : linesL (recText r) = [(firstT ++ wantT r, 1, true), ([110, 101, 120, 116, 32], ((2 + r.length : Nat) : Int), false)] := by
  have e1 : recText r = ([] ++ (9 :: firstT ++ endB r)) ++ 10 :: restT r := by
    rw [recText, List.append_assoc, mid_rest]
    simp
  have hx : ∀ c ∈ 9 :: firstT ++ endB r, c ≠ 10 := by
    intro c hc
    rcases List.mem_append.1 hc with hc | hc
    · exact (show ∀ c ∈ 9 :: firstT, c ≠ 10 by decide) c hc
    · cases r <;> simp [endB] at hc
      subst hc; decide
  obtain ⟨h1, h2⟩ := raw_at [] (9 :: firstT ++ endB r) (restT r) hx
  rw [← e1] at h1 h2
  have e2 : recText r = ((9 :: firstT ++ endB r) ++ [10]) ++ restT r := by rw [e1]; simp
  have hlen : 9 ≤ (restT r).length := by
    exact restT_len r
  have hm := more_rounds r ((9 :: firstT ++ endB r) ++ [10]) firstT 1 hr (by decide)
  rw [← e2] at hm
  have hN : rawN (recText r) 0 = ((9 :: firstT ++ endB r) ++ [10]).length := by rw [show (0 : Nat) = ([] : Str).length from rfl, h2]; simp [Nat.add_assoc]
  have hS : rawS (recText r) 0 = 9 :: firstT ++ endB r := h1
  have hL : lineAt (recText r) 0 = ((firstT ++ wantT r, true), (recText r).length - 9, 1 + r.length) := by
    unfold lineAt
    rw [hS, if_pos (by simp [hasPre]), hN]
    show (((more joinRec (recText r) (firstT ++ endB r) _ 1).1, true), _) = _
    rw [show (9 :: firstT ++ endB r).drop 1 = firstT ++ endB r from rfl, hm]
  have hpos : 0 < (recText r).length := by rw [recText]; simp
  -- the second one
  obtain ⟨Q, hQ⟩ : ∃ Q : Str, recText r = Q ++ nextT ++ 10 :: [] := ⟨9 :: firstT ++ mid r ++ [10], by simp [recText]⟩
  have hQl : (recText r).length - 9 = Q.length := by rw [hQ]; simp [nextT]
  obtain ⟨k1, k2⟩ := raw_at Q nextT [] (by decide)
  rw [← hQ] at k1 k2
  have kl : rawN (recText r) Q.length = (recText r).length := by rw [k2, hQ]; simp; omega
  have kL : lineAt (recText r) Q.length = (([110, 101, 120, 116, 32], false), (recText r).length, 1) := by
    unfold lineAt
    rw [k1, if_neg (by decide), kl, more_stop (by simp)]
    rfl
  have hQlt : Q.length < (recText r).length := by rw [hQ]; simp
  rw [linesL, linesF_step hpos, hL, hQl]
  dsimp only
  rw [linesF_step hQlt, kL]
  dsimp only
  rw [linesF_stop (by omega)]
  simp
  omega
theorem mid_len : ∀ r : List Round, (∀ x ∈ r, x.2.length ≤ 9) → (mid r).length ≤ 13 * r.length
  | [], _ => Nat.zero_le _
  | (b, w) :: r, h => by
    have ih := mid_len r (fun x hx => h x (by simp [hx]))
    have h1 := h (b, w) (by simp)
    have h2 : (tabB b).length ≤ 1 := by cases b <;> decide
    simp only [mid, List.length_append, List.length_cons]
    dsimp only at h1
    omega
theorem wantT_len : ∀ r : List Round, (∀ x ∈ r, x.2.length ≤ 9) → (wantT r).length ≤ 13 * r.length
  | [], _ => Nat.zero_le _
  | (b, w) :: r, h => by
    have ih := wantT_len r (fun x hx => h x (by simp [hx]))
    have h1 := h (b, w) (by simp)
    simp only [wantT, List.length_append, List.length_cons]
    dsimp only at h1
    omega

/-! ### The walk -/
theorem c_LinesRecipes (l : List Int) (tb : List Bool) (hl : okInts l) : CallV Tryd.prog 13 [vL (.int .i64) l, vL .bool tb] (vB true) := by
  refine CallV.of Tryd.func13 (by kernel_rfl) rfl Tryd.ntmps13 (by simp) rfl fun cx hB => ?_
  refine Tr.seq ?_; refine Tr.region ?_; refine TrL.quiets 1 rfl (by exact True.intro) ?_; refine TrL.nil ?_; refine Tr.seq ?_; refine Tr.region ?_; refine TrL.quiets 2 rfl (by exact True.intro) ?_; refine TrL.nil ?_; refine Tr.seq ?_; refine Tr.seq ?_; refine Tr.region ?_; refine TrL.quiets 1 rfl (by exact True.intro) ?_; refine TrL.nil ?_; refine Tr.block ?_
  refine Tr.loop (fun ((i, r) : Nat × List Round) => ⟨[(0, [], vL (.int .i64) l), (1, [], vL .bool tb), (5, [], vS (9 :: firstT ++ mid r)), (6, [], vS (firstT ++ wantT r)), (7, [], vI i)], []⟩)
    (fun (i, r) => i ≤ 15 ∧ i ≤ l.length ∧ r.length = i ∧ (∀ x ∈ r, LWord x.2) ∧ ∀ x ∈ r, x.2.length ≤ 9) (fun (i, r) => 15 - i) (0, []) [0, 1, 5, 6, 7] 0 hB rfl ⟨by decide, Nat.zero_le _, rfl, by simp, by simp⟩ fun x hx => ?_
  obtain ⟨i, r⟩ := x
  obtain ⟨hi, hil, hrl, hr, hr9⟩ := hx
  have hm := mid_len r hr9
  have hwt := wantT_len r hr9
  have hf : firstT.length = 9 := rfl
  refine Tr.seq ?_; refine Tr.seq ?_; refine Tr.region ?_; refine TrL.quiets 8 rfl (by exact True.intro) ?_; refine TrL.nil ?_
  refine Tr.cond rfl (fun h1 => ?_) (fun h1 => ?_)
  · simp only [Bool.and_eq_true, decide_eq_true_eq] at h1
    have hi1 : i < l.length := by omega
    obtain ⟨hv1, hv2⟩ := okInts_nth hl i
    refine Tr.skip ?_; refine Tr.seq ?_; refine Tr.block ?_; refine Tr.seq ?_; refine Tr.region ?_; refine TrL.quiets 4 rfl (by (simp only [allOf, impO, imp, inR, loOk, and_true]; omega)) ?_
    first | refine TrL.callV rfl rfl rfl rfl rfl (c_Word _ hv1 hv2) ?_ | refine TrD.callV rfl rfl rfl rfl rfl (c_Word _ hv1 hv2) rfl ?_
    generalize hx : nth (t := .int .i64) l (i : Int) = v at *
    have hw9 := word_le v
    have hwL := word_LWord v
    refine TrL.quiets 1 rfl (by exact True.intro) ?_; refine TrL.nil ?_; refine Tr.seq ?_; refine Tr.region ?_; refine TrL.quiets 6 rfl (by (simp (disch := omega) only [allOf, impO, imp, inR, loOk, and_true, w64, List.length_set, List.length_cons, List.length_nil, cut, List.length_take, List.length_drop, List.length_append, Int.toNat_natCast, Option.getD_none, Option.getD_some, Ty.D, true_and, decide_eq_true_eq, decide_eq_false_iff_not, Bool.and_eq_true, Bool.or_eq_false_iff]; omega)) ?_; refine TrL.nil ?_; refine Tr.seq ?_; refine Tr.seq ?_; refine Tr.region ?_; refine TrL.quiets 10 rfl (by (simp (disch := omega) only [allOf, impO, imp, inR, loOk, and_true, w64, List.length_set, List.length_cons, List.length_nil, Option.getD_none, Option.getD_some, Ty.D, true_and, decide_eq_true_eq, decide_eq_false_iff_not, Bool.and_eq_true, Bool.or_eq_false_iff]; omega)) ?_; refine TrL.nil ?_
    have key : ∀ b : Bool, (⟨[(0, [], vL (.int .i64) l), (1, [], vL .bool tb), (5, [], vS ((9 :: firstT ++ mid r) ++ [92, 10] ++ tabB b ++ [32] ++ word v)), (6, [], vS ((firstT ++ wantT r) ++ [92, 10] ++ [32] ++ word v)), (7, [], vI (IntKind.i64.wrap ((i : Int) + 1)))], []⟩ : St) =
        ⟨[(0, [], vL (.int .i64) l), (1, [], vL .bool tb), (5, [], vS (9 :: firstT ++ mid (r ++ [(b, word v)]))), (6, [], vS (firstT ++ wantT (r ++ [(b, word v)]))), (7, [], vI ((i + 1 : Nat) : Int))], []⟩ := by
      intro b
      rw [w64n (y := i + 1) (by omega) (by omega), mid_snoc, wantT_snoc]
      simp only [List.append_assoc, List.cons_append, List.nil_append]
    have kI : ∀ b : Bool, i + 1 ≤ 15 ∧ i + 1 ≤ l.length ∧ (r ++ [(b, word v)]).length = i + 1 ∧ (∀ x ∈ r ++ [(b, word v)], LWord x.2) ∧ ∀ x ∈ r ++ [(b, word v)], x.2.length ≤ 9 := by
      intro b
      refine ⟨by omega, by omega, by simp [hrl], fun x hx => ?_, fun x hx => ?_⟩
      · rcases List.mem_append.1 hx with hx | hx
        · exact hr x hx
        · rw [List.mem_singleton.1 hx]; exact hwL
      · rcases List.mem_append.1 hx with hx | hx
        · exact hr9 x hx
        · rw [List.mem_singleton.1 hx]; exact hw9
    refine Tr.cond rfl (fun h2 => ?_) (fun h2 => ?_)
    · refine Tr.region ?_; refine TrL.quiets 3 rfl (by (simp (disch := omega) only [allOf, impO, imp, inR, loOk, and_true, w64, List.length_set, List.length_cons, List.length_nil, cut, List.length_take, List.length_drop, List.length_append, Int.toNat_natCast, Option.getD_none, Option.getD_some, Ty.D, true_and, decide_eq_true_eq, decide_eq_false_iff_not, Bool.and_eq_true, Bool.or_eq_false_iff]; omega)) ?_; refine TrL.nil ?_; refine Tr.region ?_; refine TrL.quiets 10 rfl (by (simp (disch := omega) only [allOf, impO, imp, inR, loOk, and_true, w64, List.length_set, List.length_cons, List.length_nil, cut, List.length_take, List.length_drop, List.length_append, Int.toNat_natCast, Option.getD_none, Option.getD_some, Ty.D, true_and, decide_eq_true_eq, decide_eq_false_iff_not, Bool.and_eq_true, Bool.or_eq_false_iff]; omega)) ?_; refine TrL.nil ?_; refine Tr.region ?_; refine TrL.quiets 3 rfl (by exact True.intro) ?_; refine TrL.nil ?_
      refine ⟨(i + 1, r ++ [(true, word v)]), kI true, by dsimp only; omega, ?_⟩
      exact Eq.trans (by rfl) (key true)
    · refine Tr.skip ?_; refine Tr.region ?_; refine TrL.quiets 10 rfl (by (simp (disch := omega) only [allOf, impO, imp, inR, loOk, and_true, w64, List.length_set, List.length_cons, List.length_nil, cut, List.length_take, List.length_drop, List.length_append, Int.toNat_natCast, Option.getD_none, Option.getD_some, Ty.D, true_and, decide_eq_true_eq, decide_eq_false_iff_not, Bool.and_eq_true, Bool.or_eq_false_iff]; omega)) ?_; refine TrL.nil ?_; refine Tr.region ?_; refine TrL.quiets 3 rfl (by exact True.intro) ?_; refine TrL.nil ?_
      refine ⟨(i + 1, r ++ [(false, word v)]), kI false, by dsimp only; omega, ?_⟩
      refine Eq.trans ?_ (key false)
      refine Eq.trans (b := (⟨[(_, [], _), (_, [], _), (_, [], _), (_, [], _), (_, [], _)], []⟩ : St)) rfl ?_
      simp only [tabB, Bool.false_eq_true, if_false, List.append_nil]
  have h1' : i = min l.length 15 := by
    simp only [Bool.and_eq_false_iff, decide_eq_false_iff_not] at h1
    omega
  have hrt : recText r = 9 :: firstT ++ mid r ++ [10, 110, 101, 120, 116, 32, 35, 32, 121, 10] := rfl
  have hrtl : (recText r).length ≤ 300 := by rw [hrt]; simp only [List.length_append, List.length_cons, List.length_nil]; omega
  refine Tr.exit ?_; refine Tr.seq ?_; refine Tr.region ?_; refine TrL.quiets 2 rfl (by (simp (disch := omega) only [allOf, impO, imp, inR, loOk, and_true, w64, List.length_set, List.length_cons, List.length_nil, cut, List.length_take, List.length_drop, List.length_append, Int.toNat_natCast, Option.getD_none, Option.getD_some, Ty.D, true_and, decide_eq_true_eq, decide_eq_false_iff_not, Bool.and_eq_true, Bool.or_eq_false_iff]; omega)) ?_
  first | refine TrL.callV rfl rfl rfl rfl rfl (c_lines_All (recText r) (by omega)) ?_ | refine TrD.callV rfl rfl rfl rfl rfl (c_lines_All (recText r) (by omega)) rfl ?_
  rw [rec_lines r hr]
  refine TrL.quiets 1 rfl (by exact True.intro) ?_; refine TrL.nil ?_; refine Tr.seq ?_; refine Tr.region ?_; refine TrL.quiets 54 rfl (by (simp (disch := omega) only [allOf, impO, imp, inR, loOk, and_true, w64, List.length_set, List.length_cons, List.length_nil, Option.getD_none, Option.getD_some, Ty.D, true_and, decide_eq_true_eq, decide_eq_false_iff_not, Bool.and_eq_true, Bool.or_eq_false_iff]; omega)) ?_
  first | refine TrL.callV rfl rfl rfl rfl rfl (c_ref_Trim [110, 101, 120, 116, 32] (by decide)) ?_ | refine TrD.callV rfl rfl rfl rfl rfl (c_ref_Trim [110, 101, 120, 116, 32] (by decide)) rfl ?_
  refine TrL.quiets 3 rfl (by exact True.intro) ?_
  first | refine TrL.callV rfl rfl rfl rfl rfl c_awake08 ?_ | refine TrD.callV rfl rfl rfl rfl rfl c_awake08 rfl ?_
  refine TrL.quiets 2 rfl (by exact True.intro) ?_; refine TrL.nil ?_; refine Tr.ret ?_
  refine retQ.of rfl ?_
  refine congrArg vB ?_
  have e2 : IntKind.i64.wrap (2 + min (l.length : Int) 15) = ((2 + r.length : Nat) : Int) := by rw [w64 (by omega) (by omega), hrl]; omega
  rw [e2]
  generalize firstT ++ wantT r = u
  generalize ((2 + r.length : Nat) : Int) = k
  show ((2 : Int) == 2 && true && (u == u) && ((1 : Int) == 1) && !false && (([110, 101, 120, 116, 32] : Str) == [110, 101, 120, 116, 32]) && (k == k) && (trim [110, 101, 120, 116, 32] == [110, 101, 120, 116]) && true) = true
  rw [show trim [110, 101, 120, 116, 32] = [110, 101, 120, 116] by decide]
  simp
end Go.Proofs.YtafngfcfinligaaDoor.Sx
