/-
  Rules: the small functions.
-/
import Derived.Test.YtckgeebihhhapaaDoorG26
import Derived.Test.YtckgeebihhhapaaDoorG3
import Derived.Test.YtckgeebihhhapaaDoorF2
import Derived.Test.YtckgeebihhhapaaDoorF15
set_option linter.unusedVariables false
set_option linter.unusedSimpArgs false
set_option maxRecDepth 20000
set_option maxHeartbeats 4000000
namespace Go.Proofs.YtckgeebihhhapaaDoor.Sx
open Go Go.RowKit Go.Proofs

theorem ofR_len : ∀ (r t : Str) (b : Nat), (ofR t b r).2.1.length + (ofR t b r).2.2.length ≤ t.length + r.length
  | [], t, b => Nat.le_refl _
  | c :: r, t, b => by
    rw [ofR]
    split
    · have := ofR_len r (t ++ [c]) (b + 1)
      simp only [List.length_append, List.length_cons, List.length_nil] at this ⊢
      omega
    · split
      · split
        · simp only [List.length_take, List.length_cons]
          omega
        · have := ofR_len r (t.take (t.length - b + b / 2) ++ [c]) 0
          simp only [List.length_append, List.length_take, List.length_cons, List.length_nil] at this ⊢
          omega
      · have := ofR_len r (t ++ [c]) 0
        simp only [List.length_append, List.length_cons, List.length_nil] at this ⊢
        omega
theorem patF_len (s : Str) : (patF s).2.1.length + (patF s).2.2.length ≤ s.length := by
  have := ofR_len s [] 0
  simpa [patF] using this
def hasP (s : Str) : Bool := (patF s).1
theorem c_rulePattern (s : Str) (hs : s.length ≤ 1000000) : CallV Tryd.prog 17 [vS s] (vB (hasP s)) := by
  refine CallV.of Tryd.func17 (by kernel_rfl) rfl Tryd.ntmps17 (by simp) rfl fun cx hB => ?_
  refine Tr.seq ?_; refine Tr.region ?_; refine TrL.quiets 1 rfl (by exact True.intro) ?_; refine TrL.nil ?_; refine Tr.seq ?_; refine Tr.region ?_; refine TrL.quiets 1 rfl (by exact True.intro) ?_
  first | refine TrL.callV rfl rfl rfl rfl rfl (c_patOf s (by omega)) ?_ | refine TrD.callV rfl rfl rfl rfl rfl (c_patOf s (by omega)) rfl ?_
  refine TrL.quiets 2 rfl (by exact True.intro) ?_; refine TrL.nil ?_; refine Tr.ret ?_
  refine retQ.of rfl ?_
  rfl
theorem c_refPattern (s : Str) (hs : s.length ≤ 1000000) : CallV Tryd.prog 18 [vS s] (vB (hasP s)) := by
  refine CallV.of Tryd.func18 (by kernel_rfl) rfl Tryd.ntmps18 (by simp) rfl fun cx hB => ?_
  refine Tr.seq ?_; refine Tr.region ?_; refine TrL.quiets 1 rfl (by exact True.intro) ?_; refine TrL.nil ?_; refine Tr.seq ?_; refine Tr.region ?_; refine TrL.quiets 1 rfl (by exact True.intro) ?_
  first | refine TrL.callV rfl rfl rfl rfl rfl (c_rOf s (by omega)) ?_ | refine TrD.callV rfl rfl rfl rfl rfl (c_rOf s (by omega)) rfl ?_
  refine TrL.quiets 2 rfl (by exact True.intro) ?_; refine TrL.nil ?_; refine Tr.ret ?_
  refine retQ.of rfl ?_
  rfl
theorem c_Read1 (s : Str) (hs : s.length ≤ 1000000) : CallV Tryd.prog 42 [vS s] (vB (!hasP s)) := by
  refine CallV.of Tryd.func42 (by kernel_rfl) rfl Tryd.ntmps42 (by simp) rfl fun cx hB => ?_
  refine Tr.seq ?_; refine Tr.region ?_; refine TrL.quiets 1 rfl (by exact True.intro) ?_; refine TrL.nil ?_; refine Tr.seq ?_; refine Tr.region ?_; refine TrL.quiets 1 rfl (by exact True.intro) ?_
  first | refine TrL.callV rfl rfl rfl rfl rfl (c_rulePattern s hs) ?_ | refine TrD.callV rfl rfl rfl rfl rfl (c_rulePattern s hs) rfl ?_
  refine TrL.quiets 2 rfl (by exact True.intro) ?_; refine TrL.nil ?_; refine Tr.ret ?_
  refine retQ.of rfl ?_
  rfl
/-! ### Lists of words -/
theorem c_IndexFuncS (F : Nat) (p : Str → Bool) (l : List Str) (hF : ∀ x ∈ l, CallV Tryd.prog F [vS x] (vB (p x))) (hl : l.length ≤ 1099511627776) :
    CallV Tryd.prog 67 [vL .str l, .fn F [] []] (vI (idxP p l 0)) := by
  refine CallV.of Tryd.func67 (by kernel_rfl) rfl Tryd.ntmps67 (by simp) rfl fun cx hB => ?_
  refine Tr.seq ?_; refine Tr.region ?_; refine TrL.quiets 1 rfl (by exact True.intro) ?_; refine TrL.nil ?_; refine Tr.seq ?_; refine Tr.seq ?_; refine Tr.region ?_; refine TrL.quiets 3 rfl (by exact True.intro) ?_; refine TrL.nil ?_; refine Tr.block ?_
  refine Tr.loop (fun (i : Nat) => ⟨[(0, [], vL .str l), (1, [], .fn F [] []), (7, [], vI l.length), (8, [], vI i)], []⟩) (fun i => i ≤ l.length ∧ idxP p l 0 = idxP p (l.drop i) i) (fun i => l.length - i) 0 [0, 1, 7, 8] 0 hB rfl ⟨Nat.zero_le _, rfl⟩ fun i hi => ?_
  obtain ⟨hi, hI⟩ := hi
  refine Tr.seq ?_; refine Tr.region ?_; refine TrL.quiets 1 rfl (by exact True.intro) ?_; refine TrL.nil ?_; refine Tr.seq ?_
  refine Tr.cond rfl (fun h1 => ?_) (fun h1 => ?_)
  · simp only [decide_eq_true_eq] at h1
    have hi1 : i < l.length := by omega
    rw [List.drop_eq_getElem_cons hi1, idxP] at hI
    have hn : nth (t := .str) l (i : Int) = l[i] := nth_get' (t := .str) l i hi1
    have hF' := hF l[i] (List.getElem_mem hi1)
    rw [← hn] at hF'
    refine Tr.skip ?_; refine Tr.seq ?_; refine Tr.block ?_; refine Tr.seq ?_; refine Tr.region ?_; refine TrL.quiets 2 rfl (by exact True.intro) ?_; refine TrL.nil ?_; refine Tr.seq ?_; refine Tr.region ?_; refine TrL.quiets 5 rfl (by (simp only [allOf, impO, imp, inR, loOk, and_true]; omega)) ?_
    first | refine TrL.callV rfl rfl rfl rfl rfl hF' ?_ | refine TrD.callV rfl rfl rfl rfl rfl hF' rfl ?_
    rw [hn]
    refine TrL.nil ?_
    refine Tr.cond rfl (fun h2 => ?_) (fun h2 => ?_)
    · rw [h2] at hI
      refine Tr.seq ?_; refine Tr.region ?_; refine TrL.quiets 2 rfl (by exact True.intro) ?_; refine TrL.nil ?_; refine Tr.ret ?_
      refine retQ.of rfl ?_
      rw [hI]
      rfl
    · rw [h2] at hI
      refine Tr.skip ?_; refine Tr.region ?_; refine TrL.quiets 2 rfl (by exact True.intro) ?_; refine TrL.nil ?_
      refine ⟨i + 1, ⟨hi1, by rw [hI]; simp⟩, by dsimp only; omega, ?_⟩
      refine Eq.trans (b := (⟨[(_, [], _), (_, [], _), (_, [], _), (_, [], _)], []⟩ : St)) rfl ?_
      rw [w64n (y := i + 1) (by omega) (by omega)]
  · simp only [decide_eq_false_iff_not] at h1
    rw [List.drop_eq_nil_of_le (by omega)] at hI
    refine Tr.exit ?_; refine Tr.seq ?_; refine Tr.region ?_; refine TrL.quiets 1 rfl (by exact True.intro) ?_; refine TrL.nil ?_; refine Tr.ret ?_
    refine retQ.of rfl ?_
    rw [hI]
    rfl
theorem c_ContainsFuncS (F : Nat) (p : Str → Bool) (l : List Str) (hF : ∀ x ∈ l, CallV Tryd.prog F [vS x] (vB (p x))) (hl : l.length ≤ 1099511627776) :
    CallV Tryd.prog 41 [vL .str l, .fn F [] []] (vB (l.any p)) := by
  refine CallV.of Tryd.func41 (by kernel_rfl) rfl Tryd.ntmps41 (by simp) rfl fun cx hB => ?_
  refine Tr.seq ?_; refine Tr.region ?_; refine TrL.quiets 1 rfl (by exact True.intro) ?_; refine TrL.nil ?_; refine Tr.seq ?_; refine Tr.region ?_; refine TrL.quiets 2 rfl (by exact True.intro) ?_
  first | refine TrL.callV rfl rfl rfl rfl rfl (c_IndexFuncS F p l hF hl) ?_ | refine TrD.callV rfl rfl rfl rfl rfl (c_IndexFuncS F p l hF hl) rfl ?_
  refine TrL.quiets 2 rfl (by exact True.intro) ?_; refine TrL.nil ?_; refine Tr.ret ?_
  refine retQ.of rfl ?_
  exact congrArg vB (idxP_any p l 0 (Int.le_refl _))
theorem c_IndexS (l : List Str) (v : Str) (hl : l.length ≤ 1099511627776) : CallV Tryd.prog 68 [vL .str l, vS v] (vI (idxP (fun x => v == x) l 0)) := by
  refine CallV.of Tryd.func68 (by kernel_rfl) rfl Tryd.ntmps68 (by simp) rfl fun cx hB => ?_
  refine Tr.seq ?_; refine Tr.region ?_; refine TrL.quiets 1 rfl (by exact True.intro) ?_; refine TrL.nil ?_; refine Tr.seq ?_; refine Tr.seq ?_; refine Tr.region ?_; refine TrL.quiets 3 rfl (by exact True.intro) ?_; refine TrL.nil ?_; refine Tr.block ?_
  refine Tr.loop (fun (i : Nat) => ⟨[(0, [], vL .str l), (1, [], vS v), (7, [], vI l.length), (8, [], vI i)], []⟩) (fun i => i ≤ l.length ∧ idxP (fun x => v == x) l 0 = idxP (fun x => v == x) (l.drop i) i) (fun i => l.length - i) 0 [0, 1, 7, 8] 0 hB rfl ⟨Nat.zero_le _, rfl⟩ fun i hi => ?_
  obtain ⟨hi, hI⟩ := hi
  refine Tr.seq ?_; refine Tr.region ?_; refine TrL.quiets 1 rfl (by exact True.intro) ?_; refine TrL.nil ?_; refine Tr.seq ?_
  refine Tr.cond rfl (fun h1 => ?_) (fun h1 => ?_)
  · simp only [decide_eq_true_eq] at h1
    have hi1 : i < l.length := by omega
    rw [List.drop_eq_getElem_cons hi1, idxP] at hI
    have hn : nth (t := .str) l (i : Int) = l[i] := nth_get' (t := .str) l i hi1
    refine Tr.skip ?_; refine Tr.seq ?_; refine Tr.block ?_; refine Tr.seq ?_; refine Tr.region ?_; refine TrL.quiets 2 rfl (by exact True.intro) ?_; refine TrL.nil ?_; refine Tr.seq ?_; refine Tr.region ?_; refine TrL.quiets 6 rfl (by (simp only [allOf, impO, imp, inR, loOk, and_true]; omega)) ?_; refine TrL.nil ?_
    refine Tr.cond rfl (fun h2 => ?_) (fun h2 => ?_)
    · have h3 : (v == l[i]) = true := by rw [← hn]; exact h2
      rw [if_pos h3] at hI
      refine Tr.seq ?_; refine Tr.region ?_; refine TrL.quiets 2 rfl (by exact True.intro) ?_; refine TrL.nil ?_; refine Tr.ret ?_
      refine retQ.of rfl ?_
      rw [hI]
    · have h3 : ¬ (v == l[i]) = true := by rw [← hn]; intro h4; rw [show (v == nth (t := .str) l (i : Int)) = false from h2] at h4; cases h4
      rw [if_neg h3] at hI
      refine Tr.skip ?_; refine Tr.region ?_; refine TrL.quiets 2 rfl (by exact True.intro) ?_; refine TrL.nil ?_
      refine ⟨i + 1, ⟨hi1, by rw [hI]; simp⟩, by dsimp only; omega, ?_⟩
      refine Eq.trans (b := (⟨[(_, [], _), (_, [], _), (_, [], _), (_, [], _)], []⟩ : St)) rfl ?_
      rw [w64n (y := i + 1) (by omega) (by omega)]
  · simp only [decide_eq_false_iff_not] at h1
    rw [List.drop_eq_nil_of_le (by omega)] at hI
    refine Tr.exit ?_; refine Tr.seq ?_; refine Tr.region ?_; refine TrL.quiets 1 rfl (by exact True.intro) ?_; refine TrL.nil ?_; refine Tr.ret ?_
    refine retQ.of rfl ?_
    rw [hI]
    rfl
/-- Ahead of a bar and behind it. -/
def bar : List Str → List Str × List Str
  | [] => ([], [])
  | x :: r => if x = [124] then ([], r) else (x :: (bar r).1, (bar r).2)
def partsF (s : Str) : List Str × List Str := bar (splitW s)
theorem bar_idx : ∀ (l : List Str) (i : Int), 0 ≤ i → (idxP (fun x => [124] == x) l i < 0 → bar l = (l, [])) ∧ (0 ≤ idxP (fun x => [124] == x) l i → ∃ n : Nat, n < l.length ∧ idxP (fun x => [124] == x) l i = i + n ∧ bar l = (l.take n, l.drop (n + 1)))
  | [], i, h => ⟨fun _ => rfl, fun h2 => by rw [idxP] at h2; omega⟩
  | x :: r, i, h => by
    obtain ⟨h1, h2⟩ := bar_idx r (i + 1) (by omega)
    rw [idxP, bar]
    by_cases e : x = [124]
    · have e2 : (([124] : Str) == x) = true := by rw [e]; rfl
      rw [if_pos e2, if_pos e]
      exact ⟨fun h3 => by omega, fun _ => ⟨0, by simp, by simp, by simp⟩⟩
    · have e2 : ¬ (([124] : Str) == x) = true := by intro h3; exact e (beq_iff_eq.1 h3).symm
      rw [if_neg e2, if_neg e]
      refine ⟨fun h3 => by rw [h1 h3], fun h3 => ?_⟩
      obtain ⟨n, q1, q2, q3⟩ := h2 h3
      exact ⟨n + 1, by simp only [List.length_cons]; omega, by omega, by rw [q3]; rfl⟩
theorem c_parts (s : Str) (hs : s.length ≤ 1000000) : CallV Tryd.prog 43 [vS s] (.tup [vL .str (partsF s).1, vL .str (partsF s).2]) := by
  have hsl : (splitW s).length ≤ s.length + 1 := spl_length s []
  unfold partsF
  refine CallV.of Tryd.func43 (by kernel_rfl) rfl Tryd.ntmps43 (by simp) rfl fun cx hB => ?_
  refine Tr.seq ?_; refine Tr.region ?_; refine TrL.quiets 2 rfl (by exact True.intro) ?_; refine TrL.nil ?_; refine Tr.seq ?_; refine Tr.region ?_; refine TrL.quiets 1 rfl (by exact True.intro) ?_
  first | refine TrL.callV rfl rfl rfl rfl rfl (c_Split s (by omega)) ?_ | refine TrD.callV rfl rfl rfl rfl rfl (c_Split s (by omega)) rfl ?_
  generalize splitW s = l at *
  obtain ⟨hb1, hb2⟩ := bar_idx l 0 (Int.le_refl _)
  refine TrL.quiets 1 rfl (by exact True.intro) ?_; refine TrL.nil ?_; refine Tr.seq ?_; refine Tr.region ?_; refine TrL.quiets 1 rfl (by exact True.intro) ?_
  first | refine TrL.callV rfl rfl rfl rfl rfl (c_IndexS l [124] (by omega)) ?_ | refine TrD.callV rfl rfl rfl rfl rfl (c_IndexS l [124] (by omega)) rfl ?_
  generalize idxP (fun x => [124] == x) l 0 = n at *
  refine TrL.quiets 1 rfl (by exact True.intro) ?_; refine TrL.nil ?_; refine Tr.seq ?_; refine Tr.seq ?_; refine Tr.region ?_; refine TrL.quiets 2 rfl (by exact True.intro) ?_; refine TrL.nil ?_
  refine Tr.cond rfl (fun h1 => ?_) (fun h1 => ?_)
  · have h2 : n < 0 := of_decide_eq_true h1
    rw [hb1 h2]
    refine Tr.seq ?_; refine Tr.region ?_; refine TrL.quiets 3 rfl (by exact True.intro) ?_; refine TrL.nil ?_
    change Tr _ _ _ _ _ _
    refine Tr.weak 3 rfl (nil_weak .str) ?_
    refine Tr.ret ?_
    refine retQ.of rfl ?_
    rfl
  · have h2 : ¬ n < 0 := of_decide_eq_false h1
    obtain ⟨k, q1, q2, q3⟩ := hb2 (by omega)
    obtain rfl : n = (k : Int) := by omega
    rw [q3]
    refine Tr.skip ?_; refine Tr.seq ?_; refine Tr.draw (by kernel_rfl) (by kernel_rfl) ?_; refine TrD.quiets 14 rfl (by (simp (disch := omega) only [allOf, impO, imp, inR, loOk, and_true, w64, List.length_set, List.length_cons, List.length_nil, Option.getD_none, Option.getD_some, Ty.D, true_and, decide_eq_true_eq, decide_eq_false_iff_not, Bool.and_eq_true, Bool.or_eq_false_iff]; omega)) ?_; refine TrD.nil ?_
    change Tr _ _ _ _ _ _
    refine Tr.weak 2 rfl (fix_weak .str _) ?_
    refine Tr.weak 3 rfl (fix_weak .str _) ?_
    refine Tr.ret ?_
    refine retQ.of rfl ?_
    have e1 := w64n (x := (k : Int) + 1) (y := k + 1) (by omega) (by omega)
    have e2 : cut l (some (IntKind.i64.wrap ((k : Int) + 1))) (some (l.length : Int)) = l.drop (k + 1) := by
      rw [e1]
      show (l.take l.length).drop (k + 1) = _
      rw [List.take_length]
    exact congrArg (fun z => SV.tup [vL .str (l.take k), vL .str z]) e2
theorem c_halves (s : Str) (hs : s.length ≤ 1000000) : CallV Tryd.prog 48 [vS s] (.tup [vL .str (partsF s).1, vL .str (partsF s).2]) := by
  have hsl : (splitW s).length ≤ s.length + 1 := spl_length s []
  unfold partsF
  refine CallV.of Tryd.func48 (by kernel_rfl) rfl Tryd.ntmps48 (by simp) rfl fun cx hB => ?_
  refine Tr.seq ?_; refine Tr.region ?_; refine TrL.quiets 2 rfl (by exact True.intro) ?_; refine TrL.nil ?_; refine Tr.seq ?_; refine Tr.region ?_; refine TrL.quiets 1 rfl (by exact True.intro) ?_
  first | refine TrL.callV rfl rfl rfl rfl rfl (c_ref_Split s (by omega)) ?_ | refine TrD.callV rfl rfl rfl rfl rfl (c_ref_Split s (by omega)) rfl ?_
  generalize splitW s = l at *
  refine TrL.quiets 1 rfl (by exact True.intro) ?_; refine TrL.nil ?_; refine Tr.seq ?_; refine Tr.seq ?_; refine Tr.region ?_; refine TrL.quiets 1 rfl (by exact True.intro) ?_; refine TrL.nil ?_; refine Tr.block ?_
  refine Tr.loop (fun (i : Nat) => ⟨[(4, [], vL .str l), (5, [], vI i)], []⟩) (fun i => i ≤ l.length ∧ bar l = (l.take i ++ (bar (l.drop i)).1, (bar (l.drop i)).2)) (fun i => l.length - i) 0 [4, 5] 0 hB rfl ⟨Nat.zero_le _, rfl⟩ fun i hi => ?_
  obtain ⟨hi, hI⟩ := hi
  refine Tr.seq ?_; refine Tr.seq ?_; refine Tr.region ?_; refine TrL.quiets 4 rfl (by exact True.intro) ?_; refine TrL.nil ?_
  refine Tr.cond rfl (fun h1 => ?_) (fun h1 => ?_)
  · simp only [decide_eq_true_eq] at h1
    have hi1 : i < l.length := by omega
    have hn : nth (t := .str) l (i : Int) = l[i] := nth_get' (t := .str) l i hi1
    rw [List.drop_eq_getElem_cons hi1, bar] at hI
    refine Tr.skip ?_; refine Tr.seq ?_; refine Tr.block ?_; refine Tr.seq ?_; refine Tr.region ?_; refine TrL.quiets 5 rfl (by (simp only [allOf, impO, imp, inR, loOk, and_true]; omega)) ?_; refine TrL.nil ?_
    refine Tr.cond rfl (fun h2 => ?_) (fun h2 => ?_)
    · have h3 : l[i] = [124] := by
        rw [← hn]
        exact beq_iff_eq.1 h2
      rw [if_pos h3] at hI
      have e1 := w64n (x := (i : Int) + 1) (y := i + 1) (by omega) (by omega)
      have e2 : cut l (some (IntKind.i64.wrap ((i : Int) + 1))) none = l.drop (i + 1) := by rw [e1]; rfl
      refine Tr.seq ?_; refine Tr.draw (by kernel_rfl) (by kernel_rfl) ?_; refine TrD.quiets 9 rfl (by (simp (disch := omega) only [allOf, impO, imp, inR, loOk, and_true, w64, List.length_set, List.length_cons, List.length_nil, Option.getD_none, Option.getD_some, Ty.D, true_and, decide_eq_true_eq, decide_eq_false_iff_not, Bool.and_eq_true, Bool.or_eq_false_iff]; omega)) ?_; refine TrD.nil ?_; refine Tr.ret ?_
      refine retQ.of rfl ?_
      rw [hI, ← e2, List.append_nil]
      rfl
    · have h3 : ¬ l[i] = [124] := by
        rw [← hn]
        intro h4
        have h5 : (nth (t := .str) l (i : Int) == ([124] : Str)) = false := h2
        rw [h4] at h5
        cases h5
      rw [if_neg h3] at hI
      refine Tr.skip ?_; refine Tr.region ?_; refine TrL.quiets 3 rfl (by exact True.intro) ?_; refine TrL.nil ?_
      refine ⟨i + 1, ⟨hi1, ?_⟩, by dsimp only; omega, ?_⟩
      · rw [hI]
        dsimp only
        rw [List.take_succ_eq_append_getElem hi1, List.append_assoc]
        rfl
      · refine Eq.trans (b := (⟨[(_, [], _), (_, [], _)], []⟩ : St)) rfl ?_
        rw [w64n (y := i + 1) (by omega) (by omega)]
  · simp only [decide_eq_false_iff_not] at h1
    rw [List.drop_eq_nil_of_le (by omega), List.take_of_length_le (by omega)] at hI
    have hI' : bar l = (l, []) := by rw [hI]; simp [bar]
    rw [hI']
    refine Tr.exit ?_; refine Tr.seq ?_; refine Tr.region ?_; refine TrL.quiets 3 rfl (by exact True.intro) ?_; refine TrL.nil ?_
    change Tr _ _ _ _ _ _
    refine Tr.weak 3 rfl (nil_weak .str) ?_
    refine Tr.ret ?_
    refine retQ.of rfl ?_
    rfl
/-! ### A stem put in -/
def putW (stem w : Str) : Str := if hasP w then putF (patF w) stem else w
theorem putW_len (stem w : Str) : (putW stem w).length ≤ stem.length + w.length := by
  have := patF_len w
  unfold putW putF
  split
  · split
    · simp only [List.length_append]; omega
    · omega
  · omega
theorem c_put (l : List Str) (stem : Str) (hl : l.length ≤ 1000000) (hw : ∀ w ∈ l, w.length ≤ 1000000) (hst : stem.length ≤ 1000000) : CallV Tryd.prog 66 [vL .str l, vS stem] (vL .str (l.map (putW stem))) := by
  refine CallV.of Tryd.func66 (by kernel_rfl) rfl Tryd.ntmps66 (by simp) rfl fun cx hB => ?_
  have hB1 : ∀ i, cx.B i = true → i < 1 := fun i h => by have := hB i h; omega
  refine Tr.seq ?_; refine Tr.region ?_; refine TrL.quiets 1 rfl (by exact True.intro) ?_; refine TrL.nil ?_; refine Tr.seq ?_; refine Tr.region ?_; refine TrL.quiets 1 rfl (by exact True.intro) ?_; refine TrL.nil ?_
  change Tr _ _ _ _ _ _
  refine Tr.nilRow 5 9 .str rfl ?_
  refine Tr.seq ?_; refine Tr.seq ?_; refine Tr.region ?_; refine TrL.quiets 3 rfl (by exact True.intro) ?_; refine TrL.nil ?_; refine Tr.block ?_
  refine Tr.loop (fun (i : Nat) => ⟨[(1, [], vS stem), (5, [], .own 0), (9, [], vL .str l), (10, [], vI l.length), (11, [], vI i)], [.gs 9 .str ((l.take i).map (putW stem))]⟩) (fun i => i ≤ l.length) (fun i => l.length - i) 0 [1, 5, 9, 10, 11] 1 hB1 rfl (Nat.zero_le _) fun i hi => ?_
  refine Tr.seq ?_; refine Tr.region ?_; refine TrL.quiets 1 rfl (by exact True.intro) ?_; refine TrL.nil ?_; refine Tr.seq ?_
  refine Tr.cond rfl (fun h1 => ?_) (fun h1 => ?_)
  · simp only [decide_eq_true_eq] at h1
    have hi1 : i < l.length := by omega
    have hn : nth (t := .str) l (i : Int) = l[i] := nth_get' (t := .str) l i hi1
    have hwl := hw l[i] (List.getElem_mem hi1)
    have hpl := patF_len l[i]
    refine Tr.skip ?_; refine Tr.seq ?_; refine Tr.block ?_; refine Tr.seq ?_; refine Tr.region ?_; refine TrL.quiets 3 rfl (by (simp only [allOf, impO, imp, inR, loOk, and_true]; omega)) ?_; refine TrL.nil ?_
    refine Tr.is 7 (sv' := vS l[i]) rfl (congrArg vS hn) ?_
    refine Tr.seq ?_; refine Tr.seq ?_; refine Tr.region ?_; refine TrL.quiets 1 rfl (by exact True.intro) ?_
    first | refine TrL.callV rfl rfl rfl rfl rfl (c_patOf l[i] (by omega)) ?_ | refine TrD.callV rfl rfl rfl rfl rfl (c_patOf l[i] (by omega)) rfl ?_
    obtain ⟨p, hp⟩ : ∃ p, patF l[i] = p := ⟨_, rfl⟩
    rw [hp] at hpl ⊢
    have hpw : putW stem l[i] = if p.1 then putF p stem else l[i] := by rw [putW, hasP, hp]
    have hpwl := putW_len stem l[i]
    obtain ⟨has, pre, post⟩ := p
    dsimp only at hpl hpw
    refine TrL.eff (effBox_sound rfl) (by exact True.intro) ?_; refine TrL.eff (effStore_sound rfl) (by exact True.intro) ?_; refine TrL.nil ?_; refine Tr.seq ?_; refine Tr.region ?_; refine TrL.quiets 2 rfl (by exact True.intro) ?_; refine TrL.nil ?_
    refine Tr.joinN (fun (_ : Unit) => ⟨[(1, [], vS stem), (5, [], .own 0), (7, [], vS (putW stem l[i])), (9, [], vL .str l), (10, [], vI l.length), (11, [], vI i)], [.gs 9 .str ((l.take i).map (putW stem))]⟩) (fun _ => True) [1, 5, 7, 9, 10, 11] 1 hB1 ?_ fun _ _ => ?_
    · refine Tr.cond rfl (fun h2 => ?_) (fun h2 => ?_)
      · have h3 : has = true := h2
        subst h3
        rw [if_pos rfl] at hpw
        rw [hpw]
        refine Tr.region ?_; refine TrL.quiets 2 rfl (by exact True.intro) ?_
        first | refine TrL.callV rfl rfl rfl rfl rfl (c_Put (true, pre, post) stem (by dsimp only; omega)) ?_ | refine TrD.callV rfl rfl rfl rfl rfl (c_Put (true, pre, post) stem (by dsimp only; omega)) rfl ?_
        refine TrL.quiets 1 rfl (by exact True.intro) ?_; refine TrL.nil ?_
        exact ⟨(), trivial, rfl⟩
      · have h3 : has = false := h2
        subst h3
        rw [if_neg (fun h => Bool.noConfusion h)] at hpw
        rw [hpw]
        refine Tr.skip ?_
        exact ⟨(), trivial, rfl⟩
    have hcap : ((l.take i).map (putW stem)).length + 1 ≤ 1099511627776 := by
      rw [List.length_map, List.length_take]
      omega
    have htk : (l.take i).map (putW stem) ++ [putW stem l[i]] = (l.take (i + 1)).map (putW stem) := by
      rw [List.take_succ_eq_append_getElem hi1, List.map_append]
      rfl
    generalize putW stem l[i] = w at *
    refine Tr.region ?_; refine TrL.quiets 2 rfl (by exact True.intro) ?_; refine TrL.eff (effLit_sound rfl) (by exact True.intro) ?_; refine TrL.eff (effAppend_sound rfl) (by assumption) ?_; refine TrL.quiets 1 rfl (by exact True.intro) ?_; refine TrL.nil ?_; refine Tr.region ?_; refine TrL.quiets 2 rfl (by exact True.intro) ?_; refine TrL.nil ?_
    refine ⟨i + 1, by omega, by dsimp only; omega, ?_⟩
    refine Eq.trans (b := (⟨[(1, [], vS stem), (5, [], .own 0), (9, [], vL .str l), (10, [], vI l.length), (11, [], vI (IntKind.i64.wrap ((i : Int) + 1)))], [.gs 9 .str ((l.take i).map (putW stem) ++ [w])]⟩ : St)) rfl ?_
    rw [w64n (y := i + 1) (by omega) (by omega), htk]
  · simp only [decide_eq_false_iff_not] at h1
    obtain rfl : i = l.length := by omega
    refine Tr.exit ?_; refine Tr.seq ?_; refine Tr.region ?_; refine TrL.quiets 2 rfl (by exact True.intro) ?_; refine TrL.nil ?_; refine Tr.ret ?_
    refine retQ.of rfl ?_
    rw [List.take_length]
theorem c_stems (l : List Str) (stem : Str) (hl : l.length ≤ 1000000) (hw : ∀ w ∈ l, w.length ≤ 1000000) (hst : stem.length ≤ 1000000) : CallV Tryd.prog 72 [vL .str l, vS stem] (vL .str (l.map (putW stem))) := by
  refine CallV.of Tryd.func72 (by kernel_rfl) rfl Tryd.ntmps72 (by simp) rfl fun cx hB => ?_
  have hB1 : ∀ i, cx.B i = true → i < 1 := fun i h => by have := hB i h; omega
  refine Tr.seq ?_; refine Tr.region ?_; refine TrL.quiets 1 rfl (by exact True.intro) ?_; refine TrL.nil ?_; refine Tr.seq ?_; refine Tr.region ?_; refine TrL.quiets 1 rfl (by exact True.intro) ?_; refine TrL.nil ?_
  change Tr _ _ _ _ _ _
  refine Tr.nilRow 5 9 .str rfl ?_
  refine Tr.seq ?_; refine Tr.seq ?_; refine Tr.region ?_; refine TrL.quiets 1 rfl (by exact True.intro) ?_; refine TrL.nil ?_; refine Tr.block ?_
  refine Tr.loop (fun (i : Nat) => ⟨[(0, [], vL .str l), (1, [], vS stem), (5, [], .own 0), (6, [], vI i)], [.gs 9 .str ((l.take i).map (putW stem))]⟩) (fun i => i ≤ l.length) (fun i => l.length - i) 0 [0, 1, 5, 6] 1 hB1 rfl (Nat.zero_le _) fun i hi => ?_
  refine Tr.seq ?_; refine Tr.seq ?_; refine Tr.region ?_; refine TrL.quiets 4 rfl (by exact True.intro) ?_; refine TrL.nil ?_
  refine Tr.cond rfl (fun h1 => ?_) (fun h1 => ?_)
  · simp only [decide_eq_true_eq] at h1
    have hi1 : i < l.length := by omega
    have hn : nth (t := .str) l (i : Int) = l[i] := nth_get' (t := .str) l i hi1
    have hwl := hw l[i] (List.getElem_mem hi1)
    have hpl := patF_len l[i]
    refine Tr.skip ?_; refine Tr.seq ?_; refine Tr.block ?_; refine Tr.seq ?_; refine Tr.region ?_; refine TrL.quiets 5 rfl (by (simp only [allOf, impO, imp, inR, loOk, and_true]; omega)) ?_; refine TrL.nil ?_
    refine Tr.is 7 (sv' := vS l[i]) rfl (congrArg vS hn) ?_
    refine Tr.seq ?_; refine Tr.seq ?_; refine Tr.region ?_; refine TrL.quiets 1 rfl (by exact True.intro) ?_
    first | refine TrL.callV rfl rfl rfl rfl rfl (c_refPattern l[i] hwl) ?_ | refine TrD.callV rfl rfl rfl rfl rfl (c_refPattern l[i] hwl) rfl ?_
    have hpwl := putW_len stem l[i]
    refine TrL.nil ?_
    refine Tr.joinN (fun (_ : Unit) => ⟨[(0, [], vL .str l), (1, [], vS stem), (5, [], .own 0), (6, [], vI i), (7, [], vS (putW stem l[i]))], [.gs 9 .str ((l.take i).map (putW stem))]⟩) (fun _ => True) [0, 1, 5, 6, 7] 1 hB1 ?_ fun _ _ => ?_
    · refine Tr.cond rfl (fun h2 => ?_) (fun h2 => ?_)
      · have h3 : hasP l[i] = true := h2
        have hpw : putW stem l[i] = putF (patF l[i]) stem := by rw [putW, if_pos h3]
        rw [hpw]
        refine Tr.region ?_; refine TrL.quiets 1 rfl (by exact True.intro) ?_
        first | refine TrL.callV rfl rfl rfl rfl rfl (c_rOf l[i] (by omega)) ?_ | refine TrD.callV rfl rfl rfl rfl rfl (c_rOf l[i] (by omega)) rfl ?_
        refine TrL.quiets 1 rfl (by exact True.intro) ?_
        first | refine TrL.callV rfl rfl rfl rfl rfl (c_rPut (patF l[i]) stem (by omega)) ?_ | refine TrD.callV rfl rfl rfl rfl rfl (c_rPut (patF l[i]) stem (by omega)) rfl ?_
        refine TrL.quiets 1 rfl (by exact True.intro) ?_; refine TrL.nil ?_
        exact ⟨(), trivial, rfl⟩
      · have h3 : hasP l[i] = false := h2
        have hpw : putW stem l[i] = l[i] := by rw [putW, h3]; rfl
        rw [hpw]
        refine Tr.skip ?_
        exact ⟨(), trivial, rfl⟩
    have hcap : ((l.take i).map (putW stem)).length + 1 ≤ 1099511627776 := by
      rw [List.length_map, List.length_take]
      omega
    have htk : (l.take i).map (putW stem) ++ [putW stem l[i]] = (l.take (i + 1)).map (putW stem) := by
      rw [List.take_succ_eq_append_getElem hi1, List.map_append]
      rfl
    generalize putW stem l[i] = w at *
    refine Tr.region ?_; refine TrL.quiets 2 rfl (by exact True.intro) ?_; refine TrL.eff (effLit_sound rfl) (by exact True.intro) ?_; refine TrL.eff (effAppend_sound rfl) (by assumption) ?_; refine TrL.quiets 1 rfl (by exact True.intro) ?_; refine TrL.nil ?_; refine Tr.region ?_; refine TrL.quiets 3 rfl (by exact True.intro) ?_; refine TrL.nil ?_
    refine ⟨i + 1, by omega, by dsimp only; omega, ?_⟩
    refine Eq.trans (b := (⟨[(0, [], vL .str l), (1, [], vS stem), (5, [], .own 0), (6, [], vI (IntKind.i64.wrap ((i : Int) + 1)))], [.gs 9 .str ((l.take i).map (putW stem) ++ [w])]⟩ : St)) rfl ?_
    rw [w64n (y := i + 1) (by omega) (by omega), htk]
  · simp only [decide_eq_false_iff_not] at h1
    obtain rfl : i = l.length := by omega
    refine Tr.exit ?_; refine Tr.seq ?_; refine Tr.region ?_; refine TrL.quiets 2 rfl (by exact True.intro) ?_; refine TrL.nil ?_; refine Tr.ret ?_
    refine retQ.of rfl ?_
    rw [List.take_length]
end Go.Proofs.YtckgeebihhhapaaDoor.Sx
