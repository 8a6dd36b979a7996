/-
  Rules: the reference's Read.
-/
import Derived.Test.YtckgeebihhhapaaDoorG30
set_option linter.unusedVariables false
set_option linter.unusedSimpArgs false
set_option maxRecDepth 20000
set_option maxHeartbeats 4000000
namespace Go.Proofs.YtckgeebihhhapaaDoor.Sx
open Go Go.RowKit Go.Proofs

theorem count_any (ts : List Str) : decide (0 < ts.countP hasP) = ts.any hasP := by
  rw [Bool.eq_iff_iff, decide_eq_true_eq, List.countP_pos_iff, List.any_eq_true]
theorem count_all (ts : List Str) : decide (ts.countP hasP < ts.length) = ts.any (fun t => !hasP t) := by
  rw [Bool.eq_iff_iff, decide_eq_true_eq, List.any_eq_true]
  have h1 := List.length_eq_countP_add_countP hasP (l := ts)
  constructor
  · intro h
    have h2 : 0 < ts.countP (fun t => !hasP t) := by
      have : (fun a => decide ¬hasP a = true) = (fun t => !hasP t) := by
        funext t
        cases hasP t <;> rfl
      rw [this] at h1
      omega
    obtain ⟨t, q1, q2⟩ := List.countP_pos_iff.1 h2
    exact ⟨t, q1, q2⟩
  · rintro ⟨t, q1, q2⟩
    have h2 : 0 < ts.countP (fun t => !hasP t) := List.countP_pos_iff.2 ⟨t, q1, q2⟩
    have : (fun a => decide ¬hasP a = true) = (fun t => !hasP t) := by
      funext t
      cases hasP t <;> rfl
    rw [this] at h1
    omega
theorem c_ref_rRead (s : Str) (hs : s.length < 1000000) : CallV Tryd.prog 15 [vS s] (.tup [vL ruleTy (ruleF s).1, vI (ruleF s).2]) := by
  obtain ⟨R, hR⟩ : ∃ R, ruleF s = R := ⟨_, rfl⟩
  rw [hR]
  unfold ruleF at hR
  refine CallV.of Tryd.func15 (by kernel_rfl) rfl Tryd.ntmps15 (by simp) rfl fun cx hB => ?_
  refine Tr.seq ?_; refine Tr.region ?_; refine TrL.quiets 2 rfl (by exact True.intro) ?_; refine TrL.nil ?_; refine Tr.seq ?_; refine Tr.region ?_; refine TrL.quiets 1 rfl (by exact True.intro) ?_
  first | refine TrL.callV rfl rfl rfl rfl rfl (c_ref_Colon s (by omega)) ?_ | refine TrD.callV rfl rfl rfl rfl rfl (c_ref_Colon s (by omega)) rfl ?_
  rcases place_lt s with h0 | ⟨k, hk, h0⟩
  · rw [h0] at hR ⊢
    rw [if_pos (by decide)] at hR
    refine TrL.quiets 1 rfl (by exact True.intro) ?_; refine TrL.nil ?_; refine Tr.seq ?_; refine Tr.seq ?_; refine Tr.region ?_; refine TrL.quiets 2 rfl (by exact True.intro) ?_; refine TrL.nil ?_
    refine Tr.cond rfl (fun h1 => ?_) (fun h1 => ?_)
    · refine Tr.seq ?_; refine Tr.region ?_; refine TrL.quiets 2 rfl (by exact True.intro) ?_; refine TrL.nil ?_
      change Tr _ _ _ _ _ _
      refine Tr.weak 2 rfl (nil_weak ruleTy) ?_
      refine Tr.ret ?_
      refine retQ.of rfl ?_
      rw [← hR]
    · cases h1
  rw [h0] at hR ⊢
  rw [if_neg (by omega), Int.toNat_natCast] at hR
  refine TrL.quiets 1 rfl (by exact True.intro) ?_; refine TrL.nil ?_; refine Tr.seq ?_; refine Tr.seq ?_; refine Tr.region ?_; refine TrL.quiets 2 rfl (by exact True.intro) ?_; refine TrL.nil ?_
  refine Tr.cond rfl (fun h1 => ?_) (fun h1 => ?_)
  · have h2 : decide ((k : Int) < 0) = true := h1
    rw [decide_eq_true_eq] at h2
    omega
  have ht1 : (s.take k).length < 1000000 := by rw [List.length_take]; omega
  have hsm := splitW_small ht1
  have e1 := w64n (x := (k : Int) + 1) (y := k + 1) (by omega) (by omega)
  have e2 : cut s (some (IntKind.i64.wrap ((k : Int) + 1))) none = s.drop (k + 1) := by rw [e1]; rfl
  refine Tr.skip ?_; refine Tr.seq ?_
  refine Tr.drawA 10 rfl (by kernel_rfl) ?_
  refine TrA.take 0 rfl rfl (by kernel_rfl) rfl (by exact True.intro) ?_; refine TrA.take 1 rfl rfl (by kernel_rfl) rfl (by exact True.intro) ?_; refine TrA.take 2 rfl rfl (by kernel_rfl) rfl (by (simp (disch := omega) only [holds, impO, imp, loOk, w64, Option.getD_none, Option.getD_some, and_true, true_and]; omega)) ?_; refine TrA.take 4 rfl rfl (by kernel_rfl) rfl (by exact True.intro) ?_; refine TrA.take 5 rfl rfl (by kernel_rfl) rfl (by exact True.intro) ?_; refine TrA.take 6 rfl rfl (by kernel_rfl) rfl (by exact True.intro) ?_; refine TrA.take 7 rfl rfl (by kernel_rfl) rfl (by (simp (disch := omega) only [holds, impO, imp, loOk, w64, Option.getD_none, Option.getD_some, and_true, true_and]; omega)) ?_; refine TrA.one 3 (by kernel_rfl) rfl ?_
  first | refine TrL.callV rfl rfl rfl rfl rfl (c_ref_Split (s.take k) (by omega)) ?_ | refine TrD.callV rfl rfl rfl rfl rfl (c_ref_Split (s.take k) (by omega)) rfl ?_
  generalize splitW (s.take k) = ts at *
  have hts := hsm.1
  rw [e2]
  refine TrL.nil ?_; refine TrA.take 8 rfl rfl (by kernel_rfl) rfl (by exact True.intro) ?_; refine TrA.take 9 rfl rfl (by kernel_rfl) rfl (by exact True.intro) ?_; refine TrA.done (by kernel_rfl) ?_; refine Tr.seq ?_; refine Tr.seq ?_; refine Tr.region ?_; refine TrL.quiets 3 rfl (by exact True.intro) ?_; refine TrL.nil ?_
  refine Tr.cond rfl (fun h2 => ?_) (fun h2 => ?_)
  · have h3 : ts = [] := by
      have h3 : ((ts.length : Int) == 0) = true := h2
      rw [beq_iff_eq] at h3
      exact List.length_eq_zero_iff.1 (by omega)
    rw [if_pos h3] at hR
    refine Tr.seq ?_; refine Tr.region ?_; refine TrL.quiets 2 rfl (by exact True.intro) ?_; refine TrL.nil ?_
    change Tr _ _ _ _ _ _
    refine Tr.weak 2 rfl (nil_weak ruleTy) ?_
    refine Tr.ret ?_
    refine retQ.of rfl ?_
    rw [← hR]
  have h3 : ts ≠ [] := by
    intro h3
    rw [h3] at h2
    cases h2
  rw [if_neg h3] at hR
  have hrl := trimPre_len (s.drop (k + 1)) [58]
  rw [List.length_drop] at hrl
  refine Tr.skip ?_; refine Tr.seq ?_; refine Tr.region ?_; refine TrL.quiets 1 rfl (by exact True.intro) ?_
  first | refine TrL.callV rfl rfl rfl rfl rfl (c_ref_Has (s.drop (k + 1)) [58]) ?_ | refine TrD.callV rfl rfl rfl rfl rfl (c_ref_Has (s.drop (k + 1)) [58]) rfl ?_
  obtain ⟨dbl, hdbl⟩ : ∃ b, hasPre (s.drop (k + 1)) [58] = b := ⟨_, rfl⟩
  have htp : trimPre (s.drop (k + 1)) [58] = if dbl then (s.drop (k + 1)).drop 1 else s.drop (k + 1) := by rw [trimPre, hdbl]; rfl
  have hdl : dbl = true → 1 ≤ (s.drop (k + 1)).length := by
    intro h
    rw [h] at hdbl
    cases hd : s.drop (k + 1) with
    | nil => rw [hd] at hdbl; cases hdbl
    | cons c r => simp
  rw [hdbl] at hR ⊢
  generalize trimPre (s.drop (k + 1)) [58] = rest at *
  generalize s.drop (k + 1) = r0 at *
  unfold tailF1 at hR
  refine TrL.quiets 1 rfl (by exact True.intro) ?_; refine TrL.nil ?_; refine Tr.seq ?_; refine Tr.seq ?_; refine Tr.region ?_; refine TrL.quiets 1 rfl (by exact True.intro) ?_; refine TrL.nil ?_
  refine Tr.joinN (fun (_ : Unit) => ⟨[(5, [], vL .str ts), (6, [], vS rest), (7, [], vB dbl)], []⟩) (fun _ => True) [5, 6, 7] 0 hB ?_ fun _ _ => ?_
  · refine Tr.cond rfl (fun h4 => ?_) (fun h4 => ?_)
    · have h5 : dbl = true := h4
      have hdl := hdl h5
      subst h5
      rw [if_pos rfl] at htp
      subst htp
      refine Tr.region ?_; refine TrL.quiets 3 rfl (by (simp (disch := omega) only [allOf, impO, imp, inR, loOk, and_true, w64, List.length_set, List.length_cons, List.length_nil, Option.getD_none, Option.getD_some, Ty.D, true_and, decide_eq_true_eq, decide_eq_false_iff_not, Bool.and_eq_true, Bool.or_eq_false_iff]; omega)) ?_; refine TrL.nil ?_
      exact ⟨(), trivial, rfl⟩
    · have h5 : dbl = false := h4
      subst h5
      rw [if_neg (by decide)] at htp
      subst htp
      refine Tr.skip ?_
      exact ⟨(), trivial, rfl⟩
  refine Tr.seq ?_; refine Tr.seq ?_; refine Tr.region ?_; refine TrL.quiets 1 rfl (by exact True.intro) ?_
  first | refine TrL.callV rfl rfl rfl rfl rfl (c_ref_Colon rest (by omega)) ?_ | refine TrD.callV rfl rfl rfl rfl rfl (c_ref_Colon rest (by omega)) rfl ?_
  rcases place_lt rest with h4 | ⟨j, hj, h4⟩
  · rw [h4] at hR ⊢
    rw [if_neg (by decide), ← count_any, ← count_all] at hR
    refine TrL.quiets 1 rfl (by exact True.intro) ?_; refine TrL.nil ?_; refine Tr.seq ?_; refine Tr.region ?_; refine TrL.quiets 2 rfl (by exact True.intro) ?_; refine TrL.nil ?_
    refine Tr.cond rfl (fun h5 => ?_) (fun h5 => ?_)
    · cases h5
    refine Tr.skip ?_; refine Tr.seq ?_; refine Tr.region ?_; refine TrL.quiets 1 rfl (by exact True.intro) ?_; refine TrL.nil ?_; refine Tr.seq ?_; refine Tr.seq ?_; refine Tr.region ?_; refine TrL.quiets 1 rfl (by exact True.intro) ?_; refine TrL.nil ?_; refine Tr.block ?_
    refine Tr.loop (fun (i : Nat) => ⟨[(5, [], vL .str ts), (6, [], vS rest), (7, [], vB dbl), (9, [], vI ((ts.take i).countP hasP : Nat)), (10, [], vI i)], []⟩) (fun i => i ≤ ts.length) (fun i => ts.length - i) 0 [5, 6, 7, 9, 10] 0 hB rfl (Nat.zero_le _) fun i hi => ?_
    refine Tr.seq ?_; refine Tr.seq ?_; refine Tr.region ?_; refine TrL.quiets 4 rfl (by exact True.intro) ?_; refine TrL.nil ?_
    refine Tr.cond rfl (fun h6 => ?_) (fun h6 => ?_)
    · simp only [decide_eq_true_eq] at h6
      have hi1 : i < ts.length := by omega
      have hn : nth (t := .str) ts (i : Int) = ts[i] := nth_get' (t := .str) ts i hi1
      have hcl : (ts.take i).countP hasP ≤ (ts.take i).length := List.countP_le_length
      rw [List.length_take] at hcl
      have hcs : (ts.take (i + 1)).countP hasP = (ts.take i).countP hasP + (if hasP ts[i] then 1 else 0) := by
        rw [List.take_succ_eq_append_getElem hi1, List.countP_append]
        simp [List.countP_cons]
      refine Tr.skip ?_; refine Tr.seq ?_; refine Tr.block ?_; refine Tr.seq ?_; refine Tr.region ?_; refine TrL.quiets 4 rfl (by (simp only [allOf, impO, imp, inR, loOk, and_true]; omega)) ?_
      first | refine TrL.callV rfl rfl rfl rfl rfl (c_refPattern (nth (t := .str) ts (i : Int)) (by rw [hn]; exact hsm.2 _ (List.getElem_mem hi1))) ?_ | refine TrD.callV rfl rfl rfl rfl rfl (c_refPattern (nth (t := .str) ts (i : Int)) (by rw [hn]; exact hsm.2 _ (List.getElem_mem hi1))) rfl ?_
      rw [hn]
      refine TrL.nil ?_
      refine Tr.cond rfl (fun h7 => ?_) (fun h7 => ?_)
      · have h8 : hasP ts[i] = true := h7
        rw [h8, if_pos rfl] at hcs
        refine Tr.region ?_; refine TrL.quiets 3 rfl (by exact True.intro) ?_; refine TrL.nil ?_; refine Tr.region ?_; refine TrL.quiets 3 rfl (by exact True.intro) ?_; refine TrL.nil ?_
        refine ⟨i + 1, by omega, by dsimp only; omega, ?_⟩
        dsimp only
        rw [hcs]
        refine Eq.trans (b := (⟨[(5, [], vL .str ts), (6, [], vS rest), (7, [], vB dbl), (9, [], vI (IntKind.i64.wrap (((ts.take i).countP hasP : Nat) + 1))), (10, [], vI (IntKind.i64.wrap ((i : Int) + 1)))], []⟩ : St)) rfl ?_
        rw [w64n (y := (ts.take i).countP hasP + 1) (by omega) (by omega), w64n (y := i + 1) (by omega) (by omega)]
      · have h8 : hasP ts[i] = false := h7
        rw [h8, if_neg (by decide), Nat.add_zero] at hcs
        refine Tr.skip ?_; refine Tr.region ?_; refine TrL.quiets 3 rfl (by exact True.intro) ?_; refine TrL.nil ?_
        refine ⟨i + 1, by omega, by dsimp only; omega, ?_⟩
        dsimp only
        rw [hcs]
        refine Eq.trans (b := (⟨[(_, [], _), (_, [], _), (_, [], _), (_, [], _), (_, [], _)], []⟩ : St)) rfl ?_
        rw [w64n (y := i + 1) (by omega) (by omega)]
        rfl
    simp only [decide_eq_false_iff_not] at h6
    obtain rfl : i = ts.length := by omega
    rw [List.take_length]
    generalize ts.countP hasP = n at *
    have e6 : (decide ((n : Int) > 0) && decide ((n : Int) < (ts.length : Int))) = (decide (0 < n) && decide (n < ts.length)) := by
      rw [Bool.eq_iff_iff]
      simp only [Bool.and_eq_true, decide_eq_true_eq]
      omega
    refine Tr.exit ?_; refine Tr.seq ?_; refine Tr.seq ?_; refine Tr.region ?_; refine TrL.quiets 8 rfl (by exact True.intro) ?_; refine TrL.nil ?_
    refine Tr.is 69 (sv' := vB (decide (0 < n) && decide (n < ts.length))) rfl (congrArg vB e6) ?_
    refine Tr.cond rfl (fun h7 => ?_) (fun h7 => ?_)
    · have h8 : (decide (0 < n) && decide (n < ts.length)) = true := h7
      rw [if_pos h8] at hR
      refine Tr.seq ?_; refine Tr.region ?_; refine TrL.quiets 2 rfl (by exact True.intro) ?_; refine TrL.nil ?_
      change Tr _ _ _ _ _ _
      refine Tr.weak 2 rfl (nil_weak ruleTy) ?_
      refine Tr.ret ?_
      refine retQ.of rfl ?_
      rw [← hR]
    · have h8 : ¬ (decide (0 < n) && decide (n < ts.length)) = true := by rw [show (decide (0 < n) && decide (n < ts.length)) = false from h7]; decide
      rw [if_neg h8] at hR
      have e7 : decide ((n : Int) > 0) = decide (0 < n) := by
        rw [Bool.eq_iff_iff, decide_eq_true_eq, decide_eq_true_eq]
        omega
      refine Tr.skip ?_; refine Tr.seq ?_; refine Tr.region ?_; refine TrL.quiets 1 rfl (by exact True.intro) ?_
      first | refine TrL.callV rfl rfl rfl rfl rfl (c_halves rest (by omega)) ?_ | refine TrD.callV rfl rfl rfl rfl rfl (c_halves rest (by omega)) rfl ?_
      refine TrL.quiets 5 rfl (by exact True.intro) ?_; refine TrL.nil ?_; refine Tr.seq ?_; refine Tr.region ?_; refine TrL.quiets 7 rfl (by exact True.intro) ?_; refine TrL.eff (effLit_sound rfl) (by exact True.intro) ?_; refine TrL.quiets 2 rfl (by exact True.intro) ?_; refine TrL.nil ?_
      change Tr _ _ _ _ _ _
      refine Tr.weak 2 rfl (fix_weak ruleTy _) ?_
      refine Tr.ret ?_
      refine retQ.of rfl ?_
      rw [← hR, ← e7]
      rfl
  · rw [h4] at hR ⊢
    rw [if_pos (by omega), Int.toNat_natCast] at hR
    have e3 := w64n (x := (j : Int) + 1) (y := j + 1) (by omega) (by omega)
    have e4 : cut rest (some (IntKind.i64.wrap ((j : Int) + 1))) none = rest.drop (j + 1) := by rw [e3]; rfl
    have e5 : cut rest none (some (j : Int)) = rest.take j := rfl
    refine TrL.quiets 1 rfl (by exact True.intro) ?_; refine TrL.nil ?_; refine Tr.seq ?_; refine Tr.region ?_; refine TrL.quiets 2 rfl (by exact True.intro) ?_; refine TrL.nil ?_
    refine Tr.cond rfl (fun h5 => ?_) (fun h5 => ?_)
    · refine Tr.seq ?_
      refine Tr.drawA 14 rfl (by kernel_rfl) ?_
      refine TrA.take 0 rfl rfl (by kernel_rfl) rfl (by exact True.intro) ?_; refine TrA.take 1 rfl rfl (by kernel_rfl) rfl (by exact True.intro) ?_; refine TrA.take 2 rfl rfl (by kernel_rfl) rfl (by exact True.intro) ?_; refine TrA.take 3 rfl rfl (by kernel_rfl) rfl (by (simp (disch := omega) only [holds, impO, imp, loOk, w64, Option.getD_none, Option.getD_some, and_true, true_and]; omega)) ?_; refine TrA.take 4 rfl rfl (by kernel_rfl) rfl (by exact True.intro) ?_; refine TrA.take 5 rfl rfl (by kernel_rfl) rfl (by exact True.intro) ?_; refine TrA.take 6 rfl rfl (by kernel_rfl) rfl (by exact True.intro) ?_; refine TrA.take 7 rfl rfl (by kernel_rfl) rfl (by (simp (disch := omega) only [holds, impO, imp, loOk, w64, Option.getD_none, Option.getD_some, and_true, true_and]; omega)) ?_; refine TrA.take 8 rfl rfl (by kernel_rfl) rfl (by exact True.intro) ?_; refine TrA.one 9 (by kernel_rfl) rfl ?_
      first | refine TrL.callV rfl rfl rfl rfl rfl (c_rstatic ts (cut rest none (some (j : Int))) (cut rest (some (IntKind.i64.wrap ((j : Int) + 1))) none) dbl hsm (by rw [e5, List.length_take]; omega) (by rw [e4, List.length_drop]; omega)) ?_ | refine TrD.callV rfl rfl rfl rfl rfl (c_rstatic ts (cut rest none (some (j : Int))) (cut rest (some (IntKind.i64.wrap ((j : Int) + 1))) none) dbl hsm (by rw [e5, List.length_take]; omega) (by rw [e4, List.length_drop]; omega)) rfl ?_
      rw [e4, e5, hR]
      refine TrL.nil ?_; refine TrA.take 10 rfl rfl (by kernel_rfl) rfl (by exact True.intro) ?_; refine TrA.take 11 rfl rfl (by kernel_rfl) rfl (by exact True.intro) ?_; refine TrA.take 12 rfl rfl (by kernel_rfl) rfl (by exact True.intro) ?_; refine TrA.take 13 rfl rfl (by kernel_rfl) rfl (by exact True.intro) ?_; refine TrA.done (by kernel_rfl) ?_; refine Tr.ret ?_
      refine retQ.of rfl ?_
      rfl
    · have h6 : decide ((j : Int) ≥ 0) = false := h5
      rw [decide_eq_false_iff_not] at h6
      omega
/-! ### How long they are -/
theorem staticL_small {p : PatD} {a b : List Str} {dbl : Bool} (ha : a.length ≤ 1000000) (hb : b.length ≤ 1000000) : ∀ (ts : List Str) (l : List RuleD), staticL p a b dbl ts = some l → l.length = ts.length ∧ ∀ r ∈ l, r.1.length ≤ 1000001 ∧ r.2.1.length ≤ 1000001 ∧ r.2.2.1.length ≤ 1000001 ∧ r.2.2.2.1.length ≤ 1000001
  | [], l, h => by
    simp only [staticL, Option.some.injEq] at h
    subst h
    exact ⟨rfl, fun r hr => (by cases hr)⟩
  | t :: ts, l, h => by
    rw [staticL] at h
    split at h
    · split at h
      · rename_i l' hl'
        obtain rfl := Option.some.inj h
        obtain ⟨h1, h2⟩ := staticL_small ha hb ts l' hl'
        refine ⟨by simp [h1], fun r hr => ?_⟩
        rcases List.mem_cons.1 hr with rfl | hr
        · refine ⟨by simp [mkRule], ?_, ?_, by simp [mkRule]⟩
          · simp only [mkRule, List.length_map]; omega
          · simp only [mkRule, List.length_map]; omega
        · exact h2 r hr
      · cases h
    · cases h
theorem ruleF_small (s : Str) (hs : s.length < 1000000) : (ruleF s).1.length ≤ 1000001 ∧ ∀ r ∈ (ruleF s).1, r.1.length ≤ 1000001 ∧ r.2.1.length ≤ 1000001 ∧ r.2.2.1.length ≤ 1000001 ∧ r.2.2.2.1.length ≤ 1000001 := by
  have nil : ∀ e : Int, ((([] : List RuleD), e).1.length ≤ 1000001 ∧ ∀ r ∈ (([] : List RuleD), e).1, r.1.length ≤ 1000001 ∧ r.2.1.length ≤ 1000001 ∧ r.2.2.1.length ≤ 1000001 ∧ r.2.2.2.1.length ≤ 1000001) := fun e => ⟨Nat.zero_le _, fun r hr => (by cases hr)⟩
  unfold ruleF
  split
  · exact nil _
  · have ht := splitW_small (s := s.take (place 58 s).toNat) (by rw [List.length_take]; omega)
    split
    · exact nil _
    · have hl := trimPre_len (s.drop ((place 58 s).toNat + 1)) [58]
      rw [List.length_drop] at hl
      generalize trimPre (s.drop ((place 58 s).toNat + 1)) [58] = rest at *
      generalize splitW (s.take (place 58 s).toNat) = ts at *
      unfold tailF1
      split
      · have hp := partsF_small (s := rest.drop ((place 58 rest).toNat + 1)) (by rw [List.length_drop]; omega)
        unfold staticF
        split
        · unfold staticE
          split
          · rename_i l hl2
            obtain ⟨h1, h2⟩ := staticL_small hp.1.1 hp.2.1 _ _ hl2
            refine ⟨?_, h2⟩
            have := ht.1
            show l.length ≤ _
            omega
          · exact nil _
        · exact nil _
      · split
        · exact nil _
        · have hp := partsF_small (s := rest) (by omega)
          refine ⟨by simp, fun r hr => ?_⟩
          rw [List.mem_singleton.1 hr]
          have h1 := ht.1
          have h2 := hp.1.1
          have h3 := hp.2.1
          exact ⟨by dsimp only; omega, by dsimp only; omega, by dsimp only; omega, by simp⟩
end Go.Proofs.YtckgeebihhhapaaDoor.Sx
