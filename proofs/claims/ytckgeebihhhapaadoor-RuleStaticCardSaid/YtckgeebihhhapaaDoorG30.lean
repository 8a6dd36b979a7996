/-
  Rules: Read, both.
-/
import Derived.Test.YtckgeebihhhapaaDoorG29
import Derived.Test.YtckgeebihhhapaaDoorF6
set_option linter.unusedVariables false
set_option linter.unusedSimpArgs false
set_option maxRecDepth 20000
set_option maxHeartbeats 4000000
namespace Go.Proofs.YtckgeebihhhapaaDoor.Sx
open Go Go.RowKit Go.Proofs

/-! ### Plain -/
theorem firstO_lt (p : UInt8 → Bool) : ∀ (s : Str) (bs : List Bool) (i k : Nat), firstO p i bs s = some k → i ≤ k ∧ k < i + s.length
  | [], bs, i, k, h => by cases bs <;> cases h
  | c :: r, [], i, k, h => by cases h
  | c :: r, b :: bs, i, k, h => by
    rw [firstO_cons] at h
    split at h
    · obtain rfl := Option.some.inj h
      simp only [List.length_cons]
      omega
    · obtain ⟨h1, h2⟩ := firstO_lt p r bs (i + 1) k h
      simp only [List.length_cons]
      omega
theorem place_lt (s : Str) : place 58 s = -1 ∨ ∃ k : Nat, k < s.length ∧ place 58 s = (k : Int) := by
  unfold place
  rw [scan_firstO _ _ (by decide) _ s (Nat.le_refl _)]
  cases h : firstO (· == 58) 0 (outs 0 s) s with
  | none => exact .inl rfl
  | some k => exact .inr ⟨k, by have := firstO_lt _ s _ 0 k h; omega, rfl⟩
/-- Behind the first colon, and its second one. -/
def tailF1 (ts : List Str) (rest : Str) (dbl : Bool) : List RuleD × Int :=
  if 0 ≤ place 58 rest then staticF ts (rest.take (place 58 rest).toNat) (rest.drop ((place 58 rest).toNat + 1)) dbl
  else if ts.any hasP && ts.any (fun t => !hasP t) then ([], 16)
  else ([(ts, (partsF rest).1, (partsF rest).2, [], dbl, ts.any hasP, [], 0)], 0)
def ruleF (s : Str) : List RuleD × Int :=
  if place 58 s < 0 then ([], 11)
  else if splitW (s.take (place 58 s).toNat) = [] then ([], 16)
  else tailF1 (splitW (s.take (place 58 s).toNat)) (trimPre (s.drop ((place 58 s).toNat + 1)) [58]) (hasPre (s.drop ((place 58 s).toNat + 1)) [58])
theorem trimPre_len (s p : Str) : (trimPre s p).length ≤ s.length := by
  unfold trimPre
  split
  · rw [List.length_drop]; omega
  · exact Nat.le_refl _
theorem any_both {ts : List Str} (h : ts ≠ []) : (!(ts.any fun t => !hasP t)) = (ts.any hasP && !(ts.any fun t => !hasP t)) := by
  cases ts with
  | nil => exact absurd rfl h
  | cons t r =>
    simp only [List.any_cons]
    cases hasP t <;> simp
theorem c_rule_Read (s : Str) (hs : s.length < 1000000) : CallV Tryd.prog 14 [vS s] (.tup [vL ruleTy (ruleF s).1, vI (ruleF s).2]) := by
  obtain ⟨R, hR⟩ : ∃ R, ruleF s = R := ⟨_, rfl⟩
  rw [hR]
  unfold ruleF at hR
  refine CallV.of Tryd.func14 (by kernel_rfl) rfl Tryd.ntmps14 (by simp) rfl fun cx hB => ?_
  refine Tr.seq ?_; refine Tr.region ?_; refine TrL.quiets 2 rfl (by exact True.intro) ?_; refine TrL.nil ?_; refine Tr.seq ?_; refine Tr.region ?_; refine TrL.quiets 1 rfl (by exact True.intro) ?_
  first | refine TrL.callV rfl rfl rfl rfl rfl (c_assign_Colon s (by omega)) ?_ | refine TrD.callV rfl rfl rfl rfl rfl (c_assign_Colon s (by omega)) rfl ?_
  rcases place_lt s with h0 | ⟨k, hk, h0⟩
  · rw [h0] at hR ⊢
    rw [if_pos (by decide)] at hR
    refine TrL.quiets 1 rfl (by exact True.intro) ?_; refine TrL.nil ?_; refine Tr.seq ?_; refine Tr.seq ?_; refine Tr.region ?_; refine TrL.quiets 2 rfl (by exact True.intro) ?_; refine TrL.nil ?_
    refine Tr.cond rfl (fun h1 => ?_) (fun h1 => ?_)
    · refine Tr.seq ?_; refine Tr.region ?_; refine TrL.quiets 2 rfl (by exact True.intro) ?_; refine TrL.nil ?_
      change Tr _ _ _ _ _ _
      refine Tr.weak 2 rfl (nil_weak ruleTy) ?_
      refine Tr.ret ?_
      refine retQ.of rfl ?_
      rw [← hR]
    · cases h1
  rw [h0] at hR ⊢
  rw [if_neg (by omega), Int.toNat_natCast] at hR
  refine TrL.quiets 1 rfl (by exact True.intro) ?_; refine TrL.nil ?_; refine Tr.seq ?_; refine Tr.seq ?_; refine Tr.region ?_; refine TrL.quiets 2 rfl (by exact True.intro) ?_; refine TrL.nil ?_
  refine Tr.cond rfl (fun h1 => ?_) (fun h1 => ?_)
  · have h2 : decide ((k : Int) < 0) = true := h1
    rw [decide_eq_true_eq] at h2
    omega
  have ht1 : (s.take k).length < 1000000 := by rw [List.length_take]; omega
  have hsm := splitW_small ht1
  refine Tr.skip ?_; refine Tr.seq ?_; refine Tr.region ?_; refine TrL.quiets 3 rfl (by (simp only [allOf, impO, imp, inR, loOk, and_true]; omega)) ?_
  first | refine TrL.callV rfl rfl rfl rfl rfl (c_Split (s.take k) (by omega)) ?_ | refine TrD.callV rfl rfl rfl rfl rfl (c_Split (s.take k) (by omega)) rfl ?_
  generalize splitW (s.take k) = ts at *
  have hts := hsm.1
  refine TrL.quiets 1 rfl (by exact True.intro) ?_; refine TrL.nil ?_; refine Tr.seq ?_; refine Tr.seq ?_; refine Tr.region ?_; refine TrL.quiets 3 rfl (by exact True.intro) ?_; refine TrL.nil ?_
  refine Tr.cond rfl (fun h2 => ?_) (fun h2 => ?_)
  · have h3 : ts = [] := by
      have h3 : ((ts.length : Int) == 0) = true := h2
      rw [beq_iff_eq] at h3
      exact List.length_eq_zero_iff.1 (by omega)
    rw [if_pos h3] at hR
    refine Tr.seq ?_; refine Tr.region ?_; refine TrL.quiets 2 rfl (by exact True.intro) ?_; refine TrL.nil ?_
    change Tr _ _ _ _ _ _
    refine Tr.weak 2 rfl (nil_weak ruleTy) ?_
    refine Tr.ret ?_
    refine retQ.of rfl ?_
    rw [← hR]
  have h3 : ts ≠ [] := by
    intro h3
    rw [h3] at h2
    cases h2
  rw [if_neg h3] at hR
  have e1 := w64n (x := (k : Int) + 1) (y := k + 1) (by omega) (by omega)
  have e2 : cut s (some (IntKind.i64.wrap ((k : Int) + 1))) none = s.drop (k + 1) := by rw [e1]; rfl
  have hrl := trimPre_len (s.drop (k + 1)) [58]
  rw [List.length_drop] at hrl
  refine Tr.skip ?_; refine Tr.seq ?_; refine Tr.region ?_; refine TrL.quiets 4 rfl (by (simp (disch := omega) only [allOf, impO, imp, inR, loOk, and_true, w64, List.length_set, List.length_cons, List.length_nil, Option.getD_none, Option.getD_some, Ty.D, true_and, decide_eq_true_eq, decide_eq_false_iff_not, Bool.and_eq_true, Bool.or_eq_false_iff]; omega)) ?_
  first | refine TrL.callV rfl rfl rfl rfl rfl (c_CutPrefix (cut s (some (IntKind.i64.wrap ((k : Int) + 1))) none) [58]) ?_ | refine TrD.callV rfl rfl rfl rfl rfl (c_CutPrefix (cut s (some (IntKind.i64.wrap ((k : Int) + 1))) none) [58]) rfl ?_
  rw [e2]
  generalize trimPre (s.drop (k + 1)) [58] = rest at *
  generalize hasPre (s.drop (k + 1)) [58] = dbl at *
  unfold tailF1 at hR
  refine TrL.quiets 5 rfl (by exact True.intro) ?_; refine TrL.nil ?_; refine Tr.seq ?_; refine Tr.seq ?_; refine Tr.region ?_; refine TrL.quiets 1 rfl (by exact True.intro) ?_
  first | refine TrL.callV rfl rfl rfl rfl rfl (c_assign_Colon rest (by omega)) ?_ | refine TrD.callV rfl rfl rfl rfl rfl (c_assign_Colon rest (by omega)) rfl ?_
  rcases place_lt rest with h4 | ⟨j, hj, h4⟩
  · rw [h4] at hR ⊢
    rw [if_neg (by decide)] at hR
    have hany := any_both h3
    refine TrL.quiets 1 rfl (by exact True.intro) ?_; refine TrL.nil ?_; refine Tr.seq ?_; refine Tr.region ?_; refine TrL.quiets 2 rfl (by exact True.intro) ?_; refine TrL.nil ?_
    refine Tr.cond rfl (fun h5 => ?_) (fun h5 => ?_)
    · cases h5
    refine Tr.skip ?_; refine Tr.seq ?_; refine Tr.region ?_; refine TrL.quiets 3 rfl (by exact True.intro) ?_
    first | refine TrL.callV rfl rfl rfl rfl rfl (c_ContainsFuncS 42 (fun t => !hasP t) ts (fun x hx => c_Read1 x (hsm.2 x hx)) (by omega)) ?_ | refine TrD.callV rfl rfl rfl rfl rfl (c_ContainsFuncS 42 (fun t => !hasP t) ts (fun x hx => c_Read1 x (hsm.2 x hx)) (by omega)) rfl ?_
    obtain ⟨A, hA⟩ : ∃ A, (ts.any fun t => !hasP t) = A := ⟨_, rfl⟩
    obtain ⟨B, hBB⟩ : ∃ B, ts.any hasP = B := ⟨_, rfl⟩
    have hcB := c_ContainsFuncS 17 hasP ts (fun x hx => c_rulePattern x (hsm.2 x hx)) (by omega)
    rw [hA, hBB] at hany hR
    rw [hBB] at hcB
    rw [hA]
    refine TrL.quiets 2 rfl (by exact True.intro) ?_; refine TrL.eff (effBox_sound rfl) (by exact True.intro) ?_; refine TrL.eff (effStore_sound rfl) (by exact True.intro) ?_; refine TrL.nil ?_; refine Tr.seq ?_; refine Tr.seq ?_; refine Tr.region ?_; refine TrL.quiets 5 rfl (by exact True.intro) ?_
    first | refine TrL.callV rfl rfl rfl rfl rfl hcB ?_ | refine TrD.callV rfl rfl rfl rfl rfl hcB rfl ?_
    refine TrL.quiets 1 rfl (by exact True.intro) ?_; refine TrL.nil ?_
    refine Tr.is 57 (sv' := vB (B && A)) rfl (congrArg vB (by cases A <;> cases B <;> rfl)) ?_
    refine Tr.cond rfl (fun h6 => ?_) (fun h6 => ?_)
    · have h7 : (B && A) = true := h6
      rw [if_pos h7] at hR
      refine Tr.seq ?_; refine Tr.region ?_; refine TrL.quiets 2 rfl (by exact True.intro) ?_; refine TrL.nil ?_
      change Tr _ _ _ _ _ _
      refine Tr.weak 2 rfl (nil_weak ruleTy) ?_
      refine Tr.ret ?_
      refine retQ.of rfl ?_
      rw [← hR]
    · have h7 : ¬ (B && A) = true := by rw [show (B && A) = false from h6]; decide
      rw [if_neg h7] at hR
      have h8 : (!A) = B := by
        have h9 : (B && A) = false := h6
        rw [hany]
        cases A <;> cases B <;> first | rfl | cases h9
      refine Tr.skip ?_; refine Tr.seq ?_; refine Tr.region ?_; refine TrL.quiets 1 rfl (by exact True.intro) ?_
      first | refine TrL.callV rfl rfl rfl rfl rfl (c_parts rest (by omega)) ?_ | refine TrD.callV rfl rfl rfl rfl rfl (c_parts rest (by omega)) rfl ?_
      refine TrL.quiets 4 rfl (by exact True.intro) ?_; refine TrL.eff (effStore_sound rfl) (by exact True.intro) ?_; refine TrL.quiets 1 rfl (by exact True.intro) ?_; refine TrL.eff (effStore_sound rfl) (by exact True.intro) ?_; refine TrL.nil ?_; refine Tr.seq ?_; refine Tr.region ?_; refine TrL.quiets 1 rfl (by exact True.intro) ?_; refine TrL.eff (effLit_sound rfl) (by exact True.intro) ?_; refine TrL.quiets 2 rfl (by exact True.intro) ?_; refine TrL.nil ?_
      change Tr _ _ _ _ _ _
      refine Tr.weak 2 rfl (fix_weak ruleTy _) ?_
      refine Tr.ret ?_
      refine retQ.of rfl ?_
      rw [← hR, ← h8]
      rfl
  · rw [h4] at hR ⊢
    rw [if_pos (by omega), Int.toNat_natCast] at hR
    have e3 := w64n (x := (j : Int) + 1) (y := j + 1) (by omega) (by omega)
    have e4 : cut rest (some (IntKind.i64.wrap ((j : Int) + 1))) none = rest.drop (j + 1) := by rw [e3]; rfl
    have e5 : cut rest none (some (j : Int)) = rest.take j := rfl
    refine TrL.quiets 1 rfl (by exact True.intro) ?_; refine TrL.nil ?_; refine Tr.seq ?_; refine Tr.region ?_; refine TrL.quiets 2 rfl (by exact True.intro) ?_; refine TrL.nil ?_
    refine Tr.cond rfl (fun h5 => ?_) (fun h5 => ?_)
    · refine Tr.seq ?_
      refine Tr.drawA 14 rfl (by kernel_rfl) ?_
      refine TrA.take 0 rfl rfl (by kernel_rfl) rfl (by exact True.intro) ?_; refine TrA.take 1 rfl rfl (by kernel_rfl) rfl (by exact True.intro) ?_; refine TrA.take 2 rfl rfl (by kernel_rfl) rfl (by exact True.intro) ?_; refine TrA.take 3 rfl rfl (by kernel_rfl) rfl (by (simp (disch := omega) only [holds, impO, imp, loOk, w64, Option.getD_none, Option.getD_some, and_true, true_and]; omega)) ?_; refine TrA.take 4 rfl rfl (by kernel_rfl) rfl (by exact True.intro) ?_; refine TrA.take 5 rfl rfl (by kernel_rfl) rfl (by exact True.intro) ?_; refine TrA.take 6 rfl rfl (by kernel_rfl) rfl (by exact True.intro) ?_; refine TrA.take 7 rfl rfl (by kernel_rfl) rfl (by (simp (disch := omega) only [holds, impO, imp, loOk, w64, Option.getD_none, Option.getD_some, and_true, true_and]; omega)) ?_; refine TrA.take 8 rfl rfl (by kernel_rfl) rfl (by exact True.intro) ?_; refine TrA.one 9 (by kernel_rfl) rfl ?_
      first | refine TrL.callV rfl rfl rfl rfl rfl (c_static ts (cut rest none (some (j : Int))) (cut rest (some (IntKind.i64.wrap ((j : Int) + 1))) none) dbl hsm (by rw [e5, List.length_take]; omega) (by rw [e4, List.length_drop]; omega)) ?_ | refine TrD.callV rfl rfl rfl rfl rfl (c_static ts (cut rest none (some (j : Int))) (cut rest (some (IntKind.i64.wrap ((j : Int) + 1))) none) dbl hsm (by rw [e5, List.length_take]; omega) (by rw [e4, List.length_drop]; omega)) rfl ?_
      rw [e4, e5, hR]
      refine TrL.nil ?_; refine TrA.take 10 rfl rfl (by kernel_rfl) rfl (by exact True.intro) ?_; refine TrA.take 11 rfl rfl (by kernel_rfl) rfl (by exact True.intro) ?_; refine TrA.take 12 rfl rfl (by kernel_rfl) rfl (by exact True.intro) ?_; refine TrA.take 13 rfl rfl (by kernel_rfl) rfl (by exact True.intro) ?_; refine TrA.done (by kernel_rfl) ?_; refine Tr.ret ?_
      refine retQ.of rfl ?_
      rfl
    · have h6 : decide ((j : Int) ≥ 0) = false := h5
      rw [decide_eq_false_iff_not] at h6
      omega
end Go.Proofs.YtckgeebihhhapaaDoor.Sx
