/-
  cond: the reference's sides, ask, Read.
-/
import Derived.Test.YtckgeebihhhapaaDoorG18
set_option linter.unusedVariables false
set_option linter.unusedSimpArgs false
set_option maxRecDepth 20000
set_option maxHeartbeats 4000000
namespace Go.Proofs.YtckgeebihhhapaaDoor.Sx
open Go Go.RowKit Go.Proofs

theorem trim_length (s : Str) : (trim s).length ≤ s.length := by
  have h1 := left_length s
  have h2 : (right (left s)).length ≤ (left s).length := by
    unfold right
    rw [List.length_reverse]
    have := (List.dropWhile_sublist isBlank (l := (left s).reverse)).length_le
    rw [List.length_reverse] at this
    exact this
  exact Nat.le_trans h2 h1
theorem c_rsides (s : Str) (hs : s.length ≤ 1099511627776) : CallV Tryd.prog 84 [vS s] (.tup [vS (sidesF s).1, vS (sidesF s).2.1, vB (sidesF s).2.2]) := by
  have hls := left_length s
  have hll := left_left s
  unfold sidesF
  refine CallV.of Tryd.func84 (by kernel_rfl) rfl Tryd.ntmps84 (by simp) rfl fun cx hB => ?_
  refine Tr.seq ?_; refine Tr.region ?_; refine TrL.quiets 3 rfl (by exact True.intro) ?_; refine TrL.nil ?_; refine Tr.seq ?_; refine Tr.region ?_; refine TrL.quiets 1 rfl (by exact True.intro) ?_
  first | refine TrL.callV rfl rfl rfl rfl rfl (c_ref_Left s) ?_ | refine TrD.callV rfl rfl rfl rfl rfl (c_ref_Left s) rfl ?_
  generalize left s = t at *
  have hp : (t != ([] : Str) && byteAt t 0 == 40) = hasPre t [40] := by
    cases t with
    | nil => rfl
    | cons c r =>
      rw [byteAt_cons, show (40 : Int) = ((40 : UInt8).toNat : Int) from rfl, byte_beq]
      show (true && (c == 40)) = ((40 == c) && true)
      rw [Bool.true_and, Bool.and_true, Bool.eq_iff_iff, beq_iff_eq, beq_iff_eq]
      exact eq_comm
  have hl0 : t ≠ [] → 0 < t.length := fun h => List.length_pos_iff.2 h
  refine TrL.quiets 1 rfl (by exact True.intro) ?_; refine TrL.nil ?_; refine Tr.seq ?_; refine Tr.seq ?_; refine Tr.region ?_; refine TrL.quiets 7 rfl (by (simp [allOf, impO, imp, inR, loOk] <;> omega)) ?_; refine TrL.nil ?_
  refine Tr.is 19 (sv' := vB (hasPre t [40])) rfl (congrArg vB hp) ?_
  refine Tr.cond rfl (fun h1 => ?_) (fun h1 => ?_)
  · have h2 : hasPre t [40] = true := h1
    rw [if_pos h2]
    obtain ⟨r, rfl⟩ : ∃ r, t = 40 :: r := by
      cases t with
      | nil => cases h2
      | cons c r =>
        have h3 : ((40 : UInt8) == c && true) = true := h2
        rw [Bool.and_true, beq_iff_eq] at h3
        exact ⟨r, by rw [h3]⟩
    refine Tr.seq ?_; refine Tr.region ?_; refine TrL.quiets 1 rfl (by exact True.intro) ?_
    first | refine TrL.callV rfl rfl rfl rfl rfl (c_round 40 r (by simp only [List.length_cons] at hls; omega)) ?_ | refine TrD.callV rfl rfl rfl rfl rfl (c_round 40 r (by simp only [List.length_cons] at hls; omega)) rfl ?_
    refine TrL.quiets 6 rfl (by exact True.intro) ?_; refine TrL.nil ?_; refine Tr.ret ?_
    refine retQ.of rfl ?_
    rfl
  have h2 : ¬ hasPre t [40] = true := by have h3 : hasPre t [40] = false := h1; rw [h3]; simp
  rw [if_neg h2]
  have hq1 := quotedF_len t
  have e1 : quotedF t = quotedR t := by rw [quotedF_eq, hll]
  rw [e1] at hq1 ⊢
  refine Tr.skip ?_; refine Tr.seq ?_; refine Tr.region ?_; refine TrL.quiets 1 rfl (by exact True.intro) ?_
  first | refine TrL.callV rfl rfl rfl rfl rfl (c_rquoted t (by omega)) ?_ | refine TrD.callV rfl rfl rfl rfl rfl (c_rquoted t (by omega)) rfl ?_
  generalize quotedR t = q1 at *
  obtain ⟨a, t1, ok1⟩ := q1
  dsimp only at hq1 ⊢
  have hq2 := quotedF_len t1
  have hl1 := left_length t1
  have e2 : quotedR (left t1) = quotedF t1 := rfl
  refine TrL.quiets 7 rfl (by exact True.intro) ?_; refine TrL.nil ?_; refine Tr.seq ?_; refine Tr.region ?_; refine TrL.quiets 1 rfl (by exact True.intro) ?_
  first | refine TrL.callV rfl rfl rfl rfl rfl (c_ref_Left t1) ?_ | refine TrD.callV rfl rfl rfl rfl rfl (c_ref_Left t1) rfl ?_
  first | refine TrL.callV rfl rfl rfl rfl rfl (c_rquoted (left t1) (by omega)) ?_ | refine TrD.callV rfl rfl rfl rfl rfl (c_rquoted (left t1) (by omega)) rfl ?_
  rw [e2]
  generalize quotedF t1 = q2 at *
  obtain ⟨b, t2, ok2⟩ := q2
  dsimp only at hq2 ⊢
  refine TrL.quiets 7 rfl (by exact True.intro) ?_; refine TrL.nil ?_; refine Tr.seq ?_; refine Tr.seq ?_; refine Tr.region ?_; refine TrL.quiets 8 rfl (by exact True.intro) ?_
  first | refine TrL.callV rfl rfl rfl rfl rfl (c_ref_Trim t2 (by omega)) ?_ | refine TrD.callV rfl rfl rfl rfl rfl (c_ref_Trim t2 (by omega)) rfl ?_
  refine TrL.quiets 2 rfl (by exact True.intro) ?_; refine TrL.nil ?_
  refine Tr.is 48 (sv' := vB (!ok1 || !ok2 || trim t2 != [])) rfl rfl ?_
  refine Tr.cond rfl (fun h5 => ?_) (fun h5 => ?_)
  · have h6 : (!ok1 || !ok2 || trim t2 != []) = true := h5
    refine Tr.seq ?_; refine Tr.region ?_; refine TrL.quiets 3 rfl (by exact True.intro) ?_; refine TrL.nil ?_; refine Tr.ret ?_
    refine retQ.of rfl ?_
    by_cases h7 : ok1 = false
    · rw [if_pos h7]
    · have h8 : ok2 = false ∨ trim t2 ≠ [] := by simpa [h7, or_assoc] using h6
      rw [if_neg h7, if_pos h8]
  · have h6 : (!ok1 || !ok2 || trim t2 != []) = false := h5
    have h7 : ¬ ok1 = false := by intro h; rw [h] at h6; simp at h6
    have h8 : ¬ (ok2 = false ∨ trim t2 ≠ []) := by
      rw [Bool.or_eq_false_iff, Bool.or_eq_false_iff] at h6
      rintro (h | h)
      · have h9 := h6.1.2
        rw [h] at h9
        cases h9
      · exact h (bne_eq_false_iff_eq.1 h6.2)
    rw [if_neg h7, if_neg h8]
    refine Tr.skip ?_; refine Tr.seq ?_; refine Tr.region ?_; refine TrL.quiets 5 rfl (by exact True.intro) ?_; refine TrL.nil ?_; refine Tr.ret ?_
    refine retQ.of rfl ?_
    rfl
def askF (w s : Str) : Str × Str × Bool := if w = wIfeq ∨ w = wIfneq then sidesF s else (trim s, [], (splitW (trim s)).length == 1)
theorem c_ask (w s : Str) (hs : s.length ≤ 1000000) : CallV Tryd.prog 58 [vS w, vS s] (.tup [vS (askF w s).1, vS (askF w s).2.1, vB (askF w s).2.2]) := by
  have htl := trim_length s
  unfold askF
  refine CallV.of Tryd.func58 (by kernel_rfl) rfl Tryd.ntmps58 (by simp) rfl fun cx hB => ?_
  refine Tr.seq ?_; refine Tr.region ?_; refine TrL.quiets 3 rfl (by exact True.intro) ?_; refine TrL.nil ?_; refine Tr.seq ?_; refine Tr.seq ?_; refine Tr.region ?_; refine TrL.quiets 6 rfl (by exact True.intro) ?_; refine TrL.nil ?_
  refine Tr.is 13 (sv' := vB (w == wIfeq || w == wIfneq)) rfl rfl ?_
  refine Tr.cond rfl (fun h1 => ?_) (fun h1 => ?_)
  · have h2 : w = wIfeq ∨ w = wIfneq := by simpa using (show (w == wIfeq || w == wIfneq) = true from h1)
    rw [if_pos h2]
    refine Tr.seq ?_; refine Tr.region ?_; refine TrL.quiets 1 rfl (by exact True.intro) ?_
    first | refine TrL.callV rfl rfl rfl rfl rfl (c_rsides s (by omega)) ?_ | refine TrD.callV rfl rfl rfl rfl rfl (c_rsides s (by omega)) rfl ?_
    refine TrL.quiets 6 rfl (by exact True.intro) ?_; refine TrL.nil ?_; refine Tr.ret ?_
    refine retQ.of rfl ?_
    rfl
  · have h2 : ¬ (w = wIfeq ∨ w = wIfneq) := by simpa using (show (w == wIfeq || w == wIfneq) = false from h1)
    rw [if_neg h2]
    refine Tr.skip ?_; refine Tr.seq ?_; refine Tr.region ?_; refine TrL.quiets 1 rfl (by exact True.intro) ?_
    first | refine TrL.callV rfl rfl rfl rfl rfl (c_ref_Trim s (by omega)) ?_ | refine TrD.callV rfl rfl rfl rfl rfl (c_ref_Trim s (by omega)) rfl ?_
    refine TrL.quiets 1 rfl (by exact True.intro) ?_; refine TrL.nil ?_; refine Tr.seq ?_; refine Tr.region ?_; refine TrL.quiets 2 rfl (by exact True.intro) ?_
    first | refine TrL.callV rfl rfl rfl rfl rfl (c_ref_Split (trim s) (by omega)) ?_ | refine TrD.callV rfl rfl rfl rfl rfl (c_ref_Split (trim s) (by omega)) rfl ?_
    refine TrL.quiets 5 rfl (by exact True.intro) ?_; refine TrL.nil ?_; refine Tr.ret ?_
    refine retQ.of rfl ?_
    have e : (((splitW (trim s)).length : Int) == 1) = ((splitW (trim s)).length == 1) := by
      rw [Bool.eq_iff_iff, beq_iff_eq, beq_iff_eq]
      omega
    exact congrArg (fun b => SV.tup [vS (trim s), vS [], vB b]) e
end Go.Proofs.YtckgeebihhhapaaDoor.Sx
