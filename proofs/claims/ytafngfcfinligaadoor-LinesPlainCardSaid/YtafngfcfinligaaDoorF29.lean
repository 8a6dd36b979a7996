/-
  LinesAll.
-/
import Derived.Test.YtafngfcfinligaaDoorF28
set_option linter.unusedVariables false
set_option linter.unusedSimpArgs false
set_option maxRecDepth 20000
set_option maxHeartbeats 4000000
namespace Go.Proofs.YtafngfcfinligaaDoor.Sx
open Go Go.RowKit Go.Proofs

theorem linesR_len (text : Str) : ∀ (f a n : Nat), (linesR text f a n).length ≤ f
  | 0, _, _ => Nat.le_refl _
  | f + 1, a, n => by
    rw [linesR]
    split
    · have := linesR_len text f (lineAt text a).2.1 (n + (lineAt text a).2.2)
      simp only [List.length_cons]
      omega
    · simp
theorem linesL_len (s : Str) : (linesL s).length ≤ s.length := linesR_len s _ _ _
theorem c_awake08 : CallV Tryd.prog 36 [] (vB true) := by
  refine CallV.of Tryd.func36 (by kernel_rfl) rfl Tryd.ntmps36 (by simp) rfl fun cx hB => ?_
  refine Tr.seq ?_; refine Tr.region ?_; refine TrL.quiets 1 rfl (by exact True.intro) ?_; refine TrL.nil ?_; refine Tr.seq ?_; refine Tr.region ?_
  first | refine TrL.callV rfl rfl rfl rfl rfl (c_lines_All _ (by decide)) ?_ | refine TrD.callV rfl rfl rfl rfl rfl (c_lines_All _ (by decide)) rfl ?_
  refine TrL.quiets 1 rfl (by exact True.intro) ?_; refine TrL.nil ?_
  change Tr _ _ _ _ _ _
  refine Tr.is 1 (sv' := vL lineTy [([97, 32, 98, 32], 1, false), ([120], 3, true)]) rfl (congrArg (vL lineTy) (by kernel_rfl)) ?_
  refine Tr.seq ?_; refine Tr.region ?_
  first | refine TrL.callV rfl rfl rfl rfl rfl (c_lines_Raw _ _ (by decide)) ?_ | refine TrD.callV rfl rfl rfl rfl rfl (c_lines_Raw _ _ (by decide)) rfl ?_
  refine TrL.quiets 5 rfl (by exact True.intro) ?_; refine TrL.nil ?_; refine Tr.seq ?_; refine Tr.region ?_; refine TrL.quiets 53 rfl (by (simp (disch := omega) only [allOf, impO, imp, inR, loOk, and_true, w64, List.length_set, List.length_cons, List.length_nil, Option.getD_none, Option.getD_some, Ty.D, true_and, decide_eq_true_eq, decide_eq_false_iff_not, Bool.and_eq_true, Bool.or_eq_false_iff]; omega)) ?_
  first | refine TrL.callV rfl rfl rfl rfl rfl (c_Bare _ (by decide)) ?_ | refine TrD.callV rfl rfl rfl rfl rfl (c_Bare _ (by decide)) rfl ?_
  refine TrL.quiets 3 rfl (by exact True.intro) ?_; refine TrL.nil ?_; refine Tr.ret ?_
  refine retQ.of rfl ?_
  refine congrArg vB ?_
  kernel_rfl

theorem c_LinesAll (s : Str) (at_ n : Int) (h1 : -9223372036854775808 ≤ at_) (h2 : at_ ≤ 9223372036854775807) : CallV Tryd.prog 10 [vS s, vI at_, vI n] (vB true) := by
  refine CallV.of Tryd.func10 (by kernel_rfl) rfl Tryd.ntmps10 (by simp) rfl fun cx hB => ?_
  refine Tr.seq ?_; refine Tr.region ?_; refine TrL.quiets 1 rfl (by exact True.intro) ?_; refine TrL.nil ?_; refine Tr.seq ?_; refine Tr.seq ?_; refine Tr.region ?_; refine TrL.quiets 11 rfl (by exact True.intro) ?_; refine TrL.nil ?_
  refine Tr.cond rfl (fun c1 => ?_) (fun c1 => ?_)
  · refine Tr.seq ?_; refine Tr.region ?_
    first | refine TrL.callV rfl rfl rfl rfl rfl c_awake08 ?_ | refine TrD.callV rfl rfl rfl rfl rfl c_awake08 rfl ?_
    refine TrL.quiets 1 rfl (by exact True.intro) ?_; refine TrL.nil ?_; refine Tr.ret ?_
    refine retQ.of rfl ?_
    rfl
  rw [Bool.or_eq_false_iff, Bool.or_eq_false_iff, decide_eq_false_iff_not, decide_eq_false_iff_not, decide_eq_false_iff_not] at c1
  obtain ⟨⟨c1, c2⟩, c3⟩ := c1
  have hs : s.length ≤ 2000 := by omega
  have hll : (linesL s).length ≤ 1099511627776 := by have := linesL_len s; omega
  refine Tr.skip ?_; refine Tr.seq ?_; refine Tr.region ?_; refine TrL.quiets 2 rfl (by exact True.intro) ?_
  first | refine TrL.callV rfl rfl rfl rfl rfl (c_lines_Raw s at_ (by omega)) ?_ | refine TrD.callV rfl rfl rfl rfl rfl (c_lines_Raw s at_ (by omega)) rfl ?_
  refine TrL.quiets 5 rfl (by exact True.intro) ?_; refine TrL.nil ?_; refine Tr.seq ?_; refine Tr.region ?_; refine TrL.quiets 2 rfl (by exact True.intro) ?_
  first | refine TrL.callV rfl rfl rfl rfl rfl (c_ref_Raw s at_ (by omega)) ?_ | refine TrD.callV rfl rfl rfl rfl rfl (c_ref_Raw s at_ (by omega)) rfl ?_
  refine TrL.quiets 5 rfl (by exact True.intro) ?_; refine TrL.nil ?_; refine Tr.seq ?_; refine Tr.region ?_; refine TrL.quiets 3 rfl (by exact True.intro) ?_
  by_cases ha : 0 ≤ at_ ∧ at_ < (s.length : Int)
  · obtain ⟨a, rfl⟩ : ∃ a : Nat, (a : Int) = at_ := ⟨at_.toNat, by omega⟩
    first | refine TrL.callV rfl rfl rfl rfl rfl (c_Next_in s a n (by omega) (by omega) (by omega) (by omega)) ?_ | refine TrD.callV rfl rfl rfl rfl rfl (c_Next_in s a n (by omega) (by omega) (by omega) (by omega)) rfl ?_
    refine TrL.quiets 5 rfl (by exact True.intro) ?_; refine TrL.eff (effBox_sound rfl) (by exact True.intro) ?_; refine TrL.eff (effStore_sound rfl) (by exact True.intro) ?_; refine TrL.quiets 3 rfl (by exact True.intro) ?_; refine TrL.nil ?_; refine Tr.seq ?_; refine Tr.region ?_; refine TrL.quiets 3 rfl (by exact True.intro) ?_
    first | refine TrL.callV rfl rfl rfl rfl rfl (c_refNext_in s a n (by omega) (by omega) (by omega) (by omega)) ?_ | refine TrD.callV rfl rfl rfl rfl rfl (c_refNext_in s a n (by omega) (by omega) (by omega) (by omega)) rfl ?_
    refine TrL.quiets 5 rfl (by exact True.intro) ?_; refine TrL.eff (effBox_sound rfl) (by exact True.intro) ?_; refine TrL.eff (effStore_sound rfl) (by exact True.intro) ?_; refine TrL.quiets 3 rfl (by exact True.intro) ?_; refine TrL.nil ?_; refine Tr.seq ?_; refine Tr.region ?_; refine TrL.quiets 46 rfl (by exact True.intro) ?_
    first | refine TrL.callV rfl rfl rfl rfl rfl (c_lines_All s (by omega)) ?_ | refine TrD.callV rfl rfl rfl rfl rfl (c_lines_All s (by omega)) rfl ?_
    refine TrL.quiets 1 rfl (by exact True.intro) ?_
    first | refine TrL.callV rfl rfl rfl rfl rfl (c_ref_All s (by omega)) ?_ | refine TrD.callV rfl rfl rfl rfl rfl (c_ref_All s (by omega)) rfl ?_
    first | refine TrL.callV rfl rfl rfl rfl rfl (c_ref_SameL (linesL s) (linesL s) hll) ?_ | refine TrD.callV rfl rfl rfl rfl rfl (c_ref_SameL (linesL s) (linesL s) hll) rfl ?_
    refine TrL.quiets 3 rfl (by exact True.intro) ?_
    first | refine TrL.callV rfl rfl rfl rfl rfl (c_Bare s (by omega)) ?_ | refine TrD.callV rfl rfl rfl rfl rfl (c_Bare s (by omega)) rfl ?_
    refine TrL.quiets 1 rfl (by exact True.intro) ?_
    first | refine TrL.callV rfl rfl rfl rfl rfl (c_ref_Bare s (by omega)) ?_ | refine TrD.callV rfl rfl rfl rfl rfl (c_ref_Bare s (by omega)) rfl ?_
    refine TrL.quiets 3 rfl (by exact True.intro) ?_
    first | refine TrL.callV rfl rfl rfl rfl rfl c_awake08 ?_ | refine TrD.callV rfl rfl rfl rfl rfl c_awake08 rfl ?_
    refine TrL.quiets 2 rfl (by exact True.intro) ?_; refine TrL.nil ?_; refine Tr.ret ?_
    refine retQ.of rfl ?_
    refine congrArg vB ?_
    simp
  · first | refine TrL.callV rfl rfl rfl rfl rfl (c_Next_out s at_ n (by omega)) ?_ | refine TrD.callV rfl rfl rfl rfl rfl (c_Next_out s at_ n (by omega)) rfl ?_
    refine TrL.quiets 5 rfl (by exact True.intro) ?_; refine TrL.eff (effBox_sound rfl) (by exact True.intro) ?_; refine TrL.eff (effStore_sound rfl) (by exact True.intro) ?_; refine TrL.quiets 3 rfl (by exact True.intro) ?_; refine TrL.nil ?_; refine Tr.seq ?_; refine Tr.region ?_; refine TrL.quiets 3 rfl (by exact True.intro) ?_
    first | refine TrL.callV rfl rfl rfl rfl rfl (c_refNext_out s at_ n (by omega)) ?_ | refine TrD.callV rfl rfl rfl rfl rfl (c_refNext_out s at_ n (by omega)) rfl ?_
    refine TrL.quiets 5 rfl (by exact True.intro) ?_; refine TrL.eff (effBox_sound rfl) (by exact True.intro) ?_; refine TrL.eff (effStore_sound rfl) (by exact True.intro) ?_; refine TrL.quiets 3 rfl (by exact True.intro) ?_; refine TrL.nil ?_; refine Tr.seq ?_; refine Tr.region ?_; refine TrL.quiets 46 rfl (by exact True.intro) ?_
    first | refine TrL.callV rfl rfl rfl rfl rfl (c_lines_All s (by omega)) ?_ | refine TrD.callV rfl rfl rfl rfl rfl (c_lines_All s (by omega)) rfl ?_
    refine TrL.quiets 1 rfl (by exact True.intro) ?_
    first | refine TrL.callV rfl rfl rfl rfl rfl (c_ref_All s (by omega)) ?_ | refine TrD.callV rfl rfl rfl rfl rfl (c_ref_All s (by omega)) rfl ?_
    first | refine TrL.callV rfl rfl rfl rfl rfl (c_ref_SameL (linesL s) (linesL s) hll) ?_ | refine TrD.callV rfl rfl rfl rfl rfl (c_ref_SameL (linesL s) (linesL s) hll) rfl ?_
    refine TrL.quiets 3 rfl (by exact True.intro) ?_
    first | refine TrL.callV rfl rfl rfl rfl rfl (c_Bare s (by omega)) ?_ | refine TrD.callV rfl rfl rfl rfl rfl (c_Bare s (by omega)) rfl ?_
    refine TrL.quiets 1 rfl (by exact True.intro) ?_
    first | refine TrL.callV rfl rfl rfl rfl rfl (c_ref_Bare s (by omega)) ?_ | refine TrD.callV rfl rfl rfl rfl rfl (c_ref_Bare s (by omega)) rfl ?_
    refine TrL.quiets 3 rfl (by exact True.intro) ?_
    first | refine TrL.callV rfl rfl rfl rfl rfl c_awake08 ?_ | refine TrD.callV rfl rfl rfl rfl rfl c_awake08 rfl ?_
    refine TrL.quiets 2 rfl (by exact True.intro) ?_; refine TrL.nil ?_; refine Tr.ret ?_
    refine retQ.of rfl ?_
    refine congrArg vB ?_
    simp
end Go.Proofs.YtafngfcfinligaaDoor.Sx
