/-
  Rules: the reference's Same.
-/
import Derived.Test.YtckgeebihhhapaaDoorG28
set_option linter.unusedVariables false
set_option linter.unusedSimpArgs false
set_option maxRecDepth 20000
set_option maxHeartbeats 4000000
namespace Go.Proofs.YtckgeebihhhapaaDoor.Sx
open Go Go.RowKit Go.Proofs

/-- No list of it is too long. -/
def RSmall (r : RuleD) : Prop := r.1.length ≤ 1000001 ∧ r.2.1.length ≤ 1000001 ∧ r.2.2.1.length ≤ 1000001 ∧ r.2.2.2.1.length ≤ 1000001
theorem c_Same1 (a : RuleD) (ha : RSmall a) : CallV Tryd.prog 49 [.agg (svs ruleTy a), .agg (svs ruleTy a)] (vB true) := by
  obtain ⟨a1, a2, a3, a4, a5, a6, a7, a8⟩ := a
  obtain ⟨h1, h2, h3, h4⟩ := ha
  dsimp only at h1 h2 h3 h4
  refine CallV.of Tryd.func49 (by kernel_rfl) rfl Tryd.ntmps49 (by simp) rfl fun cx hB => ?_
  refine Tr.seq ?_; refine Tr.region ?_; refine TrL.eff (effBox_sound rfl) (by exact True.intro) ?_; refine TrL.eff (effBox_sound rfl) (by exact True.intro) ?_; refine TrL.quiets 1 rfl (by exact True.intro) ?_; refine TrL.nil ?_; refine Tr.seq ?_; refine Tr.region ?_; refine TrL.quiets 4 rfl (by exact True.intro) ?_
  first | refine TrL.callV rfl rfl rfl rfl rfl (c_ref_Same a1 a1 (by omega)) ?_ | refine TrD.callV rfl rfl rfl rfl rfl (c_ref_Same a1 a1 (by omega)) rfl ?_
  refine TrL.quiets 5 rfl (by exact True.intro) ?_
  first | refine TrL.callV rfl rfl rfl rfl rfl (c_ref_Same a2 a2 (by omega)) ?_ | refine TrD.callV rfl rfl rfl rfl rfl (c_ref_Same a2 a2 (by omega)) rfl ?_
  refine TrL.quiets 6 rfl (by exact True.intro) ?_
  first | refine TrL.callV rfl rfl rfl rfl rfl (c_ref_Same a3 a3 (by omega)) ?_ | refine TrD.callV rfl rfl rfl rfl rfl (c_ref_Same a3 a3 (by omega)) rfl ?_
  refine TrL.quiets 2 rfl (by exact True.intro) ?_; refine TrL.nil ?_; refine Tr.seq ?_; refine Tr.region ?_; refine TrL.quiets 6 rfl (by exact True.intro) ?_
  first | refine TrL.callV rfl rfl rfl rfl rfl (c_ref_Same a4 a4 (by omega)) ?_ | refine TrD.callV rfl rfl rfl rfl rfl (c_ref_Same a4 a4 (by omega)) rfl ?_
  refine TrL.quiets 30 rfl (by exact True.intro) ?_; refine TrL.nil ?_; refine Tr.ret ?_
  refine retQ.of rfl ?_
  refine congrArg vB ?_
  simp
theorem c_RSame (a : List RuleD) (ha : ∀ r ∈ a, RSmall r) (hl : a.length ≤ 1000001) : CallV Tryd.prog 16 [vL ruleTy a, vL ruleTy a] (vB true) := by
  refine CallV.of Tryd.func16 (by kernel_rfl) rfl Tryd.ntmps16 (by simp) rfl fun cx hB => ?_
  refine Tr.seq ?_; refine Tr.region ?_; refine TrL.quiets 1 rfl (by exact True.intro) ?_; refine TrL.nil ?_; refine Tr.seq ?_; refine Tr.seq ?_; refine Tr.region ?_; refine TrL.quiets 5 rfl (by exact True.intro) ?_; refine TrL.nil ?_
  refine Tr.cond rfl (fun h1 => ?_) (fun h1 => ?_)
  · have h3 : ((a.length : Int) != (a.length : Int)) = true := h1
    simp at h3
  refine Tr.skip ?_; refine Tr.seq ?_; refine Tr.seq ?_; refine Tr.region ?_; refine TrL.quiets 1 rfl (by exact True.intro) ?_; refine TrL.nil ?_; refine Tr.block ?_
  refine Tr.loop (fun (i : Nat) => ⟨[(0, [], vL ruleTy a), (1, [], vL ruleTy a), (5, [], vI i)], []⟩) (fun i => i ≤ a.length) (fun i => a.length - i) 0 [0, 1, 5] 0 hB rfl (Nat.zero_le _) fun i hi => ?_
  refine Tr.seq ?_; refine Tr.seq ?_; refine Tr.region ?_; refine TrL.quiets 4 rfl (by exact True.intro) ?_; refine TrL.nil ?_
  refine Tr.cond rfl (fun h3 => ?_) (fun h3 => ?_)
  · simp only [decide_eq_true_eq] at h3
    have hi1 : i < a.length := by omega
    have hna : nth (t := ruleTy) a (i : Int) = a[i] := nth_get' (t := ruleTy) a i hi1
    refine Tr.skip ?_; refine Tr.seq ?_; refine Tr.block ?_; refine Tr.seq ?_; refine Tr.draw (by kernel_rfl) (by kernel_rfl) ?_; refine TrD.quiets 8 rfl (by (simp only [allOf, impO, imp, inR, loOk, and_true]; omega)) ?_
    first | refine TrL.callV rfl rfl rfl rfl rfl (c_Same1 (nth (t := ruleTy) a (i : Int)) (by rw [hna]; exact ha _ (List.getElem_mem hi1))) ?_ | refine TrD.callV rfl rfl rfl rfl rfl (c_Same1 (nth (t := ruleTy) a (i : Int)) (by rw [hna]; exact ha _ (List.getElem_mem hi1))) rfl ?_
    refine TrD.quiets 1 rfl (by exact True.intro) ?_; refine TrD.nil ?_
    refine Tr.cond rfl (fun h4 => ?_) (fun h4 => ?_)
    · cases h4
    · refine Tr.skip ?_; refine Tr.region ?_; refine TrL.quiets 3 rfl (by exact True.intro) ?_; refine TrL.nil ?_
      refine ⟨i + 1, by omega, by dsimp only; omega, ?_⟩
      refine Eq.trans (b := (⟨[(_, [], _), (_, [], _), (_, [], _)], []⟩ : St)) rfl ?_
      rw [w64n (y := i + 1) (by omega) (by omega)]
  · refine Tr.exit ?_; refine Tr.seq ?_; refine Tr.region ?_; refine TrL.quiets 1 rfl (by exact True.intro) ?_; refine TrL.nil ?_; refine Tr.ret ?_
    refine retQ.of rfl ?_
    rfl
end Go.Proofs.YtckgeebihhhapaaDoor.Sx
