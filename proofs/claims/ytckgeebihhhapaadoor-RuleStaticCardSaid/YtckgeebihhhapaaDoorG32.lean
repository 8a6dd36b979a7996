/-
  law25: the document's example; RuleReads.
-/
import Derived.Test.YtckgeebihhhapaaDoorG33
import Derived.Test.YtckgeebihhhapaaDoorG31
import Derived.Test.YtckgeebihhhapaaDoorG1
set_option linter.unusedVariables false
set_option linter.unusedSimpArgs false
set_option maxRecDepth 20000
set_option maxHeartbeats 4000000
namespace Go.Proofs.YtckgeebihhhapaaDoor.Sx
open Go Go.RowKit Go.Proofs

theorem rule_ex1 : ruleF [97, 32, 98, 58, 32, 37, 58, 32, 37, 46, 99] = ([([[97]], [[97, 46, 99]], [], [], false, false, [], 0), ([[98]], [[98, 46, 99]], [], [], false, false, [], 0)], 0) := by kernel_rfl
theorem rule_ex2 : ruleF [97, 32, 98] = ([], 11) := by kernel_rfl
theorem has_ex1 : hasP [37, 46, 99] = true := by kernel_rfl
theorem has_ex2 : hasP [97] = false := by kernel_rfl
theorem c_awake25 : CallV Tryd.prog 12 [] (vB true) := by
  refine CallV.of Tryd.func12 (by kernel_rfl) rfl Tryd.ntmps12 (by simp) rfl fun cx hB => ?_
  refine Tr.seq ?_; refine Tr.region ?_; refine TrL.quiets 1 rfl (by exact True.intro) ?_; refine TrL.nil ?_; refine Tr.seq ?_; refine Tr.region ?_
  first | refine TrL.callV rfl rfl rfl rfl rfl (c_rule_Read _ (by decide)) ?_ | refine TrD.callV rfl rfl rfl rfl rfl (c_rule_Read _ (by decide)) rfl ?_
  rw [rule_ex1]
  refine TrL.quiets 5 rfl (by exact True.intro) ?_; refine TrL.nil ?_; refine Tr.seq ?_; refine Tr.region ?_
  first | refine TrL.callV rfl rfl rfl rfl rfl (c_rule_Read _ (by decide)) ?_ | refine TrD.callV rfl rfl rfl rfl rfl (c_rule_Read _ (by decide)) rfl ?_
  rw [rule_ex2]
  refine TrL.quiets 5 rfl (by exact True.intro) ?_; refine TrL.nil ?_; refine Tr.seq ?_; refine Tr.region ?_; refine TrL.quiets 30 rfl ?_ ?_
  · simp only [allOf, impO, imp, inR, loOk, and_true]
    refine ⟨fun _ => ?_, fun _ => ?_, fun _ => ?_, fun _ => ?_⟩ <;> exact of_decide_eq_true rfl
  first | refine TrL.callV rfl rfl rfl rfl rfl (c_rulePattern [37, 46, 99] (by decide)) ?_ | refine TrD.callV rfl rfl rfl rfl rfl (c_rulePattern [37, 46, 99] (by decide)) rfl ?_
  rw [has_ex1]
  refine TrL.quiets 2 rfl (by exact True.intro) ?_
  first | refine TrL.callV rfl rfl rfl rfl rfl (c_rulePattern [97] (by decide)) ?_ | refine TrD.callV rfl rfl rfl rfl rfl (c_rulePattern [97] (by decide)) rfl ?_
  rw [has_ex2]
  refine TrL.quiets 3 rfl (by exact True.intro) ?_; refine TrL.nil ?_; refine Tr.ret ?_
  refine retQ.of rfl ?_
  kernel_rfl
def parts25 : List Str := [[97], [98, 46, 111], [37, 46, 111], [37], [32], [58], [58, 58], [32, 58, 32], [124], [32, 124, 32], [97, 46, 99], [92, 37], [32], [97, 46, 111], [98, 37], [36, 40, 120, 58, 121, 41]]
theorem c_RuleReads (s : Str) (ns : List Int) (hn : okInts ns) : CallV Tryd.prog 3 [vS s, vL (.int .i64) ns] (vB true) := by
  refine CallV.of Tryd.func3 (by kernel_rfl) rfl Tryd.ntmps3 (by simp) rfl fun cx hB => ?_
  refine Tr.seq ?_; refine Tr.region ?_; refine TrL.quiets 1 rfl (by exact True.intro) ?_; refine TrL.nil ?_; refine Tr.seq ?_; refine Tr.seq ?_; refine Tr.region ?_; refine TrL.quiets 3 rfl (by exact True.intro) ?_; refine TrL.nil ?_
  refine Tr.cond rfl (fun h1 => ?_) (fun h1 => ?_)
  · refine Tr.seq ?_; refine Tr.region ?_; refine TrL.callV rfl rfl rfl rfl rfl (by apply (c_awake25) <;> first | assumption | omega | (simp only [cut, List.length_take, List.length_drop, Int.toNat_natCast]; omega)) ?_; refine TrL.quiets 1 rfl (by exact True.intro) ?_; refine TrL.nil ?_; refine Tr.ret ?_
    refine retQ.of rfl ?_
    rfl
  simp only [decide_eq_false_iff_not] at h1
  have hs : s.length ≤ 800 := by omega
  refine Tr.skip ?_; refine Tr.seq ?_; refine Tr.region ?_; refine TrL.quiets 1 rfl (by exact True.intro) ?_; refine TrL.nil ?_; refine Tr.seq ?_; refine Tr.seq ?_; refine Tr.region ?_; refine TrL.quiets 1 rfl (by exact True.intro) ?_; refine TrL.nil ?_; refine Tr.block ?_
  refine Tr.loop (fun ((i, t) : Nat × Str) => ⟨[(0, [], vS s), (1, [], vL (.int .i64) ns), (5, [], vS t), (6, [], vI i)], []⟩)
    (fun (i, t) => i ≤ 14 ∧ t.length ≤ 6 * i) (fun (i, t) => 14 - i) (0, []) [0, 1, 5, 6] 0 hB rfl ⟨by decide, by decide⟩ fun x hx => ?_
  obtain ⟨i, t⟩ := x
  obtain ⟨hi, ht⟩ := hx
  refine Tr.seq ?_; refine Tr.seq ?_; refine Tr.region ?_; refine TrL.quiets 8 rfl (by exact True.intro) ?_; refine TrL.nil ?_
  refine Tr.cond rfl (fun h2 => ?_) (fun h2 => ?_)
  · simp only [Bool.and_eq_true, decide_eq_true_eq] at h2
    have hi1 : i < ns.length := by omega
    obtain ⟨hv1, hv2⟩ := okInts_nth hn i
    refine Tr.skip ?_; refine Tr.seq ?_; refine Tr.block ?_; refine Tr.region ?_; refine TrL.quiets 6 rfl (by (simp only [allOf, impO, imp, inR, loOk, and_true]; omega)) ?_
    first | refine TrL.callV rfl rfl rfl rfl rfl (c_Place _ 16 (by decide) (by decide) hv1 hv2) ?_ | refine TrD.callV rfl rfl rfl rfl rfl (c_Place _ 16 (by decide) (by decide) hv1 hv2) rfl ?_
    have hk := nth_le parts25 (nth (t := .int .i64) ns (i : Int) % 16) 6 (by decide)
    refine TrL.quiets 3 rfl ?_ ?_
    · simp only [allOf, impO, imp, inR, loOk, and_true]
      refine ⟨⟨Int.emod_nonneg _ (by decide), Int.emod_lt_of_pos _ (by decide)⟩, ?_⟩
      show ((t.length + (nth (t := .str) parts25 (nth (t := .int .i64) ns (i : Int) % 16) : Str).length : Nat) : Int) ≤ 9223372036854775807
      omega
    refine TrL.nil ?_; refine Tr.region ?_; refine TrL.quiets 3 rfl (by exact True.intro) ?_; refine TrL.nil ?_
    refine ⟨(i + 1, t ++ nth (t := .str) parts25 (nth (t := .int .i64) ns (i : Int) % 16)), ⟨by omega, ?_⟩, by dsimp only; omega, ?_⟩
    · simp only [List.length_append]
      omega
    · refine Eq.trans (b := (⟨[(_, [], _), (_, [], _), (_, [], _), (_, [], _)], []⟩ : St)) rfl ?_
      rw [w64n (y := i + 1) (by omega) (by omega)]
      rfl
  refine Tr.exit ?_; refine Tr.seq ?_; refine Tr.seq ?_; refine Tr.region ?_; refine TrL.quiets 4 rfl (by exact True.intro) ?_; refine TrL.nil ?_; refine Tr.block ?_
  have hst : ∀ j : Nat, (nth (t := .str) [s, t] (j : Int) : Str).length ≤ 900000 := fun j => nth_le [s, t] j _ (by
    intro x hx
    simp only [List.mem_cons, List.not_mem_nil, or_false] at hx
    rcases hx with rfl | rfl <;> omega)
  refine Tr.loop (fun j : Nat => ⟨[(38, [], .agg [vS s, vS t]), (39, [], vI j)], []⟩)
    (fun j => j ≤ 2) (fun j => 2 - j) 0 [38, 39] 0 hB rfl (by decide) fun j hj => ?_
  refine Tr.seq ?_; refine Tr.region ?_; refine TrL.quiets 1 rfl (by exact True.intro) ?_; refine TrL.nil ?_; refine Tr.seq ?_
  refine Tr.cond rfl (fun h3 => ?_) (fun h3 => ?_)
  · simp only [decide_eq_true_eq] at h3
    have hst' := hst j
    have hsm : (ruleF (nth (t := .str) [s, t] (j : Int))).1.length ≤ 1000001 ∧ ∀ r ∈ (ruleF (nth (t := .str) [s, t] (j : Int))).1, RSmall r := ruleF_small (nth (t := .str) [s, t] (j : Int)) (by omega)
    refine Tr.skip ?_; refine Tr.seq ?_; refine Tr.block ?_; refine Tr.seq ?_; refine Tr.region ?_; refine TrL.quiets 2 rfl (by (simp only [allOf, impO, imp, inR, loOk, and_true]; omega)) ?_; refine TrL.nil ?_; refine Tr.seq ?_; refine Tr.region ?_; refine TrL.quiets 1 rfl (by exact True.intro) ?_
    first | refine TrL.callV rfl rfl rfl rfl rfl (c_rule_Read (nth (t := .str) [s, t] (j : Int)) (by omega)) ?_ | refine TrD.callV rfl rfl rfl rfl rfl (c_rule_Read (nth (t := .str) [s, t] (j : Int)) (by omega)) rfl ?_
    refine TrL.quiets 5 rfl (by exact True.intro) ?_; refine TrL.nil ?_; refine Tr.seq ?_; refine Tr.region ?_; refine TrL.quiets 1 rfl (by exact True.intro) ?_
    first | refine TrL.callV rfl rfl rfl rfl rfl (c_ref_rRead (nth (t := .str) [s, t] (j : Int)) (by omega)) ?_ | refine TrD.callV rfl rfl rfl rfl rfl (c_ref_rRead (nth (t := .str) [s, t] (j : Int)) (by omega)) rfl ?_
    generalize ruleF (nth (t := .str) [s, t] (j : Int)) = R at *
    obtain ⟨l, e⟩ := R
    refine TrL.quiets 5 rfl (by exact True.intro) ?_; refine TrL.nil ?_; refine Tr.seq ?_; refine Tr.region ?_; refine TrL.quiets 2 rfl (by exact True.intro) ?_
    first | refine TrL.callV rfl rfl rfl rfl rfl (c_RSame l hsm.2 hsm.1) ?_ | refine TrD.callV rfl rfl rfl rfl rfl (c_RSame l hsm.2 hsm.1) rfl ?_
    refine TrL.quiets 8 rfl (by exact True.intro) ?_
    first | refine TrL.callV rfl rfl rfl rfl rfl (c_rulePattern (nth (t := .str) [s, t] (j : Int)) (by omega)) ?_ | refine TrD.callV rfl rfl rfl rfl rfl (c_rulePattern (nth (t := .str) [s, t] (j : Int)) (by omega)) rfl ?_
    refine TrL.quiets 1 rfl (by exact True.intro) ?_
    first | refine TrL.callV rfl rfl rfl rfl rfl (c_refPattern (nth (t := .str) [s, t] (j : Int)) (by omega)) ?_ | refine TrD.callV rfl rfl rfl rfl rfl (c_refPattern (nth (t := .str) [s, t] (j : Int)) (by omega)) rfl ?_
    refine TrL.quiets 2 rfl (by exact True.intro) ?_; refine TrL.nil ?_
    refine Tr.cond rfl (fun h4 => ?_) (fun h4 => ?_)
    · exact absurd h4 (by simp)
    · refine Tr.skip ?_; refine Tr.region ?_; refine TrL.quiets 2 rfl (by exact True.intro) ?_; refine TrL.nil ?_
      refine ⟨j + 1, by omega, by dsimp only; omega, ?_⟩
      refine Eq.trans (b := (⟨[(_, [], _), (_, [], _)], []⟩ : St)) rfl ?_
      rw [w64n (y := j + 1) (by omega) (by omega)]
  · refine Tr.exit ?_; refine Tr.seq ?_; refine Tr.region ?_; refine TrL.callV rfl rfl rfl rfl rfl (by apply (c_awake25) <;> first | assumption | omega | (simp only [cut, List.length_take, List.length_drop, Int.toNat_natCast]; omega)) ?_; refine TrL.quiets 1 rfl (by exact True.intro) ?_; refine TrL.nil ?_; refine Tr.ret ?_
    refine retQ.of rfl ?_
    rfl
end Go.Proofs.YtckgeebihhhapaaDoor.Sx
