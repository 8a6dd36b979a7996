/-
  CondSides.
-/
import Derived.Test.YtckgeebihhhapaaDoorG13
set_option linter.unusedVariables false
set_option linter.unusedSimpArgs false
set_option maxRecDepth 20000
set_option maxHeartbeats 4000000
namespace Go.Proofs.YtckgeebihhhapaaDoor.Sx
open Go Go.RowKit Go.Proofs

theorem c_CondSides (a b how : Int) (nt : Bool) (ha1 : -9223372036854775808 ≤ a) (ha2 : a ≤ 9223372036854775807) (hb1 : -9223372036854775808 ≤ b) (hb2 : b ≤ 9223372036854775807) (hh1 : -9223372036854775808 ≤ how) (hh2 : how ≤ 9223372036854775807) :
    CallV Tryd.prog 8 [vI a, vI b, vI how, vB nt] (vB true) := by
  refine CallV.of Tryd.func8 (by kernel_rfl) rfl Tryd.ntmps8 (by simp) rfl fun cx hB => ?_
  refine Tr.seq ?_; refine Tr.region ?_; refine TrL.quiets 1 rfl (by exact True.intro) ?_; refine TrL.nil ?_; refine Tr.seq ?_; refine Tr.region ?_; refine TrL.quiets 1 rfl (by exact True.intro) ?_
  first | refine TrL.callV rfl rfl rfl rfl rfl (c_Word a ha1 ha2) ?_ | refine TrD.callV rfl rfl rfl rfl rfl (c_Word a ha1 ha2) rfl ?_
  refine TrL.quiets 1 rfl (by exact True.intro) ?_
  first | refine TrL.callV rfl rfl rfl rfl rfl (c_Word b hb1 hb2) ?_ | refine TrD.callV rfl rfl rfl rfl rfl (c_Word b hb1 hb2) rfl ?_
  refine TrL.quiets 2 rfl (by exact True.intro) ?_; refine TrL.nil ?_; refine Tr.seq ?_; refine Tr.region ?_; refine TrL.quiets 1 rfl (by exact True.intro) ?_; refine TrL.nil ?_
  have hwa := word_le a
  have hwb := word_le b
  obtain ⟨k, hk⟩ : ∃ k : Nat, (k : Int) = how % 6 := ⟨(how % 6).toNat, by omega⟩
  have hk2 : k < 6 := by omega
  obtain ⟨hr, hr2, hl⟩ := side_at hk2 nt a b
  have hpl := c_Place how 6 (by decide) (by decide) hh1 hh2
  rw [← hk] at hpl
  generalize word a = x at *
  generalize word b = y at *
  refine Tr.join (fun _ : Unit => ⟨[(2, [], vI how), (9, [], vS x), (10, [], vS y), (11, [], vS (ifW nt))], []⟩) (fun _ => True) [2, 9, 10, 11] 0 hB ?_ fun _ _ => ?_
  · refine Tr.seq ?_; refine Tr.region ?_; refine TrL.quiets 1 rfl (by exact True.intro) ?_; refine TrL.nil ?_
    refine Tr.cond rfl (fun h1 => ?_) (fun h1 => ?_)
    · subst h1
      refine Tr.region ?_; refine TrL.quiets 1 rfl (by exact True.intro) ?_; refine TrL.nil ?_
      exact ⟨(), trivial, rfl⟩
    · subst h1
      refine Tr.skip ?_
      exact ⟨(), trivial, rfl⟩
  have hif : (ifW nt).length ≤ 5 := by cases nt <;> decide
  have hk3 : (0 : Int) ≤ (k : Int) := by omega
  have hk4 : (k : Int) < 6 := by omega
  refine Tr.seq ?_; refine Tr.region ?_; refine TrL.quiets 52 rfl (by (simp (disch := omega) only [allOf, impO, imp, inR, loOk, and_true, w64, List.length_set, List.length_cons, List.length_nil, cut, List.length_take, List.length_drop, List.length_append, Int.toNat_natCast, Option.getD_none, Option.getD_some, Ty.D, true_and, decide_eq_true_eq, decide_eq_false_iff_not, Bool.and_eq_true, Bool.or_eq_false_iff]; omega)) ?_
  first | refine TrL.callV rfl rfl rfl rfl rfl hpl ?_ | refine TrD.callV rfl rfl rfl rfl rfl hpl rfl ?_
  refine TrL.quiets 2 rfl (by (simp only [allOf, impO, imp, inR, loOk, and_true]; omega)) ?_; refine TrL.nil ?_
  change Tr _ _ _ _ _ _
  refine Tr.keep [2, 9, 10, 11, 12] 0 hB (st' := ⟨[(2, [], vI how), (9, [], vS x), (10, [], vS y), (11, [], vS (ifW nt)), (12, [], vS (sideT k nt x y))], []⟩) rfl ?_
  generalize sideT k nt x y = s at *
  generalize ifW nt = w at *
  refine Tr.seq ?_; refine Tr.region ?_; refine TrL.quiets 1 rfl (by exact True.intro) ?_
  first | refine TrL.callV rfl rfl rfl rfl rfl (c_cond_Read (s) (by omega)) ?_ | refine TrD.callV rfl rfl rfl rfl rfl (c_cond_Read (s) (by omega)) rfl ?_
  generalize readF (s) = R1 at *
  obtain ⟨⟨e1, cw, ca, cb⟩, ok, bad⟩ := R1
  refine TrL.quiets 4 rfl (by exact True.intro) ?_; refine TrL.eff (effBox_sound rfl) (by exact True.intro) ?_; refine TrL.eff (effStore_sound rfl) (by exact True.intro) ?_; refine TrL.quiets 2 rfl (by exact True.intro) ?_; refine TrL.nil ?_; refine Tr.seq ?_; refine Tr.region ?_; refine TrL.quiets 2 rfl (by (simp (disch := omega) only [allOf, impO, imp, inR, loOk, and_true, w64, List.length_set, List.length_cons, List.length_nil, Option.getD_none, Option.getD_some, Ty.D, true_and, decide_eq_true_eq, decide_eq_false_iff_not, Bool.and_eq_true, Bool.or_eq_false_iff]; omega)) ?_
  first | refine TrL.callV rfl rfl rfl rfl rfl (c_cond_Read (s ++ [32, 120]) (by simp only [List.length_append, List.length_cons, List.length_nil]; omega)) ?_ | refine TrD.callV rfl rfl rfl rfl rfl (c_cond_Read (s ++ [32, 120]) (by simp only [List.length_append, List.length_cons, List.length_nil]; omega)) rfl ?_
  generalize readF (s ++ [32, 120]) = R at *
  obtain ⟨c2, ok2, bad2⟩ := R
  dsimp only at hr2
  obtain ⟨rfl, rfl⟩ : ok2 = true ∧ bad2 = true := by simpa using hr2
  refine TrL.quiets 4 rfl (by exact True.intro) ?_; refine TrL.eff (effBox_sound rfl) (by exact True.intro) ?_; refine TrL.eff (effStore_sound rfl) (by exact True.intro) ?_; refine TrL.quiets 2 rfl (by exact True.intro) ?_; refine TrL.nil ?_; refine Tr.seq ?_; refine Tr.draw (by kernel_rfl) (by kernel_rfl) ?_; refine TrD.quiets 27 rfl (by exact True.intro) ?_
  first | refine TrL.callV rfl rfl rfl rfl rfl hpl ?_ | refine TrD.callV rfl rfl rfl rfl rfl hpl rfl ?_
  refine TrD.quiets 10 rfl (by exact True.intro) ?_
  first | refine TrL.callV rfl rfl rfl rfl rfl c_awake23 ?_ | refine TrD.callV rfl rfl rfl rfl rfl c_awake23 rfl ?_
  refine TrD.quiets 2 rfl (by exact True.intro) ?_; refine TrD.nil ?_; refine Tr.ret ?_
  refine retQ.of rfl ?_
  simp only [Prod.mk.injEq] at hr
  obtain ⟨⟨rfl, rfl, rfl, rfl⟩, rfl, rfl⟩ := hr
  refine congrArg vB ?_
  have e : ((k : Int) == 5) = (k == 5) := by
    rw [Bool.eq_iff_iff, beq_iff_eq, beq_iff_eq]
    omega
  rw [e]
  simp
end Go.Proofs.YtckgeebihhhapaaDoor.Sx
