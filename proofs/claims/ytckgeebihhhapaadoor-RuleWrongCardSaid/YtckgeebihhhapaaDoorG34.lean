/-
  RuleWrong.
-/
import Derived.Test.YtckgeebihhhapaaDoorG32
set_option linter.unusedVariables false
set_option linter.unusedSimpArgs false
set_option maxRecDepth 20000
set_option maxHeartbeats 4000000
namespace Go.Proofs.YtckgeebihhhapaaDoor.Sx
open Go Go.RowKit Go.Proofs

def tbl6 : List Str := [[97], [98, 46, 99], [100, 105, 114, 47, 120], [121, 45, 49], [122, 46, 111], [102, 111, 111]]
def badT (w : Str) : List Str := [w, [], w ++ [32, 120], [58, 32] ++ w, [32, 32, 58], w ++ [32, 37, 46, 111, 58, 32, 120], w ++ [58, 32, 120, 58, 32, 121], w ++ [58, 32, 37, 46, 113, 58, 32, 121], w ++ [58, 32, 37, 46, 97, 32, 37, 46, 98, 58, 32, 121]]
def goodT (w : Str) : Str := w ++ [32, 58, 32] ++ w ++ [32, 124, 32, 32]
def badOk (k : Nat) (w : Str) : Bool :=
  (ruleF (nth (t := .str) (badT w) (k : Int))).2 == (bif decide (k < 3) then 11 else 16) && (ruleF (nth (t := .str) (badT w) (k : Int))).1.length == 0 && decide ((nth (t := .str) (badT w) (k : Int) : Str).length ≤ 100)
def goodOk (w : Str) : Bool :=
  (ruleF (goodT w)).2 == 0 && (match (ruleF (goodT w)).1 with | [r] => r.2.2.1.length == 0 && r.2.1.length == 1 | _ => false) && decide ((goodT w).length ≤ 100)
theorem bad_all : ((List.range 9).all fun k => tbl6.all fun w => badOk k w) = true := by kernel_rfl
theorem good_all : (tbl6.all fun w => goodOk w) = true := by kernel_rfl
theorem range_at {f : Nat → Bool} {n k : Nat} (h : ((List.range n).all f) = true) (hk : k < n) : f k = true := List.all_eq_true.1 h k (List.mem_range.2 hk)
theorem mem_at {α : Type} {f : α → Bool} {l : List α} {x : α} (h : l.all f = true) (hx : x ∈ l) : f x = true := List.all_eq_true.1 h x hx
theorem tbl_at {l : List Str} {n v : Int} (hn : 0 < n) (hl : n = l.length) : (nth (t := .str) l (v % n) : Str) ∈ l := by
  have h1 := Int.emod_nonneg v (show n ≠ 0 by omega)
  have h2 := Int.emod_lt_of_pos v hn
  have h3 : (v % n).toNat < l.length := by omega
  simp only [nth, List.getD_eq_getElem?_getD, List.getElem?_eq_getElem h3, Option.getD_some]
  exact List.getElem_mem h3
theorem c_RuleWrong (how v : Int) (hh1 : -9223372036854775808 ≤ how) (hh2 : how ≤ 9223372036854775807) (hv1 : -9223372036854775808 ≤ v) (hv2 : v ≤ 9223372036854775807) : CallV Tryd.prog 6 [vI how, vI v] (vB true) := by
  refine CallV.of Tryd.func6 (by kernel_rfl) rfl Tryd.ntmps6 (by simp) rfl fun cx hB => ?_
  refine Tr.seq ?_; refine Tr.region ?_; refine TrL.quiets 1 rfl (by exact True.intro) ?_; refine TrL.nil ?_; refine Tr.seq ?_; refine Tr.region ?_; refine TrL.quiets 2 rfl (by exact True.intro) ?_
  first | refine TrL.callV rfl rfl rfl rfl rfl (c_Place v 6 (by decide) (by decide) hv1 hv2) ?_ | refine TrD.callV rfl rfl rfl rfl rfl (c_Place v 6 (by decide) (by decide) hv1 hv2) rfl ?_
  have hw := tbl_at (l := tbl6) (n := 6) (v := v) (by decide) rfl
  have hv3 := Int.emod_nonneg v (show (6 : Int) ≠ 0 by decide)
  have hv4 := Int.emod_lt_of_pos v (show (0 : Int) < 6 by decide)
  refine TrL.quiets 2 rfl (by (simp only [allOf, impO, imp, inR, loOk, and_true]; omega)) ?_; refine TrL.nil ?_
  change Tr _ _ _ _ _ _
  refine Tr.keep [0, 5] 0 hB (st' := ⟨[(0, [], vI how), (5, [], vS (nth (t := .str) tbl6 (v % 6)))], []⟩) rfl ?_
  generalize (nth (t := .str) tbl6 (v % 6) : Str) = w at *
  have hgd := mem_at good_all hw
  refine Tr.seq ?_; refine Tr.region ?_; refine TrL.quiets 1 rfl (by exact True.intro) ?_
  first | refine TrL.callV rfl rfl rfl rfl rfl (c_Place how 9 (by decide) (by decide) hh1 hh2) ?_ | refine TrD.callV rfl rfl rfl rfl rfl (c_Place how 9 (by decide) (by decide) hh1 hh2) rfl ?_
  have hk1 := Int.emod_nonneg how (show (9 : Int) ≠ 0 by decide)
  have hk2 := Int.emod_lt_of_pos how (show (0 : Int) < 9 by decide)
  obtain ⟨k, hk⟩ : ∃ k : Nat, (k : Int) = how % 9 := ⟨(how % 9).toNat, by omega⟩
  rw [← hk] at hk1 hk2 ⊢
  have hbd : badOk k w = true := mem_at (f := fun w => badOk k w) (range_at (f := fun k => tbl6.all fun w => badOk k w) bad_all (by omega)) hw
  have hwl : w.length ≤ 5 := by
    have : ∀ x ∈ tbl6, x.length ≤ 5 := by decide
    exact this w hw
  unfold badOk at hbd
  unfold goodOk at hgd
  rw [Bool.and_eq_true, Bool.and_eq_true, beq_iff_eq, beq_iff_eq, decide_eq_true_eq] at hbd
  rw [Bool.and_eq_true, Bool.and_eq_true, beq_iff_eq, decide_eq_true_eq] at hgd
  obtain ⟨⟨b1, b2⟩, b3⟩ := hbd
  obtain ⟨⟨g1, g2⟩, g3⟩ := hgd
  have hgl : ∃ r, (ruleF (goodT w)).1 = [r] ∧ r.2.2.1.length = 0 ∧ r.2.1.length = 1 := by
    revert g2
    cases (ruleF (goodT w)).1 with
    | nil => intro h; cases h
    | cons r l =>
      cases l with
      | nil =>
        intro h
        rw [Bool.and_eq_true, beq_iff_eq, beq_iff_eq] at h
        exact ⟨r, rfl, h.1, h.2⟩
      | cons r2 l => intro h; cases h
  obtain ⟨r, g4, g5, g6⟩ := hgl
  refine TrL.quiets 1 rfl (by exact True.intro) ?_; refine TrL.nil ?_; refine Tr.seq ?_; refine Tr.region ?_; refine TrL.quiets 17 rfl (by (simp (disch := omega) only [allOf, impO, imp, inR, loOk, and_true, w64, List.length_set, List.length_cons, List.length_nil, Option.getD_none, Option.getD_some, Ty.D, true_and, decide_eq_true_eq, decide_eq_false_iff_not, Bool.and_eq_true, Bool.or_eq_false_iff]; omega)) ?_; refine TrL.nil ?_
  change Tr _ _ _ _ _ _
  refine Tr.keep [5, 6, 7] 0 hB (st' := ⟨[(5, [], vS w), (6, [], vI (k : Int)), (7, [], vS (nth (t := .str) (badT w) (k : Int)))], []⟩) rfl ?_
  generalize (nth (t := .str) (badT w) (k : Int) : Str) = s at *
  refine Tr.seq ?_; refine Tr.region ?_; refine TrL.quiets 1 rfl (by exact True.intro) ?_
  first | refine TrL.callV rfl rfl rfl rfl rfl (c_rule_Read s (by omega)) ?_ | refine TrD.callV rfl rfl rfl rfl rfl (c_rule_Read s (by omega)) rfl ?_
  generalize ruleF s = R at *
  obtain ⟨l, e⟩ := R
  dsimp only at b1 b2
  have hl0 : l = [] := List.length_eq_zero_iff.1 b2
  subst hl0
  subst b1
  refine TrL.quiets 5 rfl (by exact True.intro) ?_; refine TrL.nil ?_; refine Tr.seq ?_; refine Tr.region ?_; refine TrL.quiets 1 rfl (by exact True.intro) ?_; refine TrL.nil ?_
  change Tr _ _ _ _ _ _
  refine Tr.join (fun (_ : Unit) => ⟨[(5, [], vS w), (8, [], vL ruleTy []), (9, [], vI (bif decide (k < 3) then 11 else 16)), (10, [], vI (bif decide (k < 3) then 11 else 16))], []⟩) (fun _ => True) [5, 8, 9, 10] 0 hB ?_ fun _ _ => ?_
  · have e9 : decide ((k : Int) < 3) = decide (k < 3) := by
      rw [Bool.eq_iff_iff, decide_eq_true_eq, decide_eq_true_eq]
      omega
    refine Tr.seq ?_; refine Tr.region ?_; refine TrL.quiets 2 rfl (by exact True.intro) ?_; refine TrL.nil ?_
    refine Tr.cond rfl (fun h1 => ?_) (fun h1 => ?_)
    · have h2 : decide (k < 3) = true := by rw [← e9]; exact h1
      rw [h2]
      refine Tr.region ?_; refine TrL.quiets 1 rfl (by exact True.intro) ?_; refine TrL.nil ?_
      exact ⟨(), trivial, rfl⟩
    · have h2 : decide (k < 3) = false := by rw [← e9]; exact h1
      rw [h2]
      refine Tr.skip ?_
      exact ⟨(), trivial, rfl⟩
  generalize (bif decide (k < 3) then 11 else 16 : Int) = want
  refine Tr.seq ?_; refine Tr.region ?_; refine TrL.quiets 5 rfl (by (simp (disch := omega) only [allOf, impO, imp, inR, loOk, and_true, w64, List.length_set, List.length_cons, List.length_nil, cut, List.length_take, List.length_drop, List.length_append, Int.toNat_natCast, Option.getD_none, Option.getD_some, Ty.D, true_and, decide_eq_true_eq, decide_eq_false_iff_not, Bool.and_eq_true, Bool.or_eq_false_iff]; omega)) ?_
  first | refine TrL.callV rfl rfl rfl rfl rfl (c_rule_Read (goodT w) (by omega)) ?_ | refine TrD.callV rfl rfl rfl rfl rfl (c_rule_Read (goodT w) (by omega)) rfl ?_
  generalize ruleF (goodT w) = R2 at *
  obtain ⟨l2, e2⟩ := R2
  dsimp only at g1 g4
  subst g4
  subst g1
  obtain ⟨r1, r2, r3, r4, r5, r6, r7, r8⟩ := r
  dsimp only at g5 g6
  refine TrL.quiets 5 rfl (by exact True.intro) ?_; refine TrL.nil ?_; refine Tr.seq ?_; refine Tr.region ?_; refine TrL.quiets 34 rfl (by (simp (disch := omega) only [allOf, impO, imp, inR, loOk, and_true, w64, List.length_set, List.length_cons, List.length_nil, Option.getD_none, Option.getD_some, Ty.D, true_and, decide_eq_true_eq, decide_eq_false_iff_not, Bool.and_eq_true, Bool.or_eq_false_iff]; omega)) ?_
  first | refine TrL.callV rfl rfl rfl rfl rfl c_awake25 ?_ | refine TrD.callV rfl rfl rfl rfl rfl c_awake25 rfl ?_
  refine TrL.quiets 2 rfl (by exact True.intro) ?_; refine TrL.nil ?_; refine Tr.ret ?_
  refine retQ.of rfl ?_
  refine congrArg vB ?_
  simp [nth, g5, g6]
end Go.Proofs.YtckgeebihhhapaaDoor.Sx
