/-
  Lines: the reference's lines, sameness.
-/
import Derived.Test.YtafngfcfinligaaDoorF27
set_option linter.unusedVariables false
set_option linter.unusedSimpArgs false
set_option maxRecDepth 20000
set_option maxHeartbeats 4000000
namespace Go.Proofs.YtafngfcfinligaaDoor.Sx
open Go Go.RowKit Go.Proofs

theorem c_ref_All (s : Str) (hs : s.length ≤ 274877906944) : CallV Tryd.prog 43 [vS s] (vL lineTy (linesL s)) := by
  refine CallV.of Tryd.func43 (by kernel_rfl) rfl Tryd.ntmps43 (by simp) rfl fun cx hB => ?_
  refine Tr.seq ?_; refine Tr.region ?_; refine TrL.quiets 1 rfl (by exact True.intro) ?_; refine TrL.nil ?_; refine Tr.seq ?_; refine Tr.region ?_; refine TrL.quiets 1 rfl (by exact True.intro) ?_; refine TrL.nil ?_; refine Tr.seq ?_; refine Tr.region ?_; refine TrL.quiets 2 rfl (by exact True.intro) ?_; refine TrL.nil ?_; refine Tr.block ?_
  refine Tr.nilRow 3 50 lineTy rfl ?_
  refine Tr.loop (fun x : List (Str × Int × Bool) × Nat × Nat => ⟨[(0, [], vS s), (3, [], .own 0), (4, [], vI x.2.1), (5, [], vI x.2.2)], [.gs 50 lineTy x.1]⟩) (fun x => x.1.length ≤ x.2.1 ∧ x.2.1 ≤ s.length ∧ x.2.2 ≤ x.2.1 + 1 ∧ linesL s = x.1 ++ linesF s x.2.1 x.2.2) (fun x => s.length - x.2.1) ([], 0, 1) [0, 3, 4, 5] 1 (fun i h => by have := hB i h; omega) rfl ⟨Nat.le_refl _, Nat.zero_le _, Nat.le_refl _, rfl⟩ ?_
  rintro ⟨acc, a, n⟩ ⟨h1, h2, h3, h4⟩
  simp only at h1 h2 h3 h4
  refine Tr.block ?_; refine Tr.seq ?_; refine Tr.region ?_; refine TrL.quiets 3 rfl (by exact True.intro) ?_
  by_cases ha : a < s.length
  · have hc := lineAt_count s a ha
    first | refine TrL.callV rfl rfl rfl rfl rfl (c_refNext_in s a n hs ha (by omega) (by omega)) ?_ | refine TrD.callV rfl rfl rfl rfl rfl (c_refNext_in s a n hs ha (by omega) (by omega)) rfl ?_
    refine TrL.quiets 5 rfl (by exact True.intro) ?_; refine TrL.eff (effBox_sound rfl) (by exact True.intro) ?_; refine TrL.eff (effStore_sound rfl) (by exact True.intro) ?_; refine TrL.quiets 3 rfl (by exact True.intro) ?_; refine TrL.nil ?_; refine Tr.seq ?_; refine Tr.seq ?_; refine Tr.region ?_; refine TrL.quiets 2 rfl (by exact True.intro) ?_; refine TrL.nil ?_
    refine Tr.cond rfl (fun c1 => ?_) (fun c1 => ?_)
    · cases c1
    refine Tr.skip ?_; refine Tr.seq ?_; refine Tr.region ?_; refine TrL.quiets 2 rfl (by exact True.intro) ?_; refine TrL.eff (effLit_sound rfl) (by exact True.intro) ?_; refine TrL.eff (effAppend_sound rfl) ?_ ?_
    · show acc.length + 1 ≤ 1099511627776
      omega
    refine TrL.quiets 1 rfl (by exact True.intro) ?_; refine TrL.nil ?_; refine Tr.region ?_; refine TrL.quiets 4 rfl (by exact True.intro) ?_; refine TrL.nil ?_
    refine ⟨(acc ++ [oneLine s a n], (lineAt s a).2.1, n + (lineAt s a).2.2), ⟨by simp; omega, hc.2.2, by dsimp only; omega, ?_⟩, by dsimp only; omega, ?_⟩
    · rw [h4, linesF_step ha]
      simp
    · refine Eq.trans (b := (⟨[(_, [], _), (_, [], _), (_, [], _), (_, [], _)], [_]⟩ : St)) rfl ?_
      rw [← Int.natCast_add]
      rfl
  · first | refine TrL.callV rfl rfl rfl rfl rfl (c_refNext_out s a n (.inr (by omega))) ?_ | refine TrD.callV rfl rfl rfl rfl rfl (c_refNext_out s a n (.inr (by omega))) rfl ?_
    refine TrL.quiets 5 rfl (by exact True.intro) ?_; refine TrL.eff (effBox_sound rfl) (by exact True.intro) ?_; refine TrL.eff (effStore_sound rfl) (by exact True.intro) ?_; refine TrL.quiets 3 rfl (by exact True.intro) ?_; refine TrL.nil ?_; refine Tr.seq ?_; refine Tr.seq ?_; refine Tr.region ?_; refine TrL.quiets 2 rfl (by exact True.intro) ?_; refine TrL.nil ?_
    refine Tr.cond rfl (fun c1 => ?_) (fun c1 => ?_)
    · refine Tr.seq ?_; refine Tr.region ?_; refine TrL.quiets 2 rfl (by exact True.intro) ?_; refine TrL.nil ?_; refine Tr.ret ?_
      refine retQ.of rfl ?_
      rw [linesF_stop ha, List.append_nil] at h4
      rw [h4]
    · cases c1

theorem ne_line (x y : Str × Int × Bool) : (!(x.1 == y.1) || x.2.1 != y.2.1 || !(x.2.2 == y.2.2)) = !decide (x = y) := by
  obtain ⟨x1, x2, x3⟩ := x
  obtain ⟨y1, y2, y3⟩ := y
  rw [Bool.eq_iff_iff]
  simp only [Bool.or_eq_true, Bool.not_eq_true', beq_eq_false_iff_ne, bne_iff_ne, decide_eq_false_iff_not, Prod.mk.injEq, ne_eq]
  by_cases e1 : x1 = y1 <;> by_cases e2 : x2 = y2 <;> by_cases e3 : x3 = y3 <;> simp [e1, e2, e3]
theorem c_ref_SameL (a b : List (Str × Int × Bool)) (ha : a.length ≤ 1099511627776) : CallV Tryd.prog 41 [vL lineTy a, vL lineTy b] (vB (decide (a = b))) := by
  refine CallV.of Tryd.func41 (by kernel_rfl) rfl Tryd.ntmps41 (by simp) rfl fun cx hB => ?_
  refine Tr.seq ?_; refine Tr.region ?_; refine TrL.quiets 1 rfl (by exact True.intro) ?_; refine TrL.nil ?_; refine Tr.seq ?_; refine Tr.seq ?_; refine Tr.region ?_; refine TrL.quiets 5 rfl (by exact True.intro) ?_; refine TrL.nil ?_
  refine Tr.cond rfl (fun h1 => ?_) (fun h1 => ?_)
  · refine Tr.seq ?_; refine Tr.region ?_; refine TrL.quiets 1 rfl (by exact True.intro) ?_; refine TrL.nil ?_; refine Tr.ret ?_
    refine retQ.of rfl ?_
    refine congrArg vB ?_
    symm
    rw [decide_eq_false_iff_not]
    rintro rfl
    simp at h1
  have hl : a.length = b.length := by
    have h2 : ((a.length : Int) != (b.length : Int)) = false := h1
    simp only [bne_eq_false_iff_eq] at h2
    omega
  refine Tr.skip ?_; refine Tr.seq ?_; refine Tr.seq ?_; refine Tr.region ?_; refine TrL.quiets 1 rfl (by exact True.intro) ?_; refine TrL.nil ?_; refine Tr.block ?_
  refine Tr.loop (fun (i : Nat) => ⟨[(0, [], vL lineTy a), (1, [], vL lineTy b), (5, [], vI i)], []⟩)
    (fun i => i ≤ a.length ∧ a.take i = b.take i) (fun i => a.length - i) 0 [0, 1, 5] 0 hB rfl ⟨Nat.zero_le _, rfl⟩ fun i hi => ?_
  obtain ⟨hi, he⟩ := hi
  refine Tr.seq ?_; refine Tr.seq ?_; refine Tr.region ?_; refine TrL.quiets 4 rfl (by exact True.intro) ?_; refine TrL.nil ?_
  refine Tr.cond rfl (fun h2 => ?_) (fun h2 => ?_)
  · have hi1 : i < a.length := by
      have : ((i : Nat) : Int) < (a.length : Int) := of_decide_eq_true h2
      omega
    have na : nth (t := lineTy) a (i : Int) = a[i] := nth_get' (t := lineTy) a i hi1
    have nb : nth (t := lineTy) b (i : Int) = b[i]'(by omega) := nth_get' (t := lineTy) b i (by omega)
    refine Tr.skip ?_; refine Tr.seq ?_; refine Tr.block ?_; refine Tr.seq ?_; refine Tr.draw (by kernel_rfl) (by kernel_rfl) ?_; refine TrD.quiets 37 rfl (by (simp only [allOf, impO, imp, inR, loOk, and_true]; omega)) ?_; refine TrD.nil ?_
    have h4 := ne_line (nth (t := lineTy) a (i : Int)) (nth (t := lineTy) b (i : Int))
    refine Tr.cond rfl (fun h3 => ?_) (fun h3 => ?_)
    · have h5 := h4.symm.trans h3
      rw [na, nb, Bool.not_eq_true', decide_eq_false_iff_not] at h5
      refine Tr.seq ?_; refine Tr.region ?_; refine TrL.quiets 1 rfl (by exact True.intro) ?_; refine TrL.nil ?_; refine Tr.ret ?_
      refine retQ.of rfl ?_
      refine congrArg vB ?_
      symm
      rw [decide_eq_false_iff_not]
      rintro rfl
      exact h5 rfl
    have h5 := h4.symm.trans h3
    rw [na, nb, Bool.not_eq_false', decide_eq_true_eq] at h5
    refine Tr.skip ?_; refine Tr.region ?_; refine TrL.quiets 3 rfl (by exact True.intro) ?_; refine TrL.nil ?_
    refine ⟨i + 1, ⟨by omega, ?_⟩, by dsimp only; omega, ?_⟩
    · rw [List.take_succ_eq_append_getElem hi1, List.take_succ_eq_append_getElem (by omega : i < b.length), he, h5]
    · refine Eq.trans (b := (⟨[(_, [], _), (_, [], _), (_, [], _)], []⟩ : St)) rfl ?_
      rw [w64n (y := i + 1) (by omega) (by omega)]
  have hi1 : i = a.length := by
    have : ¬ ((i : Nat) : Int) < (a.length : Int) := of_decide_eq_false h2
    omega
  rw [hi1, List.take_length, hl, List.take_length] at he
  refine Tr.exit ?_; refine Tr.seq ?_; refine Tr.region ?_; refine TrL.quiets 1 rfl (by exact True.intro) ?_; refine TrL.nil ?_; refine Tr.ret ?_
  refine retQ.of rfl ?_
  rw [decide_eq_true he]
end Go.Proofs.YtafngfcfinligaaDoor.Sx
