/-
  WildQuoted.
-/
import Derived.Test.YtbnejfgdojdbdaaDoorW17
set_option linter.unusedVariables false
set_option linter.unusedSimpArgs false
set_option maxRecDepth 20000
set_option maxHeartbeats 4000000
namespace Go.Proofs.YtbnejfgdojdbdaaDoor.Sx
open Go Go.RowKit Go.Proofs

theorem qC_len (c : Nat) : (qC c).length = 1 := by unfold qC; split; rfl; split <;> rfl
theorem qL_len (c : Nat) : ∀ e ∈ qL c, e.1.length ≤ 1000 := by
  have h := qC_len c
  intro e he
  simp only [qL, List.mem_cons, List.not_mem_nil, or_false] at he
  rcases he with rfl | rfl | rfl <;> simp [h]
theorem c_WildQuoted (n : Int) (h1 : -9223372036854775808 ≤ n) (h2 : n ≤ 9223372036854775807) : CallV Tryd.prog 4 [vI n] (vB true) := by
  have hk0 : 0 ≤ n % 3 := Int.emod_nonneg _ (by decide)
  have hk1 : n % 3 < 3 := Int.emod_lt_of_pos _ (by decide)
  obtain ⟨c, hk⟩ := Int.eq_ofNat_of_zero_le hk0
  have hc : c < 3 := by omega
  have hq := quo_facts hc
  have hok : FsOk (fsOf (qL c)) := fsOf_ok _
  have hlim : FsLim (fsOf (qL c)) := fsOf_lim (qL_len c)
  have hlen := qC_len c
  have hnth : nth (t := .str) [[42], [63], [91]] (c : Int) = qC c := by
    rw [nth_get' (t := .str) _ _ (by simpa using hc)]
    rcases (show c = 0 ∨ c = 1 ∨ c = 2 by omega) with rfl | rfl | rfl <;> rfl
  refine CallV.of Tryd.func4 (by kernel_rfl) rfl Tryd.ntmps4 (by simp) rfl fun cx hB => ?_
  have hB3 : ∀ i, cx.B i = true → i < 3 := fun i h => by have := hB i h; omega
  refine Tr.seq ?_; refine Tr.region ?_; refine TrL.quiets 1 rfl (by exact True.intro) ?_; refine TrL.nil ?_; refine Tr.seq ?_; refine Tr.region ?_; refine TrL.quiets 2 rfl (by exact True.intro) ?_
  first | refine TrL.callV rfl rfl rfl rfl rfl (c_Place n 3 (by decide) (by decide) h1 h2) ?_ | refine TrD.callV rfl rfl rfl rfl rfl (c_Place n 3 (by decide) (by decide) h1 h2) rfl ?_
  rw [hk]
  refine TrL.quiets 2 rfl (by (simp only [allOf, impO, imp, inR, loOk, and_true]; omega)) ?_; refine TrL.nil ?_
  change Tr _ _ _ _ _ _
  refine Tr.is 3 (sv' := vS (qC c)) rfl (congrArg vS hnth) ?_
  refine Tr.keep [3] 0 hB (st' := ⟨[(3, [], vS (qC c))], []⟩) rfl ?_
  generalize hqc : qC c = q at hlen
  have hL : qL c = [([97] ++ q ++ [98], false, []), ([120, 47, 97] ++ q ++ [98], false, []), ([97, 120, 98], false, [])] := by rw [← hqc]; rfl
  have hw1 : qW1 c = [97, 92] ++ q ++ [98] := by rw [← hqc]; rfl
  have hw2 : qW2 c = [63, 47, 97, 92] ++ q ++ [98] := by rw [← hqc]; rfl
  have hw3 : qW3 c = [120, 47, 97] ++ q ++ [98] := by rw [← hqc]; rfl
  have hq1 := hq.n1
  have hq2 := hq.n2
  have hq3 := hq.e1
  have hq4 := hq.e2
  have hqle := qL_len c
  generalize hF : fsOf (qL c) = F at hq1 hq2 hq3 hq4 hok hlim
  rw [hw1] at hq1 hq3
  rw [hw2] at hq2 hq4
  rw [hw3] at hq4
  rw [hL] at hF hqle
  refine Tr.seq ?_; refine Tr.region ?_; refine TrL.quiets 9 rfl (by (simp (disch := omega) only [allOf, impO, imp, inR, loOk, and_true, w64, List.length_set, List.length_cons, List.length_nil, cut, List.length_take, List.length_drop, List.length_append, Int.toNat_natCast, Option.getD_none, Option.getD_some, Ty.D, true_and, decide_eq_true_eq, decide_eq_false_iff_not, Bool.and_eq_true, Bool.or_eq_false_iff]; omega)) ?_; refine TrL.eff (effLit_sound rfl) (by exact True.intro) ?_
  refine TrL.weak 18 rfl (fix_weak eTy [([97] ++ q ++ [98], false, []), ([120, 47, 97] ++ q ++ [98], false, []), ([97, 120, 98], false, [])]) ?_
  refine TrL.callT [] rfl rfl rfl rfl rfl (c_NewL [([97] ++ q ++ [98], false, []), ([120, 47, 97] ++ q ++ [98], false, []), ([97, 120, 98], false, [])] (by simp) hqle) rfl rfl rfl ?_
  rw [hF]
  refine TrL.quiets 1 rfl (by exact True.intro) ?_; refine TrL.nil ?_
  change Tr _ _ _ _ _ _
  refine Tr.keep [3, 4] 3 hB3 (st' := ⟨[(3, [], vS q), (4, [], .ptr 2 0)], nfT (dirsOf F) (filesOf F)⟩) rfl ?_
  have hl1 : (([97, 92] : Str) ++ q ++ [98]).length ≤ 1000 := by simp [hlen]
  have hl2 : (([63, 47, 97, 92] : Str) ++ q ++ [98]).length ≤ 1000 := by simp [hlen]
  refine Tr.seq ?_; refine Tr.region ?_; refine TrL.quiets 4 rfl (by (simp (disch := omega) only [allOf, impO, imp, inR, loOk, and_true, w64, List.length_set, List.length_cons, List.length_nil, cut, List.length_take, List.length_drop, List.length_append, Int.toNat_natCast, Option.getD_none, Option.getD_some, Ty.D, true_and, decide_eq_true_eq, decide_eq_false_iff_not, Bool.and_eq_true, Bool.or_eq_false_iff]; omega)) ?_
  refine TrL.callT [2, 0, 1] rfl rfl rfl rfl rfl (c_Expand hok hlim ([97, 92] ++ q ++ [98]) hl1 hq1) rfl rfl rfl ?_
  rw [hq3]
  refine TrL.keep [3, 4, 24] 3 hB3 (st' := ⟨[(3, [], vS q), (4, [], .ptr 2 0), (24, [], vL .str [[97, 92] ++ q ++ [98]])], nfT (dirsOf F) (filesOf F)⟩) rfl ?_
  refine TrL.quiets 3 rfl (by (simp (disch := omega) only [allOf, impO, imp, inR, loOk, and_true, w64, List.length_set, List.length_cons, List.length_nil, cut, List.length_take, List.length_drop, List.length_append, Int.toNat_natCast, Option.getD_none, Option.getD_some, Ty.D, true_and, decide_eq_true_eq, decide_eq_false_iff_not, Bool.and_eq_true, Bool.or_eq_false_iff]; omega)) ?_; refine TrL.eff (effLit_sound rfl) (by exact True.intro) ?_
  refine TrL.weak 28 rfl (fix_weak .str [[97, 92] ++ q ++ [98]]) ?_
  first | refine TrL.callV rfl rfl rfl rfl rfl (c_Same [[97, 92] ++ q ++ [98]] [[97, 92] ++ q ++ [98]] (by simp)) ?_ | refine TrD.callV rfl rfl rfl rfl rfl (c_Same [[97, 92] ++ q ++ [98]] [[97, 92] ++ q ++ [98]] (by simp)) rfl ?_
  rw [decide_eq_true rfl]
  refine TrL.keep [3, 4, 29] 3 hB3 (st' := ⟨[(3, [], vS q), (4, [], .ptr 2 0), (29, [], vB true)], nfT (dirsOf F) (filesOf F)⟩) rfl ?_
  refine TrL.quiets 5 rfl (by (simp (disch := omega) only [allOf, impO, imp, inR, loOk, and_true, w64, List.length_set, List.length_cons, List.length_nil, cut, List.length_take, List.length_drop, List.length_append, Int.toNat_natCast, Option.getD_none, Option.getD_some, Ty.D, true_and, decide_eq_true_eq, decide_eq_false_iff_not, Bool.and_eq_true, Bool.or_eq_false_iff]; omega)) ?_
  refine TrL.known 31 rfl rfl ?_
  refine TrL.known 34 rfl rfl ?_
  refine TrL.keep [3, 30, 31, 34] 3 hB3 (st' := ⟨[(3, [], vS q), (30, [], vB true), (31, [], .ptr 2 0), (34, [], vS ([63, 47, 97, 92] ++ q ++ [98]))], nfT (dirsOf F) (filesOf F)⟩) rfl ?_
  refine TrL.want rfl rfl rfl ?_
  refine TrL.callT [2, 0, 1] rfl rfl rfl rfl rfl (c_Expand hok hlim ([63, 47, 97, 92] ++ q ++ [98]) hl2 hq2) rfl rfl rfl ?_
  rw [hq4]
  refine TrL.keep [3, 30, 35] 3 hB3 (st' := ⟨[(3, [], vS q), (30, [], vB true), (35, [], vL .str [[120, 47, 97] ++ q ++ [98]])], nfT (dirsOf F) (filesOf F)⟩) rfl ?_
  refine TrL.want rfl rfl rfl ?_
  refine TrL.quiets 3 rfl (by (simp (disch := omega) only [allOf, impO, imp, inR, loOk, and_true, w64, List.length_set, List.length_cons, List.length_nil, cut, List.length_take, List.length_drop, List.length_append, Int.toNat_natCast, Option.getD_none, Option.getD_some, Ty.D, true_and, decide_eq_true_eq, decide_eq_false_iff_not, Bool.and_eq_true, Bool.or_eq_false_iff]; omega)) ?_
  refine TrL.known 38 rfl rfl ?_
  refine TrL.keep [30, 35, 38] 3 hB3 (st' := ⟨[(30, [], vB true), (35, [], vL .str [[120, 47, 97] ++ q ++ [98]]), (38, [], vS ([120, 47, 97] ++ q ++ [98]))], nfT (dirsOf F) (filesOf F)⟩) rfl ?_
  refine TrL.want rfl rfl rfl ?_
  refine TrL.eff (effLit_sound rfl) (by exact True.intro) ?_
  refine TrL.weak 39 rfl (fix_weak .str [[120, 47, 97] ++ q ++ [98]]) ?_
  refine TrL.want rfl rfl rfl ?_
  first | refine TrL.callV rfl rfl rfl rfl rfl (c_Same [[120, 47, 97] ++ q ++ [98]] [[120, 47, 97] ++ q ++ [98]] (by simp)) ?_ | refine TrD.callV rfl rfl rfl rfl rfl (c_Same [[120, 47, 97] ++ q ++ [98]] [[120, 47, 97] ++ q ++ [98]] (by simp)) rfl ?_
  rw [decide_eq_true rfl]
  refine TrL.keep [30, 40] 3 hB3 (st' := ⟨[(30, [], vB true), (40, [], vB true)], nfT (dirsOf F) (filesOf F)⟩) rfl ?_
  refine TrL.quiets 2 rfl (by exact True.intro) ?_
  first | refine TrL.callV rfl rfl rfl rfl rfl c_awake7 ?_ | refine TrD.callV rfl rfl rfl rfl rfl c_awake7 rfl ?_
  refine TrL.quiets 2 rfl (by exact True.intro) ?_; refine TrL.nil ?_; refine Tr.ret ?_
  refine retQ.of rfl ?_
  rfl
end Go.Proofs.YtbnejfgdojdbdaaDoor.Sx
