/-
  VfsMany.
-/
import Derived.Test.YtgmjkciinnjpbaaDoorV13
import Derived.Test.YtgmjkciinnjpbaaDoorV15
set_option linter.unusedVariables false
set_option linter.unusedSimpArgs false
set_option maxRecDepth 20000
set_option maxHeartbeats 4000000
namespace Go.Proofs.YtgmjkciinnjpbaaDoor.Sx
open Go Go.RowKit Go.Proofs

theorem esM_succ (n : Nat) : esM (n + 1) = esM n ++ [(nmM n, false, digF 4 n)] := by
  unfold esM
  rw [List.range_succ, List.map_append]
  rfl
theorem nmM_len : ∀ i : Nat, i < 300 → (nmM i).length ≤ 10 := by decide
theorem c_VfsMany (n : Int) (h1 : -9223372036854775808 ≤ n) (h2 : n ≤ 9223372036854775807) : CallV Tryd.prog 6 [vI n] (vB true) := by
  have hk0 : 0 ≤ n % 300 := Int.emod_nonneg _ (by decide)
  have hk1 : n % 300 < 300 := Int.emod_lt_of_pos _ (by decide)
  obtain ⟨k, hk⟩ := Int.eq_ofNat_of_zero_le hk0
  have hk2 : k < 300 := by omega
  refine CallV.of Tryd.func6 (by kernel_rfl) rfl Tryd.ntmps6 (by simp) rfl fun cx hB => ?_
  refine Tr.seq ?_; refine Tr.region ?_; refine TrL.quiets 1 rfl (by exact True.intro) ?_; refine TrL.nil ?_; refine Tr.seq ?_; refine Tr.region ?_; refine TrL.quiets 1 rfl (by exact True.intro) ?_
  first | refine TrL.callV rfl rfl rfl rfl rfl (c_Place n 300 (by decide) (by decide) h1 h2) ?_ | refine TrD.callV rfl rfl rfl rfl rfl (c_Place n 300 (by decide) (by decide) h1 h2) rfl ?_
  rw [hk]
  refine TrL.quiets 1 rfl (by exact True.intro) ?_; refine TrL.nil ?_; refine Tr.seq ?_; refine Tr.region ?_; refine TrL.quiets 1 rfl (by exact True.intro) ?_; refine TrL.nil ?_
  change Tr _ _ _ _ _ _
  refine Tr.nilRow 4 30 eTy rfl ?_
  refine Tr.seq ?_; refine Tr.seq ?_; refine Tr.region ?_; refine TrL.quiets 1 rfl (by exact True.intro) ?_; refine TrL.nil ?_; refine Tr.block ?_
  refine Tr.loop (fun i : Nat => ⟨[(3, [], vI k), (4, [], .own 0), (5, [], vI i)], [.gs 30 eTy (esM i)]⟩) (fun i => i ≤ k) (fun i => k - i) 0 [3, 4, 5] 1 (fun i h => by have := hB i h; omega) rfl (Nat.zero_le _) fun i hi => ?_
  refine Tr.seq ?_; refine Tr.seq ?_; refine Tr.region ?_; refine TrL.quiets 3 rfl (by exact True.intro) ?_; refine TrL.nil ?_
  refine Tr.cond rfl (fun c1 => ?_) (fun c1 => ?_)
  · have hi1 : i < k := by simpa using c1
    have ew : IntKind.i64.wrap (1000 + (i : Int)) = ((1000 + i : Nat) : Int) := by rw [w64 (by omega) (by omega)]; omega
    have hd1 := c_Digits (1000 + i) (by omega)
    rw [← ew, dig4 (by omega)] at hd1
    have hd2 := c_Digits i (by omega)
    rw [dig4 (by omega)] at hd2
    have hl1 := nmM_len i (by omega)
    have hl1 : (digF 4 (1000 + i)).length ≤ 10 := by
      have : (nmM i).length = (digF 4 (1000 + i)).length + 1 := rfl
      omega
    have hesl : (esM i).length = i := by simp [esM]
    refine Tr.skip ?_; refine Tr.seq ?_; refine Tr.block ?_; refine Tr.region ?_; refine TrL.quiets 3 rfl (by exact True.intro) ?_
    first | refine TrL.callV rfl rfl rfl rfl rfl hd1 ?_ | refine TrD.callV rfl rfl rfl rfl rfl hd1 rfl ?_
    refine TrL.quiets 2 rfl (by (simp (disch := omega) only [allOf, impO, imp, inR, loOk, and_true, w64, List.length_set, List.length_cons, List.length_nil, Option.getD_none, Option.getD_some, Ty.D, true_and, decide_eq_true_eq, decide_eq_false_iff_not, Bool.and_eq_true, Bool.or_eq_false_iff]; omega)) ?_
    first | refine TrL.callV rfl rfl rfl rfl rfl hd2 ?_ | refine TrD.callV rfl rfl rfl rfl rfl hd2 rfl ?_
    refine TrL.quiets 1 rfl (by exact True.intro) ?_; refine TrL.eff (effLit_sound rfl) (by exact True.intro) ?_; refine TrL.eff (effAppend_sound rfl) ?_ ?_
    · show (esM i).length + 1 ≤ 1099511627776
      omega
    refine TrL.quiets 1 rfl (by exact True.intro) ?_; refine TrL.nil ?_; refine Tr.region ?_; refine TrL.quiets 3 rfl (by exact True.intro) ?_; refine TrL.nil ?_
    refine ⟨i + 1, hi1, by dsimp only; omega, ?_⟩
    refine Eq.trans (b := (⟨[(3, [], vI k), (4, [], .own 0), (5, [], vI (IntKind.i64.wrap ((i : Int) + 1)))], [.gs 30 eTy (esM i ++ [(nmM i, false, digF 4 i)])]⟩ : St)) rfl ?_
    dsimp only
    rw [esM_succ, w64 (by omega) (by omega)]
    rfl
  · have hi1 : i = k := by
      have : ¬ (i : Int) < k := by simpa using c1
      omega
    subst hi1
    have hpl : ∀ e ∈ esM i, e.1.length ≤ 1000 := by
      intro e he
      obtain ⟨j, hj, rfl⟩ := List.mem_map.1 he
      have := nmM_len j (by rw [List.mem_range] at hj; omega)
      dsimp only
      omega
    have hesl : (esM i).length = i := by simp [esM]
    have hfs := many_fs (k := i) (by omega)
    have hok : FsOk (LM (min i 200)) := by rw [← hfs]; exact fsOf_ok _
    have hlim : FsLim (LM (min i 200)) := by rw [← hfs]; exact fsOf_lim hpl
    refine Tr.exit ?_; refine Tr.seq ?_; refine Tr.region ?_; refine TrL.quiets 1 rfl (by exact True.intro) ?_
    refine TrL.callT [] rfl rfl rfl rfl rfl (c_NewL (esM i) (by omega) hpl) rfl rfl rfl ?_
    rw [hfs]
    refine TrL.quiets 1 rfl (by exact True.intro) ?_; refine TrL.nil ?_; refine Tr.seq ?_; refine Tr.seq ?_; refine Tr.region ?_; refine TrL.quiets 2 rfl (by exact True.intro) ?_; refine TrL.nil ?_
    refine Tr.cond rfl (fun c2 => ?_) (fun c2 => ?_)
    · cases c2
    refine Tr.keep [3, 6] 4 (fun i h => by have := hB i h; omega) (st' := ⟨[(3, [], vI i), (6, [], .ptr 3 0)], [.gs 30 eTy (esM i), .res (dmRes (dirsOf (LM (min i 200)))), .res (fmRes (filesOf (LM (min i 200)))), .box 51 [.mp 1, .mp 2]]⟩) rfl ?_
    refine Tr.skip ?_; refine Tr.seq ?_; refine Tr.region ?_; refine TrL.quiets 1 rfl (by exact True.intro) ?_
    refine TrL.callT [3, 1, 2] rfl rfl rfl rfl rfl (c_ListL hok hlim [47] (by decide)) rfl rfl rfl ?_
    rw [many_list (by omega)]
    refine TrL.quiets 1 rfl (by exact True.intro) ?_; refine TrL.nil ?_; refine Tr.seq ?_; refine Tr.seq ?_; refine Tr.region ?_; refine TrL.quiets 5 rfl (by exact True.intro) ?_; refine TrL.nil ?_
    refine Tr.cond rfl (fun c3 => ?_) (fun c3 => ?_)
    · exfalso
      simp at c3
      omega
    refine Tr.keep [6, 7] 4 (fun i h => by have := hB i h; omega) (st' := ⟨[(6, [], .ptr 3 0), (7, [], vL .str ((List.range (min i 200)).map nmM))], [.gs 30 eTy (esM i), .res (dmRes (dirsOf (LM (min i 200)))), .res (fmRes (filesOf (LM (min i 200)))), .box 51 [.mp 1, .mp 2]]⟩) rfl ?_
    refine Tr.skip ?_; refine Tr.seq ?_; refine Tr.seq ?_; refine Tr.region ?_; refine TrL.quiets 1 rfl (by exact True.intro) ?_; refine TrL.nil ?_; refine Tr.block ?_
    refine Tr.loop (fun j : Nat => ⟨[(6, [], .ptr 3 0), (7, [], vL .str ((List.range (min i 200)).map nmM)), (8, [], vI j)], [.gs 30 eTy (esM i), .res (dmRes (dirsOf (LM (min i 200)))), .res (fmRes (filesOf (LM (min i 200)))), .box 51 [.mp 1, .mp 2]]⟩) (fun j => j ≤ min i 200) (fun j => min i 200 - j) 0 [6, 7, 8] 4 (fun i h => by have := hB i h; omega) rfl (Nat.zero_le _) fun j hj => ?_
    refine Tr.seq ?_; refine Tr.seq ?_; refine Tr.region ?_; refine TrL.quiets 4 rfl (by exact True.intro) ?_; refine TrL.nil ?_
    refine Tr.cond rfl (fun c4 => ?_) (fun c4 => ?_)
    · have hj1 : j < min i 200 := by simpa using c4
      have hnth : nth (t := .str) ((List.range (min i 200)).map nmM) (j : Int) = nmM j := by
        rw [nth_get' (t := .str) _ _ (by rw [List.length_map, List.length_range]; exact hj1), List.getElem_map, List.getElem_range]
      have hl1 := nmM_len j (by omega)
      refine Tr.skip ?_; refine Tr.seq ?_; refine Tr.block ?_; refine Tr.seq ?_; refine Tr.region ?_; refine TrL.quiets 5 rfl (by (simp [allOf, impO, imp, inR, loOk] <;> omega)) ?_
      refine TrL.is 50 (sv' := vS (nmM j)) rfl (congrArg vS hnth) ?_
      refine TrL.callT [3, 1, 2] rfl rfl rfl rfl rfl (c_LookL hok (nmM j) (by omega)) rfl rfl rfl ?_
      rw [many_look (by omega) hj1]
      refine TrL.quiets 3 rfl (by exact True.intro) ?_; refine TrL.eff (effBox_sound rfl) (by exact True.intro) ?_; refine TrL.eff (effStore_sound rfl) (by exact True.intro) ?_; refine TrL.quiets 1 rfl (by exact True.intro) ?_; refine TrL.nil ?_
      change Tr _ _ _ _ _ _
      refine Tr.keep [6, 7, 8, 9, 10] 5 (fun i h => by have := hB i h; omega) (st' := ⟨[(6, [], .ptr 3 0), (7, [], vL .str ((List.range (min i 200)).map nmM)), (8, [], vI j), (9, [], .ptr 4 0), (10, [], vB true)], [.gs 30 eTy (esM i), .res (dmRes (dirsOf (LM (min i 200)))), .res (fmRes (filesOf (LM (min i 200)))), .box 51 [.mp 1, .mp 2], .box 30 [vS (absT [nmM j]), vB false, vS (digF 4 j)]]⟩) rfl ?_
      have ew : IntKind.i64.wrap (1000 + (j : Int)) = ((1000 + j : Nat) : Int) := by rw [w64 (by omega) (by omega)]; omega
      have hd1 := c_Digits (1000 + j) (by omega)
      rw [← ew, dig4 (by omega)] at hd1
      have hd2 := c_Digits j (by omega)
      rw [dig4 (by omega)] at hd2
      have hl2 : (digF 4 (1000 + j)).length ≤ 10 := by
        have : (nmM j).length = (digF 4 (1000 + j)).length + 1 := rfl
        omega
      refine Tr.seq ?_; refine Tr.draw (by kernel_rfl) (by kernel_rfl) ?_; refine TrD.quiets 6 rfl (by (simp [allOf, impO, imp, inR, loOk] <;> omega)) ?_
      first | refine TrL.callV rfl rfl rfl rfl rfl hd1 ?_ | refine TrD.callV rfl rfl rfl rfl rfl hd1 rfl ?_
      refine TrD.quiets 10 rfl (by (simp (disch := omega) only [allOf, impO, imp, inR, loOk, and_true, w64, List.length_set, List.length_cons, List.length_nil, Option.getD_none, Option.getD_some, Ty.D, true_and, decide_eq_true_eq, decide_eq_false_iff_not, Bool.and_eq_true, Bool.or_eq_false_iff]; omega)) ?_
      first | refine TrL.callV rfl rfl rfl rfl rfl hd2 ?_ | refine TrD.callV rfl rfl rfl rfl rfl hd2 rfl ?_
      refine TrD.quiets 2 rfl (by exact True.intro) ?_; refine TrD.nil ?_
      refine Tr.cond rfl (fun c5 => ?_) (fun c5 => ?_)
      · exfalso
        rw [hnth] at c5
        simp [nmM] at c5
      refine Tr.skip ?_; refine Tr.region ?_; refine TrL.quiets 3 rfl (by exact True.intro) ?_; refine TrL.nil ?_
      refine ⟨j + 1, hj1, by dsimp only; omega, ?_⟩
      refine Eq.trans (b := (⟨[(6, [], .ptr 3 0), (7, [], vL .str ((List.range (min i 200)).map nmM)), (8, [], vI (IntKind.i64.wrap ((j : Int) + 1)))], [.gs 30 eTy (esM i), .res (dmRes (dirsOf (LM (min i 200)))), .res (fmRes (filesOf (LM (min i 200)))), .box 51 [.mp 1, .mp 2]]⟩ : St)) rfl ?_
      dsimp only
      rw [w64 (by omega) (by omega)]
      rfl
    · refine Tr.exit ?_; refine Tr.seq ?_; refine Tr.region ?_
      first | refine TrL.callV rfl rfl rfl rfl rfl c_awake ?_ | refine TrD.callV rfl rfl rfl rfl rfl c_awake rfl ?_
      refine TrL.quiets 1 rfl (by exact True.intro) ?_; refine TrL.nil ?_; refine Tr.ret ?_
      refine retQ.of rfl ?_
      rfl
end Go.Proofs.YtgmjkciinnjpbaaDoor.Sx
