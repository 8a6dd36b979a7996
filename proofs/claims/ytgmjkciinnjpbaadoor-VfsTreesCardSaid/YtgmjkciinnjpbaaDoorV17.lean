/-
  VfsTrees.
-/
import Derived.Test.YtgmjkciinnjpbaaDoorV13
import Derived.Test.YtgmjkciinnjpbaaDoorV15
set_option linter.unusedVariables false
set_option linter.unusedSimpArgs false
set_option maxRecDepth 20000
set_option maxHeartbeats 4000000
namespace Go.Proofs.YtgmjkciinnjpbaaDoor.Sx
open Go Go.RowKit Go.Proofs

theorem flatT_succ (i : Nat) : flatS (nsT (i + 1)) = flatS (nsT i) ++ [47, 100] ++ digF 4 i := by
  rw [nsT_succ, flatS_append]
  simp [flatS]
theorem digF_len : ∀ i : Nat, i < 20 → (digF 4 i).length ≤ 4 := by decide
theorem esT_short {k : Nat} (h : k ≤ 20) (b : Bool) : ∀ e ∈ esT k b, e.1.length ≤ 1000 := by
  have h1 := nsT_len k h
  intro e he
  unfold esT at he
  cases b
  · simp at he
    rw [he]
    dsimp only
    omega
  · simp only [if_true, List.mem_cons, List.not_mem_nil, or_false] at he
    rcases he with rfl | rfl | rfl | rfl
    · dsimp only; omega
    · simp only [List.length_append, List.length_cons, List.length_nil]; omega
    · dsimp only; omega
    · dsimp only; omega
theorem c_VfsTrees (n : Int) (below : Bool) (h1 : -9223372036854775808 ≤ n) (h2 : n ≤ 9223372036854775807) : CallV Tryd.prog 5 [vI n, vB below] (vB true) := by
  have hk0 : 0 ≤ n % 20 := Int.emod_nonneg _ (by decide)
  have hk1 : n % 20 < 20 := Int.emod_lt_of_pos _ (by decide)
  obtain ⟨k0, hk⟩ := Int.eq_ofNat_of_zero_le hk0
  have hk2 : k0 < 20 := by omega
  obtain ⟨k, hkk⟩ : ∃ k, k = k0 + 1 := ⟨_, rfl⟩
  have hk3 : 1 ≤ k := by omega
  have hk4 : k ≤ 20 := by omega
  have ekk : IntKind.i64.wrap (1 + (k0 : Int)) = (k : Int) := by rw [w64 (by omega) (by omega)]; omega
  have F := treeFacts hk3 hk4
  have hfs := trees_fs hk3 hk4 below
  have hok : FsOk (LT k) := by rw [← hfs]; exact fsOf_ok _
  have hlim : FsLim (LT k) := by rw [← hfs]; exact fsOf_lim (esT_short hk4 below)
  have hpl := nsT_len k hk4
  refine CallV.of Tryd.func5 (by kernel_rfl) rfl Tryd.ntmps5 (by simp) rfl fun cx hB => ?_
  refine Tr.seq ?_; refine Tr.region ?_; refine TrL.quiets 1 rfl (by exact True.intro) ?_; refine TrL.nil ?_; refine Tr.seq ?_; refine Tr.region ?_; refine TrL.quiets 1 rfl (by exact True.intro) ?_
  first | refine TrL.callV rfl rfl rfl rfl rfl (c_Place n 20 (by decide) (by decide) h1 h2) ?_ | refine TrD.callV rfl rfl rfl rfl rfl (c_Place n 20 (by decide) (by decide) h1 h2) rfl ?_
  rw [hk]
  refine TrL.quiets 2 rfl (by exact True.intro) ?_; refine TrL.nil ?_; refine Tr.seq ?_; refine Tr.region ?_; refine TrL.quiets 1 rfl (by exact True.intro) ?_; refine TrL.nil ?_; refine Tr.seq ?_; refine Tr.seq ?_; refine Tr.region ?_; refine TrL.quiets 1 rfl (by exact True.intro) ?_; refine TrL.nil ?_; refine Tr.block ?_
  refine Tr.loop (fun i : Nat => ⟨[(1, [], vB below), (5, [], vI k), (6, [], vS (flatS (nsT i))), (7, [], vI i)], []⟩) (fun i => i ≤ k) (fun i => k - i) 0 [1, 5, 6, 7] 0 (fun i h => hB i h) ?_ (Nat.zero_le _) fun i hi => ?_
  · refine Eq.trans (b := (⟨[(1, [], vB below), (5, [], vI (IntKind.i64.wrap (1 + (k0 : Int)))), (6, [], vS []), (7, [], vI 0)], []⟩ : St)) rfl ?_
    rw [ekk]
    rfl
  refine Tr.seq ?_; refine Tr.seq ?_; refine Tr.region ?_; refine TrL.quiets 3 rfl (by exact True.intro) ?_; refine TrL.nil ?_
  refine Tr.cond rfl (fun c1 => ?_) (fun c1 => ?_)
  · have hi1 : i < k := by simpa using c1
    have hd := c_Digits i (by omega)
    rw [dig4 (by omega)] at hd
    have hl1 := nsT_len i (by omega)
    have hl2 := digF_len i (by omega)
    refine Tr.skip ?_; refine Tr.seq ?_; refine Tr.block ?_; refine Tr.region ?_; refine TrL.quiets 3 rfl (by (simp (disch := omega) only [allOf, impO, imp, inR, loOk, and_true, w64, List.length_set, List.length_cons, List.length_nil, Option.getD_none, Option.getD_some, Ty.D, true_and, decide_eq_true_eq, decide_eq_false_iff_not, Bool.and_eq_true, Bool.or_eq_false_iff]; omega)) ?_
    first | refine TrL.callV rfl rfl rfl rfl rfl hd ?_ | refine TrD.callV rfl rfl rfl rfl rfl hd rfl ?_
    refine TrL.quiets 2 rfl (by (simp (disch := omega) only [allOf, impO, imp, inR, loOk, and_true, w64, List.length_set, List.length_cons, List.length_nil, cut, List.length_take, List.length_drop, List.length_append, Int.toNat_natCast, Option.getD_none, Option.getD_some, Ty.D, true_and, decide_eq_true_eq, decide_eq_false_iff_not, Bool.and_eq_true, Bool.or_eq_false_iff]; omega)) ?_; refine TrL.nil ?_; refine Tr.region ?_; refine TrL.quiets 3 rfl (by exact True.intro) ?_; refine TrL.nil ?_
    refine ⟨i + 1, hi1, by dsimp only; omega, ?_⟩
    refine Eq.trans (b := (⟨[(1, [], vB below), (5, [], vI k), (6, [], vS (flatS (nsT i) ++ [47, 100] ++ digF 4 i)), (7, [], vI (IntKind.i64.wrap ((i : Int) + 1)))], []⟩ : St)) rfl ?_
    dsimp only
    rw [flatT_succ, w64 (by omega) (by omega)]
    rfl
  have hi1 : i = k := by
    have : ¬ (i : Int) < k := by simpa using c1
    omega
  subst hi1
  have hall := trees_all hk3 hk4
  refine Tr.exit ?_; refine Tr.seq ?_; refine Tr.region ?_; refine TrL.quiets 2 rfl (by exact True.intro) ?_; refine TrL.eff (effLit_sound rfl) (by exact True.intro) ?_; refine TrL.quiets 1 rfl (by exact True.intro) ?_; refine TrL.nil ?_
  change Tr _ _ _ _ _ _
  refine Tr.keep [1, 5, 6, 8] 0 (fun i h => hB i h) (st' := ⟨[(1, [], vB below), (5, [], vI i), (6, [], vS (flatS (nsT i))), (8, [], .fix eTy [(flatS (nsT i), false, ([120] : Str))])], []⟩) rfl ?_
  refine Tr.seq ?_; refine Tr.seq ?_; refine Tr.region ?_; refine TrL.quiets 1 rfl (by exact True.intro) ?_; refine TrL.nil ?_
  cases below
  · refine Tr.cond rfl (fun c2 => ?_) (fun c2 => ?_)
    · cases c2
    refine Tr.weak 8 rfl (fix_weak eTy [(flatS (nsT i), false, ([120] : Str))]) ?_
    refine Tr.skip ?_; refine Tr.seq ?_; refine Tr.region ?_; refine TrL.quiets 1 rfl (by exact True.intro) ?_
    refine TrL.callT [] rfl rfl rfl rfl rfl (c_NewL (esT i false) (by simp [esT]) (esT_short hk4 false)) rfl rfl rfl ?_
    rw [hfs]
    refine TrL.quiets 1 rfl (by exact True.intro) ?_; refine TrL.nil ?_
    change Tr _ _ _ _ _ _
    refine Tr.keep [5, 6, 9] 3 (fun i h => by have := hB i h; omega) (st' := ⟨[(5, [], vI i), (6, [], vS (flatS (nsT i))), (9, [], .ptr 2 0)], [.res (dmRes (dirsOf (LT i))), .res (fmRes (filesOf (LT i))), .box 51 [.mp 0, .mp 1]]⟩) rfl ?_
    refine Tr.seq ?_; refine Tr.seq ?_; refine Tr.region ?_; refine TrL.quiets 4 rfl (by exact True.intro) ?_
    refine TrL.is 48 (sv' := vB false) rfl rfl ?_
    refine TrL.known 49 rfl rfl ?_
    refine TrL.want rfl rfl rfl ?_
    refine TrL.callT [2, 0, 1] rfl rfl rfl rfl rfl (c_AllL hok hlim) rfl rfl rfl ?_
    refine TrL.quiets 4 rfl (by exact True.intro) ?_; refine TrL.nil ?_
    refine Tr.cond rfl (fun c3 => ?_) (fun c3 => ?_)
    · exfalso
      rw [hall] at c3
      simp at c3
    refine Tr.keep [5, 6, 9] 3 (fun i h => by have := hB i h; omega) (st' := ⟨[(5, [], vI i), (6, [], vS (flatS (nsT i))), (9, [], .ptr 2 0)], [.res (dmRes (dirsOf (LT i))), .res (fmRes (filesOf (LT i))), .box 51 [.mp 0, .mp 1]]⟩) rfl ?_
    refine Tr.skip ?_; refine Tr.seq ?_; refine Tr.region ?_; refine TrL.quiets 1 rfl (by exact True.intro) ?_; refine TrL.nil ?_; refine Tr.seq ?_; refine Tr.seq ?_; refine Tr.region ?_; refine TrL.quiets 1 rfl (by exact True.intro) ?_; refine TrL.nil ?_; refine Tr.block ?_
    refine Tr.loop (fun j : Nat => ⟨[(5, [], vI i), (6, [], vS (flatS (nsT i))), (9, [], .ptr 2 0), (10, [], vS (flatS (nsT j) ++ [47])), (11, [], vI j)], [.res (dmRes (dirsOf (LT i))), .res (fmRes (filesOf (LT i))), .box 51 [.mp 0, .mp 1]]⟩) (fun j => j ≤ i) (fun j => i - j) 0 [5, 6, 9, 10, 11] 3 (fun i h => by have := hB i h; omega) rfl (Nat.zero_le _) fun j hj => ?_
    refine Tr.seq ?_; refine Tr.seq ?_; refine Tr.region ?_; refine TrL.quiets 3 rfl (by exact True.intro) ?_; refine TrL.nil ?_
    refine Tr.cond rfl (fun c4 => ?_) (fun c4 => ?_)
    · have hj1 : j < i := by simpa using c4
      have hd := c_Digits j (by omega)
      rw [dig4 (by omega)] at hd
      have hl1 := nsT_len j (by omega)
      have hl2 := digF_len j (by omega)
      refine Tr.skip ?_; refine Tr.seq ?_; refine Tr.block ?_; refine Tr.seq ?_; refine Tr.region ?_; refine TrL.quiets 2 rfl (by exact True.intro) ?_
      refine TrL.callT [2, 0, 1] rfl rfl rfl rfl rfl (c_ListL hok hlim (flatS (nsT j) ++ [47]) (by simp only [List.length_append, List.length_singleton]; omega)) rfl rfl rfl ?_
      rw [trees_list hk3 hk4 hj1]
      refine TrL.quiets 1 rfl (by exact True.intro) ?_; refine TrL.nil ?_
      change Tr _ _ _ _ _ _
      refine Tr.keep [5, 6, 9, 10, 11, 12] 3 (fun i h => by have := hB i h; omega) (st' := ⟨[(5, [], vI i), (6, [], vS (flatS (nsT i))), (9, [], .ptr 2 0), (10, [], vS (flatS (nsT j) ++ [47])), (11, [], vI j), (12, [], vL .str [100 :: digF 4 j])], [.res (dmRes (dirsOf (LT i))), .res (fmRes (filesOf (LT i))), .box 51 [.mp 0, .mp 1]]⟩) rfl ?_
      refine Tr.seq ?_; refine Tr.seq ?_; refine Tr.draw (by kernel_rfl) (by kernel_rfl) ?_; refine TrD.quiets 8 rfl (by (simp (disch := omega) only [allOf, impO, imp, inR, loOk, and_true, w64, List.length_set, List.length_cons, List.length_nil, Option.getD_none, Option.getD_some, Ty.D, true_and, decide_eq_true_eq, decide_eq_false_iff_not, Bool.and_eq_true, Bool.or_eq_false_iff]; omega)) ?_
      first | refine TrL.callV rfl rfl rfl rfl rfl hd ?_ | refine TrD.callV rfl rfl rfl rfl rfl hd rfl ?_
      refine TrD.quiets 3 rfl (by (simp (disch := omega) only [allOf, impO, imp, inR, loOk, and_true, w64, List.length_set, List.length_cons, List.length_nil, Option.getD_none, Option.getD_some, Ty.D, true_and, decide_eq_true_eq, decide_eq_false_iff_not, Bool.and_eq_true, Bool.or_eq_false_iff]; omega)) ?_; refine TrD.nil ?_
      refine Tr.cond rfl (fun c5 => ?_) (fun c5 => ?_)
      · exfalso
        simp [nth] at c5
      have hn : nth (t := .str) [100 :: digF 4 j] 0 = 100 :: digF 4 j := rfl
      refine Tr.skip ?_; refine Tr.region ?_; refine TrL.quiets 7 rfl ?_ ?_
      · rw [hn]
        simp only [allOf, impO, imp, inR, loOk, and_true, List.length_append, List.length_cons, List.length_nil, List.length_singleton]
        omega
      refine TrL.nil ?_; refine Tr.region ?_; refine TrL.quiets 3 rfl (by exact True.intro) ?_; refine TrL.nil ?_
      refine ⟨j + 1, hj1, by dsimp only; omega, ?_⟩
      refine Eq.trans (b := (⟨[(5, [], vI i), (6, [], vS (flatS (nsT i))), (9, [], .ptr 2 0), (10, [], vS (flatS (nsT j) ++ [47] ++ (100 :: digF 4 j) ++ [47])), (11, [], vI (IntKind.i64.wrap ((j : Int) + 1)))], [.res (dmRes (dirsOf (LT i))), .res (fmRes (filesOf (LT i))), .box 51 [.mp 0, .mp 1]]⟩ : St)) rfl ?_
      dsimp only
      rw [w64 (by omega) (by omega), flatT_succ, show flatS (nsT j) ++ [47] ++ (100 :: digF 4 j) ++ [47] = flatS (nsT j) ++ [47, 100] ++ digF 4 j ++ [47] by simp]
      rfl
    refine Tr.exit ?_; refine Tr.seq ?_; refine Tr.region ?_; refine TrL.quiets 2 rfl (by exact True.intro) ?_
    refine TrL.callT [2, 0, 1] rfl rfl rfl rfl rfl (c_LookL hok (flatS (nsT i)) (by omega)) rfl rfl rfl ?_
    rw [trees_look hk3 hk4]
    refine TrL.quiets 3 rfl (by exact True.intro) ?_; refine TrL.eff (effBox_sound rfl) (by exact True.intro) ?_; refine TrL.eff (effStore_sound rfl) (by exact True.intro) ?_; refine TrL.quiets 1 rfl (by exact True.intro) ?_; refine TrL.nil ?_
    change Tr _ _ _ _ _ _
    refine Tr.keep [6, 9, 13, 14] 4 (fun i h => by have := hB i h; omega) (st' := ⟨[(6, [], vS (flatS (nsT i))), (9, [], .ptr 2 0), (13, [], .ptr 3 0), (14, [], vB true)], [.res (dmRes (dirsOf (LT i))), .res (fmRes (filesOf (LT i))), .box 51 [.mp 0, .mp 1], .box 30 [vS (absT (nsT i)), vB false, vS [120]]]⟩) rfl ?_
    refine Tr.seq ?_; refine Tr.region ?_; refine TrL.quiets 3 rfl (by (simp (disch := omega) only [allOf, impO, imp, inR, loOk, and_true, w64, List.length_set, List.length_cons, List.length_nil, Option.getD_none, Option.getD_some, Ty.D, true_and, decide_eq_true_eq, decide_eq_false_iff_not, Bool.and_eq_true, Bool.or_eq_false_iff]; omega)) ?_
    refine TrL.callT [2, 0, 1] rfl rfl rfl rfl rfl (c_LookL hok (flatS (nsT i) ++ [47, 121]) (by simp only [List.length_append, List.length_cons, List.length_nil]; omega)) rfl rfl rfl ?_
    rw [trees_no hk3 hk4]
    refine TrL.quiets 3 rfl (by exact True.intro) ?_; refine TrL.eff (effBox_sound rfl) (by exact True.intro) ?_; refine TrL.eff (effStore_sound rfl) (by exact True.intro) ?_; refine TrL.quiets 1 rfl (by exact True.intro) ?_; refine TrL.nil ?_
    change Tr _ _ _ _ _ _
    refine Tr.keep [6, 9, 13, 14, 16] 4 (fun i h => by have := hB i h; omega) (st' := ⟨[(6, [], vS (flatS (nsT i))), (9, [], .ptr 2 0), (13, [], .ptr 3 0), (14, [], vB true), (16, [], vB false)], [.res (dmRes (dirsOf (LT i))), .res (fmRes (filesOf (LT i))), .box 51 [.mp 0, .mp 1], .box 30 [vS (absT (nsT i)), vB false, vS [120]]]⟩) rfl ?_
    refine Tr.seq ?_; refine Tr.region ?_; refine TrL.quiets 18 rfl (by exact True.intro) ?_
    refine TrL.known 110 rfl rfl ?_
    refine TrL.known 111 rfl rfl ?_
    refine TrL.want rfl rfl rfl ?_
    refine TrL.callT [2, 0, 1] rfl rfl rfl rfl rfl (c_ListL hok hlim (flatS (nsT i)) (by omega)) rfl rfl rfl ?_
    rw [trees_leaf hk3 hk4]
    refine TrL.keep [108, 109, 112] 0 (fun i h => hB i h) (st' := ⟨[(108, [], vB true), (109, [], vB true), (112, [], vL .str [])], []⟩) rfl ?_
    refine TrL.quiets 4 rfl (by exact True.intro) ?_
    refine TrL.known 116 rfl rfl ?_
    refine TrL.want rfl rfl rfl ?_
    first | refine TrL.callV rfl rfl rfl rfl rfl c_awake ?_ | refine TrD.callV rfl rfl rfl rfl rfl c_awake rfl ?_
    refine TrL.quiets 2 rfl (by exact True.intro) ?_; refine TrL.nil ?_; refine Tr.ret ?_
    refine retQ.of rfl ?_
    rfl
  · refine Tr.cond rfl (fun c2 => ?_) (fun c2 => ?_)
    · refine Tr.region ?_; refine TrL.quiets 8 rfl (by (simp (disch := omega) only [allOf, impO, imp, inR, loOk, and_true, w64, List.length_set, List.length_cons, List.length_nil, Option.getD_none, Option.getD_some, Ty.D, true_and, decide_eq_true_eq, decide_eq_false_iff_not, Bool.and_eq_true, Bool.or_eq_false_iff]; omega)) ?_; refine TrL.eff (effLit_sound rfl) (by exact True.intro) ?_; refine TrL.eff (effAppend_sound rfl) ?_ ?_
      · show 0 < 3 ∧ 1 + 3 ≤ 1099511627776
        decide
      refine TrL.quiets 1 rfl (by exact True.intro) ?_; refine TrL.nil ?_; refine Tr.seq ?_; refine Tr.region ?_; refine TrL.quiets 1 rfl (by exact True.intro) ?_
      refine TrL.callT [] rfl rfl rfl rfl rfl (c_NewL (esT i true) (by simp [esT]) (esT_short hk4 true)) rfl rfl rfl ?_
      rw [hfs]
      refine TrL.quiets 1 rfl (by exact True.intro) ?_; refine TrL.nil ?_
      change Tr _ _ _ _ _ _
      refine Tr.keep [5, 6, 9] 4 (fun i h => by have := hB i h; omega) (st' := ⟨[(5, [], vI i), (6, [], vS (flatS (nsT i))), (9, [], .ptr 3 0)], [.gs 30 eTy (esT i true), .res (dmRes (dirsOf (LT i))), .res (fmRes (filesOf (LT i))), .box 51 [.mp 1, .mp 2]]⟩) rfl ?_
      refine Tr.seq ?_; refine Tr.seq ?_; refine Tr.region ?_; refine TrL.quiets 4 rfl (by exact True.intro) ?_
      refine TrL.is 48 (sv' := vB false) rfl rfl ?_
      refine TrL.known 49 rfl rfl ?_
      refine TrL.want rfl rfl rfl ?_
      refine TrL.callT [3, 1, 2] rfl rfl rfl rfl rfl (c_AllL hok hlim) rfl rfl rfl ?_
      refine TrL.quiets 4 rfl (by exact True.intro) ?_; refine TrL.nil ?_
      refine Tr.cond rfl (fun c3 => ?_) (fun c3 => ?_)
      · exfalso
        rw [hall] at c3
        simp at c3
      refine Tr.keep [5, 6, 9] 4 (fun i h => by have := hB i h; omega) (st' := ⟨[(5, [], vI i), (6, [], vS (flatS (nsT i))), (9, [], .ptr 3 0)], [.gs 30 eTy (esT i true), .res (dmRes (dirsOf (LT i))), .res (fmRes (filesOf (LT i))), .box 51 [.mp 1, .mp 2]]⟩) rfl ?_
      refine Tr.skip ?_; refine Tr.seq ?_; refine Tr.region ?_; refine TrL.quiets 1 rfl (by exact True.intro) ?_; refine TrL.nil ?_; refine Tr.seq ?_; refine Tr.seq ?_; refine Tr.region ?_; refine TrL.quiets 1 rfl (by exact True.intro) ?_; refine TrL.nil ?_; refine Tr.block ?_
      refine Tr.loop (fun j : Nat => ⟨[(5, [], vI i), (6, [], vS (flatS (nsT i))), (9, [], .ptr 3 0), (10, [], vS (flatS (nsT j) ++ [47])), (11, [], vI j)], [.gs 30 eTy (esT i true), .res (dmRes (dirsOf (LT i))), .res (fmRes (filesOf (LT i))), .box 51 [.mp 1, .mp 2]]⟩) (fun j => j ≤ i) (fun j => i - j) 0 [5, 6, 9, 10, 11] 4 (fun i h => by have := hB i h; omega) rfl (Nat.zero_le _) fun j hj => ?_
      refine Tr.seq ?_; refine Tr.seq ?_; refine Tr.region ?_; refine TrL.quiets 3 rfl (by exact True.intro) ?_; refine TrL.nil ?_
      refine Tr.cond rfl (fun c4 => ?_) (fun c4 => ?_)
      · have hj1 : j < i := by simpa using c4
        have hd := c_Digits j (by omega)
        rw [dig4 (by omega)] at hd
        have hl1 := nsT_len j (by omega)
        have hl2 := digF_len j (by omega)
        refine Tr.skip ?_; refine Tr.seq ?_; refine Tr.block ?_; refine Tr.seq ?_; refine Tr.region ?_; refine TrL.quiets 2 rfl (by exact True.intro) ?_
        refine TrL.callT [3, 1, 2] rfl rfl rfl rfl rfl (c_ListL hok hlim (flatS (nsT j) ++ [47]) (by simp only [List.length_append, List.length_singleton]; omega)) rfl rfl rfl ?_
        rw [trees_list hk3 hk4 hj1]
        refine TrL.quiets 1 rfl (by exact True.intro) ?_; refine TrL.nil ?_
        change Tr _ _ _ _ _ _
        refine Tr.keep [5, 6, 9, 10, 11, 12] 4 (fun i h => by have := hB i h; omega) (st' := ⟨[(5, [], vI i), (6, [], vS (flatS (nsT i))), (9, [], .ptr 3 0), (10, [], vS (flatS (nsT j) ++ [47])), (11, [], vI j), (12, [], vL .str [100 :: digF 4 j])], [.gs 30 eTy (esT i true), .res (dmRes (dirsOf (LT i))), .res (fmRes (filesOf (LT i))), .box 51 [.mp 1, .mp 2]]⟩) rfl ?_
        refine Tr.seq ?_; refine Tr.seq ?_; refine Tr.draw (by kernel_rfl) (by kernel_rfl) ?_; refine TrD.quiets 8 rfl (by (simp (disch := omega) only [allOf, impO, imp, inR, loOk, and_true, w64, List.length_set, List.length_cons, List.length_nil, Option.getD_none, Option.getD_some, Ty.D, true_and, decide_eq_true_eq, decide_eq_false_iff_not, Bool.and_eq_true, Bool.or_eq_false_iff]; omega)) ?_
        first | refine TrL.callV rfl rfl rfl rfl rfl hd ?_ | refine TrD.callV rfl rfl rfl rfl rfl hd rfl ?_
        refine TrD.quiets 3 rfl (by (simp (disch := omega) only [allOf, impO, imp, inR, loOk, and_true, w64, List.length_set, List.length_cons, List.length_nil, Option.getD_none, Option.getD_some, Ty.D, true_and, decide_eq_true_eq, decide_eq_false_iff_not, Bool.and_eq_true, Bool.or_eq_false_iff]; omega)) ?_; refine TrD.nil ?_
        refine Tr.cond rfl (fun c5 => ?_) (fun c5 => ?_)
        · exfalso
          simp [nth] at c5
        have hn : nth (t := .str) [100 :: digF 4 j] 0 = 100 :: digF 4 j := rfl
        refine Tr.skip ?_; refine Tr.region ?_; refine TrL.quiets 7 rfl ?_ ?_
        · rw [hn]
          simp only [allOf, impO, imp, inR, loOk, and_true, List.length_append, List.length_cons, List.length_nil, List.length_singleton]
          omega
        refine TrL.nil ?_; refine Tr.region ?_; refine TrL.quiets 3 rfl (by exact True.intro) ?_; refine TrL.nil ?_
        refine ⟨j + 1, hj1, by dsimp only; omega, ?_⟩
        refine Eq.trans (b := (⟨[(5, [], vI i), (6, [], vS (flatS (nsT i))), (9, [], .ptr 3 0), (10, [], vS (flatS (nsT j) ++ [47] ++ (100 :: digF 4 j) ++ [47])), (11, [], vI (IntKind.i64.wrap ((j : Int) + 1)))], [.gs 30 eTy (esT i true), .res (dmRes (dirsOf (LT i))), .res (fmRes (filesOf (LT i))), .box 51 [.mp 1, .mp 2]]⟩ : St)) rfl ?_
        dsimp only
        rw [w64 (by omega) (by omega), flatT_succ, show flatS (nsT j) ++ [47] ++ (100 :: digF 4 j) ++ [47] = flatS (nsT j) ++ [47, 100] ++ digF 4 j ++ [47] by simp]
        rfl
      refine Tr.exit ?_; refine Tr.seq ?_; refine Tr.region ?_; refine TrL.quiets 2 rfl (by exact True.intro) ?_
      refine TrL.callT [3, 1, 2] rfl rfl rfl rfl rfl (c_LookL hok (flatS (nsT i)) (by omega)) rfl rfl rfl ?_
      rw [trees_look hk3 hk4]
      refine TrL.quiets 3 rfl (by exact True.intro) ?_; refine TrL.eff (effBox_sound rfl) (by exact True.intro) ?_; refine TrL.eff (effStore_sound rfl) (by exact True.intro) ?_; refine TrL.quiets 1 rfl (by exact True.intro) ?_; refine TrL.nil ?_
      change Tr _ _ _ _ _ _
      refine Tr.keep [6, 9, 13, 14] 5 (fun i h => by have := hB i h; omega) (st' := ⟨[(6, [], vS (flatS (nsT i))), (9, [], .ptr 3 0), (13, [], .ptr 4 0), (14, [], vB true)], [.gs 30 eTy (esT i true), .res (dmRes (dirsOf (LT i))), .res (fmRes (filesOf (LT i))), .box 51 [.mp 1, .mp 2], .box 30 [vS (absT (nsT i)), vB false, vS [120]]]⟩) rfl ?_
      refine Tr.seq ?_; refine Tr.region ?_; refine TrL.quiets 3 rfl (by (simp (disch := omega) only [allOf, impO, imp, inR, loOk, and_true, w64, List.length_set, List.length_cons, List.length_nil, Option.getD_none, Option.getD_some, Ty.D, true_and, decide_eq_true_eq, decide_eq_false_iff_not, Bool.and_eq_true, Bool.or_eq_false_iff]; omega)) ?_
      refine TrL.callT [3, 1, 2] rfl rfl rfl rfl rfl (c_LookL hok (flatS (nsT i) ++ [47, 121]) (by simp only [List.length_append, List.length_cons, List.length_nil]; omega)) rfl rfl rfl ?_
      rw [trees_no hk3 hk4]
      refine TrL.quiets 3 rfl (by exact True.intro) ?_; refine TrL.eff (effBox_sound rfl) (by exact True.intro) ?_; refine TrL.eff (effStore_sound rfl) (by exact True.intro) ?_; refine TrL.quiets 1 rfl (by exact True.intro) ?_; refine TrL.nil ?_
      change Tr _ _ _ _ _ _
      refine Tr.keep [6, 9, 13, 14, 16] 5 (fun i h => by have := hB i h; omega) (st' := ⟨[(6, [], vS (flatS (nsT i))), (9, [], .ptr 3 0), (13, [], .ptr 4 0), (14, [], vB true), (16, [], vB false)], [.gs 30 eTy (esT i true), .res (dmRes (dirsOf (LT i))), .res (fmRes (filesOf (LT i))), .box 51 [.mp 1, .mp 2], .box 30 [vS (absT (nsT i)), vB false, vS [120]]]⟩) rfl ?_
      refine Tr.seq ?_; refine Tr.region ?_; refine TrL.quiets 18 rfl (by exact True.intro) ?_
      refine TrL.known 110 rfl rfl ?_
      refine TrL.known 111 rfl rfl ?_
      refine TrL.want rfl rfl rfl ?_
      refine TrL.callT [3, 1, 2] rfl rfl rfl rfl rfl (c_ListL hok hlim (flatS (nsT i)) (by omega)) rfl rfl rfl ?_
      rw [trees_leaf hk3 hk4]
      refine TrL.keep [108, 109, 112] 0 (fun i h => hB i h) (st' := ⟨[(108, [], vB true), (109, [], vB true), (112, [], vL .str [])], []⟩) rfl ?_
      refine TrL.quiets 4 rfl (by exact True.intro) ?_
      refine TrL.known 116 rfl rfl ?_
      refine TrL.want rfl rfl rfl ?_
      first | refine TrL.callV rfl rfl rfl rfl rfl c_awake ?_ | refine TrD.callV rfl rfl rfl rfl rfl c_awake rfl ?_
      refine TrL.quiets 2 rfl (by exact True.intro) ?_; refine TrL.nil ?_; refine Tr.ret ?_
      refine retQ.of rfl ?_
      rfl
    · cases c2
end Go.Proofs.YtgmjkciinnjpbaaDoor.Sx
