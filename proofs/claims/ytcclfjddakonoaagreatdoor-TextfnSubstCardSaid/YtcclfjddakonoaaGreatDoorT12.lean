/-
  TextfnSubst.
-/
import Derived.Test.YtcclfjddakonoaaGreatDoorT11
set_option linter.unusedVariables false
set_option linter.unusedSimpArgs false
set_option maxRecDepth 20000
set_option maxHeartbeats 4000000
namespace Go.Proofs.YtcclfjddakonoaaGreatDoor.Sx
open Go Go.RowKit Go.Proofs

abbrev rpl (n : Nat) (c : UInt8) : Str := List.replicate n c
def sbR (k j q : Nat) : Str := Lib.replaceAll (rpl k 97) (rpl j 97) (rpl q 98)
def sbChk (k j q : Nat) : Bool := let r := sbR k j q; r.count 98 == k / j * q && r.length == k / j * q + k % j
theorem sb_all : ((List.range 60).all fun k => (List.range 6).all fun j => (List.range 4).all fun q => sbChk k (j + 1) q) = true := by kernel_rfl
theorem sb_facts {k j q : Nat} (hk : k < 60) (hj : 1 ≤ j) (hj2 : j ≤ 6) (hq : q < 4) : (sbR k j q).count 98 = k / j * q ∧ (sbR k j q).length = k / j * q + k % j := by
  have h := List.all_eq_true.1 (List.all_eq_true.1 (List.all_eq_true.1 sb_all k (List.mem_range.2 hk)) (j - 1) (List.mem_range.2 (by omega))) q (List.mem_range.2 hq)
  rw [show j - 1 + 1 = j by omega] at h
  simp only [sbChk, Bool.and_eq_true, beq_iff_eq] at h
  exact h
theorem c_TextfnSubst (n m u : Int) (h1 : -9223372036854775808 ≤ n) (h2 : n ≤ 9223372036854775807) (h3 : -9223372036854775808 ≤ m) (h4 : m ≤ 9223372036854775807) (h5 : -9223372036854775808 ≤ u) (h6 : u ≤ 9223372036854775807) :
    CallV Tryz.prog 7 [vI n, vI m, vI u] (vB true) := by
  have e1 := Int.emod_nonneg n (show (60 : Int) ≠ 0 by decide)
  have e2 := Int.emod_lt_of_pos n (show (0 : Int) < 60 by decide)
  have e3 := Int.emod_nonneg m (show (6 : Int) ≠ 0 by decide)
  have e4 := Int.emod_lt_of_pos m (show (0 : Int) < 6 by decide)
  have e5 := Int.emod_nonneg u (show (4 : Int) ≠ 0 by decide)
  have e6 := Int.emod_lt_of_pos u (show (0 : Int) < 4 by decide)
  obtain ⟨k, hk⟩ : ∃ k : Nat, n % 60 = k := ⟨(n % 60).toNat, by omega⟩
  obtain ⟨j, hj⟩ : ∃ j : Nat, 1 + m % 6 = j := ⟨(1 + m % 6).toNat, by omega⟩
  obtain ⟨q, hq⟩ : ∃ q : Nat, u % 4 = q := ⟨(u % 4).toNat, by omega⟩
  have hk2 : k < 60 := by omega
  have hj2 : 1 ≤ j ∧ j ≤ 6 := by omega
  have hq2 : q < 4 := by omega
  obtain ⟨f1, f2⟩ := sb_facts hk2 hj2.1 hj2.2 hq2
  refine CallV.of Tryz.func7 (by kernel_rfl) rfl Tryz.ntmps7 (by simp) rfl fun cx hB => ?_
  refine Tr.seq ?_; refine Tr.region ?_; refine TrL.quiets 1 rfl (by exact True.intro) ?_; refine TrL.nil ?_; refine Tr.seq ?_; refine Tr.region ?_; refine TrL.quiets 1 rfl (by exact True.intro) ?_
  first | refine TrL.callV rfl rfl rfl rfl rfl (c_Place n 60 (by decide) (by decide) h1 h2) ?_ | refine TrD.callV rfl rfl rfl rfl rfl (c_Place n 60 (by decide) (by decide) h1 h2) rfl ?_
  refine TrL.quiets 1 rfl (by exact True.intro) ?_
  first | refine TrL.callV rfl rfl rfl rfl rfl (c_Place m 6 (by decide) (by decide) h3 h4) ?_ | refine TrD.callV rfl rfl rfl rfl rfl (c_Place m 6 (by decide) (by decide) h3 h4) rfl ?_
  refine TrL.quiets 2 rfl (by exact True.intro) ?_
  first | refine TrL.callV rfl rfl rfl rfl rfl (c_Place u 4 (by decide) (by decide) h5 h6) ?_ | refine TrD.callV rfl rfl rfl rfl rfl (c_Place u 4 (by decide) (by decide) h5 h6) rfl ?_
  refine TrL.quiets 3 rfl (by exact True.intro) ?_; refine TrL.nil ?_; refine Tr.seq ?_; refine Tr.region ?_; refine TrL.quiets 3 rfl (by exact True.intro) ?_; refine TrL.nil ?_
  change Tr _ _ _ _ _ _
  refine Tr.is 7 (sv' := vI k) rfl (congrArg vI hk) ?_
  refine Tr.is 8 (sv' := vI j) rfl (congrArg vI (by rw [w64 (by omega) (by omega), hj])) ?_
  refine Tr.is 9 (sv' := vI q) rfl (congrArg vI hq) ?_
  clear hk hj hq e1 e2 e3 e4 e5 e6
  refine Tr.keep [7, 8, 9, 10, 11, 12] 0 hB (st' := ⟨[(7, [], vI k), (8, [], vI j), (9, [], vI q), (10, [], vS []), (11, [], vS []), (12, [], vS [])], []⟩) rfl ?_
  refine Tr.seq ?_; refine Tr.seq ?_; refine Tr.region ?_; refine TrL.quiets 1 rfl (by exact True.intro) ?_; refine TrL.nil ?_; refine Tr.block ?_
  refine Tr.loop (fun i : Nat => ⟨[(7, [], vI k), (8, [], vI j), (9, [], vI q), (10, [], vS (rpl i 97)), (11, [], vS []), (12, [], vS []), (13, [], vI i)], []⟩) (fun i => i ≤ k) (fun i => k - i) 0 [7, 8, 9, 10, 11, 12, 13] 0 hB rfl (Nat.zero_le _) fun i hi => ?_
  refine Tr.seq ?_; refine Tr.seq ?_; refine Tr.region ?_; refine TrL.quiets 3 rfl (by exact True.intro) ?_; refine TrL.nil ?_
  refine Tr.cond rfl (fun c13 => ?_) (fun c13 => ?_)
  · have hi1 : i < k := by simpa using c13
    refine Tr.skip ?_; refine Tr.seq ?_; refine Tr.block ?_; refine Tr.region ?_; refine TrL.quiets 3 rfl (by (simp [allOf, impO, imp, inR, loOk] <;> omega)) ?_; refine TrL.nil ?_; refine Tr.region ?_; refine TrL.quiets 3 rfl (by exact True.intro) ?_; refine TrL.nil ?_
    refine ⟨i + 1, hi1, by dsimp only; omega, ?_⟩
    refine Eq.trans (b := (⟨[(7, [], vI k), (8, [], vI j), (9, [], vI q), (10, [], vS (rpl i 97 ++ [97])), (11, [], vS []), (12, [], vS []), (13, [], vI (IntKind.i64.wrap ((i : Int) + 1)))], []⟩ : St)) rfl ?_
    dsimp only
    rw [show rpl (i + 1) 97 = rpl i 97 ++ [97] from List.replicate_succ', w64n (y := i + 1) (by omega) (by omega)]
  have hi1 : k = i := by
    have : ¬ (i : Int) < k := by simpa using c13
    omega
  subst hi1
  refine Tr.exit ?_; refine Tr.seq ?_; refine Tr.seq ?_; refine Tr.region ?_; refine TrL.quiets 1 rfl (by exact True.intro) ?_; refine TrL.nil ?_; refine Tr.block ?_
  refine Tr.loop (fun i : Nat => ⟨[(7, [], vI k), (8, [], vI j), (9, [], vI q), (10, [], vS (rpl k 97)), (11, [], vS (rpl i 97)), (12, [], vS []), (14, [], vI i)], []⟩) (fun i => i ≤ j) (fun i => j - i) 0 [7, 8, 9, 10, 11, 12, 14] 0 hB rfl (Nat.zero_le _) fun i hi => ?_
  refine Tr.seq ?_; refine Tr.seq ?_; refine Tr.region ?_; refine TrL.quiets 3 rfl (by exact True.intro) ?_; refine TrL.nil ?_
  refine Tr.cond rfl (fun c14 => ?_) (fun c14 => ?_)
  · have hi1 : i < j := by simpa using c14
    refine Tr.skip ?_; refine Tr.seq ?_; refine Tr.block ?_; refine Tr.region ?_; refine TrL.quiets 3 rfl (by (simp [allOf, impO, imp, inR, loOk] <;> omega)) ?_; refine TrL.nil ?_; refine Tr.region ?_; refine TrL.quiets 3 rfl (by exact True.intro) ?_; refine TrL.nil ?_
    refine ⟨i + 1, hi1, by dsimp only; omega, ?_⟩
    refine Eq.trans (b := (⟨[(7, [], vI k), (8, [], vI j), (9, [], vI q), (10, [], vS (rpl k 97)), (11, [], vS (rpl i 97 ++ [97])), (12, [], vS []), (14, [], vI (IntKind.i64.wrap ((i : Int) + 1)))], []⟩ : St)) rfl ?_
    dsimp only
    rw [show rpl (i + 1) 97 = rpl i 97 ++ [97] from List.replicate_succ', w64n (y := i + 1) (by omega) (by omega)]
  have hi1 : j = i := by
    have : ¬ (i : Int) < j := by simpa using c14
    omega
  subst hi1
  refine Tr.exit ?_; refine Tr.seq ?_; refine Tr.seq ?_; refine Tr.region ?_; refine TrL.quiets 1 rfl (by exact True.intro) ?_; refine TrL.nil ?_; refine Tr.block ?_
  refine Tr.loop (fun i : Nat => ⟨[(7, [], vI k), (8, [], vI j), (9, [], vI q), (10, [], vS (rpl k 97)), (11, [], vS (rpl j 97)), (12, [], vS (rpl i 98)), (15, [], vI i)], []⟩) (fun i => i ≤ q) (fun i => q - i) 0 [7, 8, 9, 10, 11, 12, 15] 0 hB rfl (Nat.zero_le _) fun i hi => ?_
  refine Tr.seq ?_; refine Tr.seq ?_; refine Tr.region ?_; refine TrL.quiets 3 rfl (by exact True.intro) ?_; refine TrL.nil ?_
  refine Tr.cond rfl (fun c15 => ?_) (fun c15 => ?_)
  · have hi1 : i < q := by simpa using c15
    refine Tr.skip ?_; refine Tr.seq ?_; refine Tr.block ?_; refine Tr.region ?_; refine TrL.quiets 3 rfl (by (simp [allOf, impO, imp, inR, loOk] <;> omega)) ?_; refine TrL.nil ?_; refine Tr.region ?_; refine TrL.quiets 3 rfl (by exact True.intro) ?_; refine TrL.nil ?_
    refine ⟨i + 1, hi1, by dsimp only; omega, ?_⟩
    refine Eq.trans (b := (⟨[(7, [], vI k), (8, [], vI j), (9, [], vI q), (10, [], vS (rpl k 97)), (11, [], vS (rpl j 97)), (12, [], vS (rpl i 98 ++ [98])), (15, [], vI (IntKind.i64.wrap ((i : Int) + 1)))], []⟩ : St)) rfl ?_
    dsimp only
    rw [show rpl (i + 1) 98 = rpl i 98 ++ [98] from List.replicate_succ', w64n (y := i + 1) (by omega) (by omega)]
  have hi1 : q = i := by
    have : ¬ (i : Int) < q := by simpa using c15
    omega
  subst hi1
  have hlr : ∀ (a : Nat) (c : UInt8), (rpl a c).length = a := fun a c => List.length_replicate ..
  have hdo := c_Do kSubst [rpl j 97, rpl q 98, rpl k 97] (by simp) (by
    intro x hx
    simp only [List.mem_cons, List.not_mem_nil, or_false] at hx
    rcases hx with rfl | rfl | rfl <;> rw [hlr] <;> omega)
  have hne : rpl j 97 ≠ [] := fun h => by
    have := congrArg List.length h
    rw [hlr] at this
    simp at this
    omega
  have hd2 : doF kSubst [rpl j 97, rpl q 98, rpl k 97] = (sbR k j q, true) := by
    show (substF (rpl j 97) (rpl q 98) (rpl k 97), true) = _
    unfold substF
    rw [if_neg hne]
    rfl
  unfold DoIs at hdo
  rw [hd2] at hdo
  have hrl : (sbR k j q).length ≤ 1000 := by
    have h7 : k / j ≤ 60 := Nat.le_trans (Nat.div_le_self k j) (by omega)
    have h8 : k / j * q ≤ 60 * 4 := Nat.mul_le_mul h7 (by omega)
    have h9 : k % j < j := Nat.mod_lt _ (by omega)
    omega
  generalize sbR k j q = r at hdo f1 f2 hrl hd2
  clear hd2
  refine Tr.exit ?_; refine Tr.seq ?_; refine Tr.region ?_; refine TrL.quiets 3 rfl (by exact True.intro) ?_; refine TrL.eff (effLit_sound rfl) (by exact True.intro) ?_
  refine TrL.weak 52 rfl (fix_weak .str [rpl j 97, rpl q 98, rpl k 97]) ?_
  first | refine TrL.callV rfl rfl rfl rfl rfl hdo ?_ | refine TrD.callV rfl rfl rfl rfl rfl hdo rfl ?_
  refine TrL.quiets 5 rfl (by exact True.intro) ?_; refine TrL.nil ?_
  change Tr _ _ _ _ _ _
  refine Tr.keep [7, 8, 9, 16, 17] 0 hB (st' := ⟨[(7, [], vI k), (8, [], vI j), (9, [], vI q), (16, [], vS r), (17, [], vB true)], []⟩) rfl ?_
  refine Tr.seq ?_; refine Tr.region ?_; refine TrL.quiets 1 rfl (by exact True.intro) ?_; refine TrL.nil ?_; refine Tr.seq ?_; refine Tr.seq ?_; refine Tr.region ?_; refine TrL.quiets 1 rfl (by exact True.intro) ?_; refine TrL.nil ?_; refine Tr.block ?_
  refine Tr.loop (fun i : Nat => ⟨[(7, [], vI k), (8, [], vI j), (9, [], vI q), (16, [], vS r), (17, [], vB true), (18, [], vI ((r.take i).count 98)), (19, [], vI i)], []⟩) (fun i => i ≤ r.length) (fun i => r.length - i) 0 [7, 8, 9, 16, 17, 18, 19] 0 hB rfl (Nat.zero_le _) fun i hi => ?_
  refine Tr.seq ?_; refine Tr.seq ?_; refine Tr.region ?_; refine TrL.quiets 4 rfl (by exact True.intro) ?_; refine TrL.nil ?_
  refine Tr.cond rfl (fun c19 => ?_) (fun c19 => ?_)
  · have hi1 : i < r.length := by simpa using c19
    have hcl : (r.take i).count 98 ≤ 1000 := by
      have h1 := List.count_le_length (a := (98 : UInt8)) (l := r.take i)
      rw [List.length_take] at h1
      omega
    have hcs : (r.take (i + 1)).count 98 = (r.take i).count 98 + if r[i] = 98 then 1 else 0 := by
      rw [List.take_succ_eq_append_getElem hi1, List.count_append, List.count_singleton]
      simp only [beq_iff_eq]
    have hby : byteAt r (i : Int) = ((r[i]).toNat : Int) := by
      simp [byteAt, List.getD_eq_getElem?_getD, List.getElem?_eq_getElem hi1]
    refine Tr.skip ?_; refine Tr.seq ?_; refine Tr.block ?_; refine Tr.seq ?_; refine Tr.region ?_; refine TrL.quiets 4 rfl (by (simp only [allOf, impO, imp, inR, loOk, and_true]; omega)) ?_; refine TrL.nil ?_
    refine Tr.cond rfl (fun c65 => ?_) (fun c65 => ?_)
    · have hc : r[i] = 98 := by
        rw [hby] at c65
        have h1 : ((r[i]).toNat : Int) = 98 := by simpa using c65
        exact UInt8.toNat_inj.1 (by rw [show (98 : UInt8).toNat = 98 from rfl]; omega)
      rw [if_pos hc] at hcs
      refine Tr.region ?_; refine TrL.quiets 3 rfl (by exact True.intro) ?_; refine TrL.nil ?_; refine Tr.region ?_; refine TrL.quiets 3 rfl (by exact True.intro) ?_; refine TrL.nil ?_
      refine ⟨i + 1, hi1, by dsimp only; omega, ?_⟩
      refine Eq.trans (b := (⟨[(7, [], vI k), (8, [], vI j), (9, [], vI q), (16, [], vS r), (17, [], vB true), (18, [], vI (IntKind.i64.wrap (((r.take i).count 98 : Int) + 1))), (19, [], vI (IntKind.i64.wrap ((i : Int) + 1)))], []⟩ : St)) rfl ?_
      dsimp only
      rw [hcs, w64n (y := (r.take i).count 98 + 1) (by omega) (by omega), w64n (y := i + 1) (by omega) (by omega)]
    · have hc : ¬ r[i] = 98 := by
        intro h
        rw [hby, h] at c65
        simp at c65
      rw [if_neg hc] at hcs
      refine Tr.skip ?_; refine Tr.region ?_; refine TrL.quiets 3 rfl (by exact True.intro) ?_; refine TrL.nil ?_
      refine ⟨i + 1, hi1, by dsimp only; omega, ?_⟩
      refine Eq.trans (b := (⟨[(7, [], vI k), (8, [], vI j), (9, [], vI q), (16, [], vS r), (17, [], vB true), (18, [], vI ((r.take i).count 98)), (19, [], vI (IntKind.i64.wrap ((i : Int) + 1)))], []⟩ : St)) rfl ?_
      dsimp only
      rw [hcs, w64n (y := i + 1) (by omega) (by omega)]
      rfl
  have hi1 : r.length = i := by
    have : ¬ (i : Int) < r.length := by simpa using c19
    omega
  subst hi1
  rw [List.take_length, f1]
  refine Tr.exit ?_; refine Tr.seq ?_; refine Tr.draw (by kernel_rfl) (by kernel_rfl) ?_; refine TrD.quiets 27 rfl (by (simp (disch := omega) only [allOf, impO, imp, inR, loOk, and_true, w64, List.length_set, List.length_cons, List.length_nil, Option.getD_none, Option.getD_some, Ty.D, true_and, decide_eq_true_eq, decide_eq_false_iff_not, Bool.and_eq_true, Bool.or_eq_false_iff]; omega)) ?_
  first | refine TrL.callV rfl rfl rfl rfl rfl (c_ref_Has (r ++ [97]) []) ?_ | refine TrD.callV rfl rfl rfl rfl rfl (c_ref_Has (r ++ [97]) []) rfl ?_
  refine TrD.quiets 2 rfl (by exact True.intro) ?_
  first | refine TrL.callV rfl rfl rfl rfl rfl c_awake18 ?_ | refine TrD.callV rfl rfl rfl rfl rfl c_awake18 rfl ?_
  refine TrD.quiets 2 rfl (by exact True.intro) ?_; refine TrD.nil ?_; refine Tr.ret ?_
  refine retQ.of rfl ?_
  refine congrArg vB ?_
  have g0 : k / j ≤ 60 := Nat.le_trans (Nat.div_le_self k j) (by omega)
  have g1 : k / j * q ≤ 60 * 4 := Nat.mul_le_mul g0 (by omega)
  have g2 : k % j < j := Nat.mod_lt _ (by omega)
  have t1 : (k : Int).tdiv j = ((k / j : Nat) : Int) := rfl
  have t2 : (k : Int).tmod j = ((k % j : Nat) : Int) := rfl
  have w1 : IntKind.i64.wrap ((k : Int).tdiv j) = ((k / j : Nat) : Int) := w64n (y := k / j) t1 (by omega)
  have w2 : IntKind.i64.wrap (((k / j : Nat) : Int) * (q : Int)) = ((k / j * q : Nat) : Int) := by
    rw [← Int.natCast_mul]
    exact w64 (by omega) (by omega)
  have w3 : IntKind.i64.wrap (((k / j * q : Nat) : Int) + (k : Int).tmod j) = ((k / j * q + k % j : Nat) : Int) := by
    rw [t2]
    exact w64n (by omega) (by omega)
  rw [w1, w2, w3, f2]
  have hp : hasPre (r ++ [97]) [] = true := by simp [hasPre]
  rw [hp]
  simp
end Go.Proofs.YtcclfjddakonoaaGreatDoor.Sx
