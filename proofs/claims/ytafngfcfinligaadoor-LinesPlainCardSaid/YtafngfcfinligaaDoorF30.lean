/-
  LinesBare.
-/
import Derived.Test.YtafngfcfinligaaDoorF29
import Derived.Test.YtafngfcfinligaaDoorF9
set_option linter.unusedVariables false
set_option linter.unusedSimpArgs false
set_option maxRecDepth 20000
set_option maxHeartbeats 4000000
namespace Go.Proofs.YtafngfcfinligaaDoor.Sx
open Go Go.RowKit Go.Proofs

def bsN (k : Nat) : Str := List.replicate k 92
theorem bsN_succ (k : Nat) : bsN k ++ [92] = bsN (k + 1) := (List.replicate_succ' (n := k) (a := (92 : UInt8))).symm
def bareS (k j : Nat) : Str := 97 :: (bsN k ++ [35, 98] ++ bsN j)
def bareOk (k j : Nat) : Bool := bif k % 2 == 0 then (bare (bareS k j)).length == 1 + k / 2 else (bare (bareS k j)).length == 1 + k / 2 + 2 + j && byteAt (bare (bareS k j)) ((1 + k / 2 : Nat) : Int) == 35
theorem bareOk_all : ((List.range 20).all fun k => (List.range 20).all fun j => bareOk k j) = true := by kernel_rfl
theorem bareOk_at {k j : Nat} (hk : k < 20) (hj : j < 20) : bareOk k j = true :=
  List.all_eq_true.1 (List.all_eq_true.1 bareOk_all k (List.mem_range.2 hk)) j (List.mem_range.2 hj)

theorem c_LinesBare (n m : Int) (hn1 : -9223372036854775808 ≤ n) (hn2 : n ≤ 9223372036854775807) (hm1 : -9223372036854775808 ≤ m) (hm2 : m ≤ 9223372036854775807) : CallV Tryd.prog 12 [vI n, vI m] (vB true) := by
  refine CallV.of Tryd.func12 (by kernel_rfl) rfl Tryd.ntmps12 (by simp) rfl fun cx hB => ?_
  refine Tr.seq ?_; refine Tr.region ?_; refine TrL.quiets 1 rfl (by exact True.intro) ?_; refine TrL.nil ?_; refine Tr.seq ?_; refine Tr.region ?_; refine TrL.quiets 1 rfl (by exact True.intro) ?_
  first | refine TrL.callV rfl rfl rfl rfl rfl (c_Place _ 20 (by decide) (by decide) hn1 hn2) ?_ | refine TrD.callV rfl rfl rfl rfl rfl (c_Place _ 20 (by decide) (by decide) hn1 hn2) rfl ?_
  refine TrL.quiets 1 rfl (by exact True.intro) ?_
  first | refine TrL.callV rfl rfl rfl rfl rfl (c_Place _ 20 (by decide) (by decide) hm1 hm2) ?_ | refine TrD.callV rfl rfl rfl rfl rfl (c_Place _ 20 (by decide) (by decide) hm1 hm2) rfl ?_
  have hk1 := Int.emod_nonneg n (show (20 : Int) ≠ 0 by decide)
  have hk2 := Int.emod_lt_of_pos n (show (0 : Int) < 20 by decide)
  have hj1 := Int.emod_nonneg m (show (20 : Int) ≠ 0 by decide)
  have hj2 := Int.emod_lt_of_pos m (show (0 : Int) < 20 by decide)
  obtain ⟨k, hk⟩ : ∃ k : Nat, (k : Int) = n % 20 := ⟨(n % 20).toNat, by omega⟩
  obtain ⟨j, hj⟩ : ∃ j : Nat, (j : Int) = m % 20 := ⟨(m % 20).toNat, by omega⟩
  rw [← hk] at hk1 hk2 ⊢
  rw [← hj] at hj1 hj2 ⊢
  have hbn : ∀ q, (bsN q).length = q := fun q => List.length_replicate
  have hok := bareOk_at (k := k) (j := j) (by omega) (by omega)
  refine TrL.quiets 2 rfl (by exact True.intro) ?_; refine TrL.nil ?_; refine Tr.seq ?_; refine Tr.region ?_; refine TrL.quiets 1 rfl (by exact True.intro) ?_; refine TrL.nil ?_; refine Tr.seq ?_; refine Tr.seq ?_; refine Tr.region ?_; refine TrL.quiets 1 rfl (by exact True.intro) ?_; refine TrL.nil ?_; refine Tr.block ?_
  refine Tr.loop (fun (i : Nat) => ⟨[(5, [], vI k), (6, [], vI j), (7, [], vS (97 :: bsN i)), (8, [], vI i)], []⟩)
    (fun i => i ≤ k) (fun i => k - i) 0 [5, 6, 7, 8] 0 hB rfl (Nat.zero_le _) fun i hi => ?_
  refine Tr.seq ?_; refine Tr.seq ?_; refine Tr.region ?_; refine TrL.quiets 3 rfl (by exact True.intro) ?_; refine TrL.nil ?_
  have hbi := hbn i
  refine Tr.cond rfl (fun h1 => ?_) (fun h1 => ?_)
  · simp only [decide_eq_true_eq] at h1
    refine Tr.skip ?_; refine Tr.seq ?_; refine Tr.block ?_; refine Tr.region ?_; refine TrL.quiets 3 rfl (by (simp (disch := omega) only [allOf, impO, imp, inR, loOk, and_true, w64, List.length_set, List.length_cons, List.length_nil, Option.getD_none, Option.getD_some, Ty.D, true_and, decide_eq_true_eq, decide_eq_false_iff_not, Bool.and_eq_true, Bool.or_eq_false_iff]; omega)) ?_; refine TrL.nil ?_; refine Tr.region ?_; refine TrL.quiets 3 rfl (by exact True.intro) ?_; refine TrL.nil ?_
    refine ⟨i + 1, by omega, by dsimp only; omega, ?_⟩
    refine Eq.trans (b := (⟨[(_, [], _), (_, [], _), (_, [], _), (_, [], _)], []⟩ : St)) rfl ?_
    dsimp only
    rw [w64n (y := i + 1) (by omega) (by omega)]
    refine congrArg (fun s => (⟨[(5, [], vI k), (6, [], vI j), (7, [], vS s), (8, [], vI ((i + 1 : Nat) : Int))], []⟩ : St)) ?_
    simp only [← bsN_succ i, List.cons_append]
  simp only [decide_eq_false_iff_not] at h1
  obtain rfl : i = k := by omega
  refine Tr.exit ?_; refine Tr.seq ?_; refine Tr.region ?_; refine TrL.quiets 3 rfl (by (simp (disch := omega) only [allOf, impO, imp, inR, loOk, and_true, w64, List.length_set, List.length_cons, List.length_nil, Option.getD_none, Option.getD_some, Ty.D, true_and, decide_eq_true_eq, decide_eq_false_iff_not, Bool.and_eq_true, Bool.or_eq_false_iff]; omega)) ?_; refine TrL.nil ?_; refine Tr.seq ?_; refine Tr.seq ?_; refine Tr.region ?_; refine TrL.quiets 1 rfl (by exact True.intro) ?_; refine TrL.nil ?_; refine Tr.block ?_
  have hb0 : (97 :: bsN i : Str) ++ [35, 98] = bareS i 0 := by simp [bareS, bsN]
  refine Tr.is 7 (sv' := vS (bareS i 0)) rfl (congrArg vS hb0) ?_
  refine Tr.loop (fun (q : Nat) => ⟨[(5, [], vI i), (6, [], vI j), (7, [], vS (bareS i q)), (9, [], vI q)], []⟩)
    (fun q => q ≤ j) (fun q => j - q) 0 [5, 6, 7, 9] 0 hB rfl (Nat.zero_le _) fun q hq => ?_
  have hl2 : (bareS i q).length = i + q + 3 := by simp [bareS, bsN]; omega
  refine Tr.seq ?_; refine Tr.seq ?_; refine Tr.region ?_; refine TrL.quiets 3 rfl (by exact True.intro) ?_; refine TrL.nil ?_
  refine Tr.cond rfl (fun h2 => ?_) (fun h2 => ?_)
  · simp only [decide_eq_true_eq] at h2
    refine Tr.skip ?_; refine Tr.seq ?_; refine Tr.block ?_; refine Tr.region ?_; refine TrL.quiets 3 rfl (by (simp (disch := omega) only [allOf, impO, imp, inR, loOk, and_true, w64, List.length_set, List.length_cons, List.length_nil, Option.getD_none, Option.getD_some, Ty.D, true_and, decide_eq_true_eq, decide_eq_false_iff_not, Bool.and_eq_true, Bool.or_eq_false_iff]; omega)) ?_; refine TrL.nil ?_; refine Tr.region ?_; refine TrL.quiets 3 rfl (by exact True.intro) ?_; refine TrL.nil ?_
    refine ⟨q + 1, by omega, by dsimp only; omega, ?_⟩
    refine Eq.trans (b := (⟨[(_, [], _), (_, [], _), (_, [], _), (_, [], _)], []⟩ : St)) rfl ?_
    dsimp only
    rw [w64n (y := q + 1) (by omega) (by omega)]
    refine congrArg (fun s => (⟨[(5, [], vI i), (6, [], vI j), (7, [], vS s), (9, [], vI ((q + 1 : Nat) : Int))], []⟩ : St)) ?_
    simp only [bareS, ← bsN_succ q, List.cons_append, List.append_assoc]
  simp only [decide_eq_false_iff_not] at h2
  obtain rfl : q = j := by omega
  have hl : (bareS i q).length ≤ 60 := by simp [bareS, bsN]; omega
  refine Tr.exit ?_; refine Tr.seq ?_; refine Tr.region ?_; refine TrL.quiets 1 rfl (by exact True.intro) ?_
  first | refine TrL.callV rfl rfl rfl rfl rfl (c_Bare (bareS i q) (by omega)) ?_ | refine TrD.callV rfl rfl rfl rfl rfl (c_Bare (bareS i q) (by omega)) rfl ?_
  refine TrL.quiets 1 rfl (by exact True.intro) ?_; refine TrL.nil ?_; refine Tr.seq ?_; refine Tr.seq ?_; refine Tr.region ?_; refine TrL.quiets 3 rfl (by (simp only [allOf, impO, imp, inR, loOk, and_true]; omega)) ?_; refine TrL.nil ?_
  have hev : (Int.tmod (i : Int) 2 == 0) = (i % 2 == 0) := by
    rw [show (2 : Int) = ((2 : Nat) : Int) from rfl, Int.tmod_eq_emod_of_nonneg (by omega), Bool.eq_iff_iff]
    simp only [beq_iff_eq]
    omega
  have hq2 : Int.tdiv (i : Int) 2 = ((i / 2 : Nat) : Int) := by
    rw [show (2 : Int) = ((2 : Nat) : Int) from rfl, Int.tdiv_eq_ediv_of_nonneg (by omega)]
    rfl
  unfold bareOk at hok
  refine Tr.cond rfl (fun c1 => ?_) (fun c1 => ?_)
  · have c2 : (i % 2 == 0) = true := hev ▸ c1
    rw [c2, cond_true, beq_iff_eq] at hok
    refine Tr.seq ?_; refine Tr.region ?_; refine TrL.quiets 7 rfl (by (simp only [allOf, impO, imp, inR, loOk, and_true]; omega)) ?_
    first | refine TrL.callV rfl rfl rfl rfl rfl c_awake08 ?_ | refine TrD.callV rfl rfl rfl rfl rfl c_awake08 rfl ?_
    refine TrL.quiets 2 rfl (by exact True.intro) ?_; refine TrL.nil ?_; refine Tr.ret ?_
    refine retQ.of rfl ?_
    refine congrArg vB ?_
    rw [hok, hq2, w64n (y := i / 2) rfl (by omega), w64n (y := 1 + i / 2) (by omega) (by omega)]
    simp
  · have c2 : (i % 2 == 0) = false := hev ▸ c1
    rw [c2, cond_false, Bool.and_eq_true, beq_iff_eq, beq_iff_eq] at hok
    refine Tr.skip ?_; refine Tr.seq ?_; refine Tr.region ?_; refine TrL.quiets 18 rfl (by (simp (disch := omega) only [allOf, impO, imp, inR, loOk, and_true, w64, List.length_set, List.length_cons, List.length_nil, Option.getD_none, Option.getD_some, Ty.D, true_and, decide_eq_true_eq, decide_eq_false_iff_not, Bool.and_eq_true, Bool.or_eq_false_iff]; omega)) ?_
    first | refine TrL.callV rfl rfl rfl rfl rfl c_awake08 ?_ | refine TrD.callV rfl rfl rfl rfl rfl c_awake08 rfl ?_
    refine TrL.quiets 2 rfl (by exact True.intro) ?_; refine TrL.nil ?_; refine Tr.ret ?_
    refine retQ.of rfl ?_
    refine congrArg vB ?_
    have hb' : byteAt (bare (bareS i q)) (1 + ((i / 2 : Nat) : Int)) = 35 := hok.2
    rw [hok.1, hq2]
    simp (disch := omega) only [w64, hb']
    simp
end Go.Proofs.YtafngfcfinligaaDoor.Sx
