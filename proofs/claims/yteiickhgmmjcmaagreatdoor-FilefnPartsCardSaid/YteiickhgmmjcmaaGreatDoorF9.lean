/-
  law00: words by numbers.
-/
import Derived.Test.YteiickhgmmjcmaaGreatDoorG1
import Derived.Test.YteiickhgmmjcmaaGreatDoorSxQ
set_option linter.unusedVariables false
set_option linter.unusedSimpArgs false
set_option maxRecDepth 20000
set_option maxHeartbeats 4000000
namespace Go.Proofs.YteiickhgmmjcmaaGreatDoor.Sx
open Go Go.RowKit Go.Proofs

def tblWord : List Str := [[97], [98], [99], [97, 46, 99], [98, 46, 99], [120, 46, 111], [100, 105, 114, 47, 97, 46, 99], [46, 46, 47, 117, 112], [50], [45, 49], [102, 111, 111], [102, 111, 111, 46, 98, 97, 114, 46, 99], [108, 105, 98, 37], [97, 37, 98], [49, 48], [122]]
def word (v : Int) : Str := nth (t := .str) tblWord (v % 16)
theorem word_le (v : Int) : (word v).length ≤ 9 := nth_le tblWord _ 9 (by decide)
theorem nth_mem {l : List Str} {n v : Int} (hn : 0 < n) (hl : n = l.length) : (nth (t := .str) l (v % n) : Str) ∈ l := by
  have h1 := Int.emod_nonneg v (show n ≠ 0 by omega)
  have h2 := Int.emod_lt_of_pos v hn
  have h3 : (v % n).toNat < l.length := by omega
  simp only [nth, List.getD_eq_getElem?_getD, List.getElem?_eq_getElem h3, Option.getD_some]
  exact List.getElem_mem h3
theorem word_mem (v : Int) : word v ∈ tblWord := nth_mem (n := 16) (l := tblWord) (by decide) rfl


theorem c_Word (v : Int) (hv1 : -9223372036854775808 ≤ v) (hv2 : v ≤ 9223372036854775807) : CallV Tryz.prog 19 [vI v] (vS (word v)) := by
  refine CallV.of Tryz.func19 (by kernel_rfl) rfl Tryz.ntmps19 (by simp) rfl fun cx hB => ?_
  refine Tr.seq ?_; refine Tr.region ?_; refine TrL.quiets 1 rfl (by exact True.intro) ?_; refine TrL.nil ?_; refine Tr.seq ?_; refine Tr.region ?_; refine TrL.quiets 2 rfl (by exact True.intro) ?_
  first | refine TrL.callV rfl rfl rfl rfl rfl (c_Place _ 16 (by decide) (by decide) hv1 hv2) ?_ | refine TrD.callV rfl rfl rfl rfl rfl (c_Place _ 16 (by decide) (by decide) hv1 hv2) rfl ?_
  refine TrL.quiets 2 rfl (by (simp only [allOf, impO, imp, inR, loOk, and_true]; omega)) ?_; refine TrL.nil ?_; refine Tr.ret ?_
  refine retQ.of rfl ?_
  rfl


def tblGap : List Str := [[32], [32], [32, 32]]
def gapW (v : Int) : Str := nth (t := .str) tblGap (Int.tdiv v 16 % 3)
theorem gapW_mem (v : Int) : gapW v ∈ tblGap := nth_mem (n := 3) (l := tblGap) (by decide) rfl
def wordsFrom (first : Bool) : List Int → Str
  | [] => []
  | v :: r => (if first then [] else gapW v) ++ word v ++ wordsFrom false r
def wordsL (ns : List Int) : Str := wordsFrom true (ns.take 40)
theorem wordsFrom_le (first : Bool) : ∀ l : List Int, (wordsFrom first l).length ≤ 11 * l.length
  | [] => Nat.zero_le _
  | v :: r => by
    have h1 := word_le v
    have h2 : (gapW v).length ≤ 2 := nth_le tblGap _ 2 (by decide)
    have h3 := wordsFrom_le false r
    simp only [wordsFrom, List.length_append, List.length_cons]
    split
    · simp only [List.length_nil]; omega
    · omega
theorem wordsL_le (ns : List Int) : (wordsL ns).length ≤ 440 := by
  have := wordsFrom_le true (ns.take 40)
  have h : (ns.take 40).length ≤ 40 := List.length_take_le 40 ns
  unfold wordsL
  omega
theorem wordsFrom_drop (b : Bool) (ns : List Int) (i : Nat) (hi : i < ns.length) (h : i < 40) : wordsFrom b ((ns.take 40).drop i) = (if b then [] else gapW (nth (t := .int .i64) ns (i : Int))) ++ word (nth (t := .int .i64) ns (i : Int)) ++ wordsFrom false ((ns.take 40).drop (i + 1)) := by
  have h2 : i < (ns.take 40).length := by rw [List.length_take]; omega
  rw [List.drop_eq_getElem_cons h2, wordsFrom, nth_get' (t := .int .i64) ns i hi]
  simp
theorem tdiv16 (v : Int) (h1 : -9223372036854775808 ≤ v) (h2 : v ≤ 9223372036854775807) : -9223372036854775808 ≤ Int.tdiv v 16 ∧ Int.tdiv v 16 ≤ 9223372036854775807 := by
  have h3 := Int.natAbs_tdiv v 16
  have h4 : v.natAbs.div (Int.natAbs 16) ≤ v.natAbs / 2 := by
    show v.natAbs / 16 ≤ v.natAbs / 2
    omega
  rw [← h3] at h4
  omega


theorem c_Words (ns : List Int) (hn : okInts ns) : CallV Tryz.prog 8 [vL (.int .i64) ns] (vS (wordsL ns)) := by
  refine CallV.of Tryz.func8 (by kernel_rfl) rfl Tryz.ntmps8 (by simp) rfl fun cx hB => ?_
  refine Tr.seq ?_; refine Tr.region ?_; refine TrL.quiets 1 rfl (by exact True.intro) ?_; refine TrL.nil ?_; refine Tr.seq ?_; refine Tr.region ?_; refine TrL.quiets 1 rfl (by exact True.intro) ?_; refine TrL.nil ?_; refine Tr.seq ?_; refine Tr.seq ?_; refine Tr.region ?_; refine TrL.quiets 1 rfl (by exact True.intro) ?_; refine TrL.nil ?_; refine Tr.block ?_
  refine Tr.loop (fun ((i, s) : Nat × Str) => ⟨[(0, [], vL (.int .i64) ns), (3, [], vS s), (4, [], vI i)], []⟩)
    (fun (i, s) => i ≤ 40 ∧ i ≤ ns.length ∧ s.length ≤ 11 * i ∧ s ++ wordsFrom (i == 0) ((ns.take 40).drop i) = wordsL ns) (fun (i, s) => 40 - i) (0, []) [0, 3, 4] 0 hB rfl ⟨by decide, Nat.zero_le _, by decide, rfl⟩ fun x hx => ?_
  obtain ⟨i, s⟩ := x
  obtain ⟨hi, hil, hs, heq⟩ := hx
  refine Tr.seq ?_; refine Tr.seq ?_; refine Tr.region ?_; refine TrL.quiets 8 rfl (by exact True.intro) ?_; refine TrL.nil ?_
  refine Tr.cond rfl (fun h1 => ?_) (fun h1 => ?_)
  · simp only [Bool.and_eq_true, decide_eq_true_eq] at h1
    have hi1 : i < ns.length := by omega
    obtain ⟨hv1, hv2⟩ := okInts_nth hn i
    obtain ⟨hq1, hq2⟩ := tdiv16 _ hv1 hv2
    rw [wordsFrom_drop _ ns i hi1 (by omega)] at heq
    have hw1 := word_le (nth (t := .int .i64) ns (i : Int))
    have hw2 : (gapW (nth (t := .int .i64) ns (i : Int))).length ≤ 2 := nth_le tblGap _ 2 (by decide)
    refine Tr.skip ?_; refine Tr.seq ?_; refine Tr.block ?_; refine Tr.seq ?_; refine Tr.seq ?_; refine Tr.region ?_; refine TrL.quiets 2 rfl (by exact True.intro) ?_; refine TrL.nil ?_
    refine Tr.cond rfl (fun h2 => ?_) (fun h2 => ?_)
    · simp only [decide_eq_true_eq] at h2
      have hi0 : (i == 0) = false := by rw [beq_eq_false_iff_ne]; omega
      rw [hi0] at heq
      simp only [Bool.false_eq_true, if_false] at heq
      refine Tr.region ?_; refine TrL.quiets 7 rfl (by (simp only [allOf, impO, imp, inR, loOk, and_true]; omega)) ?_
      refine TrL.is 23 (sv' := vI (Int.tdiv (nth (t := .int .i64) ns (i : Int)) 16)) rfl (congrArg vI (w64 hq1 hq2)) ?_
      first | refine TrL.callV rfl rfl rfl rfl rfl (c_Place _ 3 (by decide) (by decide) hq1 hq2) ?_ | refine TrD.callV rfl rfl rfl rfl rfl (c_Place _ 3 (by decide) (by decide) hq1 hq2) rfl ?_
      refine TrL.quiets 3 rfl ?_ ?_
      · simp only [allOf, impO, imp, inR, loOk, and_true]
        refine ⟨⟨Int.emod_nonneg _ (by decide), Int.emod_lt_of_pos _ (by decide)⟩, ?_⟩
        show ((s.length + (gapW (nth (t := .int .i64) ns (i : Int))).length : Nat) : Int) ≤ 9223372036854775807
        omega
      refine TrL.nil ?_; refine Tr.region ?_; refine TrL.quiets 5 rfl (by (simp only [allOf, impO, imp, inR, loOk, and_true]; omega)) ?_
      first | refine TrL.callV rfl rfl rfl rfl rfl (c_Word _ hv1 hv2) ?_ | refine TrD.callV rfl rfl rfl rfl rfl (c_Word _ hv1 hv2) rfl ?_
      refine TrL.quiets 2 rfl ?_ ?_
      · simp only [allOf, impO, imp, inR, loOk, and_true]
        show (((s ++ gapW (nth (t := .int .i64) ns (i : Int)) : Str).length + (word (nth (t := .int .i64) ns (i : Int))).length : Nat) : Int) ≤ 9223372036854775807
        rw [List.length_append]
        omega
      refine TrL.nil ?_; refine Tr.region ?_; refine TrL.quiets 3 rfl (by exact True.intro) ?_; refine TrL.nil ?_
      refine ⟨(i + 1, s ++ gapW (nth (t := .int .i64) ns (i : Int)) ++ word (nth (t := .int .i64) ns (i : Int))), ⟨by omega, by omega, ?_, ?_⟩, by dsimp only; omega, ?_⟩
      · simp only [List.length_append]; omega
      · rw [← heq]; simp
      · refine Eq.trans (b := (⟨[(_, [], _), (_, [], _), (_, [], _)], []⟩ : St)) rfl ?_
        rw [w64n (y := i + 1) (by omega) (by omega)]
        rfl
    · simp only [decide_eq_false_iff_not] at h2
      obtain rfl : i = 0 := by omega
      refine Tr.skip ?_; refine Tr.region ?_; refine TrL.quiets 5 rfl (by (simp only [allOf, impO, imp, inR, loOk, and_true]; omega)) ?_
      first | refine TrL.callV rfl rfl rfl rfl rfl (c_Word _ hv1 hv2) ?_ | refine TrD.callV rfl rfl rfl rfl rfl (c_Word _ hv1 hv2) rfl ?_
      refine TrL.quiets 2 rfl (by (simp only [allOf, impO, imp, inR, loOk, and_true]; omega)) ?_; refine TrL.nil ?_; refine Tr.region ?_; refine TrL.quiets 3 rfl (by exact True.intro) ?_; refine TrL.nil ?_
      refine ⟨(1, s ++ word (nth (t := .int .i64) ns ((0 : Nat) : Int))), ⟨by omega, by omega, ?_, ?_⟩, by dsimp only; omega, ?_⟩
      · simp only [List.length_append]; omega
      · rw [← heq]; simp
      · refine Eq.trans (b := (⟨[(_, [], _), (_, [], _), (_, [], _)], []⟩ : St)) rfl ?_
        rfl
  · have h1' : 40 ≤ i ∨ ns.length ≤ i := by
      simp only [Bool.and_eq_false_iff, decide_eq_false_iff_not] at h1
      omega
    rw [List.drop_eq_nil_of_le (by rw [List.length_take]; omega)] at heq
    refine Tr.exit ?_; refine Tr.seq ?_; refine Tr.region ?_; refine TrL.quiets 2 rfl (by exact True.intro) ?_; refine TrL.nil ?_; refine Tr.ret ?_
    refine retQ.of rfl ?_
    rw [← heq]
    simp [wordsFrom]

end Go.Proofs.YteiickhgmmjcmaaGreatDoor.Sx
