/-
  law00: words by numbers.
-/
import Derived.Test.YtckgeebihhhapaaDoorG1
set_option linter.unusedVariables false
set_option linter.unusedSimpArgs false
set_option maxRecDepth 20000
set_option maxHeartbeats 4000000
namespace Go.Proofs.YtckgeebihhhapaaDoor.Sx
open Go Go.RowKit Go.Proofs

def tblWord : List Str := [[97], [98], [99], [97, 46, 99], [98, 46, 99], [120, 46, 111], [100, 105, 114, 47, 97, 46, 99], [46, 46, 47, 117, 112], [50], [45, 49], [102, 111, 111], [102, 111, 111, 46, 98, 97, 114, 46, 99], [108, 105, 98, 37], [97, 37, 98], [49, 48], [122]]
def word (v : Int) : Str := nth (t := .str) tblWord (v % 16)
theorem word_le (v : Int) : (word v).length ≤ 9 := nth_le tblWord _ 9 (by decide)
theorem nth_mem {l : List Str} {n v : Int} (hn : 0 < n) (hl : n = l.length) : (nth (t := .str) l (v % n) : Str) ∈ l := by
  have h1 := Int.emod_nonneg v (show n ≠ 0 by omega)
  have h2 := Int.emod_lt_of_pos v hn
  have h3 : (v % n).toNat < l.length := by omega
  simp only [nth, List.getD_eq_getElem?_getD, List.getElem?_eq_getElem h3, Option.getD_some]
  exact List.getElem_mem h3
theorem word_mem (v : Int) : word v ∈ tblWord := nth_mem (n := 16) (l := tblWord) (by decide) rfl


theorem c_Word (v : Int) (hv1 : -9223372036854775808 ≤ v) (hv2 : v ≤ 9223372036854775807) : CallV Tryd.prog 24 [vI v] (vS (word v)) := by
  refine CallV.of Tryd.func24 (by kernel_rfl) rfl Tryd.ntmps24 (by simp) rfl fun cx hB => ?_
  refine Tr.seq ?_; refine Tr.region ?_; refine TrL.quiets 1 rfl (by exact True.intro) ?_; refine TrL.nil ?_; refine Tr.seq ?_; refine Tr.region ?_; refine TrL.quiets 2 rfl (by exact True.intro) ?_
  first | refine TrL.callV rfl rfl rfl rfl rfl (c_Place _ 16 (by decide) (by decide) hv1 hv2) ?_ | refine TrD.callV rfl rfl rfl rfl rfl (c_Place _ 16 (by decide) (by decide) hv1 hv2) rfl ?_
  refine TrL.quiets 2 rfl (by (simp only [allOf, impO, imp, inR, loOk, and_true]; omega)) ?_; refine TrL.nil ?_; refine Tr.ret ?_
  refine retQ.of rfl ?_
  rfl


def tblGap : List Str := [[32], [32], [32, 32]]
def gapW (v : Int) : Str := nth (t := .str) tblGap (Int.tdiv v 16 % 3)
theorem gapW_mem (v : Int) : gapW v ∈ tblGap := nth_mem (n := 3) (l := tblGap) (by decide) rfl
def wordsFrom (first : Bool) : List Int → Str
  | [] => []
  | v :: r => (if first then [] else gapW v) ++ word v ++ wordsFrom false r
def wordsL (ns : List Int) : Str := wordsFrom true (ns.take 40)
theorem wordsFrom_le (first : Bool) : ∀ l : List Int, (wordsFrom first l).length ≤ 11 * l.length
  | [] => Nat.zero_le _
  | v :: r => by
    have h1 := word_le v
    have h2 : (gapW v).length ≤ 2 := nth_le tblGap _ 2 (by decide)
    have h3 := wordsFrom_le false r
    simp only [wordsFrom, List.length_append, List.length_cons]
    split
    · simp only [List.length_nil]; omega
    · omega
theorem wordsL_le (ns : List Int) : (wordsL ns).length ≤ 440 := by
  have := wordsFrom_le true (ns.take 40)
  have h : (ns.take 40).length ≤ 40 := List.length_take_le 40 ns
  unfold wordsL
  omega
theorem wordsFrom_drop (b : Bool) (ns : List Int) (i : Nat) (hi : i < ns.length) (h : i < 40) : wordsFrom b ((ns.take 40).drop i) = (if b then [] else gapW (nth (t := .int .i64) ns (i : Int))) ++ word (nth (t := .int .i64) ns (i : Int)) ++ wordsFrom false ((ns.take 40).drop (i + 1)) := by
  have h2 : i < (ns.take 40).length := by rw [List.length_take]; omega
  rw [List.drop_eq_getElem_cons h2, wordsFrom, nth_get' (t := .int .i64) ns i hi]
  simp
theorem tdiv16 (v : Int) (h1 : -9223372036854775808 ≤ v) (h2 : v ≤ 9223372036854775807) : -9223372036854775808 ≤ Int.tdiv v 16 ∧ Int.tdiv v 16 ≤ 9223372036854775807 := by
  have h3 := Int.natAbs_tdiv v 16
  have h4 : v.natAbs.div (Int.natAbs 16) ≤ v.natAbs / 2 := by
    show v.natAbs / 16 ≤ v.natAbs / 2
    omega
  rw [← h3] at h4
  omega

































































end Go.Proofs.YtckgeebihhhapaaDoor.Sx
