/-
  CondWrong.
-/
import Derived.Test.YtckgeebihhhapaaDoorG11
import Derived.Test.YtckgeebihhhapaaDoorF9
set_option linter.unusedVariables false
set_option linter.unusedSimpArgs false
set_option maxRecDepth 20000
set_option maxHeartbeats 4000000
namespace Go.Proofs.YtckgeebihhhapaaDoor.Sx
open Go Go.RowKit Go.Proofs

def wrongT (w : Str) : List Str := [[105, 102, 101, 113, 32] ++ w, [105, 102, 101, 113, 32, 40] ++ w ++ [41], [105, 102, 101, 113, 32, 40] ++ w ++ [44, 120], [105, 102, 110, 101, 113, 32, 39] ++ w ++ [39],
  [105, 102, 110, 101, 113, 32, 39] ++ w ++ [39, 32, 39, 121, 39, 32, 122], [105, 102, 100, 101, 102], [105, 102, 100, 101, 102, 32] ++ w ++ [32, 120], [105, 102, 110, 100, 101, 102, 32, 32], [101, 108, 115, 101, 32] ++ w, [101, 110, 100, 105, 102, 32] ++ w,
  [101, 108, 115, 101, 32, 101, 110, 100, 105, 102], [105, 102, 101, 113, 40, 39, 97, 39, 44, 39, 98, 41, 32, 120], [105, 102, 101, 113, 120, 32, 40, 97, 44, 98, 41], [101, 110, 100, 105, 102, 120], [32, 101, 108, 115, 101, 119, 104, 101, 114, 101], [105, 102, 32, 40, 97, 44, 98, 41]]
def wrongOk (k : Nat) (w : Str) : Bool :=
  let r := readF (nth (t := .str) (wrongT w) (k : Int))
  bif decide (12 ≤ k) then !r.2.1 && !r.2.2 && r.1.2.1 == [] && !r.1.1 else r.2.1 && r.2.2 && r.1.2.2.1 == [] && r.1.2.2.2 == []
def wrongB (k : Nat) (w : Str) : Bool := wrongOk k w && decide ((nth (t := .str) (wrongT w) (k : Int) : Str).length ≤ 100)
theorem wrong_all : ((List.range 16).all fun k => tblWord.all fun w => wrongB k w) = true := by kernel_rfl
theorem all_range {f : Nat → Bool} {n k : Nat} (h : ((List.range n).all f) = true) (hk : k < n) : f k = true := List.all_eq_true.1 h k (List.mem_range.2 hk)
theorem all_mem {α : Type} {f : α → Bool} {l : List α} {x : α} (h : l.all f = true) (hx : x ∈ l) : f x = true := List.all_eq_true.1 h x hx
theorem wrong_at {k : Nat} (hk : k < 16) (v : Int) : wrongOk k (word v) = true ∧ (nth (t := .str) (wrongT (word v)) (k : Int) : Str).length ≤ 100 := by
  have h : wrongB k (word v) = true := all_mem (f := fun w => wrongB k w) (all_range (f := fun k => tblWord.all fun w => wrongB k w) wrong_all hk) (word_mem v)
  unfold wrongB at h
  rw [Bool.and_eq_true, decide_eq_true_eq] at h
  exact h
theorem c_CondWrong (how v : Int) (hh1 : -9223372036854775808 ≤ how) (hh2 : how ≤ 9223372036854775807) (hv1 : -9223372036854775808 ≤ v) (hv2 : v ≤ 9223372036854775807) : CallV Tryd.prog 9 [vI how, vI v] (vB true) := by
  refine CallV.of Tryd.func9 (by kernel_rfl) rfl Tryd.ntmps9 (by simp) rfl fun cx hB => ?_
  refine Tr.seq ?_; refine Tr.region ?_; refine TrL.quiets 1 rfl (by exact True.intro) ?_; refine TrL.nil ?_; refine Tr.seq ?_; refine Tr.region ?_; refine TrL.quiets 1 rfl (by exact True.intro) ?_
  first | refine TrL.callV rfl rfl rfl rfl rfl (c_Word v hv1 hv2) ?_ | refine TrD.callV rfl rfl rfl rfl rfl (c_Word v hv1 hv2) rfl ?_
  refine TrL.quiets 1 rfl (by exact True.intro) ?_; refine TrL.nil ?_; refine Tr.seq ?_; refine Tr.region ?_; refine TrL.quiets 1 rfl (by exact True.intro) ?_
  first | refine TrL.callV rfl rfl rfl rfl rfl (c_Place how 16 (by decide) (by decide) hh1 hh2) ?_ | refine TrD.callV rfl rfl rfl rfl rfl (c_Place how 16 (by decide) (by decide) hh1 hh2) rfl ?_
  have hk1 := Int.emod_nonneg how (show (16 : Int) ≠ 0 by decide)
  have hk2 := Int.emod_lt_of_pos how (show (0 : Int) < 16 by decide)
  obtain ⟨k, hk⟩ : ∃ k : Nat, (k : Int) = how % 16 := ⟨(how % 16).toNat, by omega⟩
  rw [← hk] at hk1 hk2 ⊢
  have hok := wrong_at (k := k) (by omega) v
  have hw9 := word_le v
  generalize word v = w at *
  obtain ⟨hok1, hok2⟩ := hok
  unfold wrongOk at hok1
  refine TrL.quiets 1 rfl (by exact True.intro) ?_; refine TrL.nil ?_; refine Tr.seq ?_; refine Tr.region ?_; refine TrL.quiets 25 rfl (by (simp (disch := omega) only [allOf, impO, imp, inR, loOk, and_true, w64, List.length_set, List.length_cons, List.length_nil, cut, List.length_take, List.length_drop, List.length_append, Int.toNat_natCast, Option.getD_none, Option.getD_some, Ty.D, true_and, decide_eq_true_eq, decide_eq_false_iff_not, Bool.and_eq_true, Bool.or_eq_false_iff]; omega)) ?_; refine TrL.nil ?_; refine Tr.seq ?_; refine Tr.region ?_; refine TrL.quiets 1 rfl (by exact True.intro) ?_
  first | refine TrL.callV rfl rfl rfl rfl rfl (c_cond_Read (nth (t := .str) (wrongT w) (k : Int)) (by omega)) ?_ | refine TrD.callV rfl rfl rfl rfl rfl (c_cond_Read (nth (t := .str) (wrongT w) (k : Int)) (by omega)) rfl ?_
  generalize readF (nth (t := .str) (wrongT w) (k : Int)) = R at *
  obtain ⟨⟨e, cw, ca, cb⟩, ok, bad⟩ := R
  refine TrL.quiets 4 rfl (by exact True.intro) ?_; refine TrL.eff (effBox_sound rfl) (by exact True.intro) ?_; refine TrL.eff (effStore_sound rfl) (by exact True.intro) ?_; refine TrL.quiets 2 rfl (by exact True.intro) ?_; refine TrL.nil ?_; refine Tr.seq ?_; refine Tr.seq ?_; refine Tr.region ?_; refine TrL.quiets 2 rfl (by exact True.intro) ?_; refine TrL.nil ?_
  refine Tr.cond rfl (fun h1 => ?_) (fun h1 => ?_)
  · have h12 : decide (12 ≤ k) = true := by
      have h2 : decide ((k : Int) ≥ 12) = true := h1
      rw [decide_eq_true_eq] at h2 ⊢
      omega
    rw [h12] at hok1
    simp only [cond_true, Bool.and_eq_true, Bool.not_eq_true', beq_iff_eq] at hok1
    obtain ⟨⟨⟨rfl, rfl⟩, rfl⟩, rfl⟩ := hok1
    refine Tr.seq ?_; refine Tr.region ?_; refine TrL.quiets 17 rfl (by exact True.intro) ?_
    first | refine TrL.callV rfl rfl rfl rfl rfl c_awake23 ?_ | refine TrD.callV rfl rfl rfl rfl rfl c_awake23 rfl ?_
    refine TrL.quiets 2 rfl (by exact True.intro) ?_; refine TrL.nil ?_; refine Tr.ret ?_
    refine retQ.of rfl ?_
    rfl
  · have h12 : decide (12 ≤ k) = false := by
      have h2 : decide ((k : Int) ≥ 12) = false := h1
      rw [decide_eq_false_iff_not] at h2 ⊢
      omega
    rw [h12] at hok1
    simp only [cond_false, Bool.and_eq_true, Bool.not_eq_true', beq_iff_eq] at hok1
    obtain ⟨⟨⟨rfl, rfl⟩, rfl⟩, rfl⟩ := hok1
    refine Tr.skip ?_; refine Tr.seq ?_; refine Tr.region ?_; refine TrL.quiets 15 rfl (by exact True.intro) ?_
    first | refine TrL.callV rfl rfl rfl rfl rfl c_awake23 ?_ | refine TrD.callV rfl rfl rfl rfl rfl c_awake23 rfl ?_
    refine TrL.quiets 2 rfl (by exact True.intro) ?_; refine TrL.nil ?_; refine Tr.ret ?_
    refine retQ.of rfl ?_
    rfl
end Go.Proofs.YtckgeebihhhapaaDoor.Sx
