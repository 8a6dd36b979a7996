/-
  cond: the pile's other methods.
-/
import Derived.Test.YtckgeebihhhapaaDoorG2
set_option linter.unusedVariables false
set_option linter.unusedSimpArgs false
set_option maxRecDepth 20000
set_option maxHeartbeats 4000000
namespace Go.Proofs.YtckgeebihhhapaaDoor.Sx
open Go Go.RowKit Go.Proofs

/-! ### The first one that is so -/
def idxP {α : Type} (p : α → Bool) : List α → Int → Int
  | [], _ => -1
  | x :: r, i => if p x then i else idxP p r (i + 1)
theorem idxP_any {α : Type} (p : α → Bool) : ∀ (l : List α) (i : Int), 0 ≤ i → decide (0 ≤ idxP p l i) = l.any p
  | [], i, _ => rfl
  | x :: r, i, h => by
    rw [idxP, List.any_cons]
    cases hx : p x
    · simp only [Bool.false_eq_true, if_false, Bool.false_or]
      exact idxP_any p r (i + 1) (by omega)
    · simp [h]
theorem c_all1 (x : lvTy.D) : CallV Tryd.prog 86 [.agg (svs lvTy x)] (vB (!x.2.1)) := by
  refine CallV.of Tryd.func86 (by kernel_rfl) rfl Tryd.ntmps86 (by simp) rfl fun cx hB => ?_
  refine Tr.seq ?_; refine Tr.region ?_; refine TrL.eff (effBox_sound rfl) (by exact True.intro) ?_; refine TrL.quiets 1 rfl (by exact True.intro) ?_; refine TrL.nil ?_; refine Tr.seq ?_; refine Tr.region ?_; refine TrL.quiets 4 rfl (by exact True.intro) ?_; refine TrL.nil ?_; refine Tr.ret ?_
  refine retQ.of rfl ?_
  rfl
theorem c_IndexFuncL (F : Nat) (p : lvTy.D → Bool) (hF : ∀ x, CallV Tryd.prog F [.agg (svs lvTy x)] (vB (p x))) (l : List lvTy.D) (hl : l.length ≤ 1099511627776) :
    CallV Tryd.prog 109 [vL lvTy l, .fn F [] []] (vI (idxP p l 0)) := by
  refine CallV.of Tryd.func109 (by kernel_rfl) rfl Tryd.ntmps109 (by simp) rfl fun cx hB => ?_
  refine Tr.seq ?_; refine Tr.region ?_; refine TrL.quiets 1 rfl (by exact True.intro) ?_; refine TrL.nil ?_; refine Tr.seq ?_; refine Tr.seq ?_; refine Tr.region ?_; refine TrL.quiets 3 rfl (by exact True.intro) ?_; refine TrL.nil ?_; refine Tr.block ?_
  refine Tr.loop (fun (i : Nat) => ⟨[(0, [], vL lvTy l), (1, [], .fn F [] []), (7, [], vI l.length), (8, [], vI i)], []⟩) (fun i => i ≤ l.length ∧ idxP p l 0 = idxP p (l.drop i) i) (fun i => l.length - i) 0 [0, 1, 7, 8] 0 hB rfl ⟨Nat.zero_le _, rfl⟩ fun i hi => ?_
  obtain ⟨hi, hI⟩ := hi
  refine Tr.seq ?_; refine Tr.region ?_; refine TrL.quiets 1 rfl (by exact True.intro) ?_; refine TrL.nil ?_; refine Tr.seq ?_
  refine Tr.cond rfl (fun h1 => ?_) (fun h1 => ?_)
  · simp only [decide_eq_true_eq] at h1
    have hi1 : i < l.length := by omega
    rw [List.drop_eq_getElem_cons hi1, idxP] at hI
    have hn : nth (t := lvTy) l (i : Int) = l[i] := nth_get' (t := lvTy) l i hi1
    refine Tr.skip ?_; refine Tr.seq ?_; refine Tr.block ?_; refine Tr.seq ?_; refine Tr.region ?_; refine TrL.quiets 2 rfl (by exact True.intro) ?_; refine TrL.nil ?_; refine Tr.seq ?_; refine Tr.region ?_; refine TrL.quiets 5 rfl (by (simp only [allOf, impO, imp, inR, loOk, and_true]; omega)) ?_
    first | refine TrL.callV rfl rfl rfl rfl rfl (hF (nth (t := lvTy) l (i : Int))) ?_ | refine TrD.callV rfl rfl rfl rfl rfl (hF (nth (t := lvTy) l (i : Int))) rfl ?_
    rw [hn]
    refine TrL.nil ?_
    refine Tr.cond rfl (fun h2 => ?_) (fun h2 => ?_)
    · rw [h2] at hI
      refine Tr.seq ?_; refine Tr.region ?_; refine TrL.quiets 2 rfl (by exact True.intro) ?_; refine TrL.nil ?_; refine Tr.ret ?_
      refine retQ.of rfl ?_
      rw [hI]
      rfl
    · rw [h2] at hI
      refine Tr.skip ?_; refine Tr.region ?_; refine TrL.quiets 2 rfl (by exact True.intro) ?_; refine TrL.nil ?_
      refine ⟨i + 1, ⟨hi1, by rw [hI]; simp⟩, by dsimp only; omega, ?_⟩
      refine Eq.trans (b := (⟨[(_, [], _), (_, [], _), (_, [], _), (_, [], _)], []⟩ : St)) rfl ?_
      rw [w64n (y := i + 1) (by omega) (by omega)]
  · simp only [decide_eq_false_iff_not] at h1
    rw [List.drop_eq_nil_of_le (by omega)] at hI
    refine Tr.exit ?_; refine Tr.seq ?_; refine Tr.region ?_; refine TrL.quiets 1 rfl (by exact True.intro) ?_; refine TrL.nil ?_; refine Tr.ret ?_
    refine retQ.of rfl ?_
    rw [hI]
    rfl
theorem c_ContainsFuncL (F : Nat) (p : lvTy.D → Bool) (hF : ∀ x, CallV Tryd.prog F [.agg (svs lvTy x)] (vB (p x))) (l : List lvTy.D) (hl : l.length ≤ 1099511627776) :
    CallV Tryd.prog 85 [vL lvTy l, .fn F [] []] (vB (l.any p)) := by
  refine CallV.of Tryd.func85 (by kernel_rfl) rfl Tryd.ntmps85 (by simp) rfl fun cx hB => ?_
  refine Tr.seq ?_; refine Tr.region ?_; refine TrL.quiets 1 rfl (by exact True.intro) ?_; refine TrL.nil ?_; refine Tr.seq ?_; refine Tr.region ?_; refine TrL.quiets 2 rfl (by exact True.intro) ?_
  first | refine TrL.callV rfl rfl rfl rfl rfl (c_IndexFuncL F p hF l hl) ?_ | refine TrD.callV rfl rfl rfl rfl rfl (c_IndexFuncL F p hF l hl) rfl ?_
  refine TrL.quiets 2 rfl (by exact True.intro) ?_; refine TrL.nil ?_; refine Tr.ret ?_
  refine retQ.of rfl ?_
  exact congrArg vB (idxP_any p l 0 (Int.le_refl _))
def allLive (l : List lvTy.D) : Bool := l.all (fun x => x.2.1)
theorem c_all (l : List lvTy.D) (hl : l.length ≤ 1099511627776) : CallV Tryd.prog 59 [vL lvTy l] (vB (allLive l)) := by
  refine CallV.of Tryd.func59 (by kernel_rfl) rfl Tryd.ntmps59 (by simp) rfl fun cx hB => ?_
  refine Tr.seq ?_; refine Tr.region ?_; refine TrL.quiets 1 rfl (by exact True.intro) ?_; refine TrL.nil ?_; refine Tr.seq ?_; refine Tr.region ?_; refine TrL.quiets 1 rfl (by exact True.intro) ?_
  first | refine TrL.callV rfl rfl rfl rfl rfl (c_ContainsFuncL 86 (fun x => !x.2.1) c_all1 l hl) ?_ | refine TrD.callV rfl rfl rfl rfl rfl (c_ContainsFuncL 86 (fun x => !x.2.1) c_all1 l hl) rfl ?_
  refine TrL.quiets 2 rfl (by exact True.intro) ?_; refine TrL.nil ?_; refine Tr.ret ?_
  refine retQ.of rfl ?_
  refine congrArg vB ?_
  rw [allLive, List.all_eq_not_any_not]

/-! ### The methods -/
theorem c_Len (l : List lvTy.D) : CallT Tryd.prog 36 [.ptr 0 0] (pileT l) (vI l.length) (pileT l) := by
  refine CallT.of Tryd.func36 (by kernel_rfl) rfl Tryd.ntmps36 (by simp) (by simp) fun cx hB => ?_
  refine Tr.seq ?_; refine Tr.region ?_; refine TrL.quiets 1 rfl (by exact True.intro) ?_; refine TrL.nil ?_; refine Tr.seq ?_; refine Tr.region ?_; refine TrL.quiets 6 rfl (by exact True.intro) ?_; refine TrL.nil ?_; refine Tr.ret ?_
  exact retT.of rfl rfl rfl
theorem c_Live (l : List lvTy.D) (hl : l.length ≤ 1000000) : CallT Tryd.prog 32 [.ptr 0 0] (pileT l) (vB (allLive l)) (pileT l) := by
  refine CallT.of Tryd.func32 (by kernel_rfl) rfl Tryd.ntmps32 (by simp) (by simp) fun cx hB => ?_
  refine Tr.seq ?_; refine Tr.region ?_; refine TrL.quiets 1 rfl (by exact True.intro) ?_; refine TrL.nil ?_; refine Tr.seq ?_; refine Tr.region ?_; refine TrL.quiets 4 rfl (by exact True.intro) ?_
  refine TrL.callM 1 rfl rfl rfl rfl rfl rfl rfl (c_all l (by omega)) rfl True.intro ?_
  refine TrL.quiets 1 rfl (by exact True.intro) ?_; refine TrL.nil ?_; refine Tr.ret ?_
  exact retT.of rfl rfl rfl
theorem last_wrap {α : Type} {l : List α} {m : Nat} (hm : l.length = m + 1) (hl : l.length ≤ 1000000) : IntKind.i64.wrap ((l.length : Int) - 1) = (m : Int) := by
  rw [w64n (y := m) (by omega) (by omega)]
theorem c_End (l : List lvTy.D) (hl : l.length ≤ 1000000) : CallT Tryd.prog 28 [.ptr 0 0] (pileT l) (vB (decide (0 < l.length))) (pileT l.dropLast) := by
  refine CallT.of Tryd.func28 (by kernel_rfl) rfl Tryd.ntmps28 (by simp) (by simp) fun cx hB => ?_
  refine Tr.seq ?_; refine Tr.region ?_; refine TrL.quiets 1 rfl (by exact True.intro) ?_; refine TrL.nil ?_; refine Tr.seq ?_; refine Tr.region ?_; refine TrL.quiets 7 rfl (by exact True.intro) ?_; refine TrL.nil ?_; refine Tr.seq ?_; refine Tr.seq ?_; refine Tr.region ?_; refine TrL.quiets 2 rfl (by exact True.intro) ?_; refine TrL.nil ?_
  by_cases h0 : l = []
  · subst h0
    refine Tr.cond rfl (fun h1 => ?_) (fun h1 => ?_)
    · refine Tr.seq ?_; refine Tr.region ?_; refine TrL.quiets 1 rfl (by exact True.intro) ?_; refine TrL.nil ?_; refine Tr.ret ?_
      exact retT.of rfl rfl rfl
    · exact absurd h1 (by decide)
  obtain ⟨m, hm⟩ : ∃ m, l.length = m + 1 := ⟨l.length - 1, by have := List.length_pos_iff.2 h0; omega⟩
  have hw := last_wrap hm hl
  refine Tr.cond rfl (fun h1 => ?_) (fun h1 => ?_)
  · rw [hw] at h1
    simp only [decide_eq_true_eq] at h1
    omega
  · refine Tr.skip ?_; refine Tr.seq ?_; refine Tr.region ?_; refine TrL.quiets 9 rfl (by (simp (disch := omega) only [allOf, impO, imp, inR, loOk, and_true, w64, List.length_set, List.length_cons, List.length_nil, Option.getD_none, Option.getD_some, Ty.D, true_and, decide_eq_true_eq, decide_eq_false_iff_not, Bool.and_eq_true, Bool.or_eq_false_iff]; omega)) ?_; refine TrL.eff (effStore_sound rfl) (by exact True.intro) ?_; refine TrL.nil ?_
    change Tr _ _ _ _ _ _
    refine Tr.shortBox 1 (IntKind.i64.wrap ((l.length : Int) - 1)).toNat 0 0 rfl rfl rfl (by rw [hw]; omega) ?_
    refine Tr.seq ?_; refine Tr.region ?_; refine TrL.quiets 1 rfl (by exact True.intro) ?_; refine TrL.nil ?_; refine Tr.ret ?_
    refine retT.of rfl ?_ ?_
    · exact congrArg vB (decide_eq_true (by omega)).symm
    · show pileT (l.take (IntKind.i64.wrap ((l.length : Int) - 1)).toNat) = pileT l.dropLast
      rw [hw, List.dropLast_eq_take, hm]
      rfl
end Go.Proofs.YtckgeebihhhapaaDoor.Sx
