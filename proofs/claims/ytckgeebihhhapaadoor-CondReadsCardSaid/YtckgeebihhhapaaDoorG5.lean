/-
  cond: what the last one wants; the reference's pile.
-/
import Derived.Test.YtckgeebihhhapaaDoorG4
set_option linter.unusedVariables false
set_option linter.unusedSimpArgs false
set_option maxRecDepth 20000
set_option maxHeartbeats 4000000
namespace Go.Proofs.YtckgeebihhhapaaDoor.Sx
open Go Go.RowKit Go.Proofs

theorem c_Wants_nil : CallT Tryd.prog 34 [.ptr 0 0] (pileT []) (vB false) (pileT []) := by
  refine CallT.of Tryd.func34 (by kernel_rfl) rfl Tryd.ntmps34 (by simp) (by simp) fun cx hB => ?_
  refine Tr.seq ?_; refine Tr.region ?_; refine TrL.quiets 1 rfl (by exact True.intro) ?_; refine TrL.nil ?_; refine Tr.seq ?_; refine Tr.region ?_; refine TrL.quiets 7 rfl (by exact True.intro) ?_; refine TrL.nil ?_; refine Tr.seq ?_; refine Tr.region ?_; refine TrL.quiets 31 rfl (by (simp (disch := omega) only [allOf, impO, imp, inR, loOk, and_true, w64, List.length_set, List.length_cons, List.length_nil, Option.getD_none, Option.getD_some, Ty.D, true_and, decide_eq_true_eq, decide_eq_false_iff_not, Bool.and_eq_true, Bool.or_eq_false_iff]; omega)) ?_
  refine TrL.callM 1 rfl rfl rfl rfl rfl rfl rfl (c_all (([] : List lvTy.D).take 0) (by decide)) rfl ⟨fun _ => by decide, True.intro⟩ ?_
  refine TrL.quiets 2 rfl (by exact True.intro) ?_; refine TrL.nil ?_; refine Tr.ret ?_
  exact retT.of rfl rfl rfl
theorem c_Wants_snoc (pre : List lvTy.D) (x : lvTy.D) (hl : pre.length < 1000000) :
    CallT Tryd.prog 34 [.ptr 0 0] (pileT (pre ++ [x])) (vB (x.1 == 0 && !x.2.2 && allLive pre)) (pileT (pre ++ [x])) := by
  have hlen : (pre ++ [x]).length = pre.length + 1 := by simp
  have hw := last_wrap hlen (by omega)
  have hn := nth_last (t := lvTy) pre x
  have hlt : pre.length < (pre ++ [x]).length := by omega
  refine CallT.of Tryd.func34 (by kernel_rfl) rfl Tryd.ntmps34 (by simp) (by simp) fun cx hB => ?_
  refine Tr.seq ?_; refine Tr.region ?_; refine TrL.quiets 1 rfl (by exact True.intro) ?_; refine TrL.nil ?_; refine Tr.seq ?_; refine Tr.region ?_; refine TrL.quiets 7 rfl (by exact True.intro) ?_; refine TrL.nil ?_
  change Tr _ _ _ _ _ _
  refine Tr.is 3 (sv' := vI (pre.length : Int)) rfl (congrArg vI hw) ?_
  refine Tr.seq ?_; refine Tr.region ?_; refine TrL.quiets 31 rfl (by (simp (disch := omega) only [allOf, impO, imp, inR, loOk, and_true, w64, List.length_set, List.length_cons, List.length_nil, Option.getD_none, Option.getD_some, Ty.D, true_and, decide_eq_true_eq, decide_eq_false_iff_not, Bool.and_eq_true, Bool.or_eq_false_iff]; omega)) ?_
  refine TrL.callM 1 rfl rfl rfl rfl rfl rfl rfl (c_all ((pre ++ [x]).take pre.length) (by simp; omega)) rfl ⟨fun _ => by simp, True.intro⟩ ?_
  refine TrL.quiets 2 rfl (by exact True.intro) ?_; refine TrL.nil ?_; refine Tr.ret ?_
  refine retT.of rfl ?_ rfl
  refine congrArg vB ?_
  rw [Int.toNat_natCast, hn, List.take_left]
  have : decide ((pre.length : Int) ≥ 0) = true := decide_eq_true (by omega)
  rw [this]
  rfl

/-! ### The reference's -/
/-- live, had, plain -/
abbrev tbTy : Ty := .st (.prod .bool (.prod .bool .bool))
abbrev pT (l : List tbTy.D) : List Ent := [.box 61 [.arr 1], .ra 95 tbTy l]
theorem c_pIf (l : List tbTy.D) (yes : Bool) (hl : l.length ≤ 1000000) : CallT Tryd.prog 27 [.ptr 0 0, vB yes] (pT l) (.tup []) (pT (l ++ [(yes, yes, false)])) := by
  refine CallT.of Tryd.func27 (by kernel_rfl) rfl Tryd.ntmps27 (by simp) (by simp) fun cx hB => ?_
  refine Tr.region ?_
  refine TrL.quiets 5 rfl True.intro ?_
  refine TrL.eff (effAppendM_sound rfl) ?_ ?_
  · show l.length ≤ 1099511627776
    omega
  refine TrL.quiets 3 rfl (by exact True.intro) ?_; refine TrL.eff (effLit_sound rfl) (by exact True.intro) ?_; refine TrL.eff (effAppend_sound rfl) ?_ ?_
  · show ([] ++ l).length + 1 ≤ 1099511627776
    simp
    omega
  refine TrL.quiets 2 rfl (by exact True.intro) ?_; refine TrL.eff (effStore_sound rfl) (by exact True.intro) ?_
  refine TrL.swap 1 2 rfl ?_
  refine TrL.nil ?_
  exact retT.fall rfl rfl rfl
theorem c_pEnd (l : List tbTy.D) (hl : l.length ≤ 1000000) : CallT Tryd.prog 29 [.ptr 0 0] (pT l) (vB (decide (0 < l.length))) (pT l.dropLast) := by
  refine CallT.of Tryd.func29 (by kernel_rfl) rfl Tryd.ntmps29 (by simp) (by simp) fun cx hB => ?_
  refine Tr.seq ?_; refine Tr.region ?_; refine TrL.quiets 1 rfl (by exact True.intro) ?_; refine TrL.nil ?_; refine Tr.seq ?_; refine Tr.seq ?_; refine Tr.region ?_; refine TrL.quiets 6 rfl (by exact True.intro) ?_; refine TrL.nil ?_
  by_cases h0 : l = []
  · subst h0
    refine Tr.cond rfl (fun h1 => ?_) (fun h1 => ?_)
    · refine Tr.seq ?_; refine Tr.region ?_; refine TrL.quiets 1 rfl (by exact True.intro) ?_; refine TrL.nil ?_; refine Tr.ret ?_
      exact retT.of rfl rfl rfl
    · exact absurd h1 (by decide)
  obtain ⟨m, hm⟩ : ∃ m, l.length = m + 1 := ⟨l.length - 1, by have := List.length_pos_iff.2 h0; omega⟩
  have hw := last_wrap hm hl
  refine Tr.cond rfl (fun h1 => ?_) (fun h1 => ?_)
  · simp at h1
    exact absurd h1 h0
  have hB2 : ∀ i, cx.B i = true → i < 2 := fun i h => by have := hB i h; simp at this; omega
  have hk : (⟨[], [.box 61 [.sub 1 (IntKind.i64.wrap ((l.length : Int) - 1)).toNat], .ra 95 tbTy l]⟩ : St) = ⟨[], [.box 61 [.sub 1 m], .ra 95 tbTy l]⟩ := by rw [hw]; rfl
  refine Tr.skip ?_
  refine Tr.join (fun (_ : Unit) => ⟨[], [.box 61 [.sub 1 m], .ra 95 tbTy l]⟩) (fun _ => True) [] 2 hB2 ?_ fun _ _ => ?_
  · have hcs : 0 ≤ IntKind.i64.wrap ((l.length : Int) - 1) ∧ IntKind.i64.wrap ((l.length : Int) - 1) ≤ (l.length : Int) := by rw [hw]; omega
    refine Tr.drawA 15 rfl (by kernel_rfl) ?_; refine TrA.take 0 rfl rfl (by kernel_rfl) rfl (by exact True.intro) ?_; refine TrA.take 1 rfl rfl (by kernel_rfl) rfl (by exact True.intro) ?_; refine TrA.take 2 rfl rfl (by kernel_rfl) rfl (by exact True.intro) ?_; refine TrA.take 3 rfl rfl (by kernel_rfl) rfl (by exact True.intro) ?_; refine TrA.take 5 rfl rfl (by kernel_rfl) rfl (by exact True.intro) ?_; refine TrA.take 6 rfl rfl (by kernel_rfl) rfl (by exact True.intro) ?_; refine TrA.take 7 rfl rfl (by kernel_rfl) rfl (by exact True.intro) ?_; refine TrA.two 4 8 (by kernel_rfl) rfl rfl ?_ ?_
    · refine TrL.quiets 1 rfl (by exact True.intro) ?_; refine TrL.nil ?_; refine TrA.one 8 (by kernel_rfl) rfl ?_; refine TrL.quiets 1 rfl (by exact True.intro) ?_; refine TrL.nil ?_; refine TrA.take 9 rfl rfl (by kernel_rfl) rfl (by exact True.intro) ?_; refine TrA.take 10 rfl rfl (by kernel_rfl) rfl (by exact True.intro) ?_; refine TrA.take 11 rfl rfl (by kernel_rfl) rfl ?_ ?_
      · exact hcs
      refine TrA.take 12 rfl rfl (by kernel_rfl) rfl (by exact True.intro) ?_; refine TrA.take 13 rfl rfl (by kernel_rfl) rfl (by exact True.intro) ?_; refine TrA.one 14 (by kernel_rfl) rfl ?_; refine TrL.eff (effStore_sound rfl) (by exact True.intro) ?_; refine TrL.nil ?_; refine TrA.done (by kernel_rfl) ?_
      exact ⟨(), trivial, hk⟩
    · refine TrL.quiets 1 rfl (by exact True.intro) ?_; refine TrL.nil ?_; refine TrA.take 9 rfl rfl (by kernel_rfl) rfl (by exact True.intro) ?_; refine TrA.take 10 rfl rfl (by kernel_rfl) rfl (by exact True.intro) ?_; refine TrA.one 4 (by kernel_rfl) rfl ?_; refine TrL.quiets 1 rfl (by exact True.intro) ?_; refine TrL.nil ?_; refine TrA.take 11 rfl rfl (by kernel_rfl) rfl ?_ ?_
      · exact hcs
      refine TrA.take 12 rfl rfl (by kernel_rfl) rfl (by exact True.intro) ?_; refine TrA.take 13 rfl rfl (by kernel_rfl) rfl (by exact True.intro) ?_; refine TrA.one 14 (by kernel_rfl) rfl ?_; refine TrL.eff (effStore_sound rfl) (by exact True.intro) ?_; refine TrL.nil ?_; refine TrA.done (by kernel_rfl) ?_
      exact ⟨(), trivial, hk⟩
  refine Tr.shortBox 1 m 0 0 rfl rfl rfl (by omega) ?_
  refine Tr.seq ?_; refine Tr.region ?_; refine TrL.quiets 1 rfl (by exact True.intro) ?_; refine TrL.nil ?_; refine Tr.ret ?_
  refine retT.of rfl ?_ ?_
  · exact congrArg vB (decide_eq_true (by omega)).symm
  · show pT (l.take m) = pT l.dropLast
    rw [List.dropLast_eq_take, hm]
    rfl
end Go.Proofs.YtckgeebihhhapaaDoor.Sx
