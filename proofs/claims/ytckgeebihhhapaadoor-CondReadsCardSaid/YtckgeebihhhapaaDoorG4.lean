/-
  cond: the pile's next part.
-/
import Derived.Test.YtckgeebihhhapaaDoorG3
set_option linter.unusedVariables false
set_option linter.unusedSimpArgs false
set_option maxRecDepth 20000
set_option maxHeartbeats 4000000
namespace Go.Proofs.YtckgeebihhhapaaDoor.Sx
open Go Go.RowKit Go.Proofs

theorem nth_last {t : Ty} (pre : List t.D) (x : t.D) : nth (pre ++ [x]) (pre.length : Int) = x := by
  rw [nth_get' _ _ (by simp)]
  simp
theorem set_last {α : Type} (pre : List α) (x y : α) : (pre ++ [x]).set pre.length y = pre ++ [y] := by
  rw [List.set_append_right _ _ (Nat.le_refl _)]
  simp
def elseF (x : lvTy.D) (plain yes : Bool) : lvTy.D := ((bif x.1 == 0 && (plain || yes) then 1 else x.1), x.1 == 0 && (plain || yes), plain)
theorem c_Else_nil (plain yes : Bool) : CallT Tryd.prog 30 [.ptr 0 0, vB plain, vB yes] (pileT []) (vB false) (pileT []) := by
  refine CallT.of Tryd.func30 (by kernel_rfl) rfl Tryd.ntmps30 (by simp) (by simp) fun cx hB => ?_
  refine Tr.seq ?_; refine Tr.region ?_; refine TrL.quiets 1 rfl (by exact True.intro) ?_; refine TrL.nil ?_; refine Tr.seq ?_; refine Tr.region ?_; refine TrL.quiets 7 rfl (by exact True.intro) ?_; refine TrL.nil ?_
  refine Tr.seq ?_; refine Tr.seq ?_; refine Tr.region ?_; refine TrL.quiets 12 rfl (by (simp (disch := omega) only [allOf, impO, imp, inR, loOk, and_true, w64, List.length_set, List.length_cons, List.length_nil, Option.getD_none, Option.getD_some, Ty.D, true_and, decide_eq_true_eq, decide_eq_false_iff_not, Bool.and_eq_true, Bool.or_eq_false_iff]; omega)) ?_; refine TrL.nil ?_
  refine Tr.cond rfl (fun h1 => ?_) (fun h1 => ?_)
  · refine Tr.seq ?_; refine Tr.region ?_; refine TrL.quiets 1 rfl (by exact True.intro) ?_; refine TrL.nil ?_; refine Tr.ret ?_
    exact retT.of rfl rfl rfl
  · exact absurd h1 (by decide)
theorem c_Else_snoc (pre : List lvTy.D) (x : lvTy.D) (plain yes : Bool) (hl : pre.length < 1000000) :
    CallT Tryd.prog 30 [.ptr 0 0, vB plain, vB yes] (pileT (pre ++ [x])) (vB (!x.2.2)) (pileT (pre ++ [bif x.2.2 then x else elseF x plain yes])) := by
  have hlen : (pre ++ [x]).length = pre.length + 1 := by simp
  have hw := last_wrap hlen (by omega)
  have hn := nth_last (t := lvTy) pre x
  refine CallT.of Tryd.func30 (by kernel_rfl) rfl Tryd.ntmps30 (by simp) (by simp) fun cx hB => ?_
  refine Tr.seq ?_; refine Tr.region ?_; refine TrL.quiets 1 rfl (by exact True.intro) ?_; refine TrL.nil ?_; refine Tr.seq ?_; refine Tr.region ?_; refine TrL.quiets 7 rfl (by exact True.intro) ?_; refine TrL.nil ?_
  change Tr _ _ _ _ _ _
  refine Tr.is 7 (sv' := vI (pre.length : Int)) rfl (congrArg vI hw) ?_
  have hB2 : ∀ i, cx.B i = true → i < 2 := fun i h => by have := hB i h; simp at this; omega
  have hlt : pre.length < (pre ++ [x]).length := by omega
  refine Tr.seq ?_; refine Tr.seq ?_; refine Tr.region ?_; refine TrL.quiets 12 rfl (by (simp only [allOf, impO, imp, inR, loOk, and_true]; omega)) ?_; refine TrL.nil ?_
  have hcond : (decide ((pre.length : Int) < 0) || (nth (t := lvTy) (pre ++ [x]) (pre.length : Int)).2.2) = x.2.2 := by
    rw [hn, decide_eq_false (by omega)]; rfl
  refine Tr.is 26 (sv' := vB x.2.2) rfl (congrArg vB hcond) ?_
  refine Tr.cond rfl (fun h1 => ?_) (fun h1 => ?_)
  · refine Tr.seq ?_; refine Tr.region ?_; refine TrL.quiets 1 rfl (by exact True.intro) ?_; refine TrL.nil ?_; refine Tr.ret ?_
    refine retT.of rfl ?_ ?_
    · rw [h1]; rfl
    · rw [h1]; rfl
  refine Tr.skip ?_; refine Tr.seq ?_; refine Tr.region ?_; refine TrL.quiets 7 rfl (by (simp only [allOf, impO, imp, inR, loOk, and_true]; omega)) ?_; refine TrL.nil ?_; refine Tr.seq ?_; refine Tr.region ?_; refine TrL.quiets 4 rfl (by exact True.intro) ?_; refine TrL.eff (effStore_sound rfl) (by (dsimp only [holds, Ty.D]; omega)) ?_; refine TrL.nil ?_
  change Tr _ _ _ _ _ _
  refine Tr.keep [0, 1, 2, 8] 2 hB2 (st' := ⟨[(0, [], .ptr 0 0), (1, [], vB plain), (2, [], vB yes), (8, [], .eptr 1 pre.length 3 0)], pileT (pre ++ [(x.1, x.2.1, plain)])⟩) ?_ ?_
  · refine Eq.trans (b := (⟨[(0, [], _), (1, [], _), (2, [], _), (8, [], _)], pileT ((pre ++ [x]).set pre.length ((nth (t := lvTy) (pre ++ [x]) (pre.length : Int)).1, (nth (t := lvTy) (pre ++ [x]) (pre.length : Int)).2.1, plain))⟩ : St)) rfl ?_
    rw [hn, set_last]
    rfl
  have hn2 := nth_last (t := lvTy) pre (x.1, x.2.1, plain)
  have hlt2 : pre.length < (pre ++ [(x.1, x.2.1, plain)]).length := by simp
  refine Tr.seq ?_; refine Tr.region ?_; refine TrL.quiets 14 rfl (by (simp only [allOf, impO, imp, inR, loOk, and_true]; omega)) ?_; refine TrL.eff (effStore_sound rfl) (by (dsimp only [holds, Ty.D]; omega)) ?_; refine TrL.nil ?_
  change Tr _ _ _ _ _ _
  refine Tr.keep [0, 8] 2 hB2 (st' := ⟨[(0, [], .ptr 0 0), (8, [], .eptr 1 pre.length 3 0)], pileT (pre ++ [(x.1, x.1 == 0 && (plain || yes), plain)])⟩) ?_ ?_
  · refine Eq.trans (b := (⟨[(0, [], _), (8, [], _)], pileT ((pre ++ [(x.1, x.2.1, plain)]).set pre.length ((nth (t := lvTy) (pre ++ [(x.1, x.2.1, plain)]) (pre.length : Int)).1, (nth (t := lvTy) (pre ++ [(x.1, x.2.1, plain)]) (pre.length : Int)).1 == 0 && (plain || yes), (nth (t := lvTy) (pre ++ [(x.1, x.2.1, plain)]) (pre.length : Int)).2.2))⟩ : St)) rfl ?_
    rw [hn2, set_last]
  have hn3 := nth_last (t := lvTy) pre (x.1, x.1 == 0 && (plain || yes), plain)
  have hlt3 : pre.length < (pre ++ [(x.1, x.1 == 0 && (plain || yes), plain)]).length := by simp
  refine Tr.seq ?_; refine Tr.seq ?_; refine Tr.region ?_; refine TrL.quiets 4 rfl (by (simp only [allOf, impO, imp, inR, loOk, and_true]; omega)) ?_; refine TrL.nil ?_
  have hc2 : (nth (t := lvTy) (pre ++ [(x.1, x.1 == 0 && (plain || yes), plain)]) (pre.length : Int)).2.1 = (x.1 == 0 && (plain || yes)) := by rw [hn3]
  refine Tr.is 54 (sv' := vB (x.1 == 0 && (plain || yes))) rfl (congrArg vB hc2) ?_
  refine Tr.cond rfl (fun h2 => ?_) (fun h2 => ?_)
  · refine Tr.region ?_; refine TrL.quiets 3 rfl (by exact True.intro) ?_; refine TrL.eff (effStore_sound rfl) (by (dsimp only [holds, Ty.D]; omega)) ?_; refine TrL.nil ?_; refine Tr.seq ?_; refine Tr.region ?_; refine TrL.quiets 1 rfl (by exact True.intro) ?_; refine TrL.nil ?_; refine Tr.ret ?_
    refine retT.of rfl ?_ ?_
    · rw [h1]; rfl
    · rw [h1]
      show pileT ((pre ++ [(x.1, x.1 == 0 && (plain || yes), plain)]).set pre.length ((1 : Int), (nth (t := lvTy) (pre ++ [(x.1, x.1 == 0 && (plain || yes), plain)]) (pre.length : Int)).2.1, (nth (t := lvTy) (pre ++ [(x.1, x.1 == 0 && (plain || yes), plain)]) (pre.length : Int)).2.2)) = _
      rw [hn3, set_last, elseF, h2]
      rfl
  · refine Tr.skip ?_; refine Tr.seq ?_; refine Tr.region ?_; refine TrL.quiets 1 rfl (by exact True.intro) ?_; refine TrL.nil ?_; refine Tr.ret ?_
    refine retT.of rfl ?_ ?_
    · rw [h1]; rfl
    · rw [h1, elseF, h2]
      rfl
end Go.Proofs.YtckgeebihhhapaaDoor.Sx
