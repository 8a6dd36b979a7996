/-
  cond: the reference's next part.
-/
import Derived.Test.YtckgeebihhhapaaDoorG6
set_option linter.unusedVariables false
set_option linter.unusedSimpArgs false
set_option maxRecDepth 20000
set_option maxHeartbeats 4000000
namespace Go.Proofs.YtckgeebihhhapaaDoor.Sx
open Go Go.RowKit Go.Proofs

def pElseF (x : tbTy.D) (plain yes : Bool) : tbTy.D := (!x.2.1 && (plain || yes), x.2.1 || (!x.2.1 && (plain || yes)), plain)
theorem c_pElse_nil (plain yes : Bool) : CallT Tryd.prog 31 [.ptr 0 0, vB plain, vB yes] (pT []) (vB false) (pT []) := by
  refine CallT.of Tryd.func31 (by kernel_rfl) rfl Tryd.ntmps31 (by simp) (by simp) fun cx hB => ?_
  refine Tr.seq ?_; refine Tr.region ?_; refine TrL.quiets 1 rfl (by exact True.intro) ?_; refine TrL.nil ?_; refine Tr.seq ?_; refine Tr.region ?_; refine TrL.quiets 6 rfl (by exact True.intro) ?_; refine TrL.nil ?_; refine Tr.seq ?_; refine Tr.seq ?_; refine Tr.region ?_; refine TrL.quiets 13 rfl (by (simp [allOf, impO, imp, inR, loOk] <;> omega)) ?_; refine TrL.nil ?_
  refine Tr.cond rfl (fun h1 => ?_) (fun h1 => ?_)
  · refine Tr.seq ?_; refine Tr.region ?_; refine TrL.quiets 1 rfl (by exact True.intro) ?_; refine TrL.nil ?_; refine Tr.ret ?_
    exact retT.of rfl rfl rfl
  · exact absurd h1 (by decide)
theorem c_pElse_snoc (pre : List tbTy.D) (x : tbTy.D) (plain yes : Bool) (hl : pre.length < 1000000) :
    CallT Tryd.prog 31 [.ptr 0 0, vB plain, vB yes] (pT (pre ++ [x])) (vB (!x.2.2)) (pT (pre ++ [bif x.2.2 then x else pElseF x plain yes])) := by
  have hlen : (pre ++ [x]).length = pre.length + 1 := by simp
  have hw := last_wrap hlen (by omega)
  have hn := nth_last (t := tbTy) pre x
  have hlt : pre.length < (pre ++ [x]).length := by omega
  have hwt : (IntKind.i64.wrap (((pre ++ [x]).length : Int) - 1)).toNat = pre.length := by rw [hw]; rfl
  have hl0 : (((pre ++ [x]).length : Int) == 0) = false := beq_eq_false_iff_ne.2 (by omega)
  refine CallT.of Tryd.func31 (by kernel_rfl) rfl Tryd.ntmps31 (by simp) (by simp) fun cx hB => ?_
  have hB2 : ∀ i, cx.B i = true → i < 2 := fun i h => by have := hB i h; simp at this; omega
  refine Tr.seq ?_; refine Tr.region ?_; refine TrL.quiets 1 rfl (by exact True.intro) ?_; refine TrL.nil ?_; refine Tr.seq ?_; refine Tr.region ?_; refine TrL.quiets 6 rfl (by exact True.intro) ?_; refine TrL.nil ?_; refine Tr.seq ?_; refine Tr.seq ?_; refine Tr.region ?_; refine TrL.quiets 13 rfl (by (simp only [allOf, impO, imp, inR, loOk, and_true]; omega)) ?_; refine TrL.nil ?_
  have hcond : ((((pre ++ [x]).length : Int) == 0) || (nth (t := tbTy) (pre ++ [x]) ((IntKind.i64.wrap (((pre ++ [x]).length : Int) - 1)).toNat : Int)).2.2) = x.2.2 := by
    rw [hwt, hn, hl0]; rfl
  refine Tr.is 26 (sv' := vB x.2.2) rfl (congrArg vB hcond) ?_
  refine Tr.cond rfl (fun h1 => ?_) (fun h1 => ?_)
  · refine Tr.seq ?_; refine Tr.region ?_; refine TrL.quiets 1 rfl (by exact True.intro) ?_; refine TrL.nil ?_; refine Tr.ret ?_
    refine retT.of rfl ?_ ?_
    · rw [h1]; rfl
    · rw [h1]; rfl
  refine Tr.skip ?_; refine Tr.seq ?_; refine Tr.region ?_; refine TrL.quiets 17 rfl (by (simp only [allOf, impO, imp, inR, loOk, and_true]; omega)) ?_; refine TrL.nil ?_
  have hlive : (!(nth (t := tbTy) (pre ++ [x]) ((IntKind.i64.wrap (((pre ++ [x]).length : Int) - 1)).toNat : Int)).2.1 && (plain || yes)) = (!x.2.1 && (plain || yes)) := by rw [hwt, hn]
  refine Tr.is 8 (sv' := vB (!x.2.1 && (plain || yes))) rfl (congrArg vB hlive) ?_
  have hk : (⟨[], pT ((pre ++ [x]).set (IntKind.i64.wrap (((pre ++ [x]).length : Int) - 1)).toNat (!x.2.1 && (plain || yes), (nth (t := tbTy) (pre ++ [x]) ((IntKind.i64.wrap (((pre ++ [x]).length : Int) - 1)).toNat : Int)).2.1 || (!x.2.1 && (plain || yes)), plain))⟩ : St) = ⟨[], pT (pre ++ [pElseF x plain yes])⟩ := by
    rw [hwt, hn, set_last]; rfl
  have hcs : inR (IntKind.i64.wrap (((pre ++ [x]).length : Int) - 1)) (pre ++ [x]).length := by rw [hw]; exact inRn hlt
  have hcs2 : (IntKind.i64.wrap (((pre ++ [x]).length : Int) - 1)).toNat < (pre ++ [x]).length := by rw [hwt]; exact hlt
  refine Tr.join (fun (_ : Unit) => ⟨[], pT (pre ++ [pElseF x plain yes])⟩) (fun _ => True) [] 2 hB2 ?_ fun _ _ => ?_
  · refine Tr.drawA 23 rfl (by kernel_rfl) ?_; refine TrA.take 0 rfl rfl (by kernel_rfl) rfl (by exact True.intro) ?_; refine TrA.take 1 rfl rfl (by kernel_rfl) rfl (by exact True.intro) ?_; refine TrA.take 2 rfl rfl (by kernel_rfl) rfl (by exact True.intro) ?_; refine TrA.take 4 rfl rfl (by kernel_rfl) rfl (by exact True.intro) ?_; refine TrA.take 5 rfl rfl (by kernel_rfl) rfl (by exact True.intro) ?_; refine TrA.take 6 rfl rfl (by kernel_rfl) rfl (by exact True.intro) ?_; refine TrA.take 7 rfl rfl (by kernel_rfl) rfl (by exact True.intro) ?_; refine TrA.take 8 rfl rfl (by kernel_rfl) rfl (by exact True.intro) ?_; refine TrA.take 9 rfl rfl (by kernel_rfl) rfl (by exact True.intro) ?_; refine TrA.take 11 rfl rfl (by kernel_rfl) rfl (by exact True.intro) ?_; refine TrA.take 12 rfl rfl (by kernel_rfl) rfl (by exact True.intro) ?_; refine TrA.take 19 rfl rfl (by kernel_rfl) rfl (by exact True.intro) ?_; refine TrA.two 3 10 (by kernel_rfl) rfl rfl ?_ ?_
    · refine TrL.quiets 1 rfl (by exact True.intro) ?_; refine TrL.nil ?_; refine TrA.one 10 (by kernel_rfl) rfl ?_; refine TrL.quiets 1 rfl (by exact True.intro) ?_; refine TrL.nil ?_; refine TrA.take 13 rfl rfl (by kernel_rfl) rfl (by assumption) ?_; refine TrA.take 14 rfl rfl (by kernel_rfl) rfl (by (simp only [holds, impO, imp, inR]; omega)) ?_; refine TrA.one 15 (by kernel_rfl) rfl ?_; refine TrL.quiets 1 rfl (by assumption) ?_; refine TrL.nil ?_; refine TrA.take 16 rfl rfl (by kernel_rfl) rfl (by exact True.intro) ?_; refine TrA.take 17 rfl rfl (by kernel_rfl) rfl (by exact True.intro) ?_; refine TrA.take 18 rfl rfl (by kernel_rfl) rfl (by exact True.intro) ?_; refine TrA.take 20 rfl rfl (by kernel_rfl) rfl (by exact True.intro) ?_; refine TrA.take 21 rfl rfl (by kernel_rfl) rfl (by assumption) ?_; refine TrA.one 22 (by kernel_rfl) rfl ?_; refine TrL.eff (effStore_sound rfl) (by assumption) ?_; refine TrL.nil ?_; refine TrA.done (by kernel_rfl) ?_
      exact ⟨(), trivial, hk⟩
    · refine TrL.quiets 1 rfl (by exact True.intro) ?_; refine TrL.nil ?_; refine TrA.take 13 rfl rfl (by kernel_rfl) rfl (by assumption) ?_; refine TrA.take 14 rfl rfl (by kernel_rfl) rfl (by (simp only [holds, impO, imp, inR]; omega)) ?_; refine TrA.two 3 15 (by kernel_rfl) rfl rfl ?_ ?_
      · refine TrL.quiets 1 rfl (by exact True.intro) ?_; refine TrL.nil ?_; refine TrA.one 15 (by kernel_rfl) rfl ?_; refine TrL.quiets 1 rfl (by assumption) ?_; refine TrL.nil ?_; refine TrA.take 16 rfl rfl (by kernel_rfl) rfl (by exact True.intro) ?_; refine TrA.take 17 rfl rfl (by kernel_rfl) rfl (by exact True.intro) ?_; refine TrA.take 18 rfl rfl (by kernel_rfl) rfl (by exact True.intro) ?_; refine TrA.take 20 rfl rfl (by kernel_rfl) rfl (by exact True.intro) ?_; refine TrA.take 21 rfl rfl (by kernel_rfl) rfl (by assumption) ?_; refine TrA.one 22 (by kernel_rfl) rfl ?_; refine TrL.eff (effStore_sound rfl) (by assumption) ?_; refine TrL.nil ?_; refine TrA.done (by kernel_rfl) ?_
        exact ⟨(), trivial, hk⟩
      · refine TrL.quiets 1 rfl (by assumption) ?_; refine TrL.nil ?_; refine TrA.take 16 rfl rfl (by kernel_rfl) rfl (by exact True.intro) ?_; refine TrA.take 17 rfl rfl (by kernel_rfl) rfl (by exact True.intro) ?_; refine TrA.take 18 rfl rfl (by kernel_rfl) rfl (by exact True.intro) ?_; refine TrA.take 20 rfl rfl (by kernel_rfl) rfl (by exact True.intro) ?_; refine TrA.one 3 (by kernel_rfl) rfl ?_; refine TrL.quiets 1 rfl (by exact True.intro) ?_; refine TrL.nil ?_; refine TrA.take 21 rfl rfl (by kernel_rfl) rfl (by assumption) ?_; refine TrA.one 22 (by kernel_rfl) rfl ?_; refine TrL.eff (effStore_sound rfl) (by assumption) ?_; refine TrL.nil ?_; refine TrA.done (by kernel_rfl) ?_
        exact ⟨(), trivial, hk⟩
  refine Tr.seq ?_; refine Tr.region ?_; refine TrL.quiets 1 rfl (by exact True.intro) ?_; refine TrL.nil ?_; refine Tr.ret ?_
  refine retT.of rfl ?_ ?_
  · rw [h1]; rfl
  · rw [h1]; rfl
end Go.Proofs.YtckgeebihhhapaaDoor.Sx
