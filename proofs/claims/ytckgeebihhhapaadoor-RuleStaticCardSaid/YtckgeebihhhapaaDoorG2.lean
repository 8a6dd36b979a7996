/-
  cond: the pile of conditionals.
-/
import Derived.Test.YtckgeebihhhapaaDoorSxW
import Derived.Test.YtckgeebihhhapaaDoorG1
set_option linter.unusedVariables false
set_option linter.unusedSimpArgs false
set_option maxRecDepth 20000
set_option maxHeartbeats 4000000
namespace Go.Proofs.YtckgeebihhhapaaDoor.Sx
open Go Go.RowKit Go.Proofs

/-- state, live, plain -/
abbrev lvTy : Ty := .st (.prod (.int .i64) (.prod .bool .bool))
abbrev pileT (l : List lvTy.D) : List Ent := [.box 91 [.arr 1], .ra 94 lvTy l]
theorem c_New : CallT Tryd.prog 25 [] [] (.ptr 0 0) [.box 91 [.nils]] := by
  refine CallT.of Tryd.func25 (by kernel_rfl) rfl Tryd.ntmps25 (by simp) (by simp) fun cx hB => ?_
  refine Tr.seq ?_; refine Tr.region ?_; refine TrL.quiets 1 rfl (by exact True.intro) ?_; refine TrL.nil ?_; refine Tr.seq ?_; refine Tr.region ?_; refine TrL.quiets 1 rfl (by exact True.intro) ?_; refine TrL.eff (effBox_sound rfl) (by exact True.intro) ?_; refine TrL.quiets 1 rfl (by exact True.intro) ?_; refine TrL.nil ?_; refine Tr.ret ?_
  exact retT.of rfl rfl rfl
theorem c_If (l : List lvTy.D) (yes : Bool) (hl : l.length ≤ 1000000) : CallT Tryd.prog 26 [.ptr 0 0, vB yes] (pileT l) (.tup []) (pileT (l ++ [((if yes then 1 else 0 : Int), yes, false)])) := by
  refine CallT.of Tryd.func26 (by kernel_rfl) rfl Tryd.ntmps26 (by simp) (by simp) fun cx hB => ?_
  have hB2 : ∀ i, cx.B i = true → i < 3 := fun i h => by have := hB i h; simp at this; omega
  refine Tr.seq ?_; refine Tr.region ?_; refine TrL.quiets 2 rfl (by exact True.intro) ?_; refine TrL.eff (effBox_sound rfl) (by exact True.intro) ?_; refine TrL.eff (effStore_sound rfl) (by exact True.intro) ?_; refine TrL.nil ?_
  refine Tr.join (fun (s : Int) => ⟨[(0, [], .ptr 0 0), (1, [], vB yes), (4, [], .ptr 2 0)], pileT l ++ [.box 94 [vI s, vB yes, vB false]]⟩) (fun s => s = (if yes then 1 else 0 : Int)) [0, 1, 4] 3 hB2 ?_ fun s hs => ?_
  · refine Tr.seq ?_; refine Tr.region ?_; refine TrL.quiets 1 rfl (by exact True.intro) ?_; refine TrL.nil ?_
    refine Tr.cond rfl (fun h1 => ?_) (fun h1 => ?_)
    · subst h1
      refine Tr.region ?_; refine TrL.quiets 1 rfl (by exact True.intro) ?_; refine TrL.eff (effStore_sound rfl) (by exact True.intro) ?_; refine TrL.nil ?_
      exact ⟨1, rfl, rfl⟩
    · subst h1
      refine Tr.skip ?_
      exact ⟨0, rfl, rfl⟩
  subst hs
  have hc : l.length + 1 ≤ 1099511627776 := by omega
  generalize (if yes then 1 else 0 : Int) = s
  refine Tr.drawA 11 rfl (by kernel_rfl) ?_; refine TrA.take 0 rfl rfl (by kernel_rfl) rfl (by exact True.intro) ?_; refine TrA.take 1 rfl rfl (by kernel_rfl) rfl (by exact True.intro) ?_; refine TrA.take 2 rfl rfl (by kernel_rfl) rfl (by exact True.intro) ?_; refine TrA.take 3 rfl rfl (by kernel_rfl) rfl (by exact True.intro) ?_; refine TrA.two 4 5 (by kernel_rfl) rfl rfl ?_ ?_
  · refine TrL.quiets 1 rfl (by exact True.intro) ?_; refine TrL.nil ?_; refine TrA.one 5 (by kernel_rfl) rfl ?_; refine TrL.quiets 1 rfl (by exact True.intro) ?_; refine TrL.nil ?_; refine TrA.one 6 (by kernel_rfl) rfl ?_; refine TrL.eff (effLit_sound rfl) (by exact True.intro) ?_; refine TrL.nil ?_; refine TrA.one 7 (by kernel_rfl) rfl ?_; refine TrL.eff (effAppend_sound rfl) ?_ ?_
    · exact hc
    refine TrL.nil ?_; refine TrA.take 8 rfl rfl (by kernel_rfl) rfl (by exact True.intro) ?_; refine TrA.take 9 rfl rfl (by kernel_rfl) rfl (by exact True.intro) ?_; refine TrA.one 10 (by kernel_rfl) rfl ?_; refine TrL.eff (effStore_sound rfl) (by exact True.intro) ?_; refine TrL.nil ?_; refine TrA.done (by kernel_rfl) ?_
    exact retT.fall rfl rfl rfl
  · refine TrL.quiets 1 rfl (by exact True.intro) ?_; refine TrL.nil ?_; refine TrA.two 4 6 (by kernel_rfl) rfl rfl ?_ ?_
    · refine TrL.quiets 1 rfl (by exact True.intro) ?_; refine TrL.nil ?_; refine TrA.one 6 (by kernel_rfl) rfl ?_; refine TrL.eff (effLit_sound rfl) (by exact True.intro) ?_; refine TrL.nil ?_; refine TrA.one 7 (by kernel_rfl) rfl ?_; refine TrL.eff (effAppend_sound rfl) ?_ ?_
      · exact hc
      refine TrL.nil ?_; refine TrA.take 8 rfl rfl (by kernel_rfl) rfl (by exact True.intro) ?_; refine TrA.take 9 rfl rfl (by kernel_rfl) rfl (by exact True.intro) ?_; refine TrA.one 10 (by kernel_rfl) rfl ?_; refine TrL.eff (effStore_sound rfl) (by exact True.intro) ?_; refine TrL.nil ?_; refine TrA.done (by kernel_rfl) ?_
      exact retT.fall rfl rfl rfl
    · refine TrL.eff (effLit_sound rfl) (by exact True.intro) ?_; refine TrL.nil ?_; refine TrA.one 4 (by kernel_rfl) rfl ?_; refine TrL.quiets 1 rfl (by exact True.intro) ?_; refine TrL.nil ?_; refine TrA.one 7 (by kernel_rfl) rfl ?_; refine TrL.eff (effAppend_sound rfl) ?_ ?_
      · exact hc
      refine TrL.nil ?_; refine TrA.take 8 rfl rfl (by kernel_rfl) rfl (by exact True.intro) ?_; refine TrA.take 9 rfl rfl (by kernel_rfl) rfl (by exact True.intro) ?_; refine TrA.one 10 (by kernel_rfl) rfl ?_; refine TrL.eff (effStore_sound rfl) (by exact True.intro) ?_; refine TrL.nil ?_; refine TrA.done (by kernel_rfl) ?_
      exact retT.fall rfl rfl rfl
end Go.Proofs.YtckgeebihhhapaaDoor.Sx
