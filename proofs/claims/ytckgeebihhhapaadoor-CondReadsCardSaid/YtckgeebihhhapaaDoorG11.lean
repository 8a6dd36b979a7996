/-
  law23: the document's example.
-/
import Derived.Test.YtckgeebihhhapaaDoorG10
import Derived.Test.YtckgeebihhhapaaDoorG7
set_option linter.unusedVariables false
set_option linter.unusedSimpArgs false
set_option maxRecDepth 20000
set_option maxHeartbeats 4000000
namespace Go.Proofs.YtckgeebihhhapaaDoor.Sx
open Go Go.RowKit Go.Proofs

theorem read_ex : readF [105, 102, 101, 113, 32, 40, 36, 40, 97, 41, 44, 98, 41] = ((false, wIfeq, [36, 40, 97, 41], [98]), true, false) := by kernel_rfl
theorem c_awake23 : CallV Tryd.prog 21 [] (vB true) := by
  refine CallV.of Tryd.func21 (by kernel_rfl) rfl Tryd.ntmps21 (by simp) rfl fun cx hB => ?_
  refine Tr.seq ?_; refine Tr.region ?_; refine TrL.quiets 1 rfl (by exact True.intro) ?_; refine TrL.nil ?_; refine Tr.seq ?_; refine Tr.region ?_
  refine TrL.callT [] rfl rfl rfl rfl rfl c_New rfl rfl rfl ?_
  refine TrL.quiets 1 rfl (by exact True.intro) ?_; refine TrL.nil ?_
  change Tr _ _ _ _ _ _
  refine Tr.nilBoxM 0 0 94 lvTy rfl rfl ?_
  refine Tr.seq ?_; refine Tr.region ?_
  first | refine TrL.callV rfl rfl rfl rfl rfl (c_cond_Read _ (by decide)) ?_ | refine TrD.callV rfl rfl rfl rfl rfl (c_cond_Read _ (by decide)) rfl ?_
  rw [read_ex]
  refine TrL.quiets 4 rfl (by exact True.intro) ?_; refine TrL.eff (effBox_sound rfl) (by exact True.intro) ?_; refine TrL.eff (effStore_sound rfl) (by exact True.intro) ?_; refine TrL.quiets 2 rfl (by exact True.intro) ?_; refine TrL.nil ?_; refine Tr.seq ?_; refine Tr.seq ?_; refine Tr.region ?_; refine TrL.quiets 2 rfl (by exact True.intro) ?_; refine TrL.nil ?_
  refine Tr.cond rfl (fun h1 => ?_) (fun h1 => ?_)
  · cases h1
  refine Tr.skip ?_; refine Tr.seq ?_; refine Tr.region ?_; refine TrL.quiets 1 rfl (by exact True.intro) ?_
  refine TrL.callT [0, 1] rfl rfl rfl rfl rfl (c_If [] false (by decide)) rfl rfl rfl ?_
  refine TrL.nil ?_
  refine Tr.keep [1, 2, 3, 4] 3 (fun i h => by have := hB i h; omega) (st' := ⟨[(1, [], .ptr 0 0), (2, [], .ptr 2 0), (3, [], vB true), (4, [], vB false)], pileT [((0 : Int), false, false)] ++ [cBox (false, wIfeq, [36, 40, 97, 41], [98])]⟩) rfl ?_
  refine Tr.seq ?_; refine Tr.region ?_; refine TrL.quiets 1 rfl (by exact True.intro) ?_
  refine TrL.callT [0, 1] rfl rfl rfl rfl rfl (c_Else_snoc [] (0, false, false) true false (by decide)) rfl rfl rfl ?_
  refine TrL.quiets 2 rfl (by exact True.intro) ?_
  refine TrL.eqS (st' := ⟨_, pileT [((1 : Int), true, true)] ++ [cBox (false, wIfeq, [36, 40, 97, 41], [98])]⟩) rfl ?_
  refine TrL.callTG [0, 1] rfl rfl rfl rfl rfl (c_Live [((1 : Int), true, true)] (by decide)) rfl rfl rfl rfl ?_
  refine TrL.quiets 3 rfl (by exact True.intro) ?_
  refine TrL.callTG [0, 1] rfl rfl rfl rfl rfl (c_Len [((1 : Int), true, true)]) rfl rfl rfl rfl ?_
  refine TrL.quiets 4 rfl (by exact True.intro) ?_
  refine TrL.known 27 rfl rfl ?_
  refine TrL.want rfl rfl rfl ?_
  refine TrL.callT [0, 1] rfl rfl rfl rfl rfl (c_End [((1 : Int), true, true)] (by decide)) rfl rfl rfl ?_
  refine TrL.quiets 3 rfl (by exact True.intro) ?_
  refine TrL.known 31 rfl rfl ?_
  refine TrL.want rfl rfl rfl ?_
  refine TrL.callT [0, 1] rfl rfl rfl rfl rfl (c_End [] (by decide)) rfl rfl rfl ?_
  refine TrL.quiets 25 rfl (by exact True.intro) ?_; refine TrL.nil ?_; refine Tr.ret ?_
  refine retQ.of rfl ?_
  rfl
end Go.Proofs.YtckgeebihhhapaaDoor.Sx
