/-
  law06: awake.
-/
import Derived.Test.YtgmjkciinnjpbaaDoorV12
import Derived.Test.YtgmjkciinnjpbaaDoorSxX
set_option linter.unusedVariables false
set_option linter.unusedSimpArgs false
set_option maxRecDepth 20000
set_option maxHeartbeats 4000000
namespace Go.Proofs.YtgmjkciinnjpbaaDoor.Sx
open Go Go.RowKit Go.Proofs

def awL : List Fent := [([], true, []), ([[97]], true, []), ([[97], [98]], false, [120])]
theorem aw_is : fsOf [([97, 47, 98], false, [120])] = awL := by decide
theorem aw_ok : FsOk awL := by rw [← aw_is]; exact fsOf_ok _
theorem aw_lim : FsLim awL := by rw [← aw_is]; exact fsOf_lim (by simp)
theorem c_awake : CallV Tryd.prog 8 [] (vB true) := by
  refine CallV.of Tryd.func8 (by kernel_rfl) rfl Tryd.ntmps8 (by simp) rfl fun cx hB => ?_
  refine Tr.seq ?_; refine Tr.region ?_; refine TrL.quiets 1 rfl (by exact True.intro) ?_; refine TrL.nil ?_; refine Tr.seq ?_; refine Tr.region ?_; refine TrL.quiets 1 rfl (by exact True.intro) ?_; refine TrL.eff (effLit_sound rfl) (by exact True.intro) ?_
  refine TrL.weak 7 rfl (fix_weak eTy [(([97, 47, 98] : Str), false, ([120] : Str))]) ?_
  refine TrL.callT [] rfl rfl rfl rfl rfl (c_NewL [([97, 47, 98], false, [120])] (by decide) (by simp)) rfl rfl rfl ?_
  rw [aw_is]
  refine TrL.quiets 1 rfl (by exact True.intro) ?_; refine TrL.nil ?_; refine Tr.seq ?_; refine Tr.seq ?_; refine Tr.region ?_; refine TrL.quiets 2 rfl (by exact True.intro) ?_; refine TrL.nil ?_
  refine Tr.cond rfl (fun h1 => ?_) (fun h1 => ?_)
  · cases h1
  refine Tr.keep [1] 3 (fun i h => by have := hB i h; omega) (st' := ⟨[(1, [], .ptr 2 0)], nfT (dirsOf awL) (filesOf awL)⟩) rfl ?_
  have e1 : lookL awL [97] = (([47, 97], true, []), true) := by decide
  have e2 : lookL awL [47, 97, 47, 46, 47, 98] = (([47, 97, 47, 98], false, [120]), true) := by decide
  have e3 : (listL awL [47]).length = 1 := by
    unfold listL
    rw [if_neg (by decide), (sortS_perm _).length_eq]
    decide
  have e4 : (allL awL).length = 2 := by
    unfold allL
    rw [(sortE_perm _).length_eq]
    decide
  refine Tr.skip ?_; refine Tr.seq ?_; refine Tr.region ?_; refine TrL.quiets 1 rfl (by exact True.intro) ?_
  refine TrL.callT [2, 0, 1] rfl rfl rfl rfl rfl (c_LookL aw_ok [97] (by decide)) rfl rfl rfl ?_
  rw [e1]
  refine TrL.quiets 3 rfl (by exact True.intro) ?_; refine TrL.eff (effBox_sound rfl) (by exact True.intro) ?_; refine TrL.eff (effStore_sound rfl) (by exact True.intro) ?_; refine TrL.quiets 1 rfl (by exact True.intro) ?_; refine TrL.nil ?_
  change Tr _ _ _ _ _ _
  refine Tr.keep [1, 2, 3] 4 (fun i h => by have := hB i h; omega) (st' := ⟨[(1, [], .ptr 2 0), (2, [], .ptr 3 0), (3, [], vB true)], nfT (dirsOf awL) (filesOf awL) ++ [.box 30 [vS [47, 97], vB true, vS []]]⟩) rfl ?_
  refine Tr.seq ?_; refine Tr.region ?_; refine TrL.quiets 1 rfl (by exact True.intro) ?_
  refine TrL.callT [2, 0, 1] rfl rfl rfl rfl rfl (c_LookL aw_ok [47, 97, 47, 46, 47, 98] (by decide)) rfl rfl rfl ?_
  rw [e2]
  refine TrL.quiets 3 rfl (by exact True.intro) ?_; refine TrL.eff (effBox_sound rfl) (by exact True.intro) ?_; refine TrL.eff (effStore_sound rfl) (by exact True.intro) ?_; refine TrL.quiets 1 rfl (by exact True.intro) ?_; refine TrL.nil ?_
  change Tr _ _ _ _ _ _
  refine Tr.keep [1, 2, 3, 4, 5] 5 (fun i h => by have := hB i h; omega) (st' := ⟨[(1, [], .ptr 2 0), (2, [], .ptr 3 0), (3, [], vB true), (4, [], .ptr 4 0), (5, [], vB true)], nfT (dirsOf awL) (filesOf awL) ++ [.box 30 [vS [47, 97], vB true, vS []], .box 30 [vS [47, 97, 47, 98], vB false, vS [120]]]⟩) rfl ?_
  refine Tr.seq ?_; refine Tr.region ?_; refine TrL.quiets 20 rfl (by exact True.intro) ?_
  refine TrL.known 40 rfl rfl ?_
  refine TrL.want rfl rfl rfl ?_
  refine TrL.callT [2, 0, 1] rfl rfl rfl rfl rfl (c_ListL aw_ok aw_lim [47] (by decide)) rfl rfl rfl ?_
  refine TrL.keep [1, 38, 39, 41] 3 (fun i h => by have := hB i h; omega) (st' := ⟨[(1, [], .ptr 2 0), (38, [], vB true), (39, [], vB true), (41, [], vL .str (listL awL [47]))], nfT (dirsOf awL) (filesOf awL)⟩) rfl ?_
  refine TrL.quiets 5 rfl (by exact True.intro) ?_
  refine TrL.is 45 (sv' := vB true) rfl (by rw [e3]; rfl) ?_
  refine TrL.known 46 rfl rfl ?_
  refine TrL.want rfl rfl rfl ?_
  refine TrL.callT [2, 0, 1] rfl rfl rfl rfl rfl (c_AllL aw_ok aw_lim) rfl rfl rfl ?_
  refine TrL.keep [1, 45, 47] 3 (fun i h => by have := hB i h; omega) (st' := ⟨[(1, [], .ptr 2 0), (45, [], vB true), (47, [], vL eTy (allL awL))], nfT (dirsOf awL) (filesOf awL)⟩) rfl ?_
  refine TrL.quiets 4 rfl (by exact True.intro) ?_; refine TrL.nil ?_; refine Tr.ret ?_
  refine retQ.of rfl ?_
  rw [e4]
  rfl
end Go.Proofs.YtgmjkciinnjpbaaDoor.Sx
