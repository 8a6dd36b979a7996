/-
  law18: awake, name.
-/
import Derived.Test.YtcclfjddakonoaaGreatDoorT10
set_option linter.unusedVariables false
set_option linter.unusedSimpArgs false
set_option maxRecDepth 20000
set_option maxHeartbeats 4000000
namespace Go.Proofs.YtcclfjddakonoaaGreatDoor.Sx
open Go Go.RowKit Go.Proofs

theorem nils_list {σ : Mem} {ρ : Rho} {t : Ty} {v : Value} (h : SV.den σ ρ .nils v) : SV.den σ ρ (vL t []) v := by
  simp only [SV.den] at h ⊢
  subst h
  rw [Den]
  exact ⟨none, 0, 0, rfl, rfl, Nat.le_refl _, Nat.zero_le _, fun h => absurd h (by decide)⟩
theorem CallV.nils2 {P : Program} {f : Nat} {a r : SV} {t : Ty} (h : CallV P f [a, vL t []] r) : CallV P f [a, .nils] r := by
  refine ⟨h.1, fun cx σ ρ w vs hw hd => h.2 cx σ ρ w vs hw ?_⟩
  simp only [SV.denL] at hd ⊢
  obtain ⟨v1, r1, rfl, h1, v2, r2, rfl, h2, rfl⟩ := hd
  exact ⟨v1, _, rfl, h1, v2, _, rfl, nils_list h2, rfl⟩
theorem aw18_a : doF kSubst [[97], [98], [98, 97, 110, 97, 110, 97]] = ([98, 98, 110, 98, 110, 98], true) := by kernel_rfl
theorem aw18_b : doF [104, 111, 112] [] = ([], false) := by kernel_rfl
theorem c_awake18 : CallV Tryz.prog 8 [] (vB true) := by
  have h1 := c_Do kSubst [[97], [98], [98, 97, 110, 97, 110, 97]] (by decide) (by decide)
  have h2 := CallV.nils2 (c_Do [104, 111, 112] [] (by decide) (by decide))
  unfold DoIs at h1
  rw [aw18_a] at h1
  rw [aw18_b] at h2
  refine CallV.of Tryz.func8 (by kernel_rfl) rfl Tryz.ntmps8 (by simp) rfl fun cx hB => ?_
  refine Tr.seq ?_; refine Tr.region ?_; refine TrL.quiets 1 rfl (by exact True.intro) ?_; refine TrL.nil ?_; refine Tr.seq ?_; refine Tr.region ?_; refine TrL.eff (effLit_sound rfl) (by exact True.intro) ?_
  refine TrL.weak 6 rfl (fix_weak .str [[97], [98], [98, 97, 110, 97, 110, 97]]) ?_
  first | refine TrL.callV rfl rfl rfl rfl rfl h1 ?_ | refine TrD.callV rfl rfl rfl rfl rfl h1 rfl ?_
  refine TrL.quiets 5 rfl (by exact True.intro) ?_; refine TrL.nil ?_; refine Tr.seq ?_; refine Tr.region ?_
  first | refine TrL.callV rfl rfl rfl rfl rfl h2 ?_ | refine TrD.callV rfl rfl rfl rfl rfl h2 rfl ?_
  refine TrL.quiets 5 rfl (by exact True.intro) ?_; refine TrL.nil ?_; refine Tr.seq ?_; refine Tr.region ?_; refine TrL.quiets 10 rfl (by exact True.intro) ?_; refine TrL.nil ?_; refine Tr.ret ?_
  refine retQ.of rfl ?_
  rfl
end Go.Proofs.YtcclfjddakonoaaGreatDoor.Sx
