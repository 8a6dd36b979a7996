/-
  vfs: All.
-/
import Derived.Test.YtgmjkciinnjpbaaDoorV9
set_option linter.unusedVariables false
set_option linter.unusedSimpArgs false
set_option maxRecDepth 20000
set_option maxHeartbeats 4000000
namespace Go.Proofs.YtgmjkciinnjpbaaDoor.Sx
open Go Go.RowKit Go.Proofs

theorem c_All (D : Dirs) (F : List (Str × Str)) (hD : D.length ≤ 1099511) (hF : F.length ≤ 1099511) (hDk : ∀ p ∈ D, p.1.length ≤ 1099511627) (hFk : ∀ p ∈ F, p.1.length ≤ 1099511627) :
    CallT Tryd.prog 17 [.ptr 0 0] (fsT D F) (vL eTy (allF D F)) (fsT D F) := by
  refine CallT.of Tryd.func17 (by kernel_rfl) rfl Tryd.ntmps17 (by simp) (by simp) fun cx hB => ?_
  have hB5 : ∀ i, cx.B i = true → i < 5 := fun i h => Nat.lt_of_lt_of_le (hB i h) (show 3 ≤ 5 by decide)
  have hB6 : ∀ i, cx.B i = true → i < 6 := fun i h => Nat.lt_of_lt_of_le (hB i h) (show 3 ≤ 6 by decide)
  have hB7 : ∀ i, cx.B i = true → i < 7 := fun i h => Nat.lt_of_lt_of_le (hB i h) (show 3 ≤ 7 by decide)
  refine Tr.seq ?_; refine Tr.region ?_; refine TrL.quiets 1 rfl (by exact True.intro) ?_; refine TrL.nil ?_; refine Tr.seq ?_; refine Tr.region ?_; refine TrL.quiets 1 rfl (by exact True.intro) ?_; refine TrL.nil ?_
  change Tr _ _ _ _ _ _
  refine Tr.nilRowM 3 9 .str rfl ?_
  refine Tr.seq ?_; refine Tr.seq ?_; refine Tr.region ?_; refine TrL.quiets 4 rfl (by exact True.intro) ?_
  refine TrL.rangeM (dm_holds D) rfl rfl rfl u_dirs rfl rfl rfl fun bm es clk vs hes hvs => ?_
  have hk1 : (D.map fun p => (p.1, (Value.map none))).map (·.1) = D.map (·.1) := by rw [List.map_map]; rfl
  rw [hk1]
  refine TrL.nil ?_; refine Tr.block ?_
  refine Tr.loop (fun x : List Str × List Str => ⟨[(0, [], .ptr 0 0), (3, [], .arr 3), (15, [], .ptr 4 0)], [.box 51 [.mp 1, .mp 2], .res (pinR (dmRes D) bm es clk), .res (fmRes F), .ra 9 .str x.1, .res (itE bm es clk x.2)]⟩) (fun x => (x.1 ++ x.2).Perm (D.map (·.1))) (fun x => x.2.length) ([], D.map (·.1)) [0, 3, 15] 5 hB5 rfl (List.Perm.refl _) ?_
  rintro ⟨out, left⟩ hperm
  dsimp only at hperm
  have hol := hperm.length_eq
  simp only [List.length_append, List.length_map] at hol
  refine Tr.seq ?_
  refine Tr.region ?_
  refine TrL.nextM 1 hes rfl rfl rfl rfl rfl rfl rfl (fun hl => ?_) (fun s rest hp => ?_)
  rotate_left
  · have hq : (out ++ [s] ++ rest).Perm (D.map (·.1)) := by
      refine List.Perm.trans ?_ hperm
      rw [List.append_assoc]
      exact (List.Perm.append_left out hp).symm
    have hpl := hp.length_eq
    simp only [List.length_cons] at hpl
    refine TrL.quiets 1 rfl (by exact True.intro) ?_; refine TrL.nil ?_; refine Tr.seq ?_
    refine Tr.cond rfl (fun c1 => ?_) (fun c1 => ?_)
    · refine Tr.skip ?_; refine Tr.block ?_; refine Tr.seq ?_; refine Tr.region ?_
      refine TrL.entryM 1 hes rfl rfl rfl rfl rfl rfl rfl ?_
      refine TrL.quiets 2 rfl (by exact True.intro) ?_; refine TrL.nil ?_; refine Tr.region ?_; refine TrL.quiets 2 rfl (by exact True.intro) ?_; refine TrL.eff (effLit_sound rfl) (by exact True.intro) ?_; refine TrL.eff (effAppend_sound rfl) ?_ ?_
      · show out.length + 1 ≤ 1099511627776
        omega
      refine TrL.quiets 1 rfl (by exact True.intro) ?_; refine TrL.nil ?_
      refine ⟨(out ++ [s], rest), hq, by dsimp only; omega, ?_⟩
      rfl
    · cases c1
  subst hl
  rw [List.append_nil] at hperm
  simp only [List.length_nil, Nat.add_zero] at hol
  refine TrL.quiets 1 rfl (by exact True.intro) ?_; refine TrL.nil ?_; refine Tr.seq ?_
  refine Tr.cond rfl (fun c1 => ?_) (fun c1 => ?_)
  · cases c1
  refine Tr.exit ?_; refine Tr.seq ?_; refine Tr.seq ?_; refine Tr.region ?_; refine TrL.quiets 4 rfl (by exact True.intro) ?_
  refine TrL.weakRes 1 rfl unpin ?_
  refine TrL.rangeM (fm_holds F) rfl rfl rfl u_files rfl rfl rfl fun bm2 es2 clk2 vs2 hes2 hvs2 => ?_
  have hk2 : (fVals F).map (·.1) = F.map (·.1) := by unfold fVals; rw [List.map_map]; rfl
  rw [hk2]
  refine TrL.nil ?_; refine Tr.block ?_
  refine Tr.loop (fun x : List Str × List Str => ⟨[(0, [], .ptr 0 0), (3, [], .arr 3), (28, [], .ptr 5 0)], [.box 51 [.mp 1, .mp 2], .res (dmRes D), .res (pinR (fmRes F) bm2 es2 clk2), .ra 9 .str x.1, .res (itE bm es clk []), .res (itE bm2 es2 clk2 x.2)]⟩) (fun x => (x.1 ++ x.2).Perm (D.map (·.1) ++ F.map (·.1))) (fun x => x.2.length) (out, F.map (·.1)) [0, 3, 28] 6 hB6 rfl (List.Perm.append_right _ hperm) ?_
  rintro ⟨out2, left2⟩ hperm2
  dsimp only at hperm2
  have hol2 := hperm2.length_eq
  simp only [List.length_append, List.length_map] at hol2
  refine Tr.seq ?_
  refine Tr.region ?_
  refine TrL.nextM 2 hes2 rfl rfl rfl rfl rfl rfl rfl (fun hl => ?_) (fun s rest hp => ?_)
  rotate_left
  · have hq : (out2 ++ [s] ++ rest).Perm (D.map (·.1) ++ F.map (·.1)) := by
      refine List.Perm.trans ?_ hperm2
      rw [List.append_assoc]
      exact (List.Perm.append_left out2 hp).symm
    have hpl := hp.length_eq
    simp only [List.length_cons] at hpl
    refine TrL.quiets 1 rfl (by exact True.intro) ?_; refine TrL.nil ?_; refine Tr.seq ?_
    refine Tr.cond rfl (fun c1 => ?_) (fun c1 => ?_)
    · refine Tr.skip ?_; refine Tr.block ?_; refine Tr.seq ?_; refine Tr.region ?_
      refine TrL.entryM 2 hes2 rfl rfl rfl rfl rfl rfl rfl ?_
      refine TrL.quiets 2 rfl (by exact True.intro) ?_; refine TrL.nil ?_; refine Tr.region ?_; refine TrL.quiets 2 rfl (by exact True.intro) ?_; refine TrL.eff (effLit_sound rfl) (by exact True.intro) ?_; refine TrL.eff (effAppend_sound rfl) ?_ ?_
      · show out2.length + 1 ≤ 1099511627776
        omega
      refine TrL.quiets 1 rfl (by exact True.intro) ?_; refine TrL.nil ?_
      refine ⟨(out2 ++ [s], rest), hq, by dsimp only; omega, ?_⟩
      rfl
    · cases c1
  subst hl
  rw [List.append_nil] at hperm2
  simp only [List.length_nil, Nat.add_zero] at hol2
  refine TrL.quiets 1 rfl (by exact True.intro) ?_; refine TrL.nil ?_; refine Tr.seq ?_
  refine Tr.cond rfl (fun c1 => ?_) (fun c1 => ?_)
  · cases c1
  refine Tr.exit ?_; refine Tr.seq ?_; refine Tr.region ?_; refine TrL.quiets 1 rfl (by exact True.intro) ?_
  refine TrL.weakRes 2 rfl unpin ?_
  refine TrL.sortM 3 rfl rfl rfl rfl rfl rfl (by dsimp only; omega) ?_
  refine TrL.nil ?_; refine Tr.seq ?_; refine Tr.region ?_; refine TrL.quiets 1 rfl (by exact True.intro) ?_; refine TrL.nil ?_
  change Tr _ _ _ _ _ _
  refine Tr.freeze 3 rfl ?_
  rw [sortS_of_perm hperm2]
  refine Tr.nilRow 6 30 eTy rfl ?_
  refine Tr.seq ?_; refine Tr.seq ?_; refine Tr.region ?_; refine TrL.quiets 3 rfl (by exact True.intro) ?_; refine TrL.nil ?_; refine Tr.block ?_
  have hK : ∀ k ∈ allK D F, k.length ≤ 1099511627 := by
    intro k hk
    have hk := (sortS_perm _).mem_iff.1 hk
    rcases List.mem_append.1 hk with hk | hk
    · obtain ⟨q, hq, rfl⟩ := List.mem_map.1 hk
      exact hDk q hq
    · obtain ⟨q, hq, rfl⟩ := List.mem_map.1 hk
      exact hFk q hq
  have hKl : (allK D F).length ≤ 2199022 := by
    have := (sortS_perm (D.map (·.1) ++ F.map (·.1))).length_eq
    simp only [List.length_append, List.length_map] at this
    show (sortS _).length ≤ _
    omega
  show Tr _ _ _ _ _ (blockQ _ (thenQ _ _ _ _ (retT _ _ (vL eTy ((allK D F).filterMap (pickF D F))) _)))
  change Tr _ _ _ _ ⟨_, _⟩ _
  refine Tr.loop (fun i : Nat => ⟨[(0, [], .ptr 0 0), (6, [], .own 6), (39, [], vL .str (allK D F)), (40, [], vI (allK D F).length), (41, [], vI i)], fsT D F ++ [.gone, .res (itE bm es clk []), .res (itE bm2 es2 clk2 []), .gs 30 eTy (((allK D F).take i).filterMap (pickF D F))]⟩) (fun i => i ≤ (allK D F).length) (fun i => (allK D F).length - i) 0 [0, 6, 39, 40, 41] 7 hB7 rfl (Nat.zero_le _) fun i hi => ?_
  generalize allK D F = K at hK hKl hi
  refine Tr.seq ?_; refine Tr.region ?_; refine TrL.quiets 1 rfl (by exact True.intro) ?_; refine TrL.nil ?_; refine Tr.seq ?_
  refine Tr.cond rfl (fun c2 => ?_) (fun c2 => ?_)
  · have hi1 : i < K.length := by simpa using c2
    have hnth : nth (t := .str) K (i : Int) = K[i] := nth_get' (t := .str) _ _ hi1
    have hkl : (K[i]).length ≤ 1099511627 := hK _ (List.getElem_mem hi1)
    have hstep : (K.take (i + 1)).filterMap (pickF D F) = (K.take i).filterMap (pickF D F) ++ (match pickF D F K[i] with | some e => [e] | none => []) := by
      rw [List.take_succ_eq_append_getElem hi1, List.filterMap_append, List.filterMap_cons]
      cases pickF D F K[i] <;> rfl
    have hlen1 : ((K.take i).filterMap (pickF D F)).length ≤ 2199022 := by
      have := List.length_filterMap_le (pickF D F) (K.take i)
      rw [List.length_take] at this
      omega
    refine Tr.skip ?_; refine Tr.seq ?_; refine Tr.block ?_; refine Tr.seq ?_; refine Tr.region ?_; refine TrL.quiets 3 rfl (by (simp only [allOf, impO, imp, inR, loOk, and_true]; omega)) ?_
    refine TrL.is 8 (sv' := vS K[i]) rfl (congrArg vS hnth) ?_
    generalize K[i] = k at hkl hstep
    refine TrL.nil ?_; refine Tr.seq ?_; refine Tr.region ?_; refine TrL.quiets 2 rfl (by exact True.intro) ?_
    refine TrL.callT [0, 1, 2] rfl rfl rfl rfl rfl (c_Look D F k hkl) rfl rfl rfl ?_
    refine TrL.quiets 3 rfl (by exact True.intro) ?_; refine TrL.eff (effBox_sound rfl) (by exact True.intro) ?_; refine TrL.eff (effStore_sound rfl) (by exact True.intro) ?_; refine TrL.quiets 1 rfl (by exact True.intro) ?_; refine TrL.nil ?_; refine Tr.seq ?_; refine Tr.region ?_; refine TrL.quiets 5 rfl (by exact True.intro) ?_; refine TrL.nil ?_
    refine Tr.cond rfl (fun c3 => ?_) (fun c3 => ?_)
    · have hp : pickF D F k = some (lookF D F k).1 := by
        unfold pickF
        rw [if_pos (by simpa using c3)]
      refine Tr.region ?_; refine TrL.quiets 2 rfl (by exact True.intro) ?_; refine TrL.eff (effLit_sound rfl) (by exact True.intro) ?_; refine TrL.eff (effAppend_sound rfl) ?_ ?_
      · show ((K.take i).filterMap (pickF D F)).length + 1 ≤ 1099511627776
        omega
      refine TrL.quiets 1 rfl (by exact True.intro) ?_; refine TrL.nil ?_; refine Tr.region ?_; refine TrL.quiets 2 rfl (by exact True.intro) ?_; refine TrL.nil ?_
      refine ⟨i + 1, hi1, by dsimp only; omega, ?_⟩
      rw [hp] at hstep
      refine Eq.trans (b := (⟨[(0, [], .ptr 0 0), (6, [], .own 6), (39, [], vL .str K), (40, [], vI K.length), (41, [], vI (IntKind.i64.wrap ((i : Int) + 1)))], fsT D F ++ [.gone, .res (itE bm es clk []), .res (itE bm2 es2 clk2 []), .gs 30 eTy ((K.take i).filterMap (pickF D F) ++ [(lookF D F k).1])]⟩ : St)) rfl ?_
      dsimp only
      rw [hstep, w64 (by omega) (by omega)]
      rfl
    · have hp : pickF D F k = none := by
        unfold pickF
        rw [if_neg (fun h => by rw [Bool.eq_false_iff] at c3; apply c3; simpa using h)]
      refine Tr.skip ?_; refine Tr.region ?_; refine TrL.quiets 2 rfl (by exact True.intro) ?_; refine TrL.nil ?_
      refine ⟨i + 1, hi1, by dsimp only; omega, ?_⟩
      rw [hp] at hstep
      refine Eq.trans (b := (⟨[(0, [], .ptr 0 0), (6, [], .own 6), (39, [], vL .str K), (40, [], vI K.length), (41, [], vI (IntKind.i64.wrap ((i : Int) + 1)))], fsT D F ++ [.gone, .res (itE bm es clk []), .res (itE bm2 es2 clk2 []), .gs 30 eTy ((K.take i).filterMap (pickF D F))]⟩ : St)) rfl ?_
      dsimp only
      rw [hstep, w64 (by omega) (by omega), List.append_nil]
      rfl
  · have hi1 : i = K.length := by
      have : ¬ (i : Int) < K.length := by simpa using c2
      omega
    subst hi1
    rw [List.take_length]
    refine Tr.exit ?_; refine Tr.seq ?_; refine Tr.region ?_; refine TrL.quiets 2 rfl (by exact True.intro) ?_; refine TrL.nil ?_; refine Tr.ret ?_
    refine retT.of rfl ?_ ?_
    · rfl
    · rfl
end Go.Proofs.YtgmjkciinnjpbaaDoor.Sx
