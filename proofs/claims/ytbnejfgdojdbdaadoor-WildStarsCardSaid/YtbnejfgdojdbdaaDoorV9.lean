/-
  vfs: Look, List.
-/
import Derived.Test.YtbnejfgdojdbdaaDoorV3
import Derived.Test.YtbnejfgdojdbdaaDoorV10
set_option linter.unusedVariables false
set_option linter.unusedSimpArgs false
set_option maxRecDepth 20000
set_option maxHeartbeats 4000000
namespace Go.Proofs.YtbnejfgdojdbdaaDoor.Sx
open Go Go.RowKit Go.Proofs

abbrev eTy : Ty := .st (.prod .str (.prod .bool .str))
abbrev entS (e : EntD) : SV := .agg [vS e.1, vB e.2.1, vS e.2.2]
theorem look_cond (x : Str) (a b : Bool) : (x == ({ data := #[] } : ByteArray).data.toList || !a && !b) = decide (x = [] ∨ a = false ∧ b = false) := by
  rw [Bool.eq_iff_iff]
  cases a <;> cases b <;> simp
theorem c_Look (D : Dirs) (F : List (Str × Str)) (p : Str) (hp : p.length ≤ 1099511627) : CallT Tryd.prog 20 [.ptr 0 0, vS p] (fsT D F) (.tup [entS (lookF D F p).1, vB (lookF D F p).2]) (fsT D F) := by
  refine CallT.of Tryd.func20 (by kernel_rfl) rfl Tryd.ntmps20 (by simp) (by simp) fun cx hB => ?_
  refine Tr.seq ?_; refine Tr.region ?_; refine TrL.eff (effBox_sound rfl) (by exact True.intro) ?_; refine TrL.quiets 1 rfl (by exact True.intro) ?_; refine TrL.nil ?_; refine Tr.seq ?_; refine Tr.region ?_; refine TrL.quiets 1 rfl (by exact True.intro) ?_
  first | refine TrL.callV rfl rfl rfl rfl rfl (c_path_Abs p hp) ?_ | refine TrD.callV rfl rfl rfl rfl rfl (c_path_Abs p hp) rfl ?_
  refine TrL.quiets 1 rfl (by exact True.intro) ?_; refine TrL.nil ?_; refine Tr.seq ?_; refine Tr.region ?_; refine TrL.quiets 2 rfl (by exact True.intro) ?_
  refine TrL.callT [0, 1, 2] rfl rfl rfl rfl rfl (c_is D F (absP p)) rfl rfl rfl ?_
  refine TrL.quiets 5 rfl (by exact True.intro) ?_; refine TrL.nil ?_; refine Tr.seq ?_; refine Tr.seq ?_; refine Tr.region ?_; refine TrL.quiets 10 rfl (by exact True.intro) ?_; refine TrL.nil ?_
  refine Tr.cond rfl (fun c1 => ?_) (fun c1 => ?_)
  · refine Tr.seq ?_; refine Tr.region ?_; refine TrL.quiets 1 rfl (by exact True.intro) ?_; refine TrL.eff (effStore_sound rfl) (by exact True.intro) ?_; refine TrL.quiets 1 rfl (by exact True.intro) ?_; refine TrL.nil ?_; refine Tr.ret ?_
    refine retT.of rfl ?_ ?_
    · have hl : lookF D F p = (([], false, []), false) := by
        unfold lookF
        rw [look_cond, decide_eq_true_eq] at c1
        rw [if_pos c1]
      rw [hl]
      rfl
    · rfl
  · refine Tr.skip ?_; refine Tr.seq ?_; refine Tr.region ?_; refine TrL.quiets 7 rfl (by exact True.intro) ?_
    refine TrL.eff (fmLook_sound z_str rfl rfl rfl u_files u_str rfl rfl rfl rfl) True.intro ?_
    refine TrL.quiets 1 rfl (by exact True.intro) ?_; refine TrL.eff (effStore_sound rfl) (by exact True.intro) ?_; refine TrL.quiets 1 rfl (by exact True.intro) ?_; refine TrL.nil ?_; refine Tr.ret ?_
    refine retT.of rfl ?_ ?_
    · have hl : lookF D F p = ((absP p, (dIdx D (absP p)).isSome, (fGet F (absP p)).getD []), true) := by
        unfold lookF
        rw [look_cond, decide_eq_false_iff_not] at c1
        rw [if_neg c1]
      rw [hl]
      rfl
    · rfl
theorem kidsAt_of {D : Dirs} {k : Str} {m : Nat} {q : Str × List Str} (h1 : dIdx D k = some m) (h2 : D[m]? = some q) : kidsAt D k = q.2 := by
  unfold kidsAt
  rw [h1]
  show (D.getD m ([], [])).2 = _
  rw [List.getD_eq_getElem?_getD, h2]
  rfl
def listI (D : Dirs) (k : Str) : Option (Nat × Array MapEntry × Nat) → Prop
  | none => dIdx D k = none
  | some (_, es, clk) => EsOk es clk (setVals (kidsAt D k))
def listS (D : Dirs) (F : List (Str × Str)) (l : List Str) : Option (Nat × Array MapEntry × Nat) → St
  | none => ⟨[(5, [], .arr 3), (14, [], .ptr 4 0)], fsT D F ++ [.ra 9 .str [], .res itN]⟩
  | some (bm, es, clk) => ⟨[(5, [], .arr 3), (14, [], .ptr 4 0)], [.box 40 [.mp 1, .mp 2], .res (pinR (dmRes D) bm es clk), .res (fmRes F), .ra 9 .str [], .res (itE bm es clk ((setVals l).map (·.1)))]⟩
theorem c_List (D : Dirs) (F : List (Str × Str)) (p : Str) (hp : p.length ≤ 1099511627) (hk : (kidsAt D (absP p)).length ≤ 1099511627) : CallT Tryd.prog 25 [.ptr 0 0, vS p] (fsT D F) (vL .str (sortS (kidsAt D (absP p)))) (fsT D F) := by
  refine CallT.of Tryd.func25 (by kernel_rfl) rfl Tryd.ntmps25 (by simp) (by simp) fun cx hB => ?_
  refine Tr.seq ?_; refine Tr.region ?_; refine TrL.quiets 1 rfl (by exact True.intro) ?_; refine TrL.nil ?_; refine Tr.seq ?_; refine Tr.region ?_; refine TrL.quiets 1 rfl (by exact True.intro) ?_; refine TrL.nil ?_
  change Tr _ _ _ _ _ _
  refine Tr.nilRowM 5 9 .str rfl ?_
  have hB5 : ∀ i, cx.B i = true → i < 5 := fun i h => Nat.lt_of_lt_of_le (hB i h) (show 3 ≤ 5 by decide)
  refine Tr.seq ?_
  refine Tr.join (α := Option (Nat × Array MapEntry × Nat)) (listS D F (kidsAt D (absP p))) (listI D (absP p)) [5, 14] 5 hB5 ?_ ?_
  · refine Tr.drawA 8 rfl (by kernel_rfl) ?_
    refine TrA.take 0 rfl rfl (by kernel_rfl) rfl (by exact True.intro) ?_; refine TrA.take 1 rfl rfl (by kernel_rfl) rfl (by exact True.intro) ?_; refine TrA.take 2 rfl rfl (by kernel_rfl) rfl (by exact True.intro) ?_; refine TrA.take 4 rfl rfl (by kernel_rfl) rfl (by exact True.intro) ?_; refine TrA.two 3 5 (by kernel_rfl) rfl rfl ?_ ?_
    · refine TrL.quiets 1 rfl (by exact True.intro) ?_; refine TrL.nil ?_; refine TrA.one 5 (by kernel_rfl) rfl ?_
      first | refine TrL.callV rfl rfl rfl rfl rfl (c_path_Abs p hp) ?_ | refine TrD.callV rfl rfl rfl rfl rfl (c_path_Abs p hp) rfl ?_
      refine TrL.nil ?_; refine TrA.one 6 (by kernel_rfl) rfl ?_
      refine TrL.dmGet z_dir rfl rfl rfl u_dirs u_str rfl rfl rfl rfl (fun h => ?_) (fun m q bm es clk h1 h2 h3 => ?_)
      · refine TrL.nil ?_; refine TrA.one 7 (by kernel_rfl) rfl ?_
        refine TrL.rangeN rfl rfl rfl u_names rfl rfl ?_
        refine TrL.nil ?_; refine TrA.done (by kernel_rfl) ?_
        exact ⟨none, h, rfl⟩
      · refine TrL.nil ?_; refine TrA.one 7 (by kernel_rfl) rfl ?_
        have hq := kidsAt_of h1 h2
        refine TrL.rangeP (i := 1) (R := dmRes D) h3 rfl rfl rfl u_names rfl rfl rfl ?_
        refine TrL.nil ?_; refine TrA.done (by kernel_rfl) ?_
        exact ⟨some (bm, es, clk), by rw [← hq] at h3; exact h3, by rw [hq]; rfl⟩
    · first | refine TrL.callV rfl rfl rfl rfl rfl (c_path_Abs p hp) ?_ | refine TrD.callV rfl rfl rfl rfl rfl (c_path_Abs p hp) rfl ?_
      refine TrL.nil ?_; refine TrA.one 3 (by kernel_rfl) rfl ?_; refine TrL.quiets 1 rfl (by exact True.intro) ?_; refine TrL.nil ?_; refine TrA.one 6 (by kernel_rfl) rfl ?_
      refine TrL.dmGet z_dir rfl rfl rfl u_dirs u_str rfl rfl rfl rfl (fun h => ?_) (fun m q bm es clk h1 h2 h3 => ?_)
      · refine TrL.nil ?_; refine TrA.one 7 (by kernel_rfl) rfl ?_
        refine TrL.rangeN rfl rfl rfl u_names rfl rfl ?_
        refine TrL.nil ?_; refine TrA.done (by kernel_rfl) ?_
        exact ⟨none, h, rfl⟩
      · refine TrL.nil ?_; refine TrA.one 7 (by kernel_rfl) rfl ?_
        have hq := kidsAt_of h1 h2
        refine TrL.rangeP (i := 1) (R := dmRes D) h3 rfl rfl rfl u_names rfl rfl rfl ?_
        refine TrL.nil ?_; refine TrA.done (by kernel_rfl) ?_
        exact ⟨some (bm, es, clk), by rw [← hq] at h3; exact h3, by rw [hq]; rfl⟩
  rintro (_ | ⟨bm, es, clk⟩) hI
  · have hk0 : kidsAt D (absP p) = [] := by
      have h : dIdx D (absP p) = none := hI
      unfold kidsAt
      rw [h]
    rw [hk0]
    refine Tr.block ?_
    refine Tr.loop (fun _ : Unit => ⟨[(5, [], .arr 3), (14, [], .ptr 4 0)], fsT D F ++ [.ra 9 .str [], .res itN]⟩) (fun _ => True) (fun _ => 0) () [5, 14] 5 hB5 rfl trivial fun _ _ => ?_
    refine Tr.seq ?_
    refine Tr.region ?_
    refine TrL.nextN rfl rfl rfl rfl rfl rfl ?_
    refine TrL.quiets 1 rfl (by exact True.intro) ?_; refine TrL.nil ?_; refine Tr.seq ?_
    refine Tr.cond rfl (fun c1 => ?_) (fun c1 => ?_)
    · cases c1
    · refine Tr.exit ?_; refine Tr.seq ?_; refine Tr.region ?_; refine TrL.quiets 1 rfl (by exact True.intro) ?_
      refine TrL.sortM 3 rfl rfl rfl rfl rfl rfl (by decide) ?_
      refine TrL.nil ?_; refine Tr.seq ?_; refine Tr.region ?_; refine TrL.quiets 2 rfl (by exact True.intro) ?_; refine TrL.nil ?_
      change Tr _ _ _ _ _ _
      refine Tr.freeze 3 rfl ?_
      refine Tr.ret ?_
      refine retT.of rfl ?_ ?_
      · rfl
      · rfl
  · have hes : EsOk es clk (setVals (kidsAt D (absP p))) := hI
    generalize kidsAt D (absP p) = K at hes hk
    have hsv : (setVals K).map (·.1) = K := by unfold setVals; rw [List.map_map]; exact List.map_id _
    refine Tr.block ?_
    refine Tr.loop (fun x : List Str × List Str => ⟨[(5, [], .arr 3), (14, [], .ptr 4 0)], [.box 40 [.mp 1, .mp 2], .res (pinR (dmRes D) bm es clk), .res (fmRes F), .ra 9 .str x.1, .res (itE bm es clk x.2)]⟩) (fun x => (x.1 ++ x.2).Perm K) (fun x => x.2.length) ([], K) [5, 14] 5 hB5 ?_ (List.Perm.refl _) ?_
    · show keep _ _ (listS D F K (some (bm, es, clk))) = _
      unfold listS
      rw [hsv]
      rfl
    rintro ⟨out, left⟩ hperm
    dsimp only at hperm
    refine Tr.seq ?_
    refine Tr.region ?_
    refine TrL.nextM 1 hes rfl rfl rfl rfl rfl rfl rfl (fun hl => ?_) (fun s rest hp => ?_)
    · refine TrL.quiets 1 rfl (by exact True.intro) ?_; refine TrL.nil ?_; refine Tr.seq ?_
      refine Tr.cond rfl (fun c1 => ?_) (fun c1 => ?_)
      · cases c1
      · subst hl
        rw [List.append_nil] at hperm
        have hol := hperm.length_eq
        refine Tr.exit ?_; refine Tr.seq ?_; refine Tr.region ?_; refine TrL.quiets 1 rfl (by exact True.intro) ?_
        refine TrL.sortM 3 rfl rfl rfl rfl rfl rfl (by dsimp only; omega) ?_
        refine TrL.nil ?_; refine Tr.seq ?_; refine Tr.region ?_; refine TrL.quiets 2 rfl (by exact True.intro) ?_; refine TrL.nil ?_
        change Tr _ _ _ _ _ _
        refine Tr.freeze 3 rfl ?_
        refine Tr.weakRes 1 rfl unpin ?_
        rw [← sortS_of_perm hperm]
        refine Tr.ret ?_
        refine retT.of rfl ?_ ?_
        · rfl
        · rfl
    · have hq : (out ++ [s] ++ rest).Perm K := by
        refine List.Perm.trans ?_ hperm
        rw [List.append_assoc]
        exact (List.Perm.append_left out hp).symm
      have hol := hq.length_eq
      simp only [List.length_append, List.length_singleton] at hol
      have hpl := hp.length_eq
      simp only [List.length_cons] at hpl
      refine TrL.quiets 1 rfl (by exact True.intro) ?_; refine TrL.nil ?_; refine Tr.seq ?_
      refine Tr.cond rfl (fun c1 => ?_) (fun c1 => ?_)
      · refine Tr.skip ?_; refine Tr.block ?_; refine Tr.seq ?_; refine Tr.region ?_
        refine TrL.entryM 1 hes rfl rfl rfl rfl rfl rfl rfl ?_
        refine TrL.quiets 2 rfl (by exact True.intro) ?_; refine TrL.nil ?_; refine Tr.region ?_; refine TrL.quiets 2 rfl (by exact True.intro) ?_; refine TrL.eff (effLit_sound rfl) (by exact True.intro) ?_; refine TrL.eff (effAppend_sound rfl) ?_ ?_
        · show out.length + 1 ≤ 1099511627776
          omega
        refine TrL.quiets 1 rfl (by exact True.intro) ?_; refine TrL.nil ?_
        refine ⟨(out ++ [s], rest), hq, by dsimp only; omega, ?_⟩
        rfl
      · cases c1
end Go.Proofs.YtbnejfgdojdbdaaDoor.Sx
