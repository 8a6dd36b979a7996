/-
  vfs: way, where directories are made.
-/
import Derived.Test.YtbnejfgdojdbdaaDoorV4
set_option linter.unusedVariables false
set_option linter.unusedSimpArgs false
set_option maxRecDepth 20000
set_option maxHeartbeats 4000000
namespace Go.Proofs.YtbnejfgdojdbdaaDoor.Sx
open Go Go.RowKit Go.Proofs

theorem wayR_length (D : Dirs) (F : List (Str × Str)) : ∀ (l todo : List Str), wayR D F l = some todo → todo.length ≤ l.length
  | [], todo, h => by obtain rfl := Option.some.inj h; simp
  | x :: r, todo, h => by
    rw [wayR] at h
    split at h
    · cases h
    · split at h
      · obtain rfl := Option.some.inj h; simp
      · obtain ⟨t, ht, rfl⟩ := Option.map_eq_some_iff.1 h
        have := wayR_length D F r t ht
        simp; omega
abbrev wayX (D : Dirs) (F : List (Str × Str)) (todo l : List Str) : List Ent := wayT D F todo ++ [.box 29 [vL .str l]]
theorem c_way_true (D : Dirs) (F : List (Str × Str)) (l todo : List Str) (hl : okL l) (hlen : (absT l).length ≤ 1099511627) (hl0 : l ≠ []) (hroot : (dIdx D [47]).isSome = true) (hw : wayR D F l.reverse = some todo) (hll : l.length ≤ 1099511627)
    (hok : okDirs D todo.reverse) (hlong : ∀ d ∈ todo, d.length ≤ 1099511627) :
    CallT Tryd.prog 13 [.ptr 0 0, vS (absT l)] (fsT D F) (vB true) (fsT (mkDirs D todo.reverse) F) := by
  have htl := wayR_length D F _ _ hw
  rw [List.length_reverse] at htl
  refine CallT.ofRange Tryd.func13 (by kernel_rfl) rfl Tryd.ntmps13 (by simp) (by simp) fun cx R hB hds hR => ?_
  have hB3 : ∀ i, cx.B i = true → i < 3 := fun i h => isBoxAt_lt ((hB i).symm.trans h)
  have hB5 : ∀ i, cx.B i = true → i < 5 := fun i h => by have := hB3 i h; omega
  refine RW.seq ?_
  refine Tr.region ?_; refine TrL.eff (effBox_sound rfl) (by exact True.intro) ?_; refine TrL.quiets 1 rfl (by exact True.intro) ?_; refine TrL.nil ?_
  refine ⟨rfl, RW.seq ?_⟩
  refine Tr.region ?_; refine TrL.quiets 1 rfl (by exact True.intro) ?_; refine TrL.nil ?_
  refine ⟨rfl, RW.seq ?_⟩
  refine Tr.nilRow 5 9 .str rfl ?_
  refine Tr.block ?_
  refine Tr.loop (wayS D F) (fun x => x.1 ≠ [] ∧ okL x.1 ∧ x.1.length + x.2.length = l.length ∧ (absT x.1).length ≤ 1099511627 ∧ ∃ t, wayR D F x.1.reverse = some t ∧ todo = x.2 ++ t) (fun x => x.1.length) (l, []) [1, 2, 5] 5 hB5 rfl ⟨hl0, hl, by simp, hlen, _, hw, rfl⟩ fun x hx => ?_
  obtain ⟨ns, td⟩ := x
  obtain ⟨h1, h2, h3, h4, t, h5, h6⟩ := hx
  dsimp only at h1 h2 h3 h4 h5 h6
  obtain ⟨ms, x, rfl⟩ := snoc_of h1
  have k1 : okL ms := fun z hz => h2 z (by simp [hz])
  have k2 : okN x := h2 x (by simp)
  have k3 := absT_le ms x
  rw [wayR_snoc] at h5
  simp only [List.length_append, List.length_singleton] at h3
  refine Tr.block ?_; refine Tr.seq ?_; refine Tr.region ?_; refine TrL.quiets 1 rfl (by exact True.intro) ?_
  first | refine TrL.callV rfl rfl rfl rfl rfl (c_upA ms x k1 k2 h4) ?_ | refine TrD.callV rfl rfl rfl rfl rfl (c_upA ms x k1 k2 h4) rfl ?_
  refine TrL.quiets 4 rfl (by exact True.intro) ?_; refine TrL.nil ?_; refine Tr.seq ?_; refine Tr.region ?_; refine TrL.quiets 2 rfl (by exact True.intro) ?_
  refine TrL.callT [0, 1, 2] rfl rfl rfl rfl rfl (c_is D F (absT ms)) rfl rfl rfl ?_
  refine TrL.quiets 5 rfl (by exact True.intro) ?_; refine TrL.nil ?_; refine Tr.seq ?_; refine Tr.seq ?_; refine Tr.region ?_; refine TrL.quiets 1 rfl (by exact True.intro) ?_; refine TrL.nil ?_
  refine Tr.cond rfl (fun g1 => ?_) (fun g1 => ?_)
  · have g1' : (fGet F (absT ms)).isSome = true := g1
    rw [g1', if_pos rfl] at h5
    cases h5
  · have g1' : (fGet F (absT ms)).isSome = false := g1
    rw [g1', if_neg (by decide)] at h5
    refine Tr.skip ?_; refine Tr.seq ?_; refine Tr.seq ?_; refine Tr.region ?_; refine TrL.quiets 1 rfl (by exact True.intro) ?_; refine TrL.nil ?_
    refine Tr.cond rfl (fun g2 => ?_) (fun g2 => ?_)
    · have g2' : (dIdx D (absT ms)).isSome = true := g2
      rw [g2', if_pos rfl] at h5
      obtain rfl := Option.some.inj h5
      rw [List.append_nil] at h6
      subst h6
      refine Tr.exit ?_
      refine ⟨rfl, RW.seqR (RW.seq ?_)⟩
      refine Tr.region ?_; refine TrL.quiets 1 rfl (by exact True.intro) ?_
      refine TrL.callT [] rfl rfl rfl rfl rfl (c_Backward todo) rfl rfl rfl ?_
      refine TrL.nil ?_
      refine ⟨rfl, ?_⟩
      refine RW.keep [2, 28] 6 (fun i hi => by have := hB3 i hi; omega) (st' := ⟨[(2, [], .ptr 3 0), (28, [], .fn 51 [] [.ptr 5 0])], wayX D F todo todo⟩) rfl ?_
      refine RW.rangeT (X := Nat) (L' := fsT (mkDirs D todo.reverse) F) (fun i => i < todo.length) (fun i => vI ((todo.length : Int) - 1 - i)) (fun i => vS (todo.reverse.getD i [])) (fun i => wayX (mkDirs D (todo.reverse.take i)) F todo todo) (fun i => wayX (mkDirs D (todo.reverse.take (i + 1))) F todo todo) (wayX (mkDirs D todo.reverse) F todo todo)
        (fun i hi => by have h3 := hB3 i hi; rw [hB i] at hi; revert hi; match i, h3 with | 0, _ => exact fun _ => rfl | 1, _ => exact fun h => h | 2, _ => exact fun h => h) hB3 hds hR rfl Tryd.func51 (by kernel_rfl) rfl Tryd.ntmps51 rfl (by simp) rfl ?_ ?_ ?_
      · intro cx1 l1 hB1 hY
        have hB6 : ∀ i, cx1.B i = true → i < 6 := fun i hi => isBoxAt_lt ((hB1 i).symm.trans hi)
        refine Tr.seq ?_; refine Tr.region ?_; refine TrL.quiets 4 rfl (by exact True.intro) ?_; refine TrL.nil ?_; refine Tr.block ?_
        refine Tr.loop (fun i : Nat => ⟨[(0, [], .yv l1), (1, [], .ptr 5 0), (3, [], vI ((todo.length : Int) - 1 - i))], wayX (mkDirs D (todo.reverse.take i)) F todo todo⟩) (fun i => i ≤ todo.length) (fun i => todo.length - i) 0 [0, 1, 3] 6 hB6 ?_ (Nat.zero_le _) fun i hi => ?_
        · refine Eq.trans (b := (⟨[(0, [], .yv l1), (1, [], .ptr 5 0), (3, [], vI (IntKind.i64.wrap ((todo.length : Int) - 1)))], wayX D F todo todo⟩ : St)) rfl ?_
          rw [w64 (by omega) (by omega), show ((todo.length : Int) - 1 - ((0 : Nat) : Int)) = (todo.length : Int) - 1 by omega]
          rfl
        refine Tr.seq ?_; refine Tr.seq ?_; refine Tr.region ?_; refine TrL.quiets 2 rfl (by exact True.intro) ?_; refine TrL.nil ?_
        refine Tr.cond rfl (fun c1 => ?_) (fun c1 => ?_)
        · have hi1 : i < todo.length := by
            have : (todo.length : Int) - 1 - i ≥ 0 := by simpa using c1
            omega
          have hnth : nth (t := .str) todo ((todo.length : Int) - 1 - i) = todo.reverse.getD i [] := by
            have e1 : ((todo.length : Int) - 1 - i) = ((todo.length - 1 - i : Nat) : Int) := by omega
            rw [e1, nth_get' (t := .str) todo _ (by omega), List.getD_eq_getElem?_getD, List.getElem?_eq_getElem (by rw [List.length_reverse]; exact hi1), List.getElem_reverse]
            rfl
          refine Tr.skip ?_; refine Tr.seq ?_; refine Tr.block ?_; refine Tr.seq ?_
          refine Tr.regionI (TrLI.of 6 rfl ?_)
          refine TrL.quiets 6 rfl (by (simp only [allOf, impO, imp, inR, loOk, and_true]; omega)) ?_
          refine TrL.is 16 (sv' := vS (todo.reverse.getD i [])) rfl (congrArg vS hnth) ?_
          refine TrL.nil ?_
          refine ⟨rfl, ?_⟩
          refine TrLI.yield (isBoxAt (wayX D F todo todo)) (fun i hi => (hB1 i).trans hi) rfl rfl rfl rfl rfl rfl rfl (hY i hi1) ?_
          refine TrLI.all rfl ?_
          refine TrL.quiets 1 rfl (by exact True.intro) ?_; refine TrL.nil ?_
          refine ⟨rfl, ?_⟩
          change Tr _ _ _ _ _ _
          refine Tr.cond rfl (fun c3 => ?_) (fun c3 => ?_)
          · cases c3
          refine Tr.skip ?_; refine Tr.region ?_; refine TrL.quiets 3 rfl (by exact True.intro) ?_; refine TrL.nil ?_
          refine ⟨i + 1, hi1, by dsimp only; omega, ?_⟩
          refine Eq.trans (b := (⟨[(0, [], .yv l1), (1, [], .ptr 5 0), (3, [], vI (IntKind.i64.wrap ((todo.length : Int) - 1 - i - 1)))], wayX (mkDirs D (todo.reverse.take (i + 1))) F todo todo⟩ : St)) rfl ?_
          dsimp only
          rw [w64 (by omega) (by omega), show ((todo.length : Int) - 1 - ((i + 1 : Nat) : Int)) = (todo.length : Int) - 1 - i - 1 by omega]
        · have hi1 : i = todo.length := by
            have : ¬ ((todo.length : Int) - 1 - i ≥ 0) := by simpa using c1
            omega
          subst hi1
          refine Tr.exit ?_
          refine ⟨.inl rfl, ?_⟩
          rw [show todo.reverse.take todo.length = todo.reverse by rw [← List.length_reverse, List.take_length]]
          rfl
      · intro i hi cx2 l2 hB2 hd2
        have hir : i < todo.reverse.length := by rw [List.length_reverse]; exact hi
        obtain ⟨m, q1, q2, q3⟩ := okDirs_at todo.reverse D i hir hok
        have q4 : todo.reverse.getD i [] = todo.reverse[i] := by rw [List.getD_eq_getElem?_getD, List.getElem?_eq_getElem hir]; rfl
        rw [q3, q4]
        have q5 : (todo.reverse[i]).length ≤ 1099511627 := hlong _ (List.mem_reverse.1 (List.getElem_mem hir))
        refine TrI.region (TrLI.all rfl ?_)
        refine TrL.quiets 1 rfl (by exact True.intro) ?_; refine TrL.nil ?_
        refine ⟨rfl, rfl, fun cx3 hB3 hd3 => TrI.block (TrI.region (TrLI.all rfl ?_))⟩
        refine TrL.quiets 3 rfl (by exact True.intro) ?_
        refine TrL.callT [0, 1, 2] rfl rfl rfl rfl rfl (c_put (mkDirs D (todo.reverse.take i)) F todo.reverse[i] [] [] true m q5 q1 (fun _ => q2)) rfl rfl rfl ?_
        refine TrL.nil ?_
        exact ⟨rfl, rfl, rfl, rfl⟩
      · intro cx4 hB4
        refine Tr.seq ?_; refine Tr.region ?_; refine TrL.quiets 1 rfl (by exact True.intro) ?_; refine TrL.nil ?_; refine Tr.ret ?_
        refine retT.of rfl ?_ ?_
        · rfl
        · rfl
    · have g2' : (dIdx D (absT ms)).isSome = false := g2
      rw [g2', if_neg (by decide)] at h5
      obtain ⟨t', h7, rfl⟩ := Option.map_eq_some_iff.1 h5
      have k4 : ms ≠ [] := by
        rintro rfl
        rw [show absT [] = [47] from rfl, hroot] at g2'
        cases g2'
      refine Tr.skip ?_; refine Tr.region ?_; refine TrL.quiets 2 rfl (by exact True.intro) ?_; refine TrL.eff (effLit_sound rfl) (by exact True.intro) ?_; refine TrL.eff (effAppend_sound rfl) ?_ ?_
      · show td.length + 1 ≤ 1099511627776
        omega
      refine TrL.quiets 1 rfl (by exact True.intro) ?_; refine TrL.nil ?_
      refine ⟨(ms, td ++ [absT ms]), ⟨k4, k1, by simp only [List.length_append, List.length_singleton]; omega, by dsimp only; omega, t', h7, by rw [h6]; simp⟩, by simp, ?_⟩
      rfl
end Go.Proofs.YtbnejfgdojdbdaaDoor.Sx
