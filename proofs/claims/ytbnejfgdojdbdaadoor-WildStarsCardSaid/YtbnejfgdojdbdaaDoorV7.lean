/-
  vfs.New.
-/
import Derived.Test.YtbnejfgdojdbdaaDoorV5
import Derived.Test.YtbnejfgdojdbdaaDoorV6
set_option linter.unusedVariables false
set_option linter.unusedSimpArgs false
set_option maxRecDepth 20000
set_option maxHeartbeats 4000000
namespace Go.Proofs.YtbnejfgdojdbdaaDoor.Sx
open Go Go.RowKit Go.Proofs

theorem pre_short : ∀ (r : List Str) (B : Nat), (absT r.reverse).length ≤ B → ∀ q ∈ allPre r, (absT q).length ≤ B
  | [], B, _, q, hq => by cases hq
  | x :: r, B, h, q, hq => by
    rw [allPre, List.mem_append, List.mem_singleton] at hq
    rcases hq with hq | rfl
    · have := absT_le r.reverse x
      rw [List.reverse_cons] at h
      exact pre_short r B (by omega) q hq
    · exact h
theorem putF_text (D : Dirs) (F : List (Str × Str)) (p t : Str) (b : Bool) (m : Nat) : putF D F p b t m = putF D F p b (if b then [] else t) m := by
  unfold putF
  cases b <;> simp
theorem absP_ne {s : Str} (h : s ≠ []) : absP s = absT (absL s) := by unfold absP; rw [if_neg h]
/-- One more, as the two maps have it. -/
theorem fs_step {L : List Fent} (h : FsOk L) (e : EntD) (he : e.1 ≠ []) (hno : hasP L (absL e.1) = false) :
    absL e.1 ≠ [] ∧
    ((preOf (absL e.1)).any (isF L) = true → wayR (dirsOf L) (filesOf L) (absL e.1).reverse = none ∧ stepL L e = L) ∧
    ((preOf (absL e.1)).any (isF L) = false → ∃ qs : List (List Str), wayR (dirsOf L) (filesOf L) (absL e.1).reverse = some (qs.reverse.map absT) ∧ okDirs (dirsOf L) (qs.map absT) ∧ (∀ q ∈ qs, q ∈ preOf (absL e.1)) ∧
      ∃ m, dIdx (mkDirs (dirsOf L) (qs.map absT)) (upF (absT (absL e.1))).1 = some m ∧ dIdx (mkDirs (dirsOf L) (qs.map absT)) (absT (absL e.1)) = none ∧
      putF (mkDirs (dirsOf L) (qs.map absT)) (filesOf L) (absT (absL e.1)) e.2.1 e.2.2 m = (dirsOf (stepL L e), filesOf (stepL L e)) ∧ FsOk (stepL L e)) := by
  have hns : absL e.1 ≠ [] := by
    intro h0
    rw [h0, isD_has (root_dir h)] at hno
    cases hno
  have hok := absL_ok e.1
  obtain ⟨ms, x, hq⟩ := snoc_of hns
  have hstep : stepL L e = if (preOf (absL e.1)).any (isF L) = true then L else L ++ asDirs ((preOf (absL e.1)).filter (fun q => !hasP L q)) ++ [(absL e.1, e.2.1, if e.2.1 then [] else e.2.2)] := by
    unfold stepL
    by_cases hb : (preOf (absL e.1)).any (isF L) = true
    · rw [if_pos (.inr (.inr hb)), if_pos hb]
    · rw [if_neg (by rw [hno]; rintro (h1 | h1 | h1); exact he h1; cases h1; exact hb h1), if_neg hb]
  rw [hstep]
  generalize absL e.1 = ns at *
  subst hq
  have hrev : (ms ++ [x]).reverse = x :: ms.reverse := by simp
  have hpre : preOf (ms ++ [x]) = allPre ms.reverse := by unfold preOf; rw [hrev]; rfl
  have hmr : okL ms.reverse := fun z hz => hok z (by rw [List.mem_reverse] at hz; simp [hz])
  have hw := wayR_is h ms.reverse x hmr
  rw [hpre, hrev]
  refine ⟨hns, fun hb => ⟨by rw [hw, if_pos hb], if_pos hb⟩, fun hb => ?_⟩
  obtain ⟨g1, g2⟩ := good_pre h ms.reverse hmr hb
  obtain ⟨g3, g4, g5, g6⟩ := fs_dirs _ h g1
  rw [List.reverse_reverse] at g2
  have hno2 : hasP (L ++ asDirs ((allPre ms.reverse).filter (fun q => !hasP L q))) (ms ++ [x]) = false := by
    rw [Bool.eq_false_iff]
    intro h1
    obtain ⟨e', he', hq⟩ := hasP_iff.1 h1
    rcases List.mem_append.1 he' with he' | he'
    · rw [hasP_iff.2 ⟨e', he', hq⟩] at hno; cases hno
    · obtain ⟨q, hq2, rfl⟩ := List.mem_map.1 he'
      have := allPre_len ms.reverse q (List.mem_filter.1 hq2).1
      have := congrArg List.length hq
      simp at this
      rw [List.length_reverse] at *
      omega
  obtain ⟨k1, m, k2, k3, k4, k5⟩ := fs_new g3 e.2.1 (if e.2.1 then [] else e.2.2) (fun z hz => hok z (by simp [hz])) (hok x (by simp)) hno2 g2 (fun hb => by rw [if_pos hb])
  refine ⟨(allPre ms.reverse).filter (fun q => !hasP L q), by rw [hw, if_neg (by rw [hb]; decide)], g4, fun q hq => (List.mem_filter.1 hq).1, m, by rw [g5]; exact k2, by rw [g5]; exact k3, ?_, ?_⟩
  · rw [if_neg (by rw [hb]; decide), g5, ← g6, putF_text]
    exact k5
  · rw [if_neg (by rw [hb]; decide)]
    exact k1

abbrev entTy : Ty := .st (.prod .str (.prod .bool .str))
abbrev nfT (D : Dirs) (F : List (Str × Str)) : List Ent := [.res (dmRes D), .res (fmRes F), .box 40 [.mp 0, .mp 1]]
theorem fsOf_ok (l : List EntD) : FsOk (fsOf l) := by
  unfold fsOf
  have key : ∀ (l : List EntD) (L : List Fent), FsOk L → FsOk (l.foldl stepL L) := by
    intro l
    induction l with
    | nil => exact fun L h => h
    | cons e l ih =>
      intro L h
      refine ih _ ?_
      by_cases he : e.1 = []
      · unfold stepL; rw [if_pos (.inl he)]; exact h
      · cases hh : hasP L (absL e.1) with
        | true => unfold stepL; rw [if_pos (.inr (.inl hh))]; exact h
        | false =>
          obtain ⟨_, h1, h2⟩ := fs_step h e he hh
          cases hb : (preOf (absL e.1)).any (isF L) with
          | true => rw [(h1 hb).2]; exact h
          | false => obtain ⟨qs, _, _, _, m, _, _, _, h3⟩ := h2 hb; exact h3
  exact key _ _ fs_init
theorem absT_big (s : Str) (h : s.length ≤ 500000000) : (absT (absL s)).length ≤ 1099511627 := by
  have h1 := absT_length (absL s)
  have h2 := absL_bound s
  omega
theorem skip_is {L : List Fent} (h : FsOk L) (p : Str) : (absP p == [] || (dIdx (dirsOf L) (absP p)).isSome || (fGet (filesOf L) (absP p)).isSome) = decide (p = [] ∨ hasP L (absL p) = true) := by
  by_cases hp : p = []
  · subst hp
    simp [absP]
  · have h1 : (absT (absL p) == []) = false := by simpa using absT_ne (absL p)
    rw [absP_ne hp, dirs_has h (absL_ok p), files_has h (absL_ok p), h1, Bool.false_or, Bool.eq_iff_iff, decide_eq_true_eq, Bool.or_eq_true]
    constructor
    · rintro (h2 | h2)
      · exact .inr (isD_has h2)
      · exact .inr (isF_has h2)
    · rintro (h2 | h2)
      · exact absurd h2 hp
      · exact (has_or h2).symm
def newS (es : List EntD) (L : List Fent) (i : Nat) : St := ⟨[(3, [], .ptr 2 0), (19, [], vL entTy es), (20, [], vI es.length), (21, [], vI i)], nfT (dirsOf L) (filesOf L)⟩
theorem c_New (l : List EntD) (hl : l.length ≤ 1099511627) (hs : ∀ e ∈ l, e.1.length ≤ 500000000) : CallT Tryd.prog 7 [vL entTy l] [] (.ptr 2 0) (nfT (dirsOf (fsOf l)) (filesOf (fsOf l))) := by
  refine CallT.of Tryd.func7 (by kernel_rfl) rfl Tryd.ntmps7 (by simp) (by simp) fun cx hB => ?_
  refine Tr.seq ?_; refine Tr.region ?_; refine TrL.quiets 1 rfl (by exact True.intro) ?_; refine TrL.nil ?_; refine Tr.seq ?_; refine Tr.region ?_
  refine TrL.eff (newMap_sound (dmRes []) dm_starts rfl rfl rfl rfl) True.intro ?_
  refine TrL.dmNew rfl rfl rfl rfl (.inr rfl) rfl u_dirs u_str rfl rfl rfl rfl rfl ?_
  refine TrL.quiets 1 rfl (by exact True.intro) ?_
  refine TrL.eff (newMap_sound (fmRes []) fm_starts rfl rfl rfl rfl) True.intro ?_
  refine TrL.quiets 1 rfl (by exact True.intro) ?_; refine TrL.eff (effBox_sound rfl) (by exact True.intro) ?_; refine TrL.quiets 1 rfl (by exact True.intro) ?_; refine TrL.nil ?_; refine Tr.seq ?_; refine Tr.seq ?_; refine Tr.region ?_; refine TrL.quiets 7 rfl (by (simp only [allOf, impO, imp, inR, loOk, and_true]; omega)) ?_; refine TrL.nil ?_; refine Tr.block ?_
  have hB3 : ∀ i, cx.B i = true → i < 3 := fun i h => absurd (hB i h) (Nat.not_lt_zero _)
  refine Tr.loop (fun i : Nat => newS (l.take 200) (((l.take 200).take i).foldl stepL [([], true, [])]) i) (fun i => i ≤ (l.take 200).length) (fun i => (l.take 200).length - i) 0 [3, 19, 20, 21] 3 hB3 ?_ (Nat.zero_le _) fun i hi => ?_
  · refine Eq.trans (b := (⟨[(3, [], .ptr 2 0), (19, [], vL entTy (cut l none (some (min (l.length : Int) 200)))), (20, [], vI (cut l none (some (min (l.length : Int) 200))).length), (21, [], vI 0)], nfT [([47], [])] []⟩ : St)) rfl ?_
    have e : cut l none (some (min (l.length : Int) 200)) = l.take 200 := by
      simp only [cut]
      rw [List.take_eq_take_iff]
      omega
    rw [e]
    rfl
  have hlong : (l.take 200).length ≤ 200 := by rw [List.length_take]; omega
  refine Tr.seq ?_; refine Tr.region ?_; refine TrL.quiets 1 rfl (by exact True.intro) ?_; refine TrL.nil ?_; refine Tr.seq ?_
  refine Tr.cond rfl (fun c1 => ?_) (fun c1 => ?_)
  · have hi1 : i < (l.take 200).length := by simpa using c1
    have hnth : nth (t := entTy) (l.take 200) (i : Int) = (l.take 200)[i] := nth_get' (t := entTy) _ _ hi1
    have hlE : ((l.take 200)[i]).1.length ≤ 500000000 := hs _ (List.mem_of_mem_take (List.getElem_mem hi1))
    have hL : FsOk (((l.take 200).take i).foldl stepL [([], true, [])]) := by
      have := fsOf_ok ((l.take 200).take i)
      unfold fsOf at this
      rwa [List.take_take, Nat.min_eq_right (by omega)] at this
    have hnext : ((l.take 200).take (i + 1)).foldl stepL [([], true, [])] = stepL (((l.take 200).take i).foldl stepL [([], true, [])]) (l.take 200)[i] := by
      rw [List.take_succ_eq_append_getElem hi1, List.foldl_append]
      rfl
    refine Tr.skip ?_; refine Tr.seq ?_; refine Tr.block ?_; refine Tr.seq ?_; refine Tr.region ?_; refine TrL.quiets 2 rfl (by (simp only [allOf, impO, imp, inR, loOk, and_true]; omega)) ?_
    refine TrL.is 24 (sv' := .agg [vS (l.take 200)[i].1, vB (l.take 200)[i].2.1, vS (l.take 200)[i].2.2]) rfl (congrArg (fun e : EntD => SV.agg [vS e.1, vB e.2.1, vS e.2.2]) hnth) ?_
    generalize (l.take 200)[i] = e at hlE hnext
    generalize hM : ((l.take 200).take i).foldl stepL [([], true, [])] = M at hL hnext
    have habs := absT_big e.1 hlE
    refine TrL.eff (effBox_sound rfl) (by exact True.intro) ?_; refine TrL.eff (effStore_sound rfl) (by exact True.intro) ?_; refine TrL.nil ?_; refine Tr.seq ?_; refine Tr.region ?_; refine TrL.quiets 2 rfl (by exact True.intro) ?_
    first | refine TrL.callV rfl rfl rfl rfl rfl (c_path_Abs e.1 (by omega)) ?_ | refine TrD.callV rfl rfl rfl rfl rfl (c_path_Abs e.1 (by omega)) rfl ?_
    refine TrL.quiets 1 rfl (by exact True.intro) ?_; refine TrL.nil ?_; refine Tr.seq ?_; refine Tr.seq ?_; refine Tr.region ?_; refine TrL.quiets 2 rfl (by exact True.intro) ?_
    refine TrL.callT [2, 0, 1] rfl rfl rfl rfl rfl (c_is (dirsOf M) (filesOf M) (absP e.1)) rfl rfl rfl ?_
    refine TrL.quiets 5 rfl (by exact True.intro) ?_; refine TrL.nil ?_; refine Tr.seq ?_; refine Tr.region ?_; refine TrL.quiets 11 rfl (by exact True.intro) ?_
    have hsk := skip_is hL e.1
    by_cases hskip : e.1 = [] ∨ hasP M (absL e.1) = true
    · refine TrL.is 42 (sv' := vB true) rfl (by rw [show ({ data := #[] } : ByteArray).data.toList = ([] : Str) from rfl, hsk, decide_eq_true hskip]) ?_
      refine TrL.pass (vB false) rfl rfl rfl rfl rfl (by decide) (by decide) rfl ?_
      refine TrL.quiets 2 rfl (by exact True.intro) ?_; refine TrL.nil ?_
      refine Tr.cond rfl (fun c2 => ?_) (fun c2 => ?_)
      · refine Tr.exit ?_; refine Tr.region ?_; refine TrL.quiets 2 rfl (by exact True.intro) ?_; refine TrL.nil ?_
        refine ⟨i + 1, hi1, by dsimp only; omega, ?_⟩
        refine Eq.trans (b := (⟨[(3, [], .ptr 2 0), (19, [], vL entTy (l.take 200)), (20, [], vI (l.take 200).length), (21, [], vI (IntKind.i64.wrap ((i : Int) + 1)))], nfT (dirsOf M) (filesOf M)⟩ : St)) rfl ?_
        dsimp only
        rw [hnext, show stepL M e = M by unfold stepL; rw [if_pos (by rcases hskip with h | h; exact .inl h; exact .inr (.inl h))], w64 (by omega) (by omega)]
        rfl
      · simp at c2
    · refine TrL.is 42 (sv' := vB false) rfl (by rw [show ({ data := #[] } : ByteArray).data.toList = ([] : Str) from rfl, hsk, decide_eq_false hskip]) ?_
      rw [not_or, Bool.not_eq_true] at hskip
      obtain ⟨hne, hno⟩ := hskip
      obtain ⟨hns, hblock, hfree⟩ := fs_step hL e hne hno
      have hroot : (dIdx (dirsOf M) [47]).isSome = true := (dirs_has hL (q := []) (fun _ hz => by cases hz)).trans (root_dir hL)
      have hll : (absL e.1).length ≤ 1099511627 := by have := absL_bound e.1; omega
      refine TrL.known 43 rfl rfl ?_
      refine TrL.known 44 rfl rfl ?_
      refine TrL.want rfl rfl rfl ?_
      refine TrL.is 44 (sv' := vS (absT (absL e.1))) rfl (by rw [absP_ne hne]) ?_
      cases hb : (preOf (absL e.1)).any (isF M) with
      | true =>
        obtain ⟨g1, g2⟩ := hblock hb
        refine TrL.callT [2, 0, 1] rfl rfl rfl rfl rfl (c_way_false (dirsOf M) (filesOf M) (absL e.1) (absL_ok e.1) habs hns hroot g1 hll) rfl rfl rfl ?_
        refine TrL.quiets 2 rfl (by exact True.intro) ?_; refine TrL.nil ?_
        refine Tr.cond rfl (fun c2 => ?_) (fun c2 => ?_)
        · refine Tr.exit ?_; refine Tr.region ?_; refine TrL.quiets 2 rfl (by exact True.intro) ?_; refine TrL.nil ?_
          refine ⟨i + 1, hi1, by dsimp only; omega, ?_⟩
          refine Eq.trans (b := (⟨[(3, [], .ptr 2 0), (19, [], vL entTy (l.take 200)), (20, [], vI (l.take 200).length), (21, [], vI (IntKind.i64.wrap ((i : Int) + 1)))], nfT (dirsOf M) (filesOf M)⟩ : St)) rfl ?_
          dsimp only
          rw [hnext, g2, w64 (by omega) (by omega)]
          rfl
        · simp at c2
      | false =>
        obtain ⟨qs, g1, g2, g3, m, g4, g5, g6, g7⟩ := hfree hb
        have hlq : ∀ d ∈ qs.reverse.map absT, d.length ≤ 1099511627 := by
          intro d hd
          obtain ⟨q, hq, rfl⟩ := List.mem_map.1 hd
          have hq2 := g3 q (List.mem_reverse.1 hq)
          obtain ⟨ms, x, hms⟩ := snoc_of hns
          have e1 : preOf (absL e.1) = allPre ms.reverse := by unfold preOf; rw [hms]; simp
          rw [e1] at hq2
          refine pre_short ms.reverse 1099511627 ?_ q hq2
          rw [List.reverse_reverse]
          have := absT_le ms x
          rw [← hms] at this
          omega
        have hrr : (qs.reverse.map absT).reverse = qs.map absT := by rw [← List.map_reverse, List.reverse_reverse]
        have hway := c_way_true (dirsOf M) (filesOf M) (absL e.1) (qs.reverse.map absT) (absL_ok e.1) habs hns hroot g1 hll (by rw [hrr]; exact g2) hlq
        rw [hrr] at hway
        refine TrL.callT [2, 0, 1] rfl rfl rfl rfl rfl hway rfl rfl rfl ?_
        refine TrL.quiets 2 rfl (by exact True.intro) ?_; refine TrL.nil ?_
        refine Tr.cond rfl (fun c2 => ?_) (fun c2 => ?_)
        · simp at c2
        · have hB4 : ∀ i, cx.B i = true → i < 4 := fun i h => absurd (hB i h) (Nat.not_lt_zero _)
          refine Tr.keep [3, 5, 6, 19, 20, 21] 4 hB4 (st' := ⟨[(3, [], .ptr 2 0), (5, [], .ptr 3 0), (6, [], vS (absP e.1)), (19, [], vL entTy (l.take 200)), (20, [], vI (l.take 200).length), (21, [], vI i)], nfT (mkDirs (dirsOf M) (qs.map absT)) (filesOf M) ++ [.box 26 [vS e.1, vB e.2.1, vS e.2.2]]⟩) rfl ?_
          refine Tr.skip ?_; refine Tr.region ?_; refine TrL.quiets 3 rfl (by exact True.intro) ?_
          have hput := c_put (mkDirs (dirsOf M) (qs.map absT)) (filesOf M) (absT (absL e.1)) e.1 e.2.2 e.2.1 m habs g4 (fun _ => g5)
          rw [g6, ← absP_ne hne] at hput
          refine TrL.callT [2, 0, 1] rfl rfl rfl rfl rfl hput rfl rfl rfl ?_
          refine TrL.nil ?_; refine Tr.region ?_; refine TrL.quiets 2 rfl (by exact True.intro) ?_; refine TrL.nil ?_
          refine ⟨i + 1, hi1, by dsimp only; omega, ?_⟩
          refine Eq.trans (b := (⟨[(3, [], .ptr 2 0), (19, [], vL entTy (l.take 200)), (20, [], vI (l.take 200).length), (21, [], vI (IntKind.i64.wrap ((i : Int) + 1)))], nfT (dirsOf (stepL M e)) (filesOf (stepL M e))⟩ : St)) rfl ?_
          dsimp only
          rw [hnext, w64 (by omega) (by omega)]
          rfl
  · have hi1 : i = (l.take 200).length := by
      have : ¬ (i : Int) < (l.take 200).length := by simpa using c1
      omega
    subst hi1
    rw [List.take_length]
    refine Tr.exit ?_; refine Tr.seq ?_; refine Tr.region ?_; refine TrL.quiets 2 rfl (by exact True.intro) ?_; refine TrL.nil ?_; refine Tr.ret ?_
    refine retT.of rfl ?_ ?_
    · rfl
    · rfl
end Go.Proofs.YtbnejfgdojdbdaaDoor.Sx
