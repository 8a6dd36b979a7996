/-
  Lines: all lines of a text.
-/
import Derived.Test.YtafngfcfinligaaDoorF26
set_option linter.unusedVariables false
set_option linter.unusedSimpArgs false
set_option maxRecDepth 20000
set_option maxHeartbeats 4000000
namespace Go.Proofs.YtafngfcfinligaaDoor.Sx
open Go Go.RowKit Go.Proofs

/-! ### Plain -/
abbrev lineTy : Ty := .st (.prod .str (.prod (.int .i64) .bool))
theorem more_count (join : Str → Str → Str) (text : Str) : ∀ (f : Nat) (s : Str) (nx n : Nat), nx ≤ text.length → (moreR join text f s nx n).2.2 + nx ≤ (moreR join text f s nx n).2.1 + n ∧ nx ≤ (moreR join text f s nx n).2.1 ∧ (moreR join text f s nx n).2.1 ≤ text.length ∧ n ≤ (moreR join text f s nx n).2.2
  | 0, s, nx, n, h => by simp only [moreR]; omega
  | f + 1, s, nx, n, h => by
    rw [moreR]
    split
    · rename_i h1
      have hg := rawN_gt text nx h1.2
      have ih := more_count join text f (join s (rawS text nx)) (rawN text nx) (n + 1) (by omega)
      omega
    · simp only; omega
theorem lineAt_count (text : Str) (a : Nat) (h : a < text.length) : (lineAt text a).2.2 + a ≤ (lineAt text a).2.1 ∧ 1 ≤ (lineAt text a).2.2 ∧ (lineAt text a).2.1 ≤ text.length := by
  have hg := rawN_gt text a h
  have h1 := more_count joinRec text (text.length - rawN text a) ((rawS text a).drop 1) (rawN text a) 1 (by omega)
  have h2 := more_count joinPlain text (text.length - rawN text a) (rawS text a) (rawN text a) 1 (by omega)
  unfold lineAt
  simp only [more]
  split
  · simp only; omega
  · simp only; omega
def linesR (text : Str) : Nat → Nat → Nat → List (Str × Int × Bool)
  | 0, _, _ => []
  | f + 1, a, n => if a < text.length then ((lineAt text a).1.1, (n : Int), (lineAt text a).1.2) :: linesR text f (lineAt text a).2.1 (n + (lineAt text a).2.2) else []
theorem linesR_end (text : Str) (f a n : Nat) (h : ¬ a < text.length) : linesR text f a n = [] := by
  cases f with
  | zero => rfl
  | succ f => rw [linesR, if_neg h]
theorem linesR_stable (text : Str) : ∀ (f g a n : Nat), text.length - a ≤ f → text.length - a ≤ g → linesR text f a n = linesR text g a n
  | 0, g, a, n, h1, h2 => by rw [linesR_end _ _ _ _ (by omega), linesR_end _ _ _ _ (by omega)]
  | f + 1, 0, a, n, h1, h2 => by rw [linesR_end _ _ _ _ (by omega), linesR_end _ _ _ _ (by omega)]
  | f + 1, g + 1, a, n, h1, h2 => by
    rw [linesR, linesR]
    by_cases h : a < text.length
    · rw [if_pos h, if_pos h]
      have := lineAt_count text a h
      rw [linesR_stable text f g _ _ (by omega) (by omega)]
    · rw [if_neg h, if_neg h]
def linesF (text : Str) (a n : Nat) : List (Str × Int × Bool) := linesR text (text.length - a) a n
def linesL (text : Str) : List (Str × Int × Bool) := linesF text 0 1
theorem linesF_step {text : Str} {a n : Nat} (h : a < text.length) : linesF text a n = ((lineAt text a).1.1, (n : Int), (lineAt text a).1.2) :: linesF text (lineAt text a).2.1 (n + (lineAt text a).2.2) := by
  obtain ⟨k, hk⟩ : ∃ k, text.length - a = k + 1 := ⟨text.length - a - 1, by omega⟩
  have := lineAt_count text a h
  rw [linesF, hk, linesR, if_pos h]
  rw [linesF, linesR_stable text k (text.length - (lineAt text a).2.1) _ _ (by omega) (by omega)]
theorem linesF_stop {text : Str} {a n : Nat} (h : ¬ a < text.length) : linesF text a n = [] := linesR_end _ _ _ _ h

/-! ### The walk -/
theorem c_lines_each (s : Str) : CallT Tryd.prog 66 [vS s] [] (.fn 88 [] [.ptr 0 0]) [.box 9 [vS s]] := by
  refine CallT.of Tryd.func66 (by kernel_rfl) rfl Tryd.ntmps66 (by simp) (by simp) fun cx hB => ?_
  refine Tr.seq ?_; refine Tr.region ?_; refine TrL.eff (effBox_sound rfl) (by exact True.intro) ?_; refine TrL.quiets 1 rfl (by exact True.intro) ?_; refine TrL.nil ?_; refine Tr.seq ?_; refine Tr.region ?_; refine TrL.quiets 2 rfl (by exact True.intro) ?_; refine TrL.nil ?_; refine Tr.ret ?_
  exact retT.of rfl rfl rfl

abbrev alT (text : Str) (acc : List (Str × Int × Bool)) : List Ent := [.box 54 [.own 2], .box 9 [vS text], .gs 50 lineTy acc]
abbrev oneLine (text : Str) (a n : Nat) : Str × Int × Bool := ((lineAt text a).1.1, (n : Int), (lineAt text a).1.2)
theorem c_lines_All (s : Str) (hs : s.length ≤ 274877906944) : CallV Tryd.prog 42 [vS s] (vL lineTy (linesL s)) := by
  refine CallV.ofRange Tryd.func42 (by kernel_rfl) rfl Tryd.ntmps42 (by simp) rfl fun cx R hB hds hR => ?_
  refine RW.seq ?_
  refine Tr.region ?_; refine TrL.quiets 1 rfl (by exact True.intro) ?_; refine TrL.nil ?_
  refine ⟨rfl, RW.seq ?_⟩
  refine Tr.region ?_; refine TrL.eff (effBox_sound rfl) (by exact True.intro) ?_; refine TrL.nil ?_
  refine ⟨rfl, RW.seqR (RW.seq ?_)⟩
  refine Tr.region ?_; refine TrL.quiets 1 rfl (by exact True.intro) ?_
  refine TrL.callT [] rfl rfl rfl rfl rfl (c_lines_each s) rfl rfl rfl ?_
  refine TrL.nil ?_
  refine ⟨rfl, ?_⟩
  refine RW.nilBox 0 0 50 lineTy rfl rfl ?_
  refine RW.keep [3, 6] 3 (fun i hi => by have := hB i hi; omega) (st' := ⟨[(3, [], .ptr 0 0), (6, [], .fn 88 [] [.ptr 1 0])], alT s []⟩) rfl ?_
  refine RW.range (X := List (Str × Int × Bool) × Nat × Nat) (fun x => x.1.length ≤ x.2.1 ∧ x.2.1 < s.length) (fun x => lineSV (lineAt s x.2.1).1.1 (x.2.2 : Int) (lineAt s x.2.1).1.2) (fun x => alT s x.1) (fun x => alT s (x.1 ++ [oneLine s x.2.1 x.2.2])) (alT s (linesL s))
    hB hds hR rfl Tryd.func88 (by kernel_rfl) rfl Tryd.ntmps88 rfl (by simp) rfl ?_ ?_ ?_
  · intro cx1 l hB1 hY
    have hB3 : ∀ i, cx1.B i = true → i < 3 := fun i hi => isBoxAt_lt ((hB1 i).symm.trans hi)
    refine Tr.seq ?_; refine Tr.region ?_; refine TrL.quiets 2 rfl (by exact True.intro) ?_; refine TrL.nil ?_; refine Tr.block ?_
    refine Tr.loop (fun x : List (Str × Int × Bool) × Nat × Nat => ⟨[(0, [], .yv l), (1, [], .ptr 1 0), (3, [], vI x.2.1), (4, [], vI x.2.2)], alT s x.1⟩) (fun x => x.1.length ≤ x.2.1 ∧ x.2.1 ≤ s.length ∧ x.2.2 ≤ x.2.1 + 1 ∧ linesL s = x.1 ++ linesF s x.2.1 x.2.2) (fun x => s.length - x.2.1) ([], 0, 1) [0, 1, 3, 4] 3 hB3 rfl ⟨Nat.le_refl _, Nat.zero_le _, Nat.le_refl _, rfl⟩ ?_
    rintro ⟨acc, a, n⟩ ⟨h1, h2, h3, h4⟩
    simp only at h1 h2 h3 h4
    refine Tr.block ?_; refine Tr.seq ?_; refine Tr.region ?_; refine TrL.quiets 3 rfl (by exact True.intro) ?_
    by_cases ha : a < s.length
    · have hc := lineAt_count s a ha
      first | refine TrL.callV rfl rfl rfl rfl rfl (c_Next_in s a n hs ha (by omega) (by omega)) ?_ | refine TrD.callV rfl rfl rfl rfl rfl (c_Next_in s a n hs ha (by omega) (by omega)) rfl ?_
      refine TrL.quiets 5 rfl (by exact True.intro) ?_; refine TrL.eff (effBox_sound rfl) (by exact True.intro) ?_; refine TrL.eff (effStore_sound rfl) (by exact True.intro) ?_; refine TrL.quiets 3 rfl (by exact True.intro) ?_; refine TrL.nil ?_
      change Tr _ _ _ _ _ _
      first | refine Tr.regionI (TrLI.of 5 rfl ?_) | (refine Tr.seq ?_; refine Tr.regionI (TrLI.of 5 rfl ?_)) | (refine Tr.seq ?_; refine Tr.seq ?_; refine Tr.regionI (TrLI.of 5 rfl ?_))
      refine TrL.quiets 3 rfl True.intro ?_
      refine TrL.is 20 (sv' := vB false) rfl rfl ?_
      refine TrL.want rfl rfl rfl ?_
      refine TrL.quiets 1 rfl True.intro ?_
      refine TrL.want rfl rfl rfl ?_
      refine TrL.quiets 1 rfl True.intro ?_
      refine TrL.nil ⟨rfl, ?_⟩
      refine TrLI.keep [0, 1, 6, 7, 20, 21, 22] 3 hB3 (st' := ⟨[(0, [], .yv l), (1, [], .ptr 1 0), (6, [], vI ((lineAt s a).2.1 : Int)), (7, [], vI ((n : Int) + ((lineAt s a).2.2 : Int))), (20, [], vB false), (21, [], .yv l), (22, [], lineSV (lineAt s a).1.1 (n : Int) (lineAt s a).1.2)], alT s acc⟩) rfl ?_
      refine TrLI.want rfl rfl rfl ?_
      refine TrLI.yield (isBoxAt (alT s [])) (fun i hi => (hB1 i).trans hi) rfl rfl rfl rfl rfl rfl rfl (hY (acc, a, n) ⟨h1, ha⟩) ?_
      refine TrLI.all rfl ?_
      refine TrL.want rfl rfl rfl ?_
      refine TrL.quiets 2 rfl True.intro ?_
      refine TrL.nil ⟨rfl, ?_⟩
      change Tr _ _ _ _ _ _
      refine Tr.cond rfl (fun c1 => ?_) (fun c1 => ?_)
      · cases c1
      refine Tr.skip ?_; refine Tr.region ?_; refine TrL.quiets 4 rfl (by exact True.intro) ?_; refine TrL.nil ?_
      refine ⟨(acc ++ [oneLine s a n], (lineAt s a).2.1, n + (lineAt s a).2.2), ⟨by simp; omega, hc.2.2, by dsimp only; omega, ?_⟩, by dsimp only; omega, ?_⟩
      · rw [h4, linesF_step ha]
        simp
      · refine Eq.trans (b := (⟨[(_, [], _), (_, [], _), (_, [], _), (_, [], _)], [_, _, _]⟩ : St)) rfl ?_
        rw [← Int.natCast_add]
        rfl
    · first | refine TrL.callV rfl rfl rfl rfl rfl (c_Next_out s a n (.inr (by omega))) ?_ | refine TrD.callV rfl rfl rfl rfl rfl (c_Next_out s a n (.inr (by omega))) rfl ?_
      refine TrL.quiets 5 rfl (by exact True.intro) ?_; refine TrL.eff (effBox_sound rfl) (by exact True.intro) ?_; refine TrL.eff (effStore_sound rfl) (by exact True.intro) ?_; refine TrL.quiets 3 rfl (by exact True.intro) ?_; refine TrL.nil ?_
      change Tr _ _ _ _ _ _
      first | refine Tr.region ?_ | (refine Tr.seq ?_; refine Tr.region ?_) | (refine Tr.seq ?_; refine Tr.seq ?_; refine Tr.region ?_)
      refine TrL.quiets 3 rfl True.intro ?_
      refine TrL.is 20 (sv' := vB true) rfl rfl ?_
      refine TrL.pass .nils rfl rfl rfl rfl rfl (by decide) (by decide) rfl ?_
      refine TrL.pass .nils rfl rfl rfl rfl rfl (by decide) (by decide) rfl ?_
      refine TrL.pass .nils rfl rfl rfl rfl rfl (by decide) (by decide) rfl ?_
      refine TrL.pass (vB false) rfl rfl rfl rfl rfl (by decide) (by decide) rfl ?_
      refine TrL.quiets 1 rfl True.intro ?_
      refine TrL.nil ?_
      change Tr _ _ _ _ _ _
      refine Tr.cond rfl (fun c1 => ?_) (fun c1 => ?_)
      · refine Tr.ret ?_
        refine ⟨.inr rfl, ?_⟩
        rw [linesF_stop ha, List.append_nil] at h4
        rw [h4]
        rfl
      · cases c1
  · rintro ⟨acc, a, n⟩ ⟨h1, h2⟩ cx2 l hB2 hd2
    simp only at h1 h2
    refine TrI.region (TrLI.all rfl ?_)
    refine TrL.eff (effBox_sound rfl) (by exact True.intro) ?_; refine TrL.eff (effStore_sound rfl) (by exact True.intro) ?_; refine TrL.nil ?_
    refine ⟨rfl, rfl, fun cx3 hB3 hd3 => TrI.block (TrI.region (TrLI.all rfl ?_))⟩
    refine TrL.quiets 2 rfl (by exact True.intro) ?_; refine TrL.eff (effLit_sound rfl) (by exact True.intro) ?_; refine TrL.eff (effAppend_sound rfl) ?_ ?_
    · show acc.length + 1 ≤ 1099511627776
      omega
    refine TrL.eff (effStore_sound rfl) (by exact True.intro) ?_; refine TrL.nil ?_
    exact ⟨rfl, rfl, rfl, rfl⟩
  · intro cx4 hB4
    refine Tr.seq ?_; refine Tr.region ?_; refine TrL.quiets 2 rfl (by exact True.intro) ?_; refine TrL.nil ?_; refine Tr.ret ?_
    refine retQ.of rfl ?_
    rfl
end Go.Proofs.YtafngfcfinligaaDoor.Sx
