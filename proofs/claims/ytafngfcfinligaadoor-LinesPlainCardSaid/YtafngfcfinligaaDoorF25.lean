/-
  Lines: a line that goes on.
-/
import Derived.Test.YtafngfcfinligaaDoorF24
set_option linter.unusedVariables false
set_option linter.unusedSimpArgs false
set_option maxRecDepth 20000
set_option maxHeartbeats 4000000
namespace Go.Proofs.YtafngfcfinligaaDoor.Sx
open Go Go.RowKit Go.Proofs

/-! ### Plain -/
def moreR (join : Str → Str → Str) (text : Str) : Nat → Str → Nat → Nat → Str × Nat × Nat
  | 0, s, nx, n => (s, nx, n)
  | f + 1, s, nx, n => if bsl s % 2 = 1 ∧ nx < text.length then moreR join text f (join s (rawS text nx)) (rawN text nx) (n + 1) else (s, nx, n)
theorem moreR_end (join : Str → Str → Str) (text : Str) (f : Nat) (s : Str) (nx n : Nat) (h : ¬ nx < text.length) : moreR join text f s nx n = (s, nx, n) := by
  cases f with
  | zero => rfl
  | succ f => rw [moreR, if_neg (fun x => h x.2)]
theorem moreR_stable (join : Str → Str → Str) (text : Str) : ∀ (f g : Nat) (s : Str) (nx n : Nat), text.length - nx ≤ f → text.length - nx ≤ g → moreR join text f s nx n = moreR join text g s nx n
  | 0, g, s, nx, n, h1, h2 => by rw [moreR_end _ _ _ _ _ _ (by omega), moreR_end _ _ _ _ _ _ (by omega)]
  | f + 1, 0, s, nx, n, h1, h2 => by rw [moreR_end _ _ _ _ _ _ (by omega), moreR_end _ _ _ _ _ _ (by omega)]
  | f + 1, g + 1, s, nx, n, h1, h2 => by
    rw [moreR, moreR]
    by_cases h : bsl s % 2 = 1 ∧ nx < text.length
    · rw [if_pos h, if_pos h]
      have := rawN_gt text nx h.2
      exact moreR_stable join text f g _ _ _ (by omega) (by omega)
    · rw [if_neg h, if_neg h]
def more (join : Str → Str → Str) (text : Str) (s : Str) (nx n : Nat) : Str × Nat × Nat := moreR join text (text.length - nx) s nx n
theorem more_step {join : Str → Str → Str} {text s : Str} {nx n : Nat} (h1 : bsl s % 2 = 1) (h2 : nx < text.length) : more join text s nx n = more join text (join s (rawS text nx)) (rawN text nx) (n + 1) := by
  obtain ⟨k, hk⟩ : ∃ k, text.length - nx = k + 1 := ⟨text.length - nx - 1, by omega⟩
  have := rawN_gt text nx h2
  rw [more, hk, moreR, if_pos ⟨h1, h2⟩]
  exact moreR_stable join text _ _ _ _ _ (by omega) (Nat.le_refl _)
theorem more_stop {join : Str → Str → Str} {text s : Str} {nx n : Nat} (h : ¬ (bsl s % 2 = 1 ∧ nx < text.length)) : more join text s nx n = (s, nx, n) := by
  rw [more]
  cases text.length - nx with
  | zero => rfl
  | succ k => rw [moreR, if_neg h]

/-! ### The walk -/
theorem c_more (J : Nat) (join : Str → Str → Str) (hJ : ∀ s t : Str, s.length ≤ 1099511627776 → t.length ≤ 1099511627776 → s ≠ [] → CallV Tryd.prog J [vS s, vS t] (vS (join s t))) (hjl : ∀ s t, (join s t).length ≤ s.length + t.length + 1)
    (text s : Str) (nx : Nat) (hT : text.length ≤ 274877906944) (hs : s.length ≤ 2 * nx) (hnx : nx ≤ text.length) :
    CallV Tryd.prog 62 [vS text, vS s, vI nx, .fn J [] []] (.tup [vS (more join text s nx 1).1, vI ((more join text s nx 1).2.1 : Int), vI ((more join text s nx 1).2.2 : Int)]) := by
  refine CallV.of Tryd.func62 (by kernel_rfl) rfl Tryd.ntmps62 (by simp) rfl fun cx hB => ?_
  refine Tr.seq ?_; refine Tr.region ?_; refine TrL.quiets 3 rfl (by exact True.intro) ?_; refine TrL.nil ?_; refine Tr.seq ?_; refine Tr.region ?_; refine TrL.quiets 1 rfl (by exact True.intro) ?_; refine TrL.nil ?_; refine Tr.seq ?_; refine Tr.block ?_
  refine Tr.loop (fun (x : Str × Nat × Nat) => ⟨[(0, [], vS text), (1, [], vS x.1), (2, [], vI x.2.1), (3, [], .fn J [] []), (11, [], vI x.2.2)], []⟩)
    (fun x => x.1.length ≤ 2 * x.2.1 ∧ x.2.1 ≤ text.length ∧ x.2.2 ≤ x.2.1 + 1 ∧ more join text s nx 1 = more join text x.1 x.2.1 x.2.2) (fun x => text.length - x.2.1) (s, nx, 1) [0, 1, 2, 3, 11] 0 hB rfl ⟨hs, hnx, by simp, rfl⟩ fun x hx => ?_
  obtain ⟨u, m, k⟩ := x
  obtain ⟨h1, h2, h3, h4⟩ := hx
  simp only at h1 h2 h3 h4
  refine Tr.seq ?_; refine Tr.seq ?_; refine Tr.region ?_; refine TrL.quiets 1 rfl (by exact True.intro) ?_
  first | refine TrL.callV rfl rfl rfl rfl rfl (c_goes u (by omega)) ?_ | refine TrD.callV rfl rfl rfl rfl rfl (c_goes u (by omega)) rfl ?_
  refine TrL.quiets 6 rfl (by exact True.intro) ?_; refine TrL.nil ?_
  refine Tr.cond rfl (fun c1 => ?_) (fun c1 => ?_)
  · simp only [Bool.and_eq_true, beq_iff_eq, decide_eq_true_eq] at c1
    obtain ⟨c1, c2⟩ := c1
    have hm : m < text.length := by omega
    have hu : u ≠ [] := fun e => by rw [e, bsl_nil] at c1; omega
    have hg := rawN_gt text m hm
    have hj := hjl u (rawS text m)
    have hcl : clampA (m : Int) text.length = m := by unfold clampA; omega
    rw [more_step c1 hm] at h4
    refine Tr.skip ?_; refine Tr.block ?_; refine Tr.seq ?_; refine Tr.region ?_; refine TrL.quiets 1 rfl (by exact True.intro) ?_; refine TrL.nil ?_; refine Tr.seq ?_; refine Tr.region ?_; refine TrL.quiets 2 rfl (by exact True.intro) ?_
    first | refine TrL.callV rfl rfl rfl rfl rfl (c_lines_Raw text m (by omega)) ?_ | refine TrD.callV rfl rfl rfl rfl rfl (c_lines_Raw text m (by omega)) rfl ?_
    rw [hcl]
    refine TrL.quiets 5 rfl (by exact True.intro) ?_; refine TrL.nil ?_; refine Tr.seq ?_; refine Tr.region ?_; refine TrL.quiets 3 rfl (by exact True.intro) ?_
    first | refine TrL.callV rfl rfl rfl rfl rfl (hJ u (rawS text m) (by omega) (by omega) hu) ?_ | refine TrD.callV rfl rfl rfl rfl rfl (hJ u (rawS text m) (by omega) (by omega) hu) rfl ?_
    refine TrL.quiets 1 rfl (by exact True.intro) ?_; refine TrL.nil ?_; refine Tr.region ?_; refine TrL.quiets 3 rfl (by exact True.intro) ?_; refine TrL.nil ?_
    refine ⟨(join u (rawS text m), rawN text m, k + 1), ⟨by dsimp only; omega, by dsimp only; omega, by dsimp only; omega, h4⟩, by dsimp only; omega, ?_⟩
    refine Eq.trans (b := (⟨[(_, [], _), (_, [], _), (_, [], _), (_, [], _), (_, [], _)], []⟩ : St)) rfl ?_
    dsimp only
    rw [w64n (y := k + 1) (by omega) (by omega)]
  · have hst : more join text u m k = (u, m, k) := more_stop fun x => by
      dsimp only at c1
      rw [Bool.and_eq_false_iff] at c1
      rcases c1 with c1 | c1
      · rw [x.1] at c1; cases c1
      · rw [decide_eq_false_iff_not] at c1; have := x.2; omega
    refine Tr.exit ?_; refine Tr.seq ?_; refine Tr.region ?_; refine TrL.quiets 6 rfl (by exact True.intro) ?_; refine TrL.nil ?_; refine Tr.ret ?_
    refine retQ.of rfl ?_
    rw [h4, hst]

/-! ### The line at a place -/
abbrev lineSV (t : Str) (n : Int) (r : Bool) : SV := .agg [vS t, vI n, vB r]
/-- Text, whether it is a recipe's, where the next one begins, how many lines. -/
def lineAt (text : Str) (a : Nat) : (Str × Bool) × Nat × Nat :=
  if hasPre (rawS text a) [9] then (((more joinRec text ((rawS text a).drop 1) (rawN text a) 1).1, true), (more joinRec text ((rawS text a).drop 1) (rawN text a) 1).2)
  else ((bare (more joinPlain text (rawS text a) (rawN text a) 1).1, false), (more joinPlain text (rawS text a) (rawN text a) 1).2)
theorem more_bounds (join : Str → Str → Str) (hjl : ∀ s t, (join s t).length ≤ s.length + t.length + 1) (text : Str) : ∀ (f : Nat) (s : Str) (nx n : Nat), s.length ≤ 2 * nx → nx ≤ text.length → n ≤ nx + 1 →
    (moreR join text f s nx n).1.length ≤ 2 * text.length ∧ (moreR join text f s nx n).2.1 ≤ text.length ∧ nx ≤ (moreR join text f s nx n).2.1 ∧ n ≤ (moreR join text f s nx n).2.2 ∧ (moreR join text f s nx n).2.2 ≤ text.length + 1
  | 0, s, nx, n, h1, h2, h3 => by simp only [moreR]; omega
  | f + 1, s, nx, n, h1, h2, h3 => by
    rw [moreR]
    split
    · rename_i h
      have hg := rawN_gt text nx h.2
      have hj := hjl s (rawS text nx)
      have ih := more_bounds join hjl text f (join s (rawS text nx)) (rawN text nx) (n + 1) (by omega) (by omega) (by omega)
      omega
    · simp only; omega
theorem bareR_le : ∀ (r t : Str) (b : Nat), (bareR t b r).length ≤ t.length + r.length
  | [], t, b => by simp [bareR]
  | c :: r, t, b => by
    simp only [bareR]
    split
    · have := bareR_le r (t ++ [c]) (b + 1)
      simp only [List.length_append, List.length_cons, List.length_nil] at this ⊢
      omega
    · split
      · split
        · simp only [List.length_take, List.length_cons]; omega
        · have := bareR_le r (t.take (t.length - b + b / 2) ++ [c]) 0
          simp only [List.length_append, List.length_cons, List.length_nil, List.length_take] at this ⊢
          omega
      · have := bareR_le r (t ++ [c]) 0
        simp only [List.length_append, List.length_cons, List.length_nil] at this ⊢
        omega
theorem bare_le (s : Str) : (bare s).length ≤ s.length := by simpa [bare] using bareR_le s [] 0
theorem lineAt_bounds (text : Str) (a : Nat) (h : a < text.length) : (lineAt text a).1.1.length ≤ 2 * text.length ∧ a < (lineAt text a).2.1 ∧ (lineAt text a).2.1 ≤ text.length ∧ 1 ≤ (lineAt text a).2.2 ∧ (lineAt text a).2.2 ≤ text.length + 1 := by
  have hg := rawN_gt text a h
  have h1 := more_bounds joinRec joinRec_le text (text.length - rawN text a) ((rawS text a).drop 1) (rawN text a) 1 (by simp; omega) (by omega) (by omega)
  have h2 := more_bounds joinPlain joinPlain_le text (text.length - rawN text a) (rawS text a) (rawN text a) 1 (by omega) (by omega) (by omega)
  have h3 := bare_le (moreR joinPlain text (text.length - rawN text a) (rawS text a) (rawN text a) 1).1
  unfold lineAt
  simp only [more]
  split
  · simp only; omega
  · simp only; omega
theorem trim_tab {s : Str} (h : hasPre s [9] = true) : trimPre s [9] = s.drop 1 := by rw [trimPre, if_pos h]; rfl
theorem c_Next_out (text : Str) (at_ n : Int) (h : at_ < 0 ∨ (text.length : Int) ≤ at_) : CallV Tryd.prog 39 [vS text, vI at_, vI n] (.tup [lineSV [] 0 false, vI 0, vI 0, vB false]) := by
  refine CallV.of Tryd.func39 (by kernel_rfl) rfl Tryd.ntmps39 (by simp) rfl fun cx hB => ?_
  refine Tr.seq ?_; refine Tr.region ?_; refine TrL.eff (effBox_sound rfl) (by exact True.intro) ?_; refine TrL.quiets 3 rfl (by exact True.intro) ?_; refine TrL.nil ?_; refine Tr.seq ?_; refine Tr.seq ?_; refine Tr.region ?_; refine TrL.quiets 8 rfl (by exact True.intro) ?_; refine TrL.nil ?_
  refine Tr.cond rfl (fun c1 => ?_) (fun c1 => ?_)
  · refine Tr.seq ?_; refine Tr.region ?_; refine TrL.quiets 1 rfl (by exact True.intro) ?_; refine TrL.eff (effStore_sound rfl) (by exact True.intro) ?_; refine TrL.quiets 3 rfl (by exact True.intro) ?_; refine TrL.nil ?_; refine Tr.ret ?_
    refine retQ.of rfl ?_
    rfl
  · rw [Bool.or_eq_false_iff, decide_eq_false_iff_not, decide_eq_false_iff_not] at c1
    omega
theorem c_Next_in (text : Str) (a : Nat) (n : Int) (hT : text.length ≤ 274877906944) (h : a < text.length) (hn1 : -2199023255552 ≤ n) (hn2 : n ≤ 2199023255552) :
    CallV Tryd.prog 39 [vS text, vI a, vI n] (.tup [lineSV (lineAt text a).1.1 n (lineAt text a).1.2, vI ((lineAt text a).2.1 : Int), vI (n + ((lineAt text a).2.2 : Int)), vB true]) := by
  have hb := lineAt_bounds text a h
  have hg := rawN_gt text a h
  have hcl : clampA (a : Int) text.length = a := by unfold clampA; omega
  refine CallV.of Tryd.func39 (by kernel_rfl) rfl Tryd.ntmps39 (by simp) rfl fun cx hB => ?_
  refine Tr.seq ?_; refine Tr.region ?_; refine TrL.eff (effBox_sound rfl) (by exact True.intro) ?_; refine TrL.quiets 3 rfl (by exact True.intro) ?_; refine TrL.nil ?_; refine Tr.seq ?_; refine Tr.seq ?_; refine Tr.region ?_; refine TrL.quiets 8 rfl (by exact True.intro) ?_; refine TrL.nil ?_
  refine Tr.cond rfl (fun c1 => ?_) (fun c1 => ?_)
  · rw [Bool.or_eq_true, decide_eq_true_eq, decide_eq_true_eq] at c1
    omega
  refine Tr.skip ?_; refine Tr.seq ?_; refine Tr.region ?_; refine TrL.quiets 2 rfl (by exact True.intro) ?_
  first | refine TrL.callV rfl rfl rfl rfl rfl (c_lines_Raw text a (by omega)) ?_ | refine TrD.callV rfl rfl rfl rfl rfl (c_lines_Raw text a (by omega)) rfl ?_
  rw [hcl]
  refine TrL.quiets 5 rfl (by exact True.intro) ?_; refine TrL.nil ?_; refine Tr.seq ?_; refine Tr.region ?_; refine TrL.quiets 2 rfl (by exact True.intro) ?_; refine TrL.eff (effStore_sound rfl) (by exact True.intro) ?_; refine TrL.nil ?_; refine Tr.seq ?_; refine Tr.seq ?_; refine Tr.region ?_; refine TrL.quiets 1 rfl (by exact True.intro) ?_
  first | refine TrL.callV rfl rfl rfl rfl rfl (c_CutPrefix ..) ?_ | refine TrD.callV rfl rfl rfl rfl rfl (c_CutPrefix ..) rfl ?_
  refine TrL.quiets 5 rfl (by exact True.intro) ?_; refine TrL.nil ?_; refine Tr.seq ?_; refine Tr.region ?_; refine TrL.quiets 1 rfl (by exact True.intro) ?_; refine TrL.nil ?_
  refine Tr.cond rfl (fun c2 => ?_) (fun c2 => ?_)
  · have el : lineAt text a = (((more joinRec text ((rawS text a).drop 1) (rawN text a) 1).1, true), (more joinRec text ((rawS text a).drop 1) (rawN text a) 1).2) := if_pos c2
    refine Tr.is 11 (sv' := vS ((rawS text a).drop 1)) rfl (congrArg vS (trim_tab c2)) ?_
    refine Tr.seq ?_; refine Tr.region ?_; refine TrL.quiets 1 rfl (by exact True.intro) ?_; refine TrL.eff (effStore_sound rfl) (by exact True.intro) ?_; refine TrL.nil ?_; refine Tr.region ?_; refine TrL.quiets 3 rfl (by exact True.intro) ?_
    first | refine TrL.callV rfl rfl rfl rfl rfl (c_more 63 joinRec c_recipe joinRec_le text ((rawS text a).drop 1) (rawN text a) hT (by simp; omega) (by omega)) ?_ | refine TrD.callV rfl rfl rfl rfl rfl (c_more 63 joinRec c_recipe joinRec_le text ((rawS text a).drop 1) (rawN text a) hT (by simp; omega) (by omega)) rfl ?_
    refine TrL.quiets 5 rfl (by exact True.intro) ?_; refine TrL.eff (effStore_sound rfl) (by exact True.intro) ?_; refine TrL.quiets 2 rfl (by exact True.intro) ?_; refine TrL.nil ?_; refine Tr.seq ?_; refine Tr.region ?_; refine TrL.quiets 5 rfl (by exact True.intro) ?_; refine TrL.eff (effStore_sound rfl) (by exact True.intro) ?_; refine TrL.quiets 3 rfl (by exact True.intro) ?_; refine TrL.nil ?_; refine Tr.ret ?_
    refine retQ.of rfl ?_
    rw [el] at hb ⊢
    rw [w64 (x := n + ((more joinRec text ((rawS text a).drop 1) (rawN text a) 1).2.2 : Int)) (by dsimp only at hb; omega) (by dsimp only at hb; omega)]
    rfl
  · have el : lineAt text a = ((bare (more joinPlain text (rawS text a) (rawN text a) 1).1, false), (more joinPlain text (rawS text a) (rawN text a) 1).2) := if_neg (by rw [show hasPre (rawS text a) [9] = false from c2]; simp)
    have h2 := more_bounds joinPlain joinPlain_le text (text.length - rawN text a) (rawS text a) (rawN text a) 1 (by omega) (by omega) (by omega)
    rw [← more] at h2
    refine Tr.seq ?_; refine Tr.region ?_; refine TrL.quiets 3 rfl (by exact True.intro) ?_
    first | refine TrL.callV rfl rfl rfl rfl rfl (c_more 64 joinPlain c_plain joinPlain_le text (rawS text a) (rawN text a) hT (by omega) (by omega)) ?_ | refine TrD.callV rfl rfl rfl rfl rfl (c_more 64 joinPlain c_plain joinPlain_le text (rawS text a) (rawN text a) hT (by omega) (by omega)) rfl ?_
    refine TrL.quiets 7 rfl (by exact True.intro) ?_; refine TrL.nil ?_; refine Tr.region ?_; refine TrL.quiets 1 rfl (by exact True.intro) ?_
    first | refine TrL.callV rfl rfl rfl rfl rfl (c_Bare (more joinPlain text (rawS text a) (rawN text a) 1).1 (by omega)) ?_ | refine TrD.callV rfl rfl rfl rfl rfl (c_Bare (more joinPlain text (rawS text a) (rawN text a) 1).1 (by omega)) rfl ?_
    refine TrL.quiets 1 rfl (by exact True.intro) ?_; refine TrL.eff (effStore_sound rfl) (by exact True.intro) ?_; refine TrL.nil ?_; refine Tr.seq ?_; refine Tr.region ?_; refine TrL.quiets 5 rfl (by exact True.intro) ?_; refine TrL.eff (effStore_sound rfl) (by exact True.intro) ?_; refine TrL.quiets 3 rfl (by exact True.intro) ?_; refine TrL.nil ?_; refine Tr.ret ?_
    refine retQ.of rfl ?_
    rw [el] at hb ⊢
    rw [w64 (x := n + ((more joinPlain text (rawS text a) (rawN text a) 1).2.2 : Int)) (by dsimp only at hb; omega) (by dsimp only at hb; omega)]
    rfl
end Go.Proofs.YtafngfcfinligaaDoor.Sx
