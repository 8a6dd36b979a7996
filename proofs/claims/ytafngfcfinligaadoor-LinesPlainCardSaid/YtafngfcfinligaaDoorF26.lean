/-
  Lines: the reference's line at a place.
-/
import Derived.Test.YtafngfcfinligaaDoorF25
set_option linter.unusedVariables false
set_option linter.unusedSimpArgs false
set_option maxRecDepth 20000
set_option maxHeartbeats 4000000
namespace Go.Proofs.YtafngfcfinligaaDoor.Sx
open Go Go.RowKit Go.Proofs

theorem tab_head (s : Str) : (!(s == ([] : Str)) && byteAt s 0 == 9) = hasPre s [9] := by
  cases s with
  | nil => rfl
  | cons c r =>
    have h := byte_beq c 9
    have e : byteAt (c :: r) 0 = ((c.toNat : Nat) : Int) := rfl
    rw [e, show (9 : Int) = (((9 : UInt8).toNat : Nat) : Int) from rfl, h]
    have h2 : ((c :: r : Str) == []) = false := rfl
    rw [h2]
    simp only [hasPre, List.isPrefixOf, Bool.not_false, Bool.true_and, Bool.and_true]
    rw [Bool.eq_iff_iff]
    simp only [beq_iff_eq]
    exact eq_comm
theorem tab_cons {s : Str} (h : hasPre s [9] = true) : s = 9 :: s.drop 1 := by
  cases s with
  | nil => cases h
  | cons c r =>
    simp only [hasPre, List.isPrefixOf, Bool.and_true, beq_iff_eq] at h
    rw [← h]
    rfl
theorem bsl_tab (r : Str) : bsl (9 :: r) = bsl r := by
  have : ∀ l : Str, ((l ++ [9]).takeWhile (fun c : UInt8 => c == 92)).length = (l.takeWhile (fun c : UInt8 => c == 92)).length := by
    intro l
    induction l with
    | nil => rfl
    | cons d l ih =>
      simp only [List.cons_append, List.takeWhile_cons]
      split
      · simp [ih]
      · rfl
  simp only [bsl, List.reverse_cons]
  exact this _
theorem moreR_tab (text : Str) : ∀ (f : Nat) (r : Str) (nx n : Nat), moreR joinRec text f (9 :: r) nx n = (9 :: (moreR joinRec text f r nx n).1, (moreR joinRec text f r nx n).2)
  | 0, r, nx, n => rfl
  | f + 1, r, nx, n => by
    rw [moreR, moreR, bsl_tab]
    split
    · exact moreR_tab text f (joinRec r (rawS text nx)) _ _
    · rfl
def joinOf (rc : Bool) (s t : Str) : Str := if rc then joinRec s t else joinPlain s t
theorem joinOf_le (rc : Bool) (s t : Str) : (joinOf rc s t).length ≤ s.length + t.length + 1 := by
  cases rc
  · exact joinPlain_le s t
  · exact joinRec_le s t

theorem ne_len {s : Str} (h : (!(s == ([] : Str))) = true) : inR 0 s.length := by
  cases s with
  | nil => cases h
  | cons c r => exact ⟨Int.le_refl _, by simp only [List.length_cons]; omega⟩
theorem c_refNext_out (text : Str) (at_ n : Int) (h : at_ < 0 ∨ (text.length : Int) ≤ at_) : CallV Tryd.prog 40 [vS text, vI at_, vI n] (.tup [lineSV [] 0 false, vI 0, vI 0, vB false]) := by
  refine CallV.of Tryd.func40 (by kernel_rfl) rfl Tryd.ntmps40 (by simp) rfl fun cx hB => ?_
  refine Tr.seq ?_; refine Tr.region ?_; refine TrL.eff (effBox_sound rfl) (by exact True.intro) ?_; refine TrL.quiets 3 rfl (by exact True.intro) ?_; refine TrL.nil ?_; refine Tr.seq ?_; refine Tr.seq ?_; refine Tr.region ?_; refine TrL.quiets 8 rfl (by exact True.intro) ?_; refine TrL.nil ?_
  refine Tr.cond rfl (fun c1 => ?_) (fun c1 => ?_)
  · refine Tr.seq ?_; refine Tr.region ?_; refine TrL.quiets 1 rfl (by exact True.intro) ?_; refine TrL.eff (effStore_sound rfl) (by exact True.intro) ?_; refine TrL.quiets 3 rfl (by exact True.intro) ?_; refine TrL.nil ?_; refine Tr.ret ?_
    refine retQ.of rfl ?_
    rfl
  · rw [Bool.or_eq_false_iff, decide_eq_false_iff_not, decide_eq_false_iff_not] at c1
    omega
theorem c_refNext_in (text : Str) (a : Nat) (n : Int) (hT : text.length ≤ 274877906944) (h : a < text.length) (hn1 : -2199023255552 ≤ n) (hn2 : n ≤ 2199023255552) :
    CallV Tryd.prog 40 [vS text, vI a, vI n] (.tup [lineSV (lineAt text a).1.1 n (lineAt text a).1.2, vI ((lineAt text a).2.1 : Int), vI (n + ((lineAt text a).2.2 : Int)), vB true]) := by
  have hg := rawN_gt text a h
  have hcl : clampA (a : Int) text.length = a := by unfold clampA; omega
  obtain ⟨s, hs⟩ : ∃ s, rawS text a = s := ⟨_, rfl⟩
  obtain ⟨nx, hnx⟩ : ∃ nx, rawN text a = nx := ⟨_, rfl⟩
  obtain ⟨rc, hrc⟩ : ∃ rc, hasPre s [9] = rc := ⟨_, rfl⟩
  rw [hs, hnx] at hg
  refine CallV.of Tryd.func40 (by kernel_rfl) rfl Tryd.ntmps40 (by simp) rfl fun cx hB => ?_
  refine Tr.seq ?_; refine Tr.region ?_; refine TrL.eff (effBox_sound rfl) (by exact True.intro) ?_; refine TrL.quiets 3 rfl (by exact True.intro) ?_; refine TrL.nil ?_; refine Tr.seq ?_; refine Tr.seq ?_; refine Tr.region ?_; refine TrL.quiets 8 rfl (by exact True.intro) ?_; refine TrL.nil ?_
  refine Tr.cond rfl (fun c1 => ?_) (fun c1 => ?_)
  · rw [Bool.or_eq_true, decide_eq_true_eq, decide_eq_true_eq] at c1
    omega
  refine Tr.skip ?_; refine Tr.seq ?_; refine Tr.region ?_; refine TrL.quiets 2 rfl (by exact True.intro) ?_
  first | refine TrL.callV rfl rfl rfl rfl rfl (c_ref_Raw text a (by omega)) ?_ | refine TrD.callV rfl rfl rfl rfl rfl (c_ref_Raw text a (by omega)) rfl ?_
  rw [hcl, hs, hnx]
  refine TrL.quiets 5 rfl (by exact True.intro) ?_; refine TrL.nil ?_; refine Tr.seq ?_; refine Tr.region ?_; refine TrL.quiets 3 rfl (by exact True.intro) ?_; refine TrL.nil ?_; refine Tr.seq ?_; refine Tr.region ?_; refine TrL.quiets 8 rfl ?_ ?_
  · simp only [allOf, impO, imp, and_true]
    exact ne_len
  refine TrL.nil ?_; refine Tr.seq ?_
  refine Tr.is 13 (sv' := vB rc) rfl (congrArg vB ((tab_head s).trans hrc)) ?_
  refine Tr.is 12 (sv' := vI (n + ((1 : Nat) : Int))) rfl (congrArg vI (w64 (by omega) (by omega))) ?_
  refine Tr.block ?_
  refine Tr.loop (fun (x : Str × Nat × Nat) => ⟨[(0, [], vS text), (2, [], vI n), (6, [], .ptr 0 0), (10, [], vS x.1), (11, [], vI x.2.1), (12, [], vI (n + (x.2.2 : Int))), (13, [], vB rc)], [.box 50 [vS [], vI 0, vB false]]⟩)
    (fun x => x.1.length ≤ 2 * x.2.1 ∧ x.2.1 ≤ text.length ∧ x.2.2 ≤ x.2.1 + 1 ∧ more (joinOf rc) text s nx 1 = more (joinOf rc) text x.1 x.2.1 x.2.2 ∧ (rc = true → ∃ v, x.1 = 9 :: v)) (fun x => text.length - x.2.1) (s, nx, 1) [0, 2, 6, 10, 11, 12, 13] 1 (fun i h => by have := hB i h; omega) rfl
    ⟨by dsimp only; omega, hg.2.2, by dsimp only; omega, rfl, fun h => ⟨_, tab_cons (hrc.trans h)⟩⟩ fun x hx => ?_
  obtain ⟨u, m, k⟩ := x
  obtain ⟨k1, k2, k3, k4, k5⟩ := hx
  simp only at k1 k2 k3 k4 k5
  refine Tr.seq ?_; refine Tr.seq ?_; refine Tr.region ?_; refine TrL.quiets 1 rfl (by exact True.intro) ?_
  first | refine TrL.callV rfl rfl rfl rfl rfl (c_odd u (by omega)) ?_ | refine TrD.callV rfl rfl rfl rfl rfl (c_odd u (by omega)) rfl ?_
  refine TrL.quiets 6 rfl (by exact True.intro) ?_; refine TrL.nil ?_
  refine Tr.cond rfl (fun c2 => ?_) (fun c2 => ?_)
  · simp only [Bool.and_eq_true, beq_iff_eq, decide_eq_true_eq] at c2
    obtain ⟨c2, c3⟩ := c2
    have hm : m < text.length := by omega
    have hu : u ≠ [] := fun e => by rw [e, bsl_nil] at c2; omega
    have hul : 0 < u.length := List.length_pos_iff.2 hu
    have hgm := rawN_gt text m hm
    have hj := joinOf_le rc u (rawS text m)
    have hclm : clampA (m : Int) text.length = m := by unfold clampA; omega
    rw [more_step c2 hm] at k4
    obtain ⟨t, ht⟩ : ∃ t, rawS text m = t := ⟨_, rfl⟩
    obtain ⟨m', hm'⟩ : ∃ m', rawN text m = m' := ⟨_, rfl⟩
    have wkp : IntKind.i64.wrap (n + (k : Int) + 1) = n + ((k + 1 : Nat) : Int) := by rw [w64 (by omega) (by omega)]; omega
    refine Tr.skip ?_; refine Tr.block ?_; refine Tr.seq ?_; refine Tr.region ?_; refine TrL.quiets 2 rfl (by exact True.intro) ?_
    first | refine TrL.callV rfl rfl rfl rfl rfl (c_ref_Raw text m (by omega)) ?_ | refine TrD.callV rfl rfl rfl rfl rfl (c_ref_Raw text m (by omega)) rfl ?_
    rw [hclm, ht, hm']
    rw [ht, hm'] at k4 hgm
    rw [ht] at hj
    refine TrL.quiets 5 rfl (by exact True.intro) ?_; refine TrL.nil ?_; refine Tr.seq ?_; refine Tr.region ?_; refine TrL.quiets 2 rfl (by exact True.intro) ?_; refine TrL.nil ?_; refine Tr.seq ?_; refine Tr.region ?_; refine TrL.quiets 3 rfl (by exact True.intro) ?_; refine TrL.nil ?_; refine Tr.seq ?_; refine Tr.region ?_; refine TrL.quiets 1 rfl (by exact True.intro) ?_; refine TrL.nil ?_
    refine Tr.cond rfl (fun c4 => ?_) (fun c4 => ?_)
    · have hrt : rc = true := c4
      obtain ⟨v, hv⟩ := k5 hrt
      have htl := trimPre_le t [9]
      refine Tr.seq ?_; refine Tr.seq ?_; refine Tr.region ?_; refine TrL.quiets 7 rfl ?_ ?_
      · simp only [allOf, impO, imp, and_true]
        exact ne_len
      refine TrL.nil ?_
      refine Tr.joinT (fun (_ : Unit) => ⟨[(0, [], vS text), (2, [], vI n), (6, [], .ptr 0 0), (10, [], vS u), (11, [], vI m'), (12, [], vI (n + ((k + 1 : Nat) : Int))), (13, [], vB rc), (14, [], vS (trimPre t [9]))], [.box 50 [vS [], vI 0, vB false]]⟩) (fun _ => True) [0, 2, 6, 10, 11, 12, 13, 14] 1 (fun i h => by have := hB i h; omega) ?_ fun _ _ => ?_
      · have hth := tab_head t
        refine Tr.cond rfl (fun c5 => ?_) (fun c5 => ?_)
        · have h5 : hasPre t [9] = true := hth.symm.trans c5
          have h6 := tab_cons h5
          refine Tr.region ?_; refine TrL.quiets 3 rfl ?_ ?_
          · have : 0 < t.length := by rw [h6]; simp
            simp only [allOf, impO, imp, loOk, and_true, true_and, Option.getD_none]
            omega
          refine TrL.nil ?_
          refine ⟨(), True.intro, ?_⟩
          refine Eq.trans (b := (⟨[(_, [], _), (_, [], _), (_, [], _), (_, [], _), (_, [], _), (_, [], _), (_, [], _), (_, [], _)], [_]⟩ : St)) rfl ?_
          rw [wkp, trim_tab h5]
          rfl
        · have h5 : ¬ hasPre t [9] = true := by rw [hth.symm.trans c5]; simp
          refine Tr.skip ?_
          refine ⟨(), True.intro, ?_⟩
          refine Eq.trans (b := (⟨[(_, [], _), (_, [], _), (_, [], _), (_, [], _), (_, [], _), (_, [], _), (_, [], _), (_, [], _)], [_]⟩ : St)) rfl ?_
          rw [wkp, trimPre, if_neg h5]
          rfl
      · refine Tr.region ?_; refine TrL.quiets 5 rfl (by (simp (disch := omega) only [allOf, impO, imp, inR, loOk, and_true, w64, List.length_set, List.length_cons, List.length_nil, cut, List.length_take, List.length_drop, List.length_append, Int.toNat_natCast, Option.getD_none, Option.getD_some, Ty.D, true_and, decide_eq_true_eq, decide_eq_false_iff_not, Bool.and_eq_true, Bool.or_eq_false_iff]; omega)) ?_; refine TrL.nil ?_
        rw [hrt] at k4 hj
        refine ⟨(joinRec u t, m', k + 1), ⟨?_, hgm.2.2, by dsimp only; omega, ?_, fun _ => ⟨joinRec v t, by rw [hv]; rfl⟩⟩, by dsimp only; omega, rfl⟩
        · have : (joinRec u t).length ≤ u.length + t.length + 1 := hj
          dsimp only
          omega
        · rw [hrt]
          exact k4
    · have hrf : rc = false := c4
      have w1 : IntKind.i64.wrap ((u.length : Int) - 1) = ((u.length - 1 : Nat) : Int) := w64n (by omega) (by omega)
      have hrl := right_le (u.take (u.length - 1))
      have hll := left_len t
      simp only [List.length_take] at hrl
      refine Tr.region ?_; refine TrL.quiets 5 rfl (by (simp only [allOf, impO, imp, inR, loOk, and_true]; omega)) ?_
      rw [w1]
      first | refine TrL.callV rfl rfl rfl rfl rfl (c_ref_Right (u.take (u.length - 1)) (by simp; omega)) ?_ | refine TrD.callV rfl rfl rfl rfl rfl (c_ref_Right (u.take (u.length - 1)) (by simp; omega)) rfl ?_
      refine TrL.quiets 2 rfl (by (simp (disch := omega) only [allOf, impO, imp, inR, loOk, and_true, w64, List.length_set, List.length_cons, List.length_nil, Option.getD_none, Option.getD_some, Ty.D, true_and, decide_eq_true_eq, decide_eq_false_iff_not, Bool.and_eq_true, Bool.or_eq_false_iff]; omega)) ?_
      first | refine TrL.callV rfl rfl rfl rfl rfl (c_ref_Left t) ?_ | refine TrD.callV rfl rfl rfl rfl rfl (c_ref_Left t) rfl ?_
      refine TrL.quiets 2 rfl (by (simp (disch := omega) only [allOf, impO, imp, inR, loOk, and_true, w64, List.length_set, List.length_cons, List.length_nil, cut, List.length_take, List.length_drop, List.length_append, Int.toNat_natCast, Option.getD_none, Option.getD_some, Ty.D, true_and, decide_eq_true_eq, decide_eq_false_iff_not, Bool.and_eq_true, Bool.or_eq_false_iff]; omega)) ?_; refine TrL.nil ?_
      rw [hrf] at k4 hj
      refine ⟨(joinPlain u t, m', k + 1), ⟨?_, hgm.2.2, by dsimp only; omega, ?_, fun h => by rw [hrf] at h; cases h⟩, by dsimp only; omega, ?_⟩
      · have : (joinPlain u t).length ≤ u.length + t.length + 1 := hj
        dsimp only
        omega
      · rw [hrf]
        exact k4
      · refine Eq.trans (b := (⟨[(_, [], _), (_, [], _), (_, [], _), (_, [], _), (_, [], _), (_, [], _), (_, [], _)], [_]⟩ : St)) rfl ?_
        dsimp only
        rw [wkp]
        rfl
  have hst : more (joinOf rc) text u m k = (u, m, k) := more_stop fun x => by
    dsimp only at c2
    rw [Bool.and_eq_false_iff] at c2
    rcases c2 with c2 | c2
    · rw [x.1] at c2; cases c2
    · rw [decide_eq_false_iff_not] at c2; have := x.2; omega
  rw [hst] at k4
  refine Tr.exit ?_; refine Tr.seq ?_; refine Tr.seq ?_; refine Tr.region ?_; refine TrL.quiets 1 rfl (by exact True.intro) ?_; refine TrL.nil ?_
  refine Tr.cond rfl (fun c6 => ?_) (fun c6 => ?_)
  · have hrt : rc = true := c6
    obtain ⟨v, hv⟩ := k5 hrt
    rw [hrt] at k4 hrc
    have k6 : moreR joinRec text (text.length - nx) s nx 1 = (u, m, k) := k4
    rw [tab_cons hrc, moreR_tab, hv] at k6
    simp only [Prod.mk.injEq, List.cons.injEq, true_and] at k6
    obtain ⟨k7, k8⟩ := k6
    have el : lineAt text a = ((v, true), (m, k)) := by
      unfold lineAt
      rw [hs, hnx, if_pos hrc, more, k7, k8]
    subst hv
    refine Tr.seq ?_; refine Tr.region ?_; refine TrL.quiets 6 rfl (by (simp (disch := omega) only [allOf, impO, imp, inR, loOk, and_true, w64, List.length_set, List.length_cons, List.length_nil, Option.getD_none, Option.getD_some, Ty.D, true_and, decide_eq_true_eq, decide_eq_false_iff_not, Bool.and_eq_true, Bool.or_eq_false_iff]; omega)) ?_; refine TrL.eff (effStore_sound rfl) (by exact True.intro) ?_; refine TrL.quiets 3 rfl (by exact True.intro) ?_; refine TrL.nil ?_; refine Tr.ret ?_
    refine retQ.of rfl ?_
    rw [el]
    rfl
  · have hrf : rc = false := c6
    rw [hrf] at k4 hrc
    have k6 : more joinPlain text s nx 1 = (u, m, k) := k4
    have el : lineAt text a = ((bare u, false), (m, k)) := by
      unfold lineAt
      rw [hs, hnx, if_neg (by rw [hrc]; simp), k6]
    refine Tr.skip ?_; refine Tr.seq ?_; refine Tr.region ?_; refine TrL.quiets 1 rfl (by exact True.intro) ?_
    first | refine TrL.callV rfl rfl rfl rfl rfl (c_ref_Bare u (by omega)) ?_ | refine TrD.callV rfl rfl rfl rfl rfl (c_ref_Bare u (by omega)) rfl ?_
    refine TrL.quiets 4 rfl (by exact True.intro) ?_; refine TrL.eff (effStore_sound rfl) (by exact True.intro) ?_; refine TrL.quiets 3 rfl (by exact True.intro) ?_; refine TrL.nil ?_; refine Tr.ret ?_
    refine retQ.of rfl ?_
    rw [el]
    rfl
end Go.Proofs.YtafngfcfinligaaDoor.Sx
