/-
  law18: name; TextfnAll.
-/
import Derived.Test.YtcclfjddakonoaaGreatDoorT19
set_option linter.unusedVariables false
set_option linter.unusedSimpArgs false
set_option maxRecDepth 20000
set_option maxHeartbeats 4000000
namespace Go.Proofs.YtcclfjddakonoaaGreatDoor.Sx
open Go Go.RowKit Go.Proofs

def names13 : List Str := [kSubst, kPatsubst, kStrip, kFind, kFilter, kFilterOut, kSort, kFirst, kLast, kSuffix, kPrefix, kJoin, [119, 111, 114, 100, 115]]
def nameV (v : Int) : Str := nth (t := .str) names13 (v % 13)
theorem c_name (v : Int) (h1 : -9223372036854775808 ≤ v) (h2 : v ≤ 9223372036854775807) : CallV Tryz.prog 9 [vI v] (vS (nameV v)) := by
  have e1 := Int.emod_nonneg v (show (13 : Int) ≠ 0 by decide)
  have e2 := Int.emod_lt_of_pos v (show (0 : Int) < 13 by decide)
  refine CallV.of Tryz.func9 (by kernel_rfl) rfl Tryz.ntmps9 (by simp) rfl fun cx hB => ?_
  refine Tr.seq ?_; refine Tr.region ?_; refine TrL.quiets 1 rfl (by exact True.intro) ?_; refine TrL.nil ?_; refine Tr.seq ?_; refine Tr.region ?_; refine TrL.quiets 2 rfl (by exact True.intro) ?_
  first | refine TrL.callV rfl rfl rfl rfl rfl (c_Place v 13 (by decide) (by decide) h1 h2) ?_ | refine TrD.callV rfl rfl rfl rfl rfl (c_Place v 13 (by decide) (by decide) h1 h2) rfl ?_
  refine TrL.quiets 2 rfl (by (simp only [allOf, impO, imp, inR, loOk, and_true]; omega)) ?_; refine TrL.nil ?_; refine Tr.ret ?_
  refine retQ.of rfl ?_
  rfl
theorem c_TextfnAll (s : Str) (v : Int) (l : List Str) (h1 : -9223372036854775808 ≤ v) (h2 : v ≤ 9223372036854775807) : CallV Tryz.prog 3 [vS s, vI v, vL .str l] (vB true) := by
  refine CallV.of Tryz.func3 (by kernel_rfl) rfl Tryz.ntmps3 (by simp) rfl fun cx hB => ?_
  have hB1 : ∀ i, cx.B i = true → i < 1 := fun i h => by have := hB i h; omega
  refine Tr.seq ?_; refine Tr.region ?_; refine TrL.quiets 1 rfl (by exact True.intro) ?_; refine TrL.nil ?_; refine Tr.seq ?_; refine Tr.seq ?_; refine Tr.region ?_; refine TrL.quiets 3 rfl (by exact True.intro) ?_; refine TrL.nil ?_
  refine Tr.cond rfl (fun c1 => ?_) (fun c1 => ?_)
  · refine Tr.seq ?_; refine Tr.region ?_
    first | refine TrL.callV rfl rfl rfl rfl rfl c_awake18 ?_ | refine TrD.callV rfl rfl rfl rfl rfl c_awake18 rfl ?_
    refine TrL.quiets 1 rfl (by exact True.intro) ?_; refine TrL.nil ?_; refine Tr.ret ?_
    refine retQ.of rfl ?_
    rfl
  have hl : l.length ≤ 5 := by
    have : ¬ (l.length : Int) > 5 := by simpa using c1
    omega
  refine Tr.skip ?_; refine Tr.seq ?_; refine Tr.seq ?_; refine Tr.region ?_; refine TrL.quiets 1 rfl (by exact True.intro) ?_; refine TrL.nil ?_; refine Tr.block ?_
  refine Tr.loop (fun i : Nat => ⟨[(0, [], vS s), (1, [], vI v), (2, [], vL .str l), (7, [], vI i)], []⟩) (fun i => i ≤ l.length ∧ ∀ x ∈ l.take i, x.length ≤ 300) (fun i => l.length - i) 0 [0, 1, 2, 7] 0 hB rfl ⟨Nat.zero_le _, by simp⟩ fun i hi => ?_
  obtain ⟨hi, hx⟩ := hi
  refine Tr.seq ?_; refine Tr.seq ?_; refine Tr.region ?_; refine TrL.quiets 4 rfl (by exact True.intro) ?_; refine TrL.nil ?_
  refine Tr.cond rfl (fun c2 => ?_) (fun c2 => ?_)
  · have hi1 : i < l.length := by simpa using c2
    have hnth : nth (t := .str) l (i : Int) = l[i] := nth_get' (t := .str) _ _ hi1
    refine Tr.skip ?_; refine Tr.seq ?_; refine Tr.block ?_; refine Tr.seq ?_; refine Tr.region ?_; refine TrL.quiets 6 rfl (by (simp only [allOf, impO, imp, inR, loOk, and_true]; omega)) ?_; refine TrL.nil ?_
    refine Tr.cond rfl (fun c3 => ?_) (fun c3 => ?_)
    · refine Tr.seq ?_; refine Tr.region ?_
      first | refine TrL.callV rfl rfl rfl rfl rfl c_awake18 ?_ | refine TrD.callV rfl rfl rfl rfl rfl c_awake18 rfl ?_
      refine TrL.quiets 1 rfl (by exact True.intro) ?_; refine TrL.nil ?_; refine Tr.ret ?_
      refine retQ.of rfl ?_
      rfl
    · have hle : l[i].length ≤ 300 := by
        rw [hnth] at c3
        have : ¬ ((l[i]).length : Int) > 300 := by simpa using c3
        omega
      refine Tr.skip ?_; refine Tr.region ?_; refine TrL.quiets 3 rfl (by exact True.intro) ?_; refine TrL.nil ?_
      refine ⟨i + 1, ⟨hi1, fun x hxm => ?_⟩, by dsimp only; omega, ?_⟩
      · rw [List.take_succ_eq_append_getElem hi1] at hxm
        rcases List.mem_append.1 hxm with h | h
        · exact hx x h
        · rw [List.mem_singleton.1 h]; exact hle
      refine Eq.trans (b := (⟨[(0, [], vS s), (1, [], vI v), (2, [], vL .str l), (7, [], vI (IntKind.i64.wrap ((i : Int) + 1)))], []⟩ : St)) rfl ?_
      dsimp only
      rw [w64n (y := i + 1) (by omega) (by omega)]
  have hi1 : l.length = i := by
    have : ¬ (i : Int) < l.length := by simpa using c2
    omega
  subst hi1
  rw [List.take_length] at hx
  refine Tr.exit ?_; refine Tr.seq ?_; refine Tr.seq ?_; refine Tr.region ?_; refine TrL.quiets 2 rfl (by exact True.intro) ?_
  first | refine TrL.callV rfl rfl rfl rfl rfl (c_name v h1 h2) ?_ | refine TrD.callV rfl rfl rfl rfl rfl (c_name v h1 h2) rfl ?_
  generalize nameV v = nm
  refine TrL.quiets 2 rfl (by exact True.intro) ?_; refine TrL.nil ?_
  change Tr _ _ _ _ _ _
  refine Tr.keep [2, 34, 35] 0 hB (st' := ⟨[(2, [], vL .str l), (34, [], .agg [vS s, vS nm]), (35, [], vI 0)], []⟩) rfl ?_
  refine Tr.block ?_
  refine Tr.loop (fun k : Nat => ⟨[(2, [], vL .str l), (34, [], .agg [vS s, vS nm]), (35, [], vI k)], []⟩) (fun k => k ≤ 2) (fun k => 2 - k) 0 [2, 34, 35] 0 hB rfl (Nat.zero_le _) fun k hk => ?_
  refine Tr.seq ?_; refine Tr.region ?_; refine TrL.quiets 1 rfl (by exact True.intro) ?_; refine TrL.nil ?_; refine Tr.seq ?_
  refine Tr.cond rfl (fun c4 => ?_) (fun c4 => ?_)
  · have hk1 : k < 2 := by
      have : (k : Int) < 2 := by simpa using c4
      omega
    have hlx : ∀ x ∈ l, x.length ≤ 10000 := fun x h => by have := hx x h; omega
    have da := c_Do (nth (t := .str) [s, nm] (k : Int)) l (by omega) hlx
    have dr := c_rDo (nth (t := .str) [s, nm] (k : Int)) l (by omega) hlx
    unfold DoIs at da
    unfold RDoIs at dr
    generalize doF (nth (t := .str) [s, nm] (k : Int)) l = r at da dr
    refine Tr.skip ?_; refine Tr.seq ?_; refine Tr.block ?_; refine Tr.seq ?_; refine Tr.region ?_; refine TrL.quiets 2 rfl (by (simp only [allOf, impO, imp, inR, loOk, and_true]; omega)) ?_; refine TrL.nil ?_; refine Tr.seq ?_; refine Tr.region ?_; refine TrL.quiets 2 rfl (by exact True.intro) ?_; refine TrL.eff (effAppend_sound rfl) ?_ ?_
    · show l.length ≤ 1099511627776
      omega
    first | refine TrL.callV rfl rfl rfl rfl rfl da ?_ | refine TrD.callV rfl rfl rfl rfl rfl da rfl ?_
    refine TrL.quiets 5 rfl (by exact True.intro) ?_; refine TrL.nil ?_
    change Tr _ _ _ _ _ _
    refine Tr.keep [2, 9, 10, 11, 34, 35] 0 hB (st' := ⟨[(2, [], vL .str l), (9, [], vS (nth (t := .str) [s, nm] (k : Int))), (10, [], vS r.1), (11, [], vB r.2), (34, [], .agg [vS s, vS nm]), (35, [], vI k)], []⟩) rfl ?_
    refine Tr.seq ?_; refine Tr.region ?_; refine TrL.quiets 2 rfl (by exact True.intro) ?_
    first | refine TrL.callV rfl rfl rfl rfl rfl dr ?_ | refine TrD.callV rfl rfl rfl rfl rfl dr rfl ?_
    refine TrL.quiets 5 rfl (by exact True.intro) ?_; refine TrL.nil ?_; refine Tr.seq ?_; refine Tr.region ?_; refine TrL.quiets 8 rfl (by exact True.intro) ?_; refine TrL.nil ?_
    refine Tr.cond rfl (fun c5 => ?_) (fun c5 => ?_)
    · exfalso
      simp at c5
    refine Tr.skip ?_; refine Tr.region ?_; refine TrL.quiets 2 rfl (by exact True.intro) ?_; refine TrL.nil ?_
    refine ⟨k + 1, hk1, by dsimp only; omega, ?_⟩
    refine Eq.trans (b := (⟨[(2, [], vL .str l), (34, [], .agg [vS s, vS nm]), (35, [], vI (IntKind.i64.wrap ((k : Int) + 1)))], []⟩ : St)) rfl ?_
    dsimp only
    rw [w64n (y := k + 1) (by omega) (by omega)]
  · refine Tr.exit ?_; refine Tr.seq ?_; refine Tr.region ?_
    first | refine TrL.callV rfl rfl rfl rfl rfl c_awake18 ?_ | refine TrD.callV rfl rfl rfl rfl rfl c_awake18 rfl ?_
    refine TrL.quiets 1 rfl (by exact True.intro) ?_; refine TrL.nil ?_; refine Tr.ret ?_
    refine retQ.of rfl ?_
    rfl
def pats4 : List Str := [[37, 46, 99], [97], [37], [108, 105, 98, 37]]
theorem tdiv13 (v : Int) (h1 : -9223372036854775808 ≤ v) (h2 : v ≤ 9223372036854775807) : -9223372036854775808 ≤ v.tdiv 13 ∧ v.tdiv 13 ≤ 9223372036854775807 := by
  have h3 := Int.natAbs_tdiv v 13
  have h4 : v.natAbs.div (Int.natAbs 13) ≤ v.natAbs / 2 := by
    show v.natAbs / 13 ≤ v.natAbs / 2
    omega
  rw [← h3] at h4
  omega
theorem c_TextfnNumbers (v : Int) (a b c : List Int) (h1 : -9223372036854775808 ≤ v) (h2 : v ≤ 9223372036854775807) (ha : okInts a) (hb : okInts b) (hc : okInts c) :
    CallV Tryz.prog 4 [vI v, vL (.int .i64) a, vL (.int .i64) b, vL (.int .i64) c] (vB true) := by
  obtain ⟨q1, q2⟩ := tdiv13 v h1 h2
  have e1 := Int.emod_nonneg (v.tdiv 13) (show (4 : Int) ≠ 0 by decide)
  have e2 := Int.emod_lt_of_pos (v.tdiv 13) (show (0 : Int) < 4 by decide)
  have hx := wordsL_le a
  have hy := wordsL_le b
  have hz := wordsL_le c
  have wa := c_Words a ha
  have wb := c_Words b hb
  have wc := c_Words c hc
  generalize wordsL a = x at hx wa
  generalize wordsL b = y at hy wb
  generalize wordsL c = z at hz wc
  have hp : (nth (t := .str) pats4 (v.tdiv 13 % 4)).length ≤ 4 := nth_le pats4 _ 4 (by decide)
  refine CallV.of Tryz.func4 (by kernel_rfl) rfl Tryz.ntmps4 (by simp) rfl fun cx hB => ?_
  have hB1 : ∀ i, cx.B i = true → i < 1 := fun i h => by have := hB i h; omega
  refine Tr.seq ?_; refine Tr.region ?_; refine TrL.quiets 1 rfl (by exact True.intro) ?_; refine TrL.nil ?_; refine Tr.seq ?_; refine Tr.region ?_; refine TrL.quiets 1 rfl (by exact True.intro) ?_
  first | refine TrL.callV rfl rfl rfl rfl rfl (c_name v h1 h2) ?_ | refine TrD.callV rfl rfl rfl rfl rfl (c_name v h1 h2) rfl ?_
  refine TrL.quiets 1 rfl (by exact True.intro) ?_; refine TrL.nil ?_; refine Tr.seq ?_; refine Tr.region ?_; refine TrL.quiets 1 rfl (by exact True.intro) ?_
  first | refine TrL.callV rfl rfl rfl rfl rfl wa ?_ | refine TrD.callV rfl rfl rfl rfl rfl wa rfl ?_
  refine TrL.quiets 1 rfl (by exact True.intro) ?_
  first | refine TrL.callV rfl rfl rfl rfl rfl wb ?_ | refine TrD.callV rfl rfl rfl rfl rfl wb rfl ?_
  refine TrL.quiets 1 rfl (by exact True.intro) ?_
  first | refine TrL.callV rfl rfl rfl rfl rfl wc ?_ | refine TrD.callV rfl rfl rfl rfl rfl wc rfl ?_
  generalize nameV v = nm
  refine TrL.quiets 3 rfl (by exact True.intro) ?_; refine TrL.nil ?_
  change Tr _ _ _ _ _ _
  refine Tr.keep [0, 9, 10, 11, 12] 0 hB (st' := ⟨[(0, [], vI v), (9, [], vS nm), (10, [], vS x), (11, [], vS y), (12, [], vS z)], []⟩) rfl ?_
  refine Tr.seq ?_; refine Tr.seq ?_; refine Tr.region ?_; refine TrL.quiets 1 rfl (by exact True.intro) ?_; refine TrL.eff (effLit_sound rfl) (by exact True.intro) ?_; refine TrL.quiets 2 rfl (by exact True.intro) ?_; refine TrL.eff (effLit_sound rfl) (by exact True.intro) ?_; refine TrL.quiets 3 rfl (by (simp only [allOf, impO, imp, inR, loOk, and_true]; omega)) ?_
  refine TrL.is 34 (sv' := vI (v.tdiv 13)) rfl (congrArg vI (w64 q1 q2)) ?_
  first | refine TrL.callV rfl rfl rfl rfl rfl (c_Place (v.tdiv 13) 4 (by decide) (by decide) q1 q2) ?_ | refine TrD.callV rfl rfl rfl rfl rfl (c_Place (v.tdiv 13) 4 (by decide) (by decide) q1 q2) rfl ?_
  refine TrL.quiets 3 rfl (by (simp only [allOf, impO, imp, inR, loOk, and_true]; omega)) ?_; refine TrL.eff (effLit_sound rfl) (by exact True.intro) ?_; refine TrL.quiets 2 rfl (by exact True.intro) ?_; refine TrL.nil ?_; refine Tr.block ?_
  generalize hpe : nth (t := .str) pats4 (v.tdiv 13 % 4) = p at hp
  refine Tr.keep [9, 40, 41] 0 hB (st' := ⟨[(9, [], vS nm), (40, [], .agg [.fix .str [x], .fix .str [x, y], .fix .str [p, y, z]]), (41, [], vI 0)], []⟩) (by rw [← hpe]; rfl) ?_
  refine Tr.loop (fun k : Nat => ⟨[(9, [], vS nm), (40, [], .agg [.fix .str [x], .fix .str [x, y], .fix .str [p, y, z]]), (41, [], vI k)], []⟩) (fun k => k ≤ 3) (fun k => 3 - k) 0 [9, 40, 41] 0 hB rfl (Nat.zero_le _) fun k hk => ?_
  refine Tr.seq ?_; refine Tr.region ?_; refine TrL.quiets 1 rfl (by exact True.intro) ?_; refine TrL.nil ?_; refine Tr.seq ?_
  refine Tr.cond rfl (fun c4 => ?_) (fun c4 => ?_)
  · have hk1 : k < 3 := by
      have : (k : Int) < 3 := by simpa using c4
      omega
    obtain ⟨ar, har, hal, hax⟩ : ∃ ar : List Str, ([.fix .str [x], .fix .str [x, y], .fix .str [p, y, z]] : List SV)[k]? = some (.fix .str ar) ∧ ar.length ≤ 3 ∧ ∀ u ∈ ar, u.length ≤ 10000 := by
      rcases (show k = 0 ∨ k = 1 ∨ k = 2 by omega) with rfl | rfl | rfl
      · exact ⟨[x], rfl, by simp, l1 (by omega)⟩
      · exact ⟨[x, y], rfl, by simp, l2 (by omega) (by omega)⟩
      · exact ⟨[p, y, z], rfl, by simp, l3 (by omega) (by omega) (by omega)⟩
    have da := c_Do nm ar (by omega) hax
    have dr := c_rDo nm ar (by omega) hax
    unfold DoIs at da
    unfold RDoIs at dr
    generalize doF nm ar = r at da dr
    refine Tr.skip ?_; refine Tr.seq ?_; refine Tr.block ?_; refine Tr.seq ?_; refine Tr.region ?_
    refine TrL.eff (idxAny_sound har rfl rfl rfl Tryz.underlying33 Tryz.underlying22 rfl rfl rfl rfl rfl rfl rfl rfl) True.intro ?_
    refine TrL.quiets 1 rfl (by exact True.intro) ?_; refine TrL.nil ?_
    change Tr _ _ _ _ _ _
    refine Tr.weak 14 rfl (fix_weak .str ar) ?_
    refine Tr.keep [9, 14, 40, 41] 0 hB (st' := ⟨[(9, [], vS nm), (14, [], vL .str ar), (40, [], .agg [.fix .str [x], .fix .str [x, y], .fix .str [p, y, z]]), (41, [], vI k)], []⟩) rfl ?_
    refine Tr.seq ?_; refine Tr.region ?_; refine TrL.quiets 2 rfl (by exact True.intro) ?_
    first | refine TrL.callV rfl rfl rfl rfl rfl da ?_ | refine TrD.callV rfl rfl rfl rfl rfl da rfl ?_
    refine TrL.quiets 5 rfl (by exact True.intro) ?_; refine TrL.nil ?_; refine Tr.seq ?_; refine Tr.region ?_; refine TrL.quiets 2 rfl (by exact True.intro) ?_
    first | refine TrL.callV rfl rfl rfl rfl rfl dr ?_ | refine TrD.callV rfl rfl rfl rfl rfl dr rfl ?_
    refine TrL.quiets 5 rfl (by exact True.intro) ?_; refine TrL.nil ?_; refine Tr.seq ?_; refine Tr.region ?_; refine TrL.quiets 8 rfl (by exact True.intro) ?_; refine TrL.nil ?_
    refine Tr.cond rfl (fun c5 => ?_) (fun c5 => ?_)
    · exfalso
      simp at c5
    refine Tr.skip ?_; refine Tr.region ?_; refine TrL.quiets 2 rfl (by exact True.intro) ?_; refine TrL.nil ?_
    refine ⟨k + 1, hk1, by dsimp only; omega, ?_⟩
    refine Eq.trans (b := (⟨[(9, [], vS nm), (40, [], .agg [.fix .str [x], .fix .str [x, y], .fix .str [p, y, z]]), (41, [], vI (IntKind.i64.wrap ((k : Int) + 1)))], []⟩ : St)) rfl ?_
    dsimp only
    rw [w64n (y := k + 1) (by omega) (by omega)]
  · refine Tr.exit ?_; refine Tr.seq ?_; refine Tr.region ?_
    first | refine TrL.callV rfl rfl rfl rfl rfl c_awake18 ?_ | refine TrD.callV rfl rfl rfl rfl rfl c_awake18 rfl ?_
    refine TrL.quiets 1 rfl (by exact True.intro) ?_; refine TrL.nil ?_; refine Tr.ret ?_
    refine retQ.of rfl ?_
    rfl
end Go.Proofs.YtcclfjddakonoaaGreatDoor.Sx
