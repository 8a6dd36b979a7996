/-
  Rules: the reference's static pattern rules.
-/
import Derived.Test.YtckgeebihhhapaaDoorG28
set_option linter.unusedVariables false
set_option linter.unusedSimpArgs false
set_option maxRecDepth 20000
set_option maxHeartbeats 4000000
namespace Go.Proofs.YtckgeebihhhapaaDoor.Sx
open Go Go.RowKit Go.Proofs

/-! ### The walk -/
theorem c_rstatic (ts : List Str) (ahead rest : Str) (dbl : Bool) (hts : Small ts) (ha : ahead.length < 1000000) (hr : rest.length < 1000000) :
    CallV Tryd.prog 47 [vL .str ts, vS ahead, vS rest, vB dbl] (.tup [vL ruleTy (staticF ts ahead rest dbl).1, vI (staticF ts ahead rest dbl).2]) := by
  obtain ⟨hs1, hs2⟩ := splitW_small ha
  obtain ⟨⟨hp1, hp2⟩, ⟨hp3, hp4⟩⟩ := partsF_small hr
  unfold staticF
  refine CallV.of Tryd.func47 (by kernel_rfl) rfl Tryd.ntmps47 (by simp) rfl fun cx hB => ?_
  have hB1 : ∀ i, cx.B i = true → i < 1 := fun i h => by have := hB i h; omega
  refine Tr.seq ?_; refine Tr.region ?_; refine TrL.quiets 2 rfl (by exact True.intro) ?_; refine TrL.nil ?_; refine Tr.seq ?_; refine Tr.region ?_; refine TrL.quiets 1 rfl (by exact True.intro) ?_
  first | refine TrL.callV rfl rfl rfl rfl rfl (c_ref_Split ahead (by omega)) ?_ | refine TrD.callV rfl rfl rfl rfl rfl (c_ref_Split ahead (by omega)) rfl ?_
  generalize splitW ahead = l at *
  have hx0 := nth_le l 0 1000000 hs2
  refine TrL.quiets 1 rfl (by exact True.intro) ?_; refine TrL.nil ?_; refine Tr.seq ?_; refine Tr.seq ?_; refine Tr.region ?_; refine TrL.quiets 7 rfl (by (simp [allOf, impO, imp, inR, loOk] <;> omega)) ?_
  first | refine TrL.callV rfl rfl rfl rfl rfl (c_refPattern (nth (t := .str) l 0) hx0) ?_ | refine TrD.callV rfl rfl rfl rfl rfl (c_refPattern (nth (t := .str) l 0) hx0) rfl ?_
  refine TrL.quiets 2 rfl (by exact True.intro) ?_; refine TrL.nil ?_
  refine Tr.is 28 (sv' := vB (!headP l)) rfl (congrArg vB (headP_int l)) ?_
  refine Tr.cond rfl (fun h1 => ?_) (fun h1 => ?_)
  · have h2 : headP l = false := by simpa using h1
    rw [h2]
    refine Tr.seq ?_; refine Tr.region ?_; refine TrL.quiets 2 rfl (by exact True.intro) ?_; refine TrL.nil ?_
    change Tr _ _ _ _ _ _
    refine Tr.weak 8 rfl (nil_weak ruleTy) ?_
    refine Tr.ret ?_
    refine retQ.of rfl ?_
    rfl
  have h2 : headP l = true := by simpa using h1
  rw [if_pos h2]
  have hx1 : nth (t := .str) l 0 = l.getD 0 [] := rfl
  rw [hx1] at hx0
  have hnl : 0 < l.length := by
    rw [headP, Bool.and_eq_true, beq_iff_eq] at h2
    omega
  obtain ⟨x, hx⟩ : ∃ x, l.getD 0 [] = x := ⟨_, rfl⟩
  rw [hx] at hx0 hx1 ⊢
  have hpx := patF_len x
  refine Tr.skip ?_; refine Tr.seq ?_; refine Tr.region ?_; refine TrL.quiets 1 rfl (by exact True.intro) ?_
  first | refine TrL.callV rfl rfl rfl rfl rfl (c_halves rest (by omega)) ?_ | refine TrD.callV rfl rfl rfl rfl rfl (c_halves rest (by omega)) rfl ?_
  generalize partsF rest = ab at *
  obtain ⟨a, b⟩ := ab
  dsimp only at hp1 hp2 hp3 hp4 ⊢
  refine TrL.quiets 5 rfl (by exact True.intro) ?_; refine TrL.nil ?_; refine Tr.seq ?_; refine Tr.region ?_; refine TrL.quiets 1 rfl (by exact True.intro) ?_; refine TrL.nil ?_
  change Tr _ _ _ _ _ _
  refine Tr.nilRow 13 38 ruleTy rfl ?_
  refine Tr.seq ?_; refine Tr.seq ?_; refine Tr.region ?_; refine TrL.quiets 1 rfl (by exact True.intro) ?_; refine TrL.nil ?_; refine Tr.block ?_
  obtain ⟨ht1, ht2⟩ := hts
  refine Tr.loop (fun (x : Nat × List RuleD) => ⟨[(0, [], vL .str ts), (3, [], vB dbl), (10, [], vL .str l), (11, [], vL .str a), (12, [], vL .str b), (13, [], .own 0), (14, [], vI x.1)], [.gs 38 ruleTy x.2]⟩)
    (fun y => y.1 ≤ ts.length ∧ y.2.length = y.1 ∧ staticL (patF x) a b dbl ts = (match staticL (patF x) a b dbl (ts.drop y.1) with | some l => some (y.2 ++ l) | none => none)) (fun x => ts.length - x.1) (0, []) [0, 3, 10, 11, 12, 13, 14] 1 hB1 rfl ⟨Nat.zero_le _, rfl, by cases h : staticL (patF x) a b dbl ts <;> simp [h]⟩ fun y hy => ?_
  obtain ⟨i, acc⟩ := y
  obtain ⟨hi, hacc, hI⟩ := hy
  dsimp only at hi hacc hI
  refine Tr.seq ?_; refine Tr.seq ?_; refine Tr.region ?_; refine TrL.quiets 4 rfl (by exact True.intro) ?_; refine TrL.nil ?_
  refine Tr.cond rfl (fun h3 => ?_) (fun h3 => ?_)
  · simp only [decide_eq_true_eq] at h3
    have hi1 : i < ts.length := by omega
    have hn : nth (t := .str) ts (i : Int) = ts[i] := nth_get' (t := .str) ts i hi1
    have htl := ht2 ts[i] (List.getElem_mem hi1)
    obtain ⟨hs3, hs4⟩ := staticL_step hi1 hI
    have hml := matchF_len (patF x) ts[i]
    generalize ts[i] = tt at *
    refine Tr.skip ?_; refine Tr.seq ?_; refine Tr.block ?_; refine Tr.seq ?_; refine Tr.draw (by kernel_rfl) (by kernel_rfl) ?_; refine TrD.quiets 3 rfl (by (simp only [allOf, impO, imp, inR, loOk, and_true]; omega)) ?_
    first | refine TrL.callV rfl rfl rfl rfl rfl (c_rOf (nth (t := .str) l 0) (by rw [hx1]; omega)) ?_ | refine TrD.callV rfl rfl rfl rfl rfl (c_rOf (nth (t := .str) l 0) (by rw [hx1]; omega)) rfl ?_
    rw [hx1]
    refine TrD.quiets 4 rfl (by (simp only [allOf, impO, imp, inR, loOk, and_true]; omega)) ?_
    first | refine TrL.callV rfl rfl rfl rfl rfl (c_rMatch (patF x) (nth (t := .str) ts (i : Int)) (by omega) (by rw [hn]; omega)) ?_ | refine TrD.callV rfl rfl rfl rfl rfl (c_rMatch (patF x) (nth (t := .str) ts (i : Int)) (by omega) (by rw [hn]; omega)) rfl ?_
    rw [hn]
    generalize matchF (patF x) tt = m at *
    obtain ⟨stem, ok⟩ := m
    dsimp only at hml hs3 hs4
    refine TrD.quiets 5 rfl (by exact True.intro) ?_; refine TrD.nil ?_; refine Tr.seq ?_; refine Tr.seq ?_; refine Tr.region ?_; refine TrL.quiets 2 rfl (by exact True.intro) ?_; refine TrL.nil ?_
    refine Tr.cond rfl (fun h4 => ?_) (fun h4 => ?_)
    · have h5 : ok = false := by simpa using h4
      have h6 := hs3 h5
      rw [staticE, h6]
      refine Tr.seq ?_; refine Tr.region ?_; refine TrL.quiets 2 rfl (by exact True.intro) ?_; refine TrL.nil ?_
      change Tr _ _ _ _ _ _
      refine Tr.weak 8 rfl (nil_weak ruleTy) ?_
      refine Tr.ret ?_
      refine retQ.of rfl ?_
      rfl
    have h5 : ok = true := by simpa using h4
    have h6 := hs4 h5
    have hcap : acc.length + 1 ≤ 1099511627776 := by omega
    refine Tr.skip ?_; refine Tr.drawA 17 rfl (by kernel_rfl) ?_; refine TrA.take 0 rfl rfl (by kernel_rfl) rfl (by exact True.intro) ?_; refine TrA.take 1 rfl rfl (by kernel_rfl) rfl (by exact True.intro) ?_; refine TrA.take 2 rfl rfl (by kernel_rfl) rfl (by exact True.intro) ?_; refine TrA.take 3 rfl rfl (by kernel_rfl) rfl (by (simp only [holds, impO, imp, inR]; omega)) ?_; refine TrA.take 6 rfl rfl (by kernel_rfl) rfl (by exact True.intro) ?_; refine TrA.take 7 rfl rfl (by kernel_rfl) rfl (by exact True.intro) ?_; refine TrA.take 9 rfl rfl (by kernel_rfl) rfl (by exact True.intro) ?_; refine TrA.take 10 rfl rfl (by kernel_rfl) rfl (by exact True.intro) ?_; refine TrA.take 12 rfl rfl (by kernel_rfl) rfl (by exact True.intro) ?_; refine TrA.two 4 8 (by kernel_rfl) rfl rfl ?_ ?_
    · refine TrL.quiets 1 rfl (by exact True.intro) ?_; refine TrL.nil ?_; refine TrA.two 5 8 (by kernel_rfl) rfl rfl ?_ ?_
      · refine TrL.eff (effLit_sound rfl) (by exact True.intro) ?_; refine TrL.nil ?_; refine TrA.one 8 (by kernel_rfl) rfl ?_
        first | refine TrL.callV rfl rfl rfl rfl rfl (c_stems a stem hp1 hp2 (by omega)) ?_ | refine TrD.callV rfl rfl rfl rfl rfl (c_stems a stem hp1 hp2 (by omega)) rfl ?_
        refine TrL.nil ?_; refine TrA.one 11 (by kernel_rfl) rfl ?_
        first | refine TrL.callV rfl rfl rfl rfl rfl (c_stems b stem hp3 hp4 (by omega)) ?_ | refine TrD.callV rfl rfl rfl rfl rfl (c_stems b stem hp3 hp4 (by omega)) rfl ?_
        refine TrL.nil ?_; refine TrA.take 13 rfl rfl (by kernel_rfl) rfl (by exact True.intro) ?_; refine TrA.one 14 (by kernel_rfl) rfl ?_; refine TrL.eff (effLit_sound rfl) (by exact True.intro) ?_; refine TrL.nil ?_; refine TrA.one 15 (by kernel_rfl) rfl ?_; refine TrL.eff (effAppend_sound rfl) (by assumption) ?_; refine TrL.nil ?_; refine TrA.take 16 rfl rfl (by kernel_rfl) rfl (by exact True.intro) ?_; refine TrA.done (by kernel_rfl) ?_; refine Tr.region ?_; refine TrL.quiets 3 rfl (by exact True.intro) ?_; refine TrL.nil ?_
        refine ⟨(i + 1, acc ++ [mkRule a b dbl tt stem]), ⟨by omega, by simp only [List.length_append, List.length_cons, List.length_nil]; omega, h6⟩, by dsimp only; omega, ?_⟩
        refine Eq.trans (b := (⟨[(0, [], vL .str ts), (3, [], vB dbl), (10, [], vL .str l), (11, [], vL .str a), (12, [], vL .str b), (13, [], .own 0), (14, [], vI (IntKind.i64.wrap ((i : Int) + 1)))], [.gs 38 ruleTy (acc ++ [mkRule a b dbl (nth (t := .str) ts (i : Int)) stem])]⟩ : St)) rfl ?_
        rw [w64n (y := i + 1) (by omega) (by omega), hn]
      · first | refine TrL.callV rfl rfl rfl rfl rfl (c_stems a stem hp1 hp2 (by omega)) ?_ | refine TrD.callV rfl rfl rfl rfl rfl (c_stems a stem hp1 hp2 (by omega)) rfl ?_
        refine TrL.nil ?_; refine TrA.two 5 11 (by kernel_rfl) rfl rfl ?_ ?_
        · refine TrL.eff (effLit_sound rfl) (by exact True.intro) ?_; refine TrL.nil ?_; refine TrA.one 11 (by kernel_rfl) rfl ?_
          first | refine TrL.callV rfl rfl rfl rfl rfl (c_stems b stem hp3 hp4 (by omega)) ?_ | refine TrD.callV rfl rfl rfl rfl rfl (c_stems b stem hp3 hp4 (by omega)) rfl ?_
          refine TrL.nil ?_; refine TrA.take 13 rfl rfl (by kernel_rfl) rfl (by exact True.intro) ?_; refine TrA.one 14 (by kernel_rfl) rfl ?_; refine TrL.eff (effLit_sound rfl) (by exact True.intro) ?_; refine TrL.nil ?_; refine TrA.one 15 (by kernel_rfl) rfl ?_; refine TrL.eff (effAppend_sound rfl) (by assumption) ?_; refine TrL.nil ?_; refine TrA.take 16 rfl rfl (by kernel_rfl) rfl (by exact True.intro) ?_; refine TrA.done (by kernel_rfl) ?_; refine Tr.region ?_; refine TrL.quiets 3 rfl (by exact True.intro) ?_; refine TrL.nil ?_
          refine ⟨(i + 1, acc ++ [mkRule a b dbl tt stem]), ⟨by omega, by simp only [List.length_append, List.length_cons, List.length_nil]; omega, h6⟩, by dsimp only; omega, ?_⟩
          refine Eq.trans (b := (⟨[(0, [], vL .str ts), (3, [], vB dbl), (10, [], vL .str l), (11, [], vL .str a), (12, [], vL .str b), (13, [], .own 0), (14, [], vI (IntKind.i64.wrap ((i : Int) + 1)))], [.gs 38 ruleTy (acc ++ [mkRule a b dbl (nth (t := .str) ts (i : Int)) stem])]⟩ : St)) rfl ?_
          rw [w64n (y := i + 1) (by omega) (by omega), hn]
        · first | refine TrL.callV rfl rfl rfl rfl rfl (c_stems b stem hp3 hp4 (by omega)) ?_ | refine TrD.callV rfl rfl rfl rfl rfl (c_stems b stem hp3 hp4 (by omega)) rfl ?_
          refine TrL.nil ?_; refine TrA.one 5 (by kernel_rfl) rfl ?_; refine TrL.eff (effLit_sound rfl) (by exact True.intro) ?_; refine TrL.nil ?_; refine TrA.take 13 rfl rfl (by kernel_rfl) rfl (by exact True.intro) ?_; refine TrA.one 14 (by kernel_rfl) rfl ?_; refine TrL.eff (effLit_sound rfl) (by exact True.intro) ?_; refine TrL.nil ?_; refine TrA.one 15 (by kernel_rfl) rfl ?_; refine TrL.eff (effAppend_sound rfl) (by assumption) ?_; refine TrL.nil ?_; refine TrA.take 16 rfl rfl (by kernel_rfl) rfl (by exact True.intro) ?_; refine TrA.done (by kernel_rfl) ?_; refine Tr.region ?_; refine TrL.quiets 3 rfl (by exact True.intro) ?_; refine TrL.nil ?_
          refine ⟨(i + 1, acc ++ [mkRule a b dbl tt stem]), ⟨by omega, by simp only [List.length_append, List.length_cons, List.length_nil]; omega, h6⟩, by dsimp only; omega, ?_⟩
          refine Eq.trans (b := (⟨[(0, [], vL .str ts), (3, [], vB dbl), (10, [], vL .str l), (11, [], vL .str a), (12, [], vL .str b), (13, [], .own 0), (14, [], vI (IntKind.i64.wrap ((i : Int) + 1)))], [.gs 38 ruleTy (acc ++ [mkRule a b dbl (nth (t := .str) ts (i : Int)) stem])]⟩ : St)) rfl ?_
          rw [w64n (y := i + 1) (by omega) (by omega), hn]
    · first | refine TrL.callV rfl rfl rfl rfl rfl (c_stems a stem hp1 hp2 (by omega)) ?_ | refine TrD.callV rfl rfl rfl rfl rfl (c_stems a stem hp1 hp2 (by omega)) rfl ?_
      refine TrL.nil ?_; refine TrA.two 4 11 (by kernel_rfl) rfl rfl ?_ ?_
      · refine TrL.quiets 1 rfl (by exact True.intro) ?_; refine TrL.nil ?_; refine TrA.two 5 11 (by kernel_rfl) rfl rfl ?_ ?_
        · refine TrL.eff (effLit_sound rfl) (by exact True.intro) ?_; refine TrL.nil ?_; refine TrA.one 11 (by kernel_rfl) rfl ?_
          first | refine TrL.callV rfl rfl rfl rfl rfl (c_stems b stem hp3 hp4 (by omega)) ?_ | refine TrD.callV rfl rfl rfl rfl rfl (c_stems b stem hp3 hp4 (by omega)) rfl ?_
          refine TrL.nil ?_; refine TrA.take 13 rfl rfl (by kernel_rfl) rfl (by exact True.intro) ?_; refine TrA.one 14 (by kernel_rfl) rfl ?_; refine TrL.eff (effLit_sound rfl) (by exact True.intro) ?_; refine TrL.nil ?_; refine TrA.one 15 (by kernel_rfl) rfl ?_; refine TrL.eff (effAppend_sound rfl) (by assumption) ?_; refine TrL.nil ?_; refine TrA.take 16 rfl rfl (by kernel_rfl) rfl (by exact True.intro) ?_; refine TrA.done (by kernel_rfl) ?_; refine Tr.region ?_; refine TrL.quiets 3 rfl (by exact True.intro) ?_; refine TrL.nil ?_
          refine ⟨(i + 1, acc ++ [mkRule a b dbl tt stem]), ⟨by omega, by simp only [List.length_append, List.length_cons, List.length_nil]; omega, h6⟩, by dsimp only; omega, ?_⟩
          refine Eq.trans (b := (⟨[(0, [], vL .str ts), (3, [], vB dbl), (10, [], vL .str l), (11, [], vL .str a), (12, [], vL .str b), (13, [], .own 0), (14, [], vI (IntKind.i64.wrap ((i : Int) + 1)))], [.gs 38 ruleTy (acc ++ [mkRule a b dbl (nth (t := .str) ts (i : Int)) stem])]⟩ : St)) rfl ?_
          rw [w64n (y := i + 1) (by omega) (by omega), hn]
        · first | refine TrL.callV rfl rfl rfl rfl rfl (c_stems b stem hp3 hp4 (by omega)) ?_ | refine TrD.callV rfl rfl rfl rfl rfl (c_stems b stem hp3 hp4 (by omega)) rfl ?_
          refine TrL.nil ?_; refine TrA.one 5 (by kernel_rfl) rfl ?_; refine TrL.eff (effLit_sound rfl) (by exact True.intro) ?_; refine TrL.nil ?_; refine TrA.take 13 rfl rfl (by kernel_rfl) rfl (by exact True.intro) ?_; refine TrA.one 14 (by kernel_rfl) rfl ?_; refine TrL.eff (effLit_sound rfl) (by exact True.intro) ?_; refine TrL.nil ?_; refine TrA.one 15 (by kernel_rfl) rfl ?_; refine TrL.eff (effAppend_sound rfl) (by assumption) ?_; refine TrL.nil ?_; refine TrA.take 16 rfl rfl (by kernel_rfl) rfl (by exact True.intro) ?_; refine TrA.done (by kernel_rfl) ?_; refine Tr.region ?_; refine TrL.quiets 3 rfl (by exact True.intro) ?_; refine TrL.nil ?_
          refine ⟨(i + 1, acc ++ [mkRule a b dbl tt stem]), ⟨by omega, by simp only [List.length_append, List.length_cons, List.length_nil]; omega, h6⟩, by dsimp only; omega, ?_⟩
          refine Eq.trans (b := (⟨[(0, [], vL .str ts), (3, [], vB dbl), (10, [], vL .str l), (11, [], vL .str a), (12, [], vL .str b), (13, [], .own 0), (14, [], vI (IntKind.i64.wrap ((i : Int) + 1)))], [.gs 38 ruleTy (acc ++ [mkRule a b dbl (nth (t := .str) ts (i : Int)) stem])]⟩ : St)) rfl ?_
          rw [w64n (y := i + 1) (by omega) (by omega), hn]
      · first | refine TrL.callV rfl rfl rfl rfl rfl (c_stems b stem hp3 hp4 (by omega)) ?_ | refine TrD.callV rfl rfl rfl rfl rfl (c_stems b stem hp3 hp4 (by omega)) rfl ?_
        refine TrL.nil ?_; refine TrA.one 4 (by kernel_rfl) rfl ?_; refine TrL.quiets 1 rfl (by exact True.intro) ?_; refine TrL.nil ?_; refine TrA.one 5 (by kernel_rfl) rfl ?_; refine TrL.eff (effLit_sound rfl) (by exact True.intro) ?_; refine TrL.nil ?_; refine TrA.take 13 rfl rfl (by kernel_rfl) rfl (by exact True.intro) ?_; refine TrA.one 14 (by kernel_rfl) rfl ?_; refine TrL.eff (effLit_sound rfl) (by exact True.intro) ?_; refine TrL.nil ?_; refine TrA.one 15 (by kernel_rfl) rfl ?_; refine TrL.eff (effAppend_sound rfl) (by assumption) ?_; refine TrL.nil ?_; refine TrA.take 16 rfl rfl (by kernel_rfl) rfl (by exact True.intro) ?_; refine TrA.done (by kernel_rfl) ?_; refine Tr.region ?_; refine TrL.quiets 3 rfl (by exact True.intro) ?_; refine TrL.nil ?_
        refine ⟨(i + 1, acc ++ [mkRule a b dbl tt stem]), ⟨by omega, by simp only [List.length_append, List.length_cons, List.length_nil]; omega, h6⟩, by dsimp only; omega, ?_⟩
        refine Eq.trans (b := (⟨[(0, [], vL .str ts), (3, [], vB dbl), (10, [], vL .str l), (11, [], vL .str a), (12, [], vL .str b), (13, [], .own 0), (14, [], vI (IntKind.i64.wrap ((i : Int) + 1)))], [.gs 38 ruleTy (acc ++ [mkRule a b dbl (nth (t := .str) ts (i : Int)) stem])]⟩ : St)) rfl ?_
        rw [w64n (y := i + 1) (by omega) (by omega), hn]
  · simp only [decide_eq_false_iff_not] at h3
    obtain rfl : i = ts.length := by omega
    rw [List.drop_length, staticL] at hI
    dsimp only at hI
    rw [List.append_nil] at hI
    rw [staticE, hI]
    refine Tr.exit ?_; refine Tr.seq ?_; refine Tr.region ?_; refine TrL.quiets 3 rfl (by exact True.intro) ?_; refine TrL.nil ?_; refine Tr.ret ?_
    refine retQ.of rfl ?_
    rfl
end Go.Proofs.YtckgeebihhhapaaDoor.Sx
