/-
  Rules: static pattern rules.
-/
import Derived.Test.YtckgeebihhhapaaDoorG27
set_option linter.unusedVariables false
set_option linter.unusedSimpArgs false
set_option maxRecDepth 20000
set_option maxHeartbeats 4000000
namespace Go.Proofs.YtckgeebihhhapaaDoor.Sx
open Go Go.RowKit Go.Proofs

/-! ### Plain -/
/-- Targets, Prereqs, Order, Recipe, Double, Pattern, File, Line -/
abbrev ruleTy : Ty := .st (.prod (.list .str) (.prod (.list .str) (.prod (.list .str) (.prod (.list .str) (.prod .bool (.prod .bool (.prod .str (.int .i64))))))))
abbrev RuleD := List Str × List Str × List Str × List Str × Bool × Bool × Str × Int
def mkRule (a b : List Str) (dbl : Bool) (t stem : Str) : RuleD := ([t], a.map (putW stem), b.map (putW stem), [], dbl, false, [], 0)
def staticL (p : PatD) (a b : List Str) (dbl : Bool) : List Str → Option (List RuleD)
  | [] => some []
  | t :: r => if (matchF p t).2 then (match staticL p a b dbl r with | some l => some (mkRule a b dbl t (matchF p t).1 :: l) | none => none) else none
def headP (l : List Str) : Bool := l.length == 1 && hasP (l.getD 0 [])
theorem headP_int (l : List Str) : ((l.length : Int) != 1 || !hasP (nth (t := .str) l 0)) = !headP l := by
  have e : ((l.length : Int) == 1) = (l.length == 1) := by
    rw [Bool.eq_iff_iff, beq_iff_eq, beq_iff_eq]
    omega
  rw [headP, Bool.not_and, bne, e]
  rfl
def staticE (p : PatD) (a b : List Str) (dbl : Bool) (ts : List Str) : List RuleD × Int := match staticL p a b dbl ts with | some l => (l, 0) | none => ([], 16)
def staticF (ts : List Str) (ahead rest : Str) (dbl : Bool) : List RuleD × Int :=
  if headP (splitW ahead) then staticE (patF ((splitW ahead).getD 0 [])) (partsF rest).1 (partsF rest).2 dbl ts else ([], 16)
theorem spl_mem_len : ∀ (s acc : Str) (w : Str), w ∈ spl acc s → w.length ≤ acc.length + s.length
  | [], acc, w, h => by
    simp only [spl] at h
    split at h
    · cases h
    · rw [List.mem_singleton.1 h]; exact Nat.le_refl _
  | c :: r, acc, w, h => by
    simp only [spl] at h
    split at h
    · split at h
      · have := spl_mem_len r [] w h
        simp only [List.length_nil, List.length_cons] at this ⊢
        omega
      · rcases List.mem_cons.1 h with h | h
        · rw [h]; omega
        · have := spl_mem_len r [] w h
          simp only [List.length_nil, List.length_cons] at this ⊢
          omega
    · have := spl_mem_len r (acc ++ [c]) w h
      simp only [List.length_append, List.length_cons, List.length_nil] at this ⊢
      omega
theorem splitW_mem_len {s w : Str} (h : w ∈ splitW s) : w.length ≤ s.length := by
  have := spl_mem_len s [] w h
  simpa using this
theorem bar_mem : ∀ (l : List Str), (∀ w ∈ (bar l).1, w ∈ l) ∧ (∀ w ∈ (bar l).2, w ∈ l)
  | [] => ⟨fun _ h => h, fun _ h => h⟩
  | x :: r => by
    obtain ⟨h1, h2⟩ := bar_mem r
    rw [bar]
    split
    · exact ⟨fun w h => (by cases h), fun w h => List.mem_cons_of_mem _ h⟩
    · refine ⟨fun w h => ?_, fun w h => List.mem_cons_of_mem _ (h2 w h)⟩
      rcases List.mem_cons.1 h with h | h
      · rw [h]; exact List.mem_cons_self
      · exact List.mem_cons_of_mem _ (h1 w h)
theorem bar_len : ∀ (l : List Str), (bar l).1.length ≤ l.length ∧ (bar l).2.length ≤ l.length
  | [] => ⟨Nat.le_refl _, Nat.le_refl _⟩
  | x :: r => by
    obtain ⟨h1, h2⟩ := bar_len r
    rw [bar]
    split
    · exact ⟨Nat.zero_le _, by simp⟩
    · simp only [List.length_cons]; omega
/-- Words short enough, and not too many. -/
def Small (l : List Str) : Prop := l.length ≤ 1000000 ∧ ∀ w ∈ l, w.length ≤ 1000000
theorem splitW_small {s : Str} (h : s.length < 1000000) : Small (splitW s) := ⟨by have : (splitW s).length ≤ s.length + 1 := spl_length s []; omega, fun w hw => by have := splitW_mem_len hw; omega⟩
theorem partsF_small {s : Str} (h : s.length < 1000000) : Small (partsF s).1 ∧ Small (partsF s).2 := by
  obtain ⟨h1, h2⟩ := splitW_small h
  obtain ⟨q1, q2⟩ := bar_len (splitW s)
  obtain ⟨q3, q4⟩ := bar_mem (splitW s)
  exact ⟨⟨by unfold partsF; omega, fun w hw => h2 w (q3 w hw)⟩, ⟨by unfold partsF; omega, fun w hw => h2 w (q4 w hw)⟩⟩
theorem matchF_len (p : PatD) (w : Str) : (matchF p w).1.length ≤ w.length := by
  unfold matchF
  split
  · exact Nat.zero_le _
  · split
    · exact Nat.zero_le _
    · simp only [List.length_drop, List.length_take]; omega
theorem staticL_step {p : PatD} {a b : List Str} {dbl : Bool} {ts : List Str} {i : Nat} {acc : List RuleD} (hi : i < ts.length) (h : staticL p a b dbl ts = (match staticL p a b dbl (ts.drop i) with | some l => some (acc ++ l) | none => none)) :
    ((matchF p ts[i]).2 = false → staticL p a b dbl ts = none) ∧ ((matchF p ts[i]).2 = true → staticL p a b dbl ts = (match staticL p a b dbl (ts.drop (i + 1)) with | some l => some ((acc ++ [mkRule a b dbl ts[i] (matchF p ts[i]).1]) ++ l) | none => none)) := by
  rw [List.drop_eq_getElem_cons hi, staticL] at h
  refine ⟨fun hm => ?_, fun hm => ?_⟩
  · rw [h, hm]; rfl
  · rw [h, hm, if_pos rfl]
    cases staticL p a b dbl (ts.drop (i + 1)) with
    | none => rfl
    | some l => simp

/-! ### The walk -/
theorem c_static (ts : List Str) (ahead rest : Str) (dbl : Bool) (hts : Small ts) (ha : ahead.length < 1000000) (hr : rest.length < 1000000) :
    CallV Tryd.prog 40 [vL .str ts, vS ahead, vS rest, vB dbl] (.tup [vL ruleTy (staticF ts ahead rest dbl).1, vI (staticF ts ahead rest dbl).2]) := by
  obtain ⟨hs1, hs2⟩ := splitW_small ha
  obtain ⟨⟨hp1, hp2⟩, ⟨hp3, hp4⟩⟩ := partsF_small hr
  unfold staticF
  refine CallV.of Tryd.func40 (by kernel_rfl) rfl Tryd.ntmps40 (by simp) rfl fun cx hB => ?_
  have hB1 : ∀ i, cx.B i = true → i < 1 := fun i h => by have := hB i h; omega
  refine Tr.seq ?_; refine Tr.region ?_; refine TrL.quiets 2 rfl (by exact True.intro) ?_; refine TrL.nil ?_; refine Tr.seq ?_; refine Tr.region ?_; refine TrL.quiets 1 rfl (by exact True.intro) ?_
  first | refine TrL.callV rfl rfl rfl rfl rfl (c_Split ahead (by omega)) ?_ | refine TrD.callV rfl rfl rfl rfl rfl (c_Split ahead (by omega)) rfl ?_
  generalize splitW ahead = l at *
  have hx0 := nth_le l 0 1000000 hs2
  refine TrL.quiets 1 rfl (by exact True.intro) ?_; refine TrL.nil ?_; refine Tr.seq ?_; refine Tr.seq ?_; refine Tr.region ?_; refine TrL.quiets 7 rfl (by (simp [allOf, impO, imp, inR, loOk] <;> omega)) ?_
  first | refine TrL.callV rfl rfl rfl rfl rfl (c_rulePattern (nth (t := .str) l 0) hx0) ?_ | refine TrD.callV rfl rfl rfl rfl rfl (c_rulePattern (nth (t := .str) l 0) hx0) rfl ?_
  refine TrL.quiets 2 rfl (by exact True.intro) ?_; refine TrL.nil ?_
  refine Tr.is 29 (sv' := vB (!headP l)) rfl (congrArg vB (headP_int l)) ?_
  refine Tr.cond rfl (fun h1 => ?_) (fun h1 => ?_)
  · have h2 : headP l = false := by simpa using h1
    rw [h2]
    refine Tr.seq ?_; refine Tr.region ?_; refine TrL.quiets 2 rfl (by exact True.intro) ?_; refine TrL.nil ?_
    change Tr _ _ _ _ _ _
    refine Tr.weak 8 rfl (nil_weak ruleTy) ?_
    refine Tr.ret ?_
    refine retQ.of rfl ?_
    rfl
  have h2 : headP l = true := by simpa using h1
  rw [if_pos h2]
  have hx1 : nth (t := .str) l 0 = l.getD 0 [] := rfl
  rw [hx1] at hx0
  have hnl : 0 < l.length := by
    rw [headP, Bool.and_eq_true, beq_iff_eq] at h2
    omega
  obtain ⟨x, hx⟩ : ∃ x, l.getD 0 [] = x := ⟨_, rfl⟩
  rw [hx] at hx0 hx1 ⊢
  have hpx := patF_len x
  refine Tr.skip ?_; refine Tr.seq ?_; refine Tr.region ?_; refine TrL.quiets 1 rfl (by exact True.intro) ?_
  first | refine TrL.callV rfl rfl rfl rfl rfl (c_parts rest (by omega)) ?_ | refine TrD.callV rfl rfl rfl rfl rfl (c_parts rest (by omega)) rfl ?_
  generalize partsF rest = ab at *
  obtain ⟨a, b⟩ := ab
  dsimp only at hp1 hp2 hp3 hp4 ⊢
  refine TrL.quiets 5 rfl (by exact True.intro) ?_; refine TrL.nil ?_; refine Tr.seq ?_; refine Tr.region ?_; refine TrL.quiets 1 rfl (by exact True.intro) ?_; refine TrL.nil ?_
  change Tr _ _ _ _ _ _
  refine Tr.nilRow 13 38 ruleTy rfl ?_
  refine Tr.seq ?_; refine Tr.seq ?_; refine Tr.region ?_; refine TrL.quiets 3 rfl (by exact True.intro) ?_; refine TrL.nil ?_; refine Tr.block ?_
  obtain ⟨ht1, ht2⟩ := hts
  refine Tr.loop (fun (x : Nat × List RuleD) => ⟨[(3, [], vB dbl), (10, [], vL .str l), (11, [], vL .str a), (12, [], vL .str b), (13, [], .own 0), (35, [], vL .str ts), (36, [], vI ts.length), (37, [], vI x.1)], [.gs 38 ruleTy x.2]⟩)
    (fun y => y.1 ≤ ts.length ∧ y.2.length = y.1 ∧ staticL (patF x) a b dbl ts = (match staticL (patF x) a b dbl (ts.drop y.1) with | some l => some (y.2 ++ l) | none => none)) (fun x => ts.length - x.1) (0, []) [3, 10, 11, 12, 13, 35, 36, 37] 1 hB1 rfl ⟨Nat.zero_le _, rfl, by cases h : staticL (patF x) a b dbl ts <;> simp [h]⟩ fun y hy => ?_
  obtain ⟨i, acc⟩ := y
  obtain ⟨hi, hacc, hI⟩ := hy
  dsimp only at hi hacc hI
  refine Tr.seq ?_; refine Tr.region ?_; refine TrL.quiets 1 rfl (by exact True.intro) ?_; refine TrL.nil ?_; refine Tr.seq ?_
  refine Tr.cond rfl (fun h3 => ?_) (fun h3 => ?_)
  · simp only [decide_eq_true_eq] at h3
    have hi1 : i < ts.length := by omega
    have hn : nth (t := .str) ts (i : Int) = ts[i] := nth_get' (t := .str) ts i hi1
    have htl := ht2 ts[i] (List.getElem_mem hi1)
    obtain ⟨hs3, hs4⟩ := staticL_step hi1 hI
    have hml := matchF_len (patF x) ts[i]
    generalize ts[i] = tt at *
    refine Tr.skip ?_; refine Tr.seq ?_; refine Tr.block ?_; refine Tr.seq ?_; refine Tr.region ?_; refine TrL.quiets 3 rfl (by (simp only [allOf, impO, imp, inR, loOk, and_true]; omega)) ?_; refine TrL.nil ?_
    refine Tr.is 15 (sv' := vS tt) rfl (congrArg vS hn) ?_
    refine Tr.seq ?_; refine Tr.region ?_; refine TrL.quiets 3 rfl (by (simp only [allOf, impO, imp, inR, loOk, and_true]; omega)) ?_
    refine TrL.is 44 (sv' := vS x) rfl (congrArg vS hx1) ?_
    first | refine TrL.callV rfl rfl rfl rfl rfl (c_patOf x (by omega)) ?_ | refine TrD.callV rfl rfl rfl rfl rfl (c_patOf x (by omega)) rfl ?_
    refine TrL.quiets 1 rfl (by exact True.intro) ?_
    first | refine TrL.callV rfl rfl rfl rfl rfl (c_Match (patF x) tt (by omega) (by omega)) ?_ | refine TrD.callV rfl rfl rfl rfl rfl (c_Match (patF x) tt (by omega) (by omega)) rfl ?_
    generalize matchF (patF x) tt = m at *
    obtain ⟨stem, ok⟩ := m
    dsimp only at hml hs3 hs4
    refine TrL.quiets 5 rfl (by exact True.intro) ?_; refine TrL.nil ?_; refine Tr.seq ?_; refine Tr.seq ?_; refine Tr.region ?_; refine TrL.quiets 2 rfl (by exact True.intro) ?_; refine TrL.nil ?_
    refine Tr.cond rfl (fun h4 => ?_) (fun h4 => ?_)
    · have h5 : ok = false := by simpa using h4
      have h6 := hs3 h5
      rw [staticE, h6]
      refine Tr.seq ?_; refine Tr.region ?_; refine TrL.quiets 2 rfl (by exact True.intro) ?_; refine TrL.nil ?_
      change Tr _ _ _ _ _ _
      refine Tr.weak 8 rfl (nil_weak ruleTy) ?_
      refine Tr.ret ?_
      refine retQ.of rfl ?_
      rfl
    have h5 : ok = true := by simpa using h4
    have h6 := hs4 h5
    refine Tr.skip ?_; refine Tr.region ?_; refine TrL.quiets 2 rfl (by exact True.intro) ?_; refine TrL.eff (effLit_sound rfl) (by exact True.intro) ?_; refine TrL.quiets 2 rfl (by exact True.intro) ?_
    first | refine TrL.callV rfl rfl rfl rfl rfl (c_put a stem hp1 hp2 (by omega)) ?_ | refine TrD.callV rfl rfl rfl rfl rfl (c_put a stem hp1 hp2 (by omega)) rfl ?_
    refine TrL.quiets 2 rfl (by exact True.intro) ?_
    first | refine TrL.callV rfl rfl rfl rfl rfl (c_put b stem hp3 hp4 (by omega)) ?_ | refine TrD.callV rfl rfl rfl rfl rfl (c_put b stem hp3 hp4 (by omega)) rfl ?_
    have hcap : acc.length + 1 ≤ 1099511627776 := by omega
    refine TrL.quiets 2 rfl (by exact True.intro) ?_; refine TrL.eff (effLit_sound rfl) (by exact True.intro) ?_; refine TrL.eff (effAppend_sound rfl) (by assumption) ?_; refine TrL.quiets 1 rfl (by exact True.intro) ?_; refine TrL.nil ?_; refine Tr.region ?_; refine TrL.quiets 2 rfl (by exact True.intro) ?_; refine TrL.nil ?_
    refine ⟨(i + 1, acc ++ [mkRule a b dbl tt stem]), ⟨by omega, by simp only [List.length_append, List.length_cons, List.length_nil]; omega, h6⟩, by dsimp only; omega, ?_⟩
    refine Eq.trans (b := (⟨[(3, [], vB dbl), (10, [], vL .str l), (11, [], vL .str a), (12, [], vL .str b), (13, [], .own 0), (35, [], vL .str ts), (36, [], vI ts.length), (37, [], vI (IntKind.i64.wrap ((i : Int) + 1)))], [.gs 38 ruleTy (acc ++ [mkRule a b dbl tt stem])]⟩ : St)) rfl ?_
    rw [w64n (y := i + 1) (by omega) (by omega)]
  · simp only [decide_eq_false_iff_not] at h3
    obtain rfl : i = ts.length := by omega
    rw [List.drop_length, staticL] at hI
    dsimp only at hI
    rw [List.append_nil] at hI
    rw [staticE, hI]
    refine Tr.exit ?_; refine Tr.seq ?_; refine Tr.region ?_; refine TrL.quiets 3 rfl (by exact True.intro) ?_; refine TrL.nil ?_; refine Tr.ret ?_
    refine retQ.of rfl ?_
    rfl
end Go.Proofs.YtckgeebihhhapaaDoor.Sx
