/-
  ref04: slash, Notdir, Parts.
  ref04: Abs.
-/
import Derived.Test.YtgmjkciinnjpbaaDoorV2
import Derived.Test.YtgmjkciinnjpbaaDoorV4
set_option linter.unusedVariables false
set_option linter.unusedSimpArgs false
set_option maxRecDepth 20000
set_option maxHeartbeats 4000000
namespace Go.Proofs.YtgmjkciinnjpbaaDoor.Sx
open Go Go.Proofs Go.RowKit

theorem byte47 (s : Str) (i : Nat) (h : i < s.length) : (byteAt s (i : Int) == 47) = decide (s[i] = 47) := by
  rw [byteAt_get _ _ h, Bool.eq_iff_iff, beq_iff_eq, decide_eq_true_eq]
  constructor
  · intro e
    have : s[i].toNat = 47 := by omega
    exact UInt8.toNat_inj.1 this
  · intro e
    rw [e]
    rfl
theorem cutS_step (s : Str) (i : Nat) (h : i < s.length) : cutS (s.take (i + 1)) = if s[i] = 47 then i + 1 else cutS (s.take i) := by
  rw [List.take_succ_eq_append_getElem h, cutS_snoc, List.length_take, Nat.min_eq_left (by omega)]
theorem c_slash (s : Str) (hs : s.length ≤ 1099511627) : CallV Tryd.prog 39 [vS s] (vI (cutS s)) := by
  refine CallV.of Tryd.func39 (by kernel_rfl) rfl Tryd.ntmps39 (by simp) rfl fun cx hB => ?_
  refine Tr.seq ?_; refine Tr.region ?_; refine TrL.quiets 1 rfl (by exact True.intro) ?_; refine TrL.nil ?_; refine Tr.seq ?_; refine Tr.region ?_; refine TrL.quiets 1 rfl (by exact True.intro) ?_; refine TrL.nil ?_; refine Tr.seq ?_; refine Tr.seq ?_; refine Tr.region ?_; refine TrL.quiets 1 rfl (by exact True.intro) ?_; refine TrL.nil ?_; refine Tr.block ?_
  refine Tr.loop (fun i : Nat => ⟨[(0, [], vS s), (3, [], vI (cutS (s.take i))), (4, [], vI i)], []⟩) (fun i => i ≤ s.length) (fun i => s.length - i) 0 [0, 3, 4] 0 (fun i h => hB i h) rfl (Nat.zero_le _) fun i hi => ?_
  refine Tr.seq ?_; refine Tr.seq ?_; refine Tr.region ?_; refine TrL.quiets 4 rfl (by exact True.intro) ?_; refine TrL.nil ?_
  refine Tr.cond rfl (fun c1 => ?_) (fun c1 => ?_)
  · have hi1 : i < s.length := by simpa using c1
    have hst := cutS_step s i hi1
    refine Tr.skip ?_; refine Tr.seq ?_; refine Tr.block ?_; refine Tr.seq ?_; refine Tr.region ?_; refine TrL.quiets 4 rfl (by (simp only [allOf, impO, imp, inR, loOk, and_true]; omega)) ?_; refine TrL.nil ?_
    refine Tr.cond rfl (fun c2 => ?_) (fun c2 => ?_)
    · have h2 : s[i] = 47 := by
        rw [byte47 s i hi1] at c2
        simpa using c2
      refine Tr.region ?_; refine TrL.quiets 3 rfl (by exact True.intro) ?_; refine TrL.nil ?_; refine Tr.region ?_; refine TrL.quiets 3 rfl (by exact True.intro) ?_; refine TrL.nil ?_
      refine ⟨i + 1, hi1, by dsimp only; omega, ?_⟩
      refine Eq.trans (b := (⟨[(0, [], vS s), (3, [], vI (IntKind.i64.wrap ((i : Int) + 1))), (4, [], vI (IntKind.i64.wrap ((i : Int) + 1)))], []⟩ : St)) rfl ?_
      dsimp only
      rw [hst, if_pos h2, w64 (by omega) (by omega)]
      rfl
    · have h2 : ¬ s[i] = 47 := by
        rw [byte47 s i hi1] at c2
        simpa using c2
      refine Tr.skip ?_; refine Tr.region ?_; refine TrL.quiets 3 rfl (by exact True.intro) ?_; refine TrL.nil ?_
      refine ⟨i + 1, hi1, by dsimp only; omega, ?_⟩
      refine Eq.trans (b := (⟨[(0, [], vS s), (3, [], vI (cutS (s.take i))), (4, [], vI (IntKind.i64.wrap ((i : Int) + 1)))], []⟩ : St)) rfl ?_
      dsimp only
      rw [hst, if_neg h2, w64 (by omega) (by omega)]
      rfl
  · have hi1 : i = s.length := by
      have : ¬ (i : Int) < s.length := by simpa using c1
      omega
    subst hi1
    rw [List.take_length]
    refine Tr.exit ?_; refine Tr.seq ?_; refine Tr.region ?_; refine TrL.quiets 2 rfl (by exact True.intro) ?_; refine TrL.nil ?_; refine Tr.ret ?_
    refine retQ.of rfl ?_
    rfl
theorem c_Notdir (s : Str) (hs : s.length ≤ 1099511627) : CallV Tryd.prog 30 [vS s] (vS (s.drop (cutS s))) := by
  have hc := cutS_le s
  refine CallV.of Tryd.func30 (by kernel_rfl) rfl Tryd.ntmps30 (by simp) rfl fun cx hB => ?_
  refine Tr.seq ?_; refine Tr.region ?_; refine TrL.quiets 1 rfl (by exact True.intro) ?_; refine TrL.nil ?_; refine Tr.seq ?_; refine Tr.region ?_; refine TrL.quiets 2 rfl (by exact True.intro) ?_
  first | refine TrL.callV rfl rfl rfl rfl rfl (c_slash s hs) ?_ | refine TrD.callV rfl rfl rfl rfl rfl (c_slash s hs) rfl ?_
  refine TrL.quiets 2 rfl (by (simp (disch := omega) only [allOf, impO, imp, inR, loOk, and_true, w64, List.length_set, List.length_cons, List.length_nil, Option.getD_none, Option.getD_some, Ty.D, true_and, decide_eq_true_eq, decide_eq_false_iff_not, Bool.and_eq_true, Bool.or_eq_false_iff]; omega)) ?_; refine TrL.nil ?_; refine Tr.ret ?_
  refine retQ.of rfl ?_
  simp only [cut, Int.toNat_natCast]
def partsF (s : Str) : List Str := (spS [] s).filter (fun x => x ≠ [])
theorem spS_at (s : Str) (i j : Nat) (hj : j ≤ i) (hi : i < s.length) : spS ((s.take i).drop j) (s.drop i) = if s[i] = 47 then (s.take i).drop j :: spS [] (s.drop (i + 1)) else spS ((s.take (i + 1)).drop j) (s.drop (i + 1)) := by
  conv => lhs; rw [List.drop_eq_getElem_cons hi, spS]
  split
  · rfl
  · rw [List.take_succ_eq_append_getElem hi, List.drop_append_of_le_length (by rw [List.length_take]; omega)]
theorem c_Parts (s : Str) (hs : s.length ≤ 1099511627) : CallV Tryd.prog 32 [vS s] (vL .str (partsF s)) := by
  refine CallV.of Tryd.func32 (by kernel_rfl) rfl Tryd.ntmps32 (by simp) rfl fun cx hB => ?_
  refine Tr.seq ?_; refine Tr.region ?_; refine TrL.quiets 1 rfl (by exact True.intro) ?_; refine TrL.nil ?_; refine Tr.seq ?_; refine Tr.region ?_; refine TrL.quiets 1 rfl (by exact True.intro) ?_; refine TrL.nil ?_
  change Tr _ _ _ _ _ _
  refine Tr.nilRow 3 9 .str rfl ?_
  refine Tr.seq ?_; refine Tr.region ?_; refine TrL.quiets 1 rfl (by exact True.intro) ?_; refine TrL.nil ?_; refine Tr.seq ?_; refine Tr.seq ?_; refine Tr.region ?_; refine TrL.quiets 1 rfl (by exact True.intro) ?_; refine TrL.nil ?_; refine Tr.block ?_
  refine Tr.loop (fun (x : Nat × Nat × List Str) => ⟨[(0, [], vS s), (3, [], .own 0), (4, [], vI (x.2.1 : Nat)), (5, [], vI (x.1 : Nat))], [.gs 9 .str x.2.2]⟩)
    (fun x => x.2.2.length ≤ x.1 ∧ ((x.1 ≤ s.length ∧ x.2.1 ≤ x.1 ∧ partsF s = x.2.2 ++ (spS ((s.take x.1).drop x.2.1) (s.drop x.1)).filter (fun x => x ≠ [])) ∨ (x.1 = s.length + 1 ∧ x.2.2 = partsF s)))
    (fun x => s.length + 1 - x.1) (0, 0, []) [0, 3, 4, 5] 1 (fun i hi => by have := hB i hi; omega) rfl ⟨Nat.le_refl _, .inl ⟨Nat.zero_le _, Nat.le_refl _, rfl⟩⟩ ?_
  rintro ⟨i, j, l⟩ ⟨hl, hx⟩
  dsimp only at hl hx
  refine Tr.seq ?_; refine Tr.seq ?_; refine Tr.region ?_; refine TrL.quiets 4 rfl (by exact True.intro) ?_; refine TrL.nil ?_
  refine Tr.cond rfl (fun c1 => ?_) (fun c1 => ?_)
  · have hi1 : i ≤ s.length := by
      have : (i : Int) ≤ s.length := by simpa using c1
      omega
    obtain ⟨_, hj, heq⟩ := hx.resolve_right (fun h => by omega)
    have hlp : l.length ≤ 1099511627 := by omega
    refine Tr.skip ?_; refine Tr.seq ?_; refine Tr.block ?_; refine Tr.seq ?_; refine Tr.region ?_; refine TrL.quiets 10 rfl (by (simp [allOf, impO, imp, inR, loOk] <;> omega)) ?_; refine TrL.nil ?_
    refine Tr.cond rfl (fun c2 => ?_) (fun c2 => ?_)
    · have hA : ∀ l', partsF s = l' ++ (if i < s.length then (spS [] (s.drop (i + 1))).filter (fun x => x ≠ []) else []) → (i + 1 ≤ s.length ∧ i + 1 ≤ i + 1 ∧ partsF s = l' ++ (spS ((s.take (i + 1)).drop (i + 1)) (s.drop (i + 1))).filter (fun x => x ≠ [])) ∨ (i + 1 = s.length + 1 ∧ l' = partsF s) := by
        intro l' hl'
        by_cases hlt : i < s.length
        · rw [if_pos hlt] at hl'
          refine .inl ⟨by omega, Nat.le_refl _, ?_⟩
          rw [show (s.take (i + 1)).drop (i + 1) = [] from List.drop_eq_nil_of_le (by simp; omega)]
          exact hl'
        · rw [if_neg hlt, List.append_nil] at hl'
          exact .inr ⟨by omega, hl'.symm⟩
      have hB2 : partsF s = l ++ [(s.take i).drop j].filter (fun x => x ≠ []) ++ (if i < s.length then (spS [] (s.drop (i + 1))).filter (fun x => x ≠ []) else []) := by
        by_cases hlt : i < s.length
        · have h47 : s[i] = 47 := by
            have h3 : ((i : Int) == (s.length : Int)) = false := by simp; omega
            simp only [h3, Bool.false_or, byte47 s i hlt, decide_eq_true_eq] at c2
            exact c2
          rw [heq, spS_at s i j hj hlt, if_pos h47, if_pos hlt, List.append_assoc, ← List.filter_append]
          rfl
        · rw [heq, if_neg hlt, List.append_nil, show s.drop i = [] from List.drop_eq_nil_of_le (by omega)]
          rfl
      refine Tr.seq ?_; refine Tr.seq ?_; refine Tr.region ?_; refine TrL.quiets 3 rfl (by exact True.intro) ?_; refine TrL.nil ?_
      refine Tr.cond rfl (fun c3 => ?_) (fun c3 => ?_)
      · have hji : j < i := by simpa using c3
        have hne : (s.take i).drop j ≠ [] := by
          intro e
          have := congrArg List.length e
          simp at this
          omega
        rw [List.filter_cons_of_pos (by simpa using hne), List.filter_nil] at hB2
        refine Tr.region ?_; refine TrL.quiets 5 rfl (by (simp (disch := omega) only [allOf, impO, imp, inR, loOk, and_true, w64, List.length_set, List.length_cons, List.length_nil, Option.getD_none, Option.getD_some, Ty.D, true_and, decide_eq_true_eq, decide_eq_false_iff_not, Bool.and_eq_true, Bool.or_eq_false_iff]; omega)) ?_; refine TrL.eff (effLit_sound rfl) (by exact True.intro) ?_; refine TrL.eff (effAppend_sound rfl) ?_ ?_
        · show l.length + 1 ≤ 1099511627776
          omega
        refine TrL.quiets 1 rfl (by exact True.intro) ?_; refine TrL.nil ?_; refine Tr.region ?_; refine TrL.quiets 3 rfl (by exact True.intro) ?_; refine TrL.nil ?_; refine Tr.region ?_; refine TrL.quiets 3 rfl (by exact True.intro) ?_; refine TrL.nil ?_
        refine ⟨(i + 1, i + 1, l ++ [(s.take i).drop j]), ⟨by simp; omega, hA _ hB2⟩, by dsimp only; omega, ?_⟩
        refine Eq.trans (b := (⟨[(0, [], vS s), (3, [], .own 0), (4, [], vI (IntKind.i64.wrap ((i : Int) + 1))), (5, [], vI (IntKind.i64.wrap ((i : Int) + 1)))], [.gs 9 .str (l ++ [cut s (some (j : Int)) (some (i : Int))])]⟩ : St)) rfl ?_
        dsimp only
        rw [w64n (y := i + 1) (by omega) (by omega)]
        rfl
      · have hji : j = i := by
          have : ¬ (j : Int) < i := by simpa using c3
          omega
        have hne : (s.take i).drop j = [] := List.drop_eq_nil_of_le (by rw [List.length_take]; omega)
        rw [hne, List.filter_cons_of_neg (by simp), List.filter_nil, List.append_nil] at hB2
        refine Tr.skip ?_; refine Tr.region ?_; refine TrL.quiets 3 rfl (by exact True.intro) ?_; refine TrL.nil ?_; refine Tr.region ?_; refine TrL.quiets 3 rfl (by exact True.intro) ?_; refine TrL.nil ?_
        refine ⟨(i + 1, i + 1, l), ⟨by dsimp only; omega, hA _ hB2⟩, by dsimp only; omega, ?_⟩
        refine Eq.trans (b := (⟨[(0, [], vS s), (3, [], .own 0), (4, [], vI (IntKind.i64.wrap ((i : Int) + 1))), (5, [], vI (IntKind.i64.wrap ((i : Int) + 1)))], [.gs 9 .str l]⟩ : St)) rfl ?_
        dsimp only
        rw [w64n (y := i + 1) (by omega) (by omega)]
    · have hlt : i < s.length := by
        simp only [Bool.or_eq_false_iff, beq_eq_false_iff_ne] at c2
        omega
      have h47 : ¬ s[i] = 47 := by
        simp only [Bool.or_eq_false_iff, byte47 s i hlt, decide_eq_false_iff_not] at c2
        exact c2.2
      refine Tr.skip ?_; refine Tr.region ?_; refine TrL.quiets 3 rfl (by exact True.intro) ?_; refine TrL.nil ?_
      refine ⟨(i + 1, j, l), ⟨by dsimp only; omega, .inl ⟨hlt, by dsimp only; omega, ?_⟩⟩, by dsimp only; omega, ?_⟩
      · rw [heq, spS_at s i j hj hlt, if_neg h47]
      · refine Eq.trans (b := (⟨[(0, [], vS s), (3, [], .own 0), (4, [], vI (j : Nat)), (5, [], vI (IntKind.i64.wrap ((i : Int) + 1)))], [.gs 9 .str l]⟩ : St)) rfl ?_
        dsimp only
        rw [w64n (y := i + 1) (by omega) (by omega)]
  · rcases hx with ⟨h, _⟩ | ⟨_, h⟩
    · exfalso
      have : ¬ (i : Int) ≤ s.length := by simpa using c1
      omega
    subst h
    refine Tr.exit ?_; refine Tr.seq ?_; refine Tr.region ?_; refine TrL.quiets 2 rfl (by exact True.intro) ?_; refine TrL.nil ?_; refine Tr.ret ?_
    refine retQ.of rfl ?_
    rfl

theorem fold_parts : ∀ (l p : List Str), (l.filter (fun x => x ≠ [])).foldl stepA p = l.foldl stepA p
  | [], p => rfl
  | x :: l, p => by
    by_cases h : x = []
    · subst h
      rw [List.filter_cons_of_neg (by simp), fold_parts l p, List.foldl_cons, stepA_nil]
    · rw [List.filter_cons_of_pos (by simpa using h), List.foldl_cons, List.foldl_cons, fold_parts l _]
theorem absL_parts (s : Str) : (partsF s).foldl stepA [] = absL s := fold_parts _ _
theorem flatS_snoc (l : List Str) (x : Str) : flatS (l ++ [x]) = flatS l ++ [47] ++ x := by
  rw [flatS_append]
  simp [flatS]
theorem flatS_take_le (l : List Str) (i : Nat) : (flatS (l.take i)).length ≤ (flatS l).length := by
  conv => rhs; rw [← List.take_append_drop i l, flatS_append, List.length_append]
  omega
theorem c_refAbs (s : Str) (hs : s.length ≤ 500000000) : CallV Tryd.prog 21 [vS s] (vS (absP s)) := by
  refine CallV.of Tryd.func21 (by kernel_rfl) rfl Tryd.ntmps21 (by simp) rfl fun cx hB => ?_
  refine Tr.seq ?_; refine Tr.region ?_; refine TrL.quiets 1 rfl (by exact True.intro) ?_; refine TrL.nil ?_; refine Tr.seq ?_; refine Tr.seq ?_; refine Tr.region ?_; refine TrL.quiets 2 rfl (by exact True.intro) ?_; refine TrL.nil ?_
  refine Tr.cond rfl (fun c1 => ?_) (fun c1 => ?_)
  · have h0 : s = [] := by simpa using c1
    subst h0
    refine Tr.seq ?_; refine Tr.region ?_; refine TrL.quiets 1 rfl (by exact True.intro) ?_; refine TrL.nil ?_; refine Tr.ret ?_
    refine retQ.of rfl ?_
    rfl
  have h0 : s ≠ [] := by simpa using c1
  have hpl : (partsF s).length ≤ s.length + 1 := by
    have h1 := spS_le s
    unfold partsF
    refine Nat.le_trans (List.length_filter_le _ _) ?_
    omega
  have hab := absL_bound s
  refine Tr.skip ?_; refine Tr.seq ?_; refine Tr.region ?_; refine TrL.quiets 1 rfl (by exact True.intro) ?_; refine TrL.nil ?_
  refine Tr.nilRow 3 9 .str rfl ?_
  refine Tr.seq ?_; refine Tr.region ?_; refine TrL.quiets 1 rfl (by exact True.intro) ?_
  first | refine TrL.callV rfl rfl rfl rfl rfl (c_Parts s (by omega)) ?_ | refine TrD.callV rfl rfl rfl rfl rfl (c_Parts s (by omega)) rfl ?_
  refine TrL.quiets 1 rfl (by exact True.intro) ?_; refine TrL.nil ?_; refine Tr.seq ?_; refine Tr.seq ?_; refine Tr.region ?_; refine TrL.quiets 1 rfl (by exact True.intro) ?_; refine TrL.nil ?_; refine Tr.block ?_
  refine Tr.loop (fun i : Nat => ⟨[(3, [], .own 0), (4, [], vL .str (partsF s)), (5, [], vI i)], [.gs 9 .str (((partsF s).take i).foldl stepA [])]⟩) (fun i => i ≤ (partsF s).length) (fun i => (partsF s).length - i) 0 [3, 4, 5] 1 (fun i h => by have := hB i h; omega) rfl (Nat.zero_le _) fun i hi => ?_
  refine Tr.seq ?_; refine Tr.seq ?_; refine Tr.region ?_; refine TrL.quiets 4 rfl (by exact True.intro) ?_; refine TrL.nil ?_
  refine Tr.cond rfl (fun c2 => ?_) (fun c2 => ?_)
  · have hi1 : i < (partsF s).length := by simpa using c2
    have hnth : nth (t := .str) (partsF s) (i : Int) = (partsF s)[i] := nth_get' (t := .str) _ _ hi1
    have hst : ((partsF s).take (i + 1)).foldl stepA [] = stepA (((partsF s).take i).foldl stepA []) (partsF s)[i] := by
      rw [List.take_succ_eq_append_getElem hi1, List.foldl_append]
      rfl
    have hne : (partsF s)[i] ≠ [] := by
      have := (List.mem_filter.1 (List.getElem_mem hi1)).2
      simpa using this
    have hbl : (((partsF s).take i).foldl stepA []).length ≤ s.length + 1 := by
      have := (foldA_bound ((partsF s).take i) []).1
      rw [List.length_take, List.length_nil] at this
      omega
    generalize ((partsF s).take i).foldl stepA [] = l at hst hbl
    generalize hp : (partsF s)[i] = p at hst hne hnth
    refine Tr.skip ?_; refine Tr.seq ?_; refine Tr.block ?_; refine Tr.block ?_; refine Tr.seq ?_; refine Tr.region ?_; refine TrL.quiets 6 rfl (by (simp only [allOf, impO, imp, inR, loOk, and_true]; omega)) ?_; refine TrL.nil ?_
    refine Tr.cond rfl (fun c3 => ?_) (fun c3 => ?_)
    · have h3 : p = [46] := by
        rw [hnth] at c3
        simpa using c3
      refine Tr.skip ?_; refine Tr.region ?_; refine TrL.quiets 3 rfl (by exact True.intro) ?_; refine TrL.nil ?_
      refine ⟨i + 1, hi1, by dsimp only; omega, ?_⟩
      refine Eq.trans (b := (⟨[(3, [], .own 0), (4, [], vL .str (partsF s)), (5, [], vI (IntKind.i64.wrap ((i : Int) + 1)))], [.gs 9 .str l]⟩ : St)) rfl ?_
      dsimp only
      rw [hst, w64n (y := i + 1) (by omega) (by omega), h3]
      rfl
    have h3 : p ≠ [46] := by
      rw [hnth] at c3
      simpa using c3
    refine Tr.seq ?_; refine Tr.region ?_; refine TrL.quiets 6 rfl (by (simp only [allOf, impO, imp, inR, loOk, and_true]; omega)) ?_; refine TrL.nil ?_
    refine Tr.cond rfl (fun c4 => ?_) (fun c4 => ?_)
    · have h4 : p = [46, 46] := by
        rw [hnth] at c4
        simpa using c4
      have e : cut l none (some (max (IntKind.i64.wrap ((l.length : Int) - 1)) 0)) = l.dropLast := by
        rw [w64 (by omega) (by omega)]
        simp only [cut]
        rw [List.dropLast_eq_take, List.take_eq_take_iff]
        omega
      refine Tr.region ?_; refine TrL.quiets 6 rfl (by (simp (disch := omega) only [allOf, impO, imp, inR, loOk, and_true, w64, List.length_set, List.length_cons, List.length_nil, Option.getD_none, Option.getD_some, Ty.D, true_and, decide_eq_true_eq, decide_eq_false_iff_not, Bool.and_eq_true, Bool.or_eq_false_iff]; omega)) ?_; refine TrL.eff (effAppend_sound rfl) ?_ ?_
      · show (cut l none (some (max (IntKind.i64.wrap ((l.length : Int) - 1)) 0))).length ≤ 1099511627776
        rw [e, List.length_dropLast]
        omega
      refine TrL.quiets 1 rfl (by exact True.intro) ?_; refine TrL.nil ?_
      change Tr _ _ _ _ _ _
      refine Tr.swap 0 1 rfl ?_
      refine Tr.region ?_; refine TrL.quiets 3 rfl (by exact True.intro) ?_; refine TrL.nil ?_
      refine ⟨i + 1, hi1, by dsimp only; omega, ?_⟩
      refine Eq.trans (b := (⟨[(3, [], .own 0), (4, [], vL .str (partsF s)), (5, [], vI (IntKind.i64.wrap ((i : Int) + 1)))], [.gs 9 .str (cut l none (some (max (IntKind.i64.wrap ((l.length : Int) - 1)) 0)))]⟩ : St)) rfl ?_
      dsimp only
      rw [hst, w64n (y := i + 1) (by omega) (by omega), e, h4]
      rfl
    · have h4 : p ≠ [46, 46] := by
        rw [hnth] at c4
        simpa using c4
      refine Tr.region ?_; refine TrL.quiets 5 rfl (by (simp only [allOf, impO, imp, inR, loOk, and_true]; omega)) ?_; refine TrL.eff (effLit_sound rfl) (by exact True.intro) ?_; refine TrL.eff (effAppend_sound rfl) ?_ ?_
      · show l.length + 1 ≤ 1099511627776
        omega
      refine TrL.quiets 1 rfl (by exact True.intro) ?_; refine TrL.nil ?_; refine Tr.region ?_; refine TrL.quiets 3 rfl (by exact True.intro) ?_; refine TrL.nil ?_
      refine ⟨i + 1, hi1, by dsimp only; omega, ?_⟩
      refine Eq.trans (b := (⟨[(3, [], .own 0), (4, [], vL .str (partsF s)), (5, [], vI (IntKind.i64.wrap ((i : Int) + 1)))], [.gs 9 .str (l ++ [nth (t := .str) (partsF s) (i : Int)])]⟩ : St)) rfl ?_
      dsimp only
      rw [hst, w64n (y := i + 1) (by omega) (by omega), hnth]
      unfold stepA
      rw [if_neg (by rintro (h | h); exact hne h; exact h3 h), if_neg h4]
  have hi1 : i = (partsF s).length := by
    have : ¬ (i : Int) < (partsF s).length := by simpa using c2
    omega
  subst hi1
  rw [List.take_length, absL_parts]
  have hfl : (flatS (absL s)).length ≤ 1099511627 := by
    have h1 := absT_length (absL s)
    by_cases h2 : absL s = []
    · rw [h2]; simp [flatS]
    · rw [absT_flat h2] at h1
      omega
  refine Tr.exit ?_; refine Tr.seq ?_; refine Tr.region ?_; refine TrL.quiets 1 rfl (by exact True.intro) ?_; refine TrL.nil ?_; refine Tr.seq ?_; refine Tr.seq ?_; refine Tr.region ?_; refine TrL.quiets 1 rfl (by exact True.intro) ?_; refine TrL.nil ?_; refine Tr.block ?_
  refine Tr.loop (fun i : Nat => ⟨[(3, [], .own 0), (6, [], vS (flatS ((absL s).take i))), (7, [], vI i)], [.gs 9 .str (absL s)]⟩) (fun i => i ≤ (absL s).length) (fun i => (absL s).length - i) 0 [3, 6, 7] 1 (fun i h => by have := hB i h; omega) rfl (Nat.zero_le _) fun i hi => ?_
  refine Tr.seq ?_; refine Tr.seq ?_; refine Tr.region ?_; refine TrL.quiets 4 rfl (by exact True.intro) ?_; refine TrL.nil ?_
  refine Tr.cond rfl (fun c3 => ?_) (fun c3 => ?_)
  · have hi1 : i < (absL s).length := by simpa using c3
    have hnth : nth (t := .str) (absL s) (i : Int) = (absL s)[i] := nth_get' (t := .str) _ _ hi1
    have hle := flatS_take_le (absL s) (i + 1)
    have hle0 := flatS_take_le (absL s) i
    have hst : flatS ((absL s).take (i + 1)) = flatS ((absL s).take i) ++ [47] ++ (absL s)[i] := by
      rw [List.take_succ_eq_append_getElem hi1, flatS_snoc]
    have hel : ((absL s)[i]).length ≤ 1099511627 := by
      rw [hst] at hle
      simp only [List.length_append] at hle
      omega
    refine Tr.skip ?_; refine Tr.seq ?_; refine Tr.block ?_; refine Tr.region ?_; refine TrL.quiets 8 rfl ?_ ?_
    · rw [hnth, show ({ data := #[47] } : ByteArray).data.toList = ([47] : Str) from rfl]
      simp only [allOf, impO, imp, inR, and_true, List.length_append, List.length_singleton]
      omega
    refine TrL.nil ?_; refine Tr.region ?_; refine TrL.quiets 3 rfl (by exact True.intro) ?_; refine TrL.nil ?_
    refine ⟨i + 1, hi1, by dsimp only; omega, ?_⟩
    refine Eq.trans (b := (⟨[(3, [], .own 0), (6, [], vS (flatS ((absL s).take i) ++ [47] ++ nth (t := .str) (absL s) (i : Int))), (7, [], vI (IntKind.i64.wrap ((i : Int) + 1)))], [.gs 9 .str (absL s)]⟩ : St)) rfl ?_
    dsimp only
    rw [hst, w64n (y := i + 1) (by omega) (by omega), hnth]
  have hi1 : i = (absL s).length := by
    have : ¬ (i : Int) < (absL s).length := by simpa using c3
    omega
  subst hi1
  rw [List.take_length]
  refine Tr.exit ?_; refine Tr.seq ?_; refine Tr.seq ?_; refine Tr.region ?_; refine TrL.quiets 2 rfl (by exact True.intro) ?_; refine TrL.nil ?_
  refine Tr.cond rfl (fun c4 => ?_) (fun c4 => ?_)
  · have h4 : flatS (absL s) = [] := by simpa using c4
    refine Tr.seq ?_; refine Tr.region ?_; refine TrL.quiets 1 rfl (by exact True.intro) ?_; refine TrL.nil ?_; refine Tr.ret ?_
    refine retQ.of rfl ?_
    unfold absP
    rw [if_neg h0]
    cases h5 : absL s with
    | nil => rfl
    | cons x l => rw [h5] at h4; simp [flatS] at h4
  · have h4 : flatS (absL s) ≠ [] := by simpa using c4
    refine Tr.skip ?_; refine Tr.seq ?_; refine Tr.region ?_; refine TrL.quiets 2 rfl (by exact True.intro) ?_; refine TrL.nil ?_; refine Tr.ret ?_
    refine retQ.of rfl ?_
    unfold absP
    rw [if_neg h0, absT_flat (by intro h5; rw [h5] at h4; exact h4 rfl)]
end Go.Proofs.YtgmjkciinnjpbaaDoor.Sx
