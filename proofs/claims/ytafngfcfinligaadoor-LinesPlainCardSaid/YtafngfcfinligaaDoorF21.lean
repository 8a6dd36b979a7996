/-
  Lines: a raw line, backslashes at an end.
-/
import Derived.Test.YtafngfcfinligaaDoorF20
set_option linter.unusedVariables false
set_option linter.unusedSimpArgs false
set_option maxRecDepth 20000
set_option maxHeartbeats 4000000
namespace Go.Proofs.YtafngfcfinligaaDoor.Sx
open Go Go.RowKit Go.Proofs

/-! ### Plain -/
abbrev notNl (c : UInt8) : Bool := c != 10
/-- A raw line, where the next one begins. -/
def rawS (s : Str) (a : Nat) : Str := (s.drop a).takeWhile notNl
def rawN (s : Str) (a : Nat) : Nat := if (rawS s a).length < (s.drop a).length then a + (rawS s a).length + 1 else s.length
def clampA (at_ : Int) (n : Nat) : Nat := (max 0 (min at_ (n : Int))).toNat
theorem clampA_le (at_ : Int) (n : Nat) : clampA at_ n ≤ n := by unfold clampA; omega
theorem indexByte_tw (c : UInt8) : ∀ l : Str, Lib.indexByte l c = if (l.takeWhile (fun x => x != c)).length < l.length then ((l.takeWhile (fun x => x != c)).length : Int) else -1
  | [] => rfl
  | b :: l => by
    have ih := indexByte_tw c l
    rw [Lib.indexByte]
    by_cases hb : b = c
    · subst hb; simp
    · have h1 : (b == c) = false := by simpa using hb
      have h2 : (b != c) = true := by simpa using hb
      simp only [h1, Bool.false_eq_true, if_false, List.takeWhile_cons, h2, if_true, List.length_cons]
      rw [ih]
      by_cases h : (l.takeWhile (fun x => x != c)).length < l.length
      · rw [if_pos h, if_neg (by simp), if_pos (by omega)]
        rfl
      · rw [if_neg h, if_pos (by rfl), if_neg (by omega)]
theorem rawS_le (s : Str) (a : Nat) : (rawS s a).length ≤ s.length - a := by
  have := (List.takeWhile_sublist (l := s.drop a) notNl).length_le
  simpa [rawS] using this
theorem rawN_gt (s : Str) (a : Nat) (h : a < s.length) : a < rawN s a ∧ a + (rawS s a).length ≤ rawN s a ∧ rawN s a ≤ s.length := by
  have := rawS_le s a
  unfold rawN
  split
  · rename_i h1
    rw [List.length_drop] at h1
    omega
  · rename_i h1
    rw [List.length_drop] at h1
    omega
theorem rawN_le (s : Str) (a : Nat) (h : a ≤ s.length) : rawN s a ≤ s.length ∧ a ≤ rawN s a := by
  have := rawS_le s a
  unfold rawN
  split
  · rename_i h1
    rw [List.length_drop] at h1
    omega
  · omega
theorem rawS_step (s : Str) (i : Nat) (h : i < s.length) : rawS s i = if s[i] = 10 then [] else s[i] :: rawS s (i + 1) := by
  rw [rawS, List.drop_eq_getElem_cons h, List.takeWhile_cons]
  by_cases hc : s[i] = 10
  · simp [notNl, hc]
  · simp [notNl, hc, rawS]
theorem takeWhile_all {p : UInt8 → Bool} : ∀ l : Str, l.length ≤ (l.takeWhile p).length → l.takeWhile p = l
  | [], _ => rfl
  | c :: l, h => by
    simp only [List.takeWhile_cons] at h ⊢
    split at h
    · rename_i hc
      simp only [hc, if_true, List.length_cons] at h ⊢
      rw [takeWhile_all l (by omega)]
    · simp at h

/-- Backslashes at an end. -/
def bsl (s : Str) : Nat := (s.reverse.takeWhile (fun c => c == 92)).length
theorem bsl_snoc (x : Str) (c : UInt8) : bsl (x ++ [c]) = if c = 92 then bsl x + 1 else 0 := by
  simp only [bsl, List.reverse_append, List.reverse_cons, List.reverse_nil, List.nil_append, List.singleton_append, List.takeWhile_cons]
  by_cases hc : c = 92
  · simp [hc]
  · simp [hc]
theorem bsl_le (s : Str) : bsl s ≤ s.length := by
  have := (List.takeWhile_sublist (l := s.reverse) (fun c => c == 92)).length_le
  simpa [bsl] using this
theorem bsl_take (s : Str) (k : Nat) (h : k < s.length) : bsl (s.take (k + 1)) = if s[k] = 92 then bsl (s.take k) + 1 else 0 := by
  rw [List.take_succ_eq_append_getElem h, bsl_snoc]
theorem byte_eq (s : Str) (k : Nat) (h : k < s.length) (c : UInt8) : (byteAt s (k : Int) == (c.toNat : Int)) = decide (s[k] = c) := by
  rw [byteAt_get s k h, byte_beq]
  exact Bool.beq_eq_decide_eq _ _

/-! ### The walk -/
theorem c_lines_Raw (s : Str) (at_ : Int) (hs : s.length ≤ 1099511627776) : CallV Tryd.prog 37 [vS s, vI at_] (.tup [vS (rawS s (clampA at_ s.length)), vI (rawN s (clampA at_ s.length) : Int)]) := by
  have hA := clampA_le at_ s.length
  obtain ⟨A, hAe⟩ : ∃ A, clampA at_ s.length = A := ⟨_, rfl⟩
  rw [hAe] at hA ⊢
  have hclamp : max 0 (min at_ (s.length : Int)) = (A : Int) := by rw [← hAe, clampA]; omega
  have hix : Lib.indexByte (s.drop A) 10 = if (rawS s A).length < (s.drop A).length then ((rawS s A).length : Int) else -1 := indexByte_tw 10 (s.drop A)
  have hr := rawS_le s A
  refine CallV.of Tryd.func37 (by kernel_rfl) rfl Tryd.ntmps37 (by simp) rfl fun cx hB => ?_
  refine Tr.seq ?_; refine Tr.region ?_; refine TrL.quiets 2 rfl (by exact True.intro) ?_; refine TrL.nil ?_; refine Tr.seq ?_; refine Tr.region ?_; refine TrL.quiets 6 rfl (by exact True.intro) ?_; refine TrL.nil ?_
  change Tr _ _ _ _ _ _
  refine Tr.is 1 (sv' := vI (A : Int)) rfl (congrArg vI hclamp) ?_
  refine Tr.seq ?_; refine Tr.region ?_; refine TrL.quiets 3 rfl (by (simp (disch := omega) only [allOf, impO, imp, inR, loOk, and_true, w64, List.length_set, List.length_cons, List.length_nil, Option.getD_none, Option.getD_some, Ty.D, true_and, decide_eq_true_eq, decide_eq_false_iff_not, Bool.and_eq_true, Bool.or_eq_false_iff]; omega)) ?_
  first | refine TrL.callV rfl rfl rfl rfl rfl (c_IndexByte ..) ?_ | refine TrD.callV rfl rfl rfl rfl rfl (c_IndexByte ..) rfl ?_
  refine TrL.quiets 1 rfl (by exact True.intro) ?_; refine TrL.nil ?_; refine Tr.seq ?_; refine Tr.seq ?_; refine Tr.region ?_; refine TrL.quiets 2 rfl (by exact True.intro) ?_; refine TrL.nil ?_
  have hix2 : Lib.indexByte (cut s (some (A : Int)) none) (Int.toNat 10).toUInt8 = Lib.indexByte (s.drop A) 10 := rfl
  refine Tr.cond rfl (fun h1 => ?_) (fun h1 => ?_)
  · have h2 : ¬ (rawS s A).length < (s.drop A).length := fun h => by
      have h3 : Lib.indexByte (s.drop A) 10 < 0 := by rw [← hix2]; exact of_decide_eq_true h1
      rw [hix, if_pos h] at h3
      omega
    refine Tr.seq ?_; refine Tr.region ?_; refine TrL.quiets 7 rfl (by (simp (disch := omega) only [allOf, impO, imp, inR, loOk, and_true, w64, List.length_set, List.length_cons, List.length_nil, Option.getD_none, Option.getD_some, Ty.D, true_and, decide_eq_true_eq, decide_eq_false_iff_not, Bool.and_eq_true, Bool.or_eq_false_iff]; omega)) ?_; refine TrL.nil ?_; refine Tr.ret ?_
    refine retQ.of rfl ?_
    have e1 : rawS s A = s.drop A := takeWhile_all _ (by have := h2; simp only [rawS] at this; omega)
    have e2 : rawN s A = s.length := by rw [rawN, if_neg h2]
    rw [e1, e2]
    rfl
  · have h2 : (rawS s A).length < (s.drop A).length := by
      by_cases h : (rawS s A).length < (s.drop A).length
      · exact h
      · have h3 : ¬ Lib.indexByte (s.drop A) 10 < 0 := by rw [← hix2]; exact of_decide_eq_false h1
        rw [hix, if_neg h] at h3
        omega
    have e0 : Lib.indexByte (cut s (some (A : Int)) none) (Int.toNat 10).toUInt8 = ((rawS s A).length : Int) := by rw [hix2, hix, if_pos h2]
    have e2 : rawN s A = A + (rawS s A).length + 1 := by rw [rawN, if_pos h2]
    rw [List.length_drop] at h2
    refine Tr.is 6 (sv' := vI ((rawS s A).length : Int)) rfl (congrArg vI e0) ?_
    have w1 : IntKind.i64.wrap ((A : Int) + ((rawS s A).length : Int)) = ((A + (rawS s A).length : Nat) : Int) := w64n (by omega) (by omega)
    have w2 : IntKind.i64.wrap (((A + (rawS s A).length : Nat) : Int) + 1) = ((A + (rawS s A).length + 1 : Nat) : Int) := w64n (by omega) (by omega)
    refine Tr.skip ?_; refine Tr.seq ?_; refine Tr.region ?_; refine TrL.quiets 12 rfl (by (simp (disch := omega) only [allOf, impO, imp, inR, loOk, and_true, w64, List.length_set, List.length_cons, List.length_nil, Option.getD_none, Option.getD_some, Ty.D, true_and, decide_eq_true_eq, decide_eq_false_iff_not, Bool.and_eq_true, Bool.or_eq_false_iff]; omega)) ?_; refine TrL.nil ?_; refine Tr.ret ?_
    refine retQ.of rfl ?_
    rw [w1, w2, e2]
    have e3 : rawS s A = cut s (some (A : Int)) (some ((A + (rawS s A).length : Nat) : Int)) := by
      show rawS s A = (s.take (A + (rawS s A).length)).drop A
      rw [List.drop_take, show A + (rawS s A).length - A = (rawS s A).length by omega]
      exact List.prefix_iff_eq_take.1 (List.takeWhile_prefix (l := s.drop A) notNl)
    rw [← e3]

/-- The reference's. -/
theorem c_ref_Raw (s : Str) (at_ : Int) (hs : s.length ≤ 1099511627776) : CallV Tryd.prog 38 [vS s, vI at_] (.tup [vS (rawS s (clampA at_ s.length)), vI (rawN s (clampA at_ s.length) : Int)]) := by
  have hA := clampA_le at_ s.length
  obtain ⟨A, hAe⟩ : ∃ A, clampA at_ s.length = A := ⟨_, rfl⟩
  rw [hAe] at hA ⊢
  have hclamp : min (max at_ 0) (s.length : Int) = (A : Int) := by rw [← hAe, clampA]; omega
  refine CallV.of Tryd.func38 (by kernel_rfl) rfl Tryd.ntmps38 (by simp) rfl fun cx hB => ?_
  refine Tr.seq ?_; refine Tr.region ?_; refine TrL.quiets 2 rfl (by exact True.intro) ?_; refine TrL.nil ?_; refine Tr.seq ?_; refine Tr.region ?_; refine TrL.quiets 6 rfl (by exact True.intro) ?_; refine TrL.nil ?_
  change Tr _ _ _ _ _ _
  refine Tr.is 1 (sv' := vI (A : Int)) rfl (congrArg vI hclamp) ?_
  refine Tr.seq ?_; refine Tr.seq ?_; refine Tr.region ?_; refine TrL.quiets 2 rfl (by exact True.intro) ?_; refine TrL.nil ?_; refine Tr.block ?_
  refine Tr.loop (fun (i : Nat) => ⟨[(0, [], vS s), (1, [], vI (A : Int)), (6, [], vI i)], []⟩)
    (fun i => A ≤ i ∧ i ≤ s.length ∧ rawS s A = (s.take i).drop A ++ rawS s i) (fun i => s.length - i) A [0, 1, 6] 0 hB rfl ⟨Nat.le_refl _, hA, by simp⟩ fun i hi => ?_
  obtain ⟨hi1, hi2, hi3⟩ := hi
  refine Tr.seq ?_; refine Tr.seq ?_; refine Tr.region ?_; refine TrL.quiets 4 rfl (by exact True.intro) ?_; refine TrL.nil ?_
  refine Tr.cond rfl (fun h1 => ?_) (fun h1 => ?_)
  · have hil : i < s.length := by
      have : ((i : Nat) : Int) < (s.length : Int) := of_decide_eq_true h1
      omega
    have hst := rawS_step s i hil
    have hlen : ((s.take i).drop A).length = i - A := by simp; omega
    refine Tr.skip ?_; refine Tr.seq ?_; refine Tr.block ?_; refine Tr.seq ?_; refine Tr.region ?_; refine TrL.quiets 4 rfl (by (simp only [allOf, impO, imp, inR, loOk, and_true]; omega)) ?_; refine TrL.nil ?_
    refine Tr.cond rfl (fun h2 => ?_) (fun h2 => ?_)
    · have hc : s[i] = 10 := by
        have := byte_eq s i hil 10
        rw [show ((10 : UInt8).toNat : Int) = 10 from rfl, h2] at this
        simpa using this.symm
      rw [if_pos hc] at hst
      rw [hst, List.append_nil] at hi3
      refine Tr.seq ?_; refine Tr.region ?_; refine TrL.quiets 8 rfl (by (simp (disch := omega) only [allOf, impO, imp, inR, loOk, and_true, w64, List.length_set, List.length_cons, List.length_nil, Option.getD_none, Option.getD_some, Ty.D, true_and, decide_eq_true_eq, decide_eq_false_iff_not, Bool.and_eq_true, Bool.or_eq_false_iff]; omega)) ?_; refine TrL.nil ?_; refine Tr.ret ?_
      refine retQ.of rfl ?_
      have e2 : rawN s A = i + 1 := by
        rw [rawN, hi3, hlen, List.length_drop, if_pos (by omega)]
        omega
      rw [hi3, e2, w64n (y := i + 1) (by omega) (by omega)]
      rfl
    · have hc : s[i] ≠ 10 := fun e => by
        have := byte_eq s i hil 10
        rw [show ((10 : UInt8).toNat : Int) = 10 from rfl, h2] at this
        simp [e] at this
      rw [if_neg hc] at hst
      refine Tr.skip ?_; refine Tr.region ?_; refine TrL.quiets 3 rfl (by exact True.intro) ?_; refine TrL.nil ?_
      refine ⟨i + 1, ⟨by omega, by omega, ?_⟩, by dsimp only; omega, ?_⟩
      · rw [hi3, hst, List.take_succ_eq_append_getElem hil, List.drop_append_of_le_length (by simp; omega)]
        simp
      · refine Eq.trans (b := (⟨[(_, [], _), (_, [], _), (_, [], _)], []⟩ : St)) rfl ?_
        rw [w64n (y := i + 1) (by omega) (by omega)]
  have hil : i = s.length := by
    have : ¬ ((i : Nat) : Int) < (s.length : Int) := of_decide_eq_false h1
    omega
  subst hil
  have h5 : rawS s A = s.drop A := by
    rw [hi3]
    simp [rawS]
  refine Tr.exit ?_; refine Tr.seq ?_; refine Tr.region ?_; refine TrL.quiets 7 rfl (by (simp (disch := omega) only [allOf, impO, imp, inR, loOk, and_true, w64, List.length_set, List.length_cons, List.length_nil, Option.getD_none, Option.getD_some, Ty.D, true_and, decide_eq_true_eq, decide_eq_false_iff_not, Bool.and_eq_true, Bool.or_eq_false_iff]; omega)) ?_; refine TrL.nil ?_; refine Tr.ret ?_
  refine retQ.of rfl ?_
  have e2 : rawN s A = s.length := by rw [rawN, h5, if_neg (by omega)]
  rw [h5, e2]
  rfl
end Go.Proofs.YtafngfcfinligaaDoor.Sx
