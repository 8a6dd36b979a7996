/-
  Lines: backslashes at an end, a line with one more.
-/
import Derived.Test.YtafngfcfinligaaDoorF21
set_option linter.unusedVariables false
set_option linter.unusedSimpArgs false
set_option maxRecDepth 20000
set_option maxHeartbeats 4000000
namespace Go.Proofs.YtafngfcfinligaaDoor.Sx
open Go Go.RowKit Go.Proofs

theorem bsl_nil : bsl [] = 0 := rfl
theorem c_quotes (s : Str) (n : Nat) (hn : n ≤ s.length) (hs : s.length ≤ 1099511627776) : CallV Tryd.prog 69 [vS s, vI n] (vI (bsl (s.take n) : Int)) := by
  refine CallV.of Tryd.func69 (by kernel_rfl) rfl Tryd.ntmps69 (by simp) rfl fun cx hB => ?_
  refine Tr.seq ?_; refine Tr.region ?_; refine TrL.quiets 1 rfl (by exact True.intro) ?_; refine TrL.nil ?_; refine Tr.seq ?_; refine Tr.region ?_; refine TrL.quiets 2 rfl (by exact True.intro) ?_; refine TrL.nil ?_; refine Tr.seq ?_; refine Tr.block ?_
  refine Tr.loop (fun (k : Nat) => ⟨[(0, [], vS s), (1, [], vI n), (5, [], vI k)], []⟩)
    (fun k => k ≤ n ∧ bsl (s.take n) = (n - k) + bsl (s.take k)) (fun k => k) n [0, 1, 5] 0 hB rfl ⟨Nat.le_refl _, by simp⟩ fun k hk => ?_
  obtain ⟨hk1, hk2⟩ := hk
  refine Tr.seq ?_; refine Tr.seq ?_; refine Tr.region ?_; refine TrL.quiets 9 rfl (by (simp (disch := omega) only [allOf, impO, imp, inR, loOk, and_true, w64, List.length_set, List.length_cons, List.length_nil, Option.getD_none, Option.getD_some, Ty.D, true_and, decide_eq_true_eq, decide_eq_false_iff_not, Bool.and_eq_true, Bool.or_eq_false_iff]; omega)) ?_; refine TrL.nil ?_
  refine Tr.cond rfl (fun h1 => ?_) (fun h1 => ?_)
  · simp only [Bool.and_eq_true, decide_eq_true_eq] at h1
    obtain ⟨h1, h2⟩ := h1
    obtain ⟨j, rfl⟩ : ∃ j, k = j + 1 := ⟨k - 1, by omega⟩
    have hw : IntKind.i64.wrap (((j + 1 : Nat) : Int) - 1) = (j : Int) := by rw [w64 (by omega) (by omega)]; omega
    rw [hw, show (92 : Int) = ((92 : UInt8).toNat : Int) from rfl, byte_eq s j (by omega)] at h2
    have hb := bsl_take s j (by omega)
    rw [if_pos (of_decide_eq_true h2)] at hb
    refine Tr.skip ?_; refine Tr.block ?_; refine Tr.region ?_; refine TrL.quiets 3 rfl (by exact True.intro) ?_; refine TrL.nil ?_
    refine ⟨j, ⟨by omega, by omega⟩, by dsimp only; omega, ?_⟩
    refine Eq.trans (b := (⟨[(_, [], _), (_, [], _), (_, [], _)], []⟩ : St)) rfl ?_
    rw [hw]
  have h3 : bsl (s.take k) = 0 := by
    rcases Nat.eq_zero_or_pos k with h0 | h0
    · subst h0; rfl
    · obtain ⟨j, rfl⟩ : ∃ j, k = j + 1 := ⟨k - 1, by omega⟩
      have hw : IntKind.i64.wrap (((j + 1 : Nat) : Int) - 1) = (j : Int) := by rw [w64 (by omega) (by omega)]; omega
      rw [hw, show (92 : Int) = ((92 : UInt8).toNat : Int) from rfl, byte_eq s j (by omega)] at h1
      have hb := bsl_take s j (by omega)
      have h2 : ¬ s[j] = 92 := by
        intro e
        rw [Bool.and_eq_false_iff] at h1
        rcases h1 with h1 | h1
        · rw [decide_eq_false_iff_not] at h1; omega
        · simp [e] at h1
      rw [if_neg h2] at hb
      exact hb
  refine Tr.exit ?_; refine Tr.seq ?_; refine Tr.region ?_; refine TrL.quiets 4 rfl (by exact True.intro) ?_; refine TrL.nil ?_; refine Tr.ret ?_
  refine retQ.of rfl ?_
  rw [hk2, h3]
  exact congrArg vI (w64n (by omega) (by omega))
theorem odd_int (n : Nat) : ((n : Int).tmod 2 == 1) = (n % 2 == 1) := by
  rw [show (2 : Int) = ((2 : Nat) : Int) from rfl, Int.tmod_eq_emod_of_nonneg (by omega), Bool.eq_iff_iff]
  simp only [beq_iff_eq]
  omega
theorem c_goes (s : Str) (hs : s.length ≤ 1099511627776) : CallV Tryd.prog 85 [vS s] (vB (bsl s % 2 == 1)) := by
  have hb := bsl_le s
  refine CallV.of Tryd.func85 (by kernel_rfl) rfl Tryd.ntmps85 (by simp) rfl fun cx hB => ?_
  refine Tr.seq ?_; refine Tr.region ?_; refine TrL.quiets 1 rfl (by exact True.intro) ?_; refine TrL.nil ?_; refine Tr.seq ?_; refine Tr.region ?_; refine TrL.quiets 3 rfl (by exact True.intro) ?_
  first | refine TrL.callV rfl rfl rfl rfl rfl (c_quotes s s.length (Nat.le_refl _) hs) ?_ | refine TrD.callV rfl rfl rfl rfl rfl (c_quotes s s.length (Nat.le_refl _) hs) rfl ?_
  refine TrL.quiets 3 rfl (by (simp only [allOf, impO, imp, inR, loOk, and_true]; omega)) ?_; refine TrL.nil ?_; refine Tr.ret ?_
  refine retQ.of rfl ?_
  rw [List.take_length]
  exact congrArg vB (odd_int _)

theorem c_odd (s : Str) (hs : s.length ≤ 1099511627776) : CallV Tryd.prog 65 [vS s] (vB (bsl s % 2 == 1)) := by
  refine CallV.of Tryd.func65 (by kernel_rfl) rfl Tryd.ntmps65 (by simp) rfl fun cx hB => ?_
  refine Tr.seq ?_; refine Tr.region ?_; refine TrL.quiets 1 rfl (by exact True.intro) ?_; refine TrL.nil ?_; refine Tr.seq ?_; refine Tr.region ?_; refine TrL.quiets 1 rfl (by exact True.intro) ?_; refine TrL.nil ?_; refine Tr.seq ?_; refine Tr.block ?_
  refine Tr.loop (fun (k : Nat) => ⟨[(0, [], vS s), (3, [], vI k)], []⟩)
    (fun k => k ≤ s.length ∧ bsl s = k + bsl (s.take (s.length - k))) (fun k => s.length - k) 0 [0, 3] 0 hB rfl ⟨Nat.zero_le _, by simp⟩ fun k hk => ?_
  obtain ⟨hk1, hk2⟩ := hk
  have w1 : IntKind.i64.wrap ((s.length : Int) - 1) = (s.length : Int) - 1 := w64 (by omega) (by omega)
  have w2 : IntKind.i64.wrap ((s.length : Int) - 1 - (k : Int)) = (s.length : Int) - 1 - (k : Int) := w64 (by omega) (by omega)
  refine Tr.seq ?_; refine Tr.seq ?_; refine Tr.region ?_; refine TrL.quiets 14 rfl (by (simp (disch := omega) only [allOf, impO, imp, inR, loOk, and_true, w64, List.length_set, List.length_cons, List.length_nil, Option.getD_none, Option.getD_some, Ty.D, true_and, decide_eq_true_eq, decide_eq_false_iff_not, Bool.and_eq_true, Bool.or_eq_false_iff]; omega)) ?_; refine TrL.nil ?_
  have key : ∀ (j : Nat) (hj : s.length = k + (j + 1)), (byteAt s (IntKind.i64.wrap (IntKind.i64.wrap ((s.length : Int) - 1) - (k : Int))) == 92) = decide (s[j]'(by omega) = 92) ∧ bsl (s.take (s.length - k)) = if s[j]'(by omega) = 92 then bsl (s.take j) + 1 else 0 := by
    intro j hj
    have hw : IntKind.i64.wrap (IntKind.i64.wrap ((s.length : Int) - 1) - (k : Int)) = (j : Int) := by rw [w1, w2]; omega
    refine ⟨?_, ?_⟩
    · rw [hw]
      exact byte_eq s j (by omega) 92
    · rw [show s.length - k = j + 1 by omega]
      exact bsl_take s j (by omega)
  refine Tr.cond rfl (fun h1 => ?_) (fun h1 => ?_)
  · simp only [Bool.and_eq_true, decide_eq_true_eq] at h1
    obtain ⟨h1, h2⟩ := h1
    obtain ⟨j, hj⟩ : ∃ j, s.length = k + (j + 1) := ⟨s.length - k - 1, by omega⟩
    obtain ⟨k1, k2⟩ := key j hj
    rw [k1] at h2
    rw [if_pos (of_decide_eq_true h2)] at k2
    refine Tr.skip ?_; refine Tr.block ?_; refine Tr.region ?_; refine TrL.quiets 3 rfl (by exact True.intro) ?_; refine TrL.nil ?_
    refine ⟨k + 1, ⟨by omega, ?_⟩, by dsimp only; omega, ?_⟩
    · rw [hk2, k2, show s.length - (k + 1) = j by omega]
      omega
    · refine Eq.trans (b := (⟨[(_, [], _), (_, [], _)], []⟩ : St)) rfl ?_
      rw [w64n (y := k + 1) (by omega) (by omega)]
  have h3 : bsl (s.take (s.length - k)) = 0 := by
    rcases Nat.eq_zero_or_pos (s.length - k) with h0 | h0
    · rw [h0]; rfl
    · obtain ⟨j, hj⟩ : ∃ j, s.length = k + (j + 1) := ⟨s.length - k - 1, by omega⟩
      obtain ⟨k1, k2⟩ := key j hj
      rw [k1] at h1
      have h2 : ¬ s[j] = 92 := by
        intro e
        rw [Bool.and_eq_false_iff] at h1
        rcases h1 with h1 | h1
        · rw [decide_eq_false_iff_not] at h1; omega
        · simp [e] at h1
      rw [if_neg h2] at k2
      exact k2
  refine Tr.exit ?_; refine Tr.seq ?_; refine Tr.region ?_; refine TrL.quiets 4 rfl (by (simp only [allOf, impO, imp, inR, loOk, and_true]; omega)) ?_; refine TrL.nil ?_; refine Tr.ret ?_
  refine retQ.of rfl ?_
  have e : bsl s = k := by omega
  rw [e]
  exact congrArg vB (odd_int _)

/-! ### A line with one more -/
def joinRec (s t : Str) : Str := s ++ [10] ++ trimPre t [9]
def joinPlain (s t : Str) : Str := right (s.take (s.length - 1)) ++ [32] ++ left t
theorem trimPre_le (t p : Str) : (trimPre t p).length ≤ t.length := by
  unfold trimPre
  split <;> simp
theorem right_le (s : Str) : (right s).length ≤ s.length := by
  simp only [right, List.length_reverse]
  have := (List.dropWhile_sublist (l := s.reverse) isBlank).length_le
  simpa using this
theorem left_len (s : Str) : (left s).length ≤ s.length := (List.dropWhile_sublist _).length_le
theorem joinRec_le (s t : Str) : (joinRec s t).length ≤ s.length + t.length + 1 := by
  have := trimPre_le t [9]
  simp only [joinRec, List.length_append, List.length_cons, List.length_nil]
  omega
theorem joinPlain_le (s t : Str) : (joinPlain s t).length ≤ s.length + t.length + 1 := by
  have h1 := right_le (s.take (s.length - 1))
  have h2 := left_len t
  simp only [List.length_take] at h1
  simp only [joinPlain, List.length_append, List.length_cons, List.length_nil]
  omega
theorem c_recipe (s t : Str) (hs : s.length ≤ 1099511627776) (ht : t.length ≤ 1099511627776) (h0 : s ≠ []) : CallV Tryd.prog 63 [vS s, vS t] (vS (joinRec s t)) := by
  have := trimPre_le t [9]
  refine CallV.of Tryd.func63 (by kernel_rfl) rfl Tryd.ntmps63 (by simp) rfl fun cx hB => ?_
  refine Tr.seq ?_; refine Tr.region ?_; refine TrL.quiets 1 rfl (by exact True.intro) ?_; refine TrL.nil ?_; refine Tr.seq ?_; refine Tr.region ?_; refine TrL.quiets 3 rfl (by (simp (disch := omega) only [allOf, impO, imp, inR, loOk, and_true, w64, List.length_set, List.length_cons, List.length_nil, Option.getD_none, Option.getD_some, Ty.D, true_and, decide_eq_true_eq, decide_eq_false_iff_not, Bool.and_eq_true, Bool.or_eq_false_iff]; omega)) ?_
  first | refine TrL.callV rfl rfl rfl rfl rfl (c_TrimPrefix ..) ?_ | refine TrD.callV rfl rfl rfl rfl rfl (c_TrimPrefix ..) rfl ?_
  refine TrL.quiets 2 rfl (by (simp (disch := omega) only [allOf, impO, imp, inR, loOk, and_true, w64, List.length_set, List.length_cons, List.length_nil, cut, List.length_take, List.length_drop, List.length_append, Int.toNat_natCast, Option.getD_none, Option.getD_some, Ty.D, true_and, decide_eq_true_eq, decide_eq_false_iff_not, Bool.and_eq_true, Bool.or_eq_false_iff]; omega)) ?_; refine TrL.nil ?_; refine Tr.ret ?_
  refine retQ.of rfl ?_
  rfl
theorem c_plain (s t : Str) (hs : s.length ≤ 1099511627776) (ht : t.length ≤ 1099511627776) (h0 : s ≠ []) : CallV Tryd.prog 64 [vS s, vS t] (vS (joinPlain s t)) := by
  have hpos : 0 < s.length := List.length_pos_iff.2 h0
  have h1 := right_le (s.take (s.length - 1))
  have h2 := left_len t
  simp only [List.length_take] at h1
  refine CallV.of Tryd.func64 (by kernel_rfl) rfl Tryd.ntmps64 (by simp) rfl fun cx hB => ?_
  have w1 : IntKind.i64.wrap ((s.length : Int) - 1) = ((s.length - 1 : Nat) : Int) := w64n (by omega) (by omega)
  refine Tr.seq ?_; refine Tr.region ?_; refine TrL.quiets 1 rfl (by exact True.intro) ?_; refine TrL.nil ?_; refine Tr.seq ?_; refine Tr.region ?_; refine TrL.quiets 6 rfl (by (simp only [allOf, impO, imp, inR, loOk, and_true]; omega)) ?_; refine TrL.nil ?_; refine Tr.seq ?_; refine Tr.region ?_; refine TrL.quiets 1 rfl (by exact True.intro) ?_
  rw [w1]
  first | refine TrL.callV rfl rfl rfl rfl rfl (c_TrimRight (s.take (s.length - 1)) (by simp; omega)) ?_ | refine TrD.callV rfl rfl rfl rfl rfl (c_TrimRight (s.take (s.length - 1)) (by simp; omega)) rfl ?_
  refine TrL.quiets 2 rfl (by (simp (disch := omega) only [allOf, impO, imp, inR, loOk, and_true, w64, List.length_set, List.length_cons, List.length_nil, Option.getD_none, Option.getD_some, Ty.D, true_and, decide_eq_true_eq, decide_eq_false_iff_not, Bool.and_eq_true, Bool.or_eq_false_iff]; omega)) ?_
  first | refine TrL.callV rfl rfl rfl rfl rfl (c_words_Left t) ?_ | refine TrD.callV rfl rfl rfl rfl rfl (c_words_Left t) rfl ?_
  refine TrL.quiets 2 rfl (by (simp (disch := omega) only [allOf, impO, imp, inR, loOk, and_true, w64, List.length_set, List.length_cons, List.length_nil, cut, List.length_take, List.length_drop, List.length_append, Int.toNat_natCast, Option.getD_none, Option.getD_some, Ty.D, true_and, decide_eq_true_eq, decide_eq_false_iff_not, Bool.and_eq_true, Bool.or_eq_false_iff]; omega)) ?_; refine TrL.nil ?_; refine Tr.ret ?_
  refine retQ.of rfl ?_
  rfl
end Go.Proofs.YtafngfcfinligaaDoor.Sx
