/-
  assign.Read.
-/
import Derived.Test.YtafngfcfinligaaDoorF6
import Derived.Test.YtafngfcfinligaaDoorSxQ
set_option linter.unusedVariables false
set_option linter.unusedSimpArgs false
set_option maxRecDepth 20000
set_option maxHeartbeats 4000000
namespace Go.Proofs.YtafngfcfinligaaDoor.Sx
open Go Go.RowKit Go.Proofs

/-- What is kept on the way: the last place but one, if its byte stands outside and is so. -/
theorem scan_kept (p q : UInt8 → Bool) (hpq : ∀ c, p c = true → q c = false) : ∀ (n : Nat) (s : Str), s.length ≤ n → ∀ (d i g k : Nat), g ≤ i → (scan p q d i g s).1 = some k →
    i ≤ k ∧ k - i < s.length ∧ (k = i → (scan p q d i g s).2 = g) ∧ (i < k → ((scan p q d i g s).2 = k ↔ ((outs d s).getD (k - 1 - i) false && q (s.getD (k - 1 - i) 0)) = true))
  | _, [], _, d, i, g, k, _, h => by simp [scan_nil] at h
  | 0, c :: r, h, d, i, g, k, _, _ => by simp at h
  | n + 1, c :: r, hn, d, i, g, k, hg, h => by
    simp only [List.length_cons] at hn
    -- a step of one byte that keeps what was kept
    have one : ∀ (d' g' : Nat) (b : Bool), g' ≤ i + 1 → (g' = i + 1 ↔ (b && q c) = true) → (scan p q d' (i + 1) g' r).1 = some k →
        i ≤ k ∧ k - i < r.length + 1 ∧ (k = i → (scan p q d' (i + 1) g' r).2 = g) ∧ (i < k → ((scan p q d' (i + 1) g' r).2 = k ↔ ((b :: outs d' r).getD (k - 1 - i) false && q ((c :: r).getD (k - 1 - i) 0)) = true)) := by
      intro d' g' b hg' hb h'
      obtain ⟨h1, h2, h3, h4⟩ := scan_kept p q hpq n r (by omega) d' (i + 1) g' k hg' h'
      refine ⟨by omega, by omega, fun e => by omega, fun hlt => ?_⟩
      rcases Nat.lt_or_ge (i + 1) k with hlt2 | hge
      · have e : k - 1 - i = (k - 1 - (i + 1)) + 1 := by omega
        rw [h4 hlt2, e, List.getD_cons_succ, List.getD_cons_succ]
      · have e : k = i + 1 := by omega
        have e2 : k - 1 - i = 0 := by omega
        rw [h3 e, e2, List.getD_cons_zero, List.getD_cons_zero, e]
        exact hb
    rw [scan_cons] at h ⊢
    rw [outs_cons]
    by_cases hc : (c == 36) = true
    · rw [if_pos hc] at h ⊢
      rw [if_pos hc]
      cases r with
      | nil => simp at h
      | cons x r' =>
        simp only [List.length_cons] at hn
        simp only at h ⊢
        obtain ⟨h1, h2, h3, h4⟩ := scan_kept p q hpq n r' (by omega) _ (i + 2) g k (by omega) h
        refine ⟨by omega, by simp only [List.length_cons]; omega, fun e => by omega, fun hlt => ?_⟩
        rcases Nat.lt_or_ge (i + 2) k with hlt2 | hge
        · have e : k - 1 - i = (k - 1 - (i + 2)) + 2 := by omega
          rw [h4 hlt2, e, List.getD_cons_succ, List.getD_cons_succ, List.getD_cons_succ, List.getD_cons_succ]
        · have e : k = i + 2 := by omega
          have e2 : k - 1 - i = 1 := by omega
          rw [h3 e, e2, List.getD_cons_succ, List.getD_cons_zero]
          simp
          omega
    · rw [if_neg hc] at h ⊢
      rw [if_neg hc]
      simp only [List.length_cons]
      by_cases h1 : (decide (0 < d) && isOpen c) = true
      · rw [if_pos h1] at h ⊢
        rw [if_pos h1]
        have hd : ¬ d = 0 := by rintro rfl; simp at h1
        exact one _ g (decide (d = 0)) (by omega) (by simp [hd]; omega) h
      · rw [if_neg h1] at h ⊢
        rw [if_neg h1]
        by_cases h2 : (decide (0 < d) && isClose c) = true
        · rw [if_pos h2] at h ⊢
          rw [if_pos h2]
          have hd : ¬ d = 0 := by rintro rfl; simp at h2
          exact one _ g (decide (d = 0)) (by omega) (by simp [hd]; omega) h
        · rw [if_neg h2] at h ⊢
          rw [if_neg h2]
          by_cases hd : d = 0
          · subst hd
            rw [if_pos rfl] at h ⊢
            by_cases hp : p c = true
            · rw [if_pos hp] at h ⊢
              simp only [Option.some.injEq] at h
              subst h
              refine ⟨Nat.le_refl _, by omega, fun _ => ?_, fun h => absurd h (Nat.lt_irrefl _)⟩
              simp [hpq c hp]
            · rw [if_neg hp] at h ⊢
              refine one 0 _ (decide ((0 : Nat) = 0)) (by split <;> omega) ?_ h
              cases hq : q c
              · simp; omega
              · simp
          · rw [if_neg hd] at h ⊢
            exact one _ g (decide (d = 0)) (by omega) (by simp [hd]; omega) h

theorem c_assign_Read (s : Str) (hs : s.length ≤ 1099511627776) : CallV Tryd.prog 16 [vS s] (tup4 (readR s)) := by
  have ho := outs_length _ s (Nat.le_refl _) 0
  have hf := scan_firstO (fun c => c == 61 || c == 58) (fun c => c == 43 || c == 63) (by decide) _ s (Nat.le_refl _) 0 0 0
  have hk := scan_kept (fun c => c == 61 || c == 58) (fun c => c == 43 || c == 63) (by intro c h; simp only [Bool.or_eq_true, beq_iff_eq] at h; rcases h with rfl | rfl <;> decide) _ s (Nat.le_refl _) 0 0 0
  refine CallV.of Tryd.func16 (by kernel_rfl) rfl Tryd.ntmps16 (by simp) rfl fun cx hB => ?_
  refine Tr.seq ?_; refine Tr.region ?_; refine TrL.eff (effBox_sound rfl) (by exact True.intro) ?_; refine TrL.quiets 4 rfl (by exact True.intro) ?_; refine TrL.nil ?_; refine Tr.seq ?_; refine Tr.region ?_; refine TrL.eff (effBox_sound rfl) (by exact True.intro) ?_; refine TrL.eff (effStore_sound rfl) (by exact True.intro) ?_; refine TrL.nil ?_; refine Tr.seq ?_; refine Tr.region ?_; refine TrL.quiets 2 rfl (by exact True.intro) ?_
  refine TrL.callT [0, 1] rfl rfl rfl rfl rfl (c_outside_Read s hs) rfl rfl rfl ?_
  cases hi : (scan (fun c => c == 61 || c == 58) (fun c => c == 43 || c == 63) 0 0 0 s).1 with
  | none =>
    rw [hi] at hf
    refine TrL.quiets 1 rfl (by exact True.intro) ?_; refine TrL.nil ?_; refine Tr.seq ?_; refine Tr.seq ?_; refine Tr.region ?_; refine TrL.quiets 2 rfl (by exact True.intro) ?_; refine TrL.nil ?_
    refine Tr.cond rfl (fun h1 => ?_) (fun h1 => ?_)
    · refine Tr.seq ?_; refine Tr.region ?_; refine TrL.quiets 4 rfl (by exact True.intro) ?_; refine TrL.nil ?_; refine Tr.ret ?_
      refine retQ.of rfl ?_
      simp only [readR, ← hf]
      rfl
    · simp [idxOf] at h1
  | some i =>
    obtain ⟨_, hlt, hk1, hk2⟩ := hk i (Nat.zero_le _) hi
    rw [hi] at hf
    simp only [Nat.sub_zero] at hlt hk2
    generalize hg : (scan (fun c => c == 61 || c == 58) (fun c => c == 43 || c == 63) 0 0 0 s).2 = g at hk1 hk2
    refine TrL.is 11 (sv' := vI (i : Int)) rfl rfl ?_
    refine TrL.quiets 1 rfl (by exact True.intro) ?_; refine TrL.nil ?_; refine Tr.seq ?_; refine Tr.seq ?_; refine Tr.region ?_; refine TrL.quiets 2 rfl (by exact True.intro) ?_; refine TrL.nil ?_
    refine Tr.cond rfl (fun h1 => ?_) (fun h1 => ?_)
    · simp only [decide_eq_true_eq] at h1
      omega
    refine Tr.skip ?_; refine Tr.seq ?_; refine Tr.region ?_; refine TrL.quiets 4 rfl (by (simp (disch := omega) only [allOf, impO, imp, inR, loOk, and_true, w64, List.length_set, List.length_cons, List.length_nil, Option.getD_none, Option.getD_some, Ty.D, true_and, decide_eq_true_eq, decide_eq_false_iff_not, Bool.and_eq_true, Bool.or_eq_false_iff]; omega)) ?_; refine TrL.nil ?_; refine Tr.seq ?_
    refine Tr.is 8 (sv' := vS (s.drop i)) rfl rfl ?_
    have hr : byteAt (s.drop i) 0 = (((s.getD i 0).toNat : Nat) : Int) := by
      simp [byteAt, List.getD_eq_getElem?_getD]
    have hrl : (s.drop i).length = s.length - i := List.length_drop
    have e61 := byte_beq (s.getD i 0) 61
    have h0 : decide ((i : Int) > 0) = decide (0 < i) := by rw [Bool.eq_iff_iff]; simp
    have key : (((byteAt (s.drop i) 0 == 61) && decide ((i : Int) > 0)) && ((g : Int) == (i : Int))) = (s.getD i 0 == 61 && (decide (0 < i) && (outs 0 s).getD (i - 1) false && (s.getD (i - 1) 0 == 43 || s.getD (i - 1) 0 == 63))) := by
      rw [hr, h0, ← e61, Bool.and_assoc]
      congr 1
      by_cases hi0 : 0 < i
      · have h2 := hk2 hi0
        have h3 : ((g : Int) == (i : Int)) = ((outs 0 s).getD (i - 1) false && (s.getD (i - 1) 0 == 43 || s.getD (i - 1) 0 == 63)) := by
          rw [Bool.eq_iff_iff, ← h2, beq_iff_eq]
          omega
        rw [h3, Bool.and_assoc]
      · simp [hi0]
    refine Tr.block ?_; refine Tr.seq ?_; refine Tr.block ?_; refine Tr.seq ?_; refine Tr.block ?_; refine Tr.seq ?_; refine Tr.block ?_; refine Tr.seq ?_; refine Tr.block ?_; refine Tr.seq ?_; refine Tr.block ?_; refine Tr.seq ?_; refine Tr.seq ?_; refine Tr.seq ?_; refine Tr.region ?_; refine TrL.quiets 13 rfl (by (simp only [allOf, impO, imp, inR, loOk, and_true]; omega)) ?_; refine TrL.nil ?_
    refine Tr.cond rfl (fun h2 => ?_) (fun h2 => ?_)
    · have h2' := key.symm.trans h2
      rw [Bool.and_eq_true] at h2'
      obtain ⟨hc, hr2⟩ := h2'
      have hi0 : 0 < i := by
        simp only [Bool.and_eq_true, decide_eq_true_eq] at hr2
        exact hr2.1.1
      refine Tr.exit ?_; refine Tr.seq ?_; refine Tr.region ?_; refine TrL.quiets 3 rfl (by exact True.intro) ?_; refine TrL.nil ?_; refine Tr.region ?_; refine TrL.quiets 6 rfl (by (simp (disch := omega) only [allOf, impO, imp, inR, loOk, and_true, w64, List.length_set, List.length_cons, List.length_nil, Option.getD_none, Option.getD_some, Ty.D, true_and, decide_eq_true_eq, decide_eq_false_iff_not, Bool.and_eq_true, Bool.or_eq_false_iff]; omega)) ?_; refine TrL.nil ?_; refine Tr.seq ?_; refine Tr.region ?_; refine TrL.quiets 3 rfl (by (simp (disch := omega) only [allOf, impO, imp, inR, loOk, and_true, w64, List.length_set, List.length_cons, List.length_nil, cut, List.length_take, List.length_drop, List.length_append, Int.toNat_natCast, Option.getD_none, Option.getD_some, Ty.D, true_and, decide_eq_true_eq, decide_eq_false_iff_not, Bool.and_eq_true, Bool.or_eq_false_iff]; omega)) ?_; refine TrL.nil ?_; refine Tr.exit ?_; refine Tr.seq ?_
      refine Tr.is 7 (sv' := vI ((i - 1 : Nat) : Int)) rfl ?_ ?_
      · show vI (IntKind.i64.wrap ((i : Int) - 1)) = _
        rw [w64n (y := i - 1) (by omega) (by omega)]
      refine Tr.is 3 (sv' := vS [s.getD (i - 1) 0, 61]) rfl ?_ ?_
      · show vS (cut s (some (IntKind.i64.wrap ((i : Int) - 1))) (some (IntKind.i64.wrap (IntKind.i64.wrap ((i : Int) - 1) + 1))) ++ [61]) = _
        rw [w64n (x := (i : Int) - 1) (y := i - 1) (by omega) (by omega), w64n (y := i) (by omega) (by omega)]
        have h3 : i - (i - 1) = 1 := by omega
        have h1 : i - 1 < s.length := by omega
        simp only [cut, Int.toNat_natCast]
        rw [List.drop_take, h3, List.drop_eq_getElem_cons h1]
        show vS [s[i - 1], 61] = _
        simp [List.getD_eq_getElem?_getD, h1]
      refine Tr.draw (by kernel_rfl) (by kernel_rfl) ?_; refine TrD.quiets 3 rfl (by (simp only [allOf, impO, imp, inR, loOk, and_true]; omega)) ?_; refine TrD.callV rfl rfl rfl rfl rfl (by apply (c_words_Trim) <;> first | assumption | omega | (simp only [cut, List.length_take, List.length_drop, Int.toNat_natCast]; omega)) rfl ?_; refine TrD.quiets 7 rfl (by (simp (disch := omega) only [allOf, impO, imp, inR, loOk, and_true, w64, List.length_set, List.length_cons, List.length_nil, Option.getD_none, Option.getD_some, Ty.D, true_and, decide_eq_true_eq, decide_eq_false_iff_not, Bool.and_eq_true, Bool.or_eq_false_iff]; omega)) ?_; refine TrD.callV rfl rfl rfl rfl rfl (by apply (c_words_Left) <;> first | assumption | omega | (simp only [cut, List.length_take, List.length_drop, Int.toNat_natCast]; omega)) rfl ?_; refine TrD.quiets 4 rfl (by exact True.intro) ?_; refine TrD.nil ?_; refine Tr.ret ?_
      refine retQ.of rfl ?_
      have hw : IntKind.i64.wrap (((i - 1 : Nat) : Int) + (([s.getD (i - 1) 0, 61] : Str).length : Int)) = ((i + 1 : Nat) : Int) := w64n (by simp only [List.length_cons, List.length_nil]; omega) (by omega)
      simp only [readR, ← hf, signAt, hc, hr2, if_true]
      show SV.tup [vS (trim (cut s none (some ((i - 1 : Nat) : Int)))), vS [s.getD (i - 1) 0, 61], vS (left (cut s (some (IntKind.i64.wrap (((i - 1 : Nat) : Int) + (([s.getD (i - 1) 0, 61] : Str).length : Int)))) none)), vB true] = _
      rw [hw]
      rfl
    · have h2' := key.symm.trans h2
      refine Tr.skip ?_; refine Tr.seq ?_; refine Tr.seq ?_; refine Tr.region ?_; refine TrL.quiets 4 rfl (by (simp only [allOf, impO, imp, inR, loOk, and_true]; omega)) ?_; refine TrL.nil ?_
      refine Tr.cond rfl (fun h3 => ?_) (fun h3 => ?_)
      · have hc : (s.getD i 0 == 61) = true := by rw [← e61, ← hr]; exact h3
        have hr2 : (decide (0 < i) && (outs 0 s).getD (i - 1) false && (s.getD (i - 1) 0 == 43 || s.getD (i - 1) 0 == 63)) = false := by
          rw [hc] at h2'
          exact h2'
        refine Tr.exit ?_; refine Tr.seq ?_; refine Tr.region ?_; refine TrL.quiets 3 rfl (by (simp (disch := omega) only [allOf, impO, imp, inR, loOk, and_true, w64, List.length_set, List.length_cons, List.length_nil, Option.getD_none, Option.getD_some, Ty.D, true_and, decide_eq_true_eq, decide_eq_false_iff_not, Bool.and_eq_true, Bool.or_eq_false_iff]; omega)) ?_; refine TrL.nil ?_; refine Tr.exit ?_; refine Tr.seq ?_; refine Tr.draw (by kernel_rfl) (by kernel_rfl) ?_; refine TrD.quiets 3 rfl (by (simp only [allOf, impO, imp, inR, loOk, and_true]; omega)) ?_; refine TrD.callV rfl rfl rfl rfl rfl (by apply (c_words_Trim) <;> first | assumption | omega | (simp only [cut, List.length_take, List.length_drop, Int.toNat_natCast]; omega)) rfl ?_; refine TrD.quiets 7 rfl (by (simp (disch := omega) only [allOf, impO, imp, inR, loOk, and_true, w64, List.length_set, List.length_cons, List.length_nil, cut, List.length_take, List.length_drop, List.length_append, Int.toNat_natCast, Option.getD_none, Option.getD_some, Ty.D, true_and, decide_eq_true_eq, decide_eq_false_iff_not, Bool.and_eq_true, Bool.or_eq_false_iff]; omega)) ?_; refine TrD.callV rfl rfl rfl rfl rfl (by apply (c_words_Left) <;> first | assumption | omega | (simp only [cut, List.length_take, List.length_drop, Int.toNat_natCast]; omega)) rfl ?_; refine TrD.quiets 4 rfl (by exact True.intro) ?_; refine TrD.nil ?_; refine Tr.ret ?_
        refine retQ.of rfl ?_
        have hw : IntKind.i64.wrap ((i : Int) + (([61] : Str).length : Int)) = ((i + 1 : Nat) : Int) := w64n (by simp only [List.length_cons, List.length_nil]; omega) (by omega)
        simp only [readR, ← hf, signAt, hc, hr2, if_true]
        show SV.tup [vS (trim (cut s none (some (i : Int)))), vS [61], vS (left (cut s (some (IntKind.i64.wrap ((i : Int) + (([61] : Str).length : Int)))) none)), vB true] = _
        rw [hw]
        rfl
      · have hc : (s.getD i 0 == 61) = false := by rw [← e61, ← hr]; exact h3
        refine Tr.skip ?_; refine Tr.seq ?_; refine Tr.seq ?_; refine Tr.region ?_; refine TrL.quiets 1 rfl (by exact True.intro) ?_; refine TrL.callV rfl rfl rfl rfl rfl (by apply (c_HasPrefix) <;> first | assumption | omega | (simp only [cut, List.length_take, List.length_drop, Int.toNat_natCast]; omega)) ?_; refine TrL.quiets 1 rfl (by exact True.intro) ?_; refine TrL.nil ?_
        refine Tr.cond rfl (fun h4 => ?_) (fun h4 => ?_)
        · have h4' : hasPre (s.drop i) [58, 61] = true := h4
          have hl := (List.isPrefixOf_iff_prefix.1 h4').length_le
          simp only [List.length_drop, List.length_cons, List.length_nil] at hl
          refine Tr.exit ?_; refine Tr.seq ?_; refine Tr.region ?_; refine TrL.quiets 1 rfl (by exact True.intro) ?_; refine TrL.nil ?_; refine Tr.exit ?_; refine Tr.seq ?_; refine Tr.draw (by kernel_rfl) (by kernel_rfl) ?_; refine TrD.quiets 3 rfl (by (simp only [allOf, impO, imp, inR, loOk, and_true]; omega)) ?_; refine TrD.callV rfl rfl rfl rfl rfl (by apply (c_words_Trim) <;> first | assumption | omega | (simp only [cut, List.length_take, List.length_drop, Int.toNat_natCast]; omega)) rfl ?_; refine TrD.quiets 7 rfl (by (simp (disch := omega) only [allOf, impO, imp, inR, loOk, and_true, w64, List.length_set, List.length_cons, List.length_nil, Option.getD_none, Option.getD_some, Ty.D, true_and, decide_eq_true_eq, decide_eq_false_iff_not, Bool.and_eq_true, Bool.or_eq_false_iff]; omega)) ?_; refine TrD.callV rfl rfl rfl rfl rfl (by apply (c_words_Left) <;> first | assumption | omega | (simp only [cut, List.length_take, List.length_drop, Int.toNat_natCast]; omega)) rfl ?_; refine TrD.quiets 4 rfl (by exact True.intro) ?_; refine TrD.nil ?_; refine Tr.ret ?_
          refine retQ.of rfl ?_
          have hw : IntKind.i64.wrap ((i : Int) + (([58, 61] : Str).length : Int)) = ((i + 2 : Nat) : Int) := w64n (by simp only [List.length_cons, List.length_nil]; omega) (by omega)
          simp only [readR, ← hf, signAt, hc, h4', if_true]
          show SV.tup [vS (trim (cut s none (some (i : Int)))), vS [58, 61], vS (left (cut s (some (IntKind.i64.wrap ((i : Int) + (([58, 61] : Str).length : Int)))) none)), vB true] = _
          rw [hw]
          rfl
        · have h4' : hasPre (s.drop i) [58, 61] = false := h4
          refine Tr.skip ?_; refine Tr.seq ?_; refine Tr.region ?_; refine TrL.quiets 1 rfl (by exact True.intro) ?_; refine TrL.callV rfl rfl rfl rfl rfl (by apply (c_HasPrefix) <;> first | assumption | omega | (simp only [cut, List.length_take, List.length_drop, Int.toNat_natCast]; omega)) ?_; refine TrL.quiets 1 rfl (by exact True.intro) ?_; refine TrL.nil ?_
          refine Tr.cond rfl (fun h5 => ?_) (fun h5 => ?_)
          · have h5' : hasPre (s.drop i) [58, 58, 61] = true := h5
            have hl := (List.isPrefixOf_iff_prefix.1 h5').length_le
            simp only [List.length_drop, List.length_cons, List.length_nil] at hl
            refine Tr.exit ?_; refine Tr.seq ?_; refine Tr.region ?_; refine TrL.quiets 1 rfl (by exact True.intro) ?_; refine TrL.nil ?_; refine Tr.exit ?_; refine Tr.seq ?_; refine Tr.draw (by kernel_rfl) (by kernel_rfl) ?_; refine TrD.quiets 3 rfl (by (simp only [allOf, impO, imp, inR, loOk, and_true]; omega)) ?_; refine TrD.callV rfl rfl rfl rfl rfl (by apply (c_words_Trim) <;> first | assumption | omega | (simp only [cut, List.length_take, List.length_drop, Int.toNat_natCast]; omega)) rfl ?_; refine TrD.quiets 7 rfl (by (simp (disch := omega) only [allOf, impO, imp, inR, loOk, and_true, w64, List.length_set, List.length_cons, List.length_nil, Option.getD_none, Option.getD_some, Ty.D, true_and, decide_eq_true_eq, decide_eq_false_iff_not, Bool.and_eq_true, Bool.or_eq_false_iff]; omega)) ?_; refine TrD.callV rfl rfl rfl rfl rfl (by apply (c_words_Left) <;> first | assumption | omega | (simp only [cut, List.length_take, List.length_drop, Int.toNat_natCast]; omega)) rfl ?_; refine TrD.quiets 4 rfl (by exact True.intro) ?_; refine TrD.nil ?_; refine Tr.ret ?_
            refine retQ.of rfl ?_
            have hw : IntKind.i64.wrap ((i : Int) + (([58, 58, 61] : Str).length : Int)) = ((i + 3 : Nat) : Int) := w64n (by simp only [List.length_cons, List.length_nil]; omega) (by omega)
            simp only [readR, ← hf, signAt, hc, h4', h5', if_true]
            show SV.tup [vS (trim (cut s none (some (i : Int)))), vS [58, 58, 61], vS (left (cut s (some (IntKind.i64.wrap ((i : Int) + (([58, 58, 61] : Str).length : Int)))) none)), vB true] = _
            rw [hw]
            rfl
          · have h5' : hasPre (s.drop i) [58, 58, 61] = false := h5
            refine Tr.skip ?_; refine Tr.exit ?_; refine Tr.seq ?_; refine Tr.seq ?_; refine Tr.region ?_; refine TrL.quiets 4 rfl (by exact True.intro) ?_; refine TrL.nil ?_; refine Tr.ret ?_
            refine retQ.of rfl ?_
            simp only [readR, ← hf, signAt, hc, h4', h5']
            rfl
end Go.Proofs.YtafngfcfinligaaDoor.Sx
