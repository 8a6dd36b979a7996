/-
  assign: the document's answer.
-/
import Derived.Test.YtckgeebihhhapaaDoorF4
import Derived.Test.YtckgeebihhhapaaDoorSxP
set_option linter.unusedVariables false
set_option linter.unusedSimpArgs false
set_option maxRecDepth 20000
namespace Go.Proofs.YtckgeebihhhapaaDoor.Sx
open Go Go.RowKit Go.Proofs

/-- What stands outside of references, byte by byte. -/
def outs : Nat → Str → List Bool
  | _, [] => []
  | d, c :: r =>
    if c == 36 then (match r with
      | [] => [decide (d = 0)]
      | x :: r' => false :: false :: outs (if isOpen x then d + 1 else d) r')
    else decide (d = 0) :: outs (if decide (0 < d) && isOpen c then d + 1 else if decide (0 < d) && isClose c then d - 1 else d) r
theorem outs_cons (d : Nat) (c : UInt8) (r : Str) : outs d (c :: r) = if c == 36 then (match r with
      | [] => [decide (d = 0)]
      | x :: r' => false :: false :: outs (if isOpen x then d + 1 else d) r')
    else decide (d = 0) :: outs (if decide (0 < d) && isOpen c then d + 1 else if decide (0 < d) && isClose c then d - 1 else d) r := by rw [outs.eq_def]; rfl
theorem outs_nil (d : Nat) : outs d [] = [] := by rw [outs.eq_def]
theorem outs_length : ∀ (n : Nat) (s : Str), s.length ≤ n → ∀ d, (outs d s).length = s.length
  | _, [], _, d => by rw [outs_nil]; rfl
  | 0, c :: r, h, d => by simp at h
  | n + 1, c :: r, h, d => by
    simp only [List.length_cons] at h
    rw [outs_cons]
    split
    · cases r with
      | nil => rfl
      | cons x r' =>
        simp only [List.length_cons] at h ⊢
        rw [outs_length n r' (by omega)]
    · simp only [List.length_cons]
      rw [outs_length n r (by omega)]
theorem take_set (l : List Bool) (i : Nat) (b : Bool) (h : i < l.length) : (l.set i b).take (i + 1) = l.take i ++ [b] := by
  rw [List.take_succ_eq_append_getElem (by simpa using h)]
  simp [List.take_set_of_le]
theorem decide_zero (d : Nat) : ((d : Int) == 0) = decide (d = 0) := by
  rw [Bool.eq_iff_iff]; simp

theorem c_ref_Outside (s : Str) (hs : s.length ≤ 1099511627776) : CallV Tryd.prog 93 [vS s] (vL .bool (outs 0 s)) := by
  refine CallV.of Tryd.func93 (by kernel_rfl) rfl Tryd.ntmps93 (by simp) rfl fun cx hB => ?_
  refine Tr.seq ?_; refine Tr.region ?_; refine TrL.quiets 1 rfl True.intro ?_; refine TrL.nil ?_; refine Tr.seq ?_; refine Tr.region ?_; refine TrL.quiets 2 rfl True.intro ?_; refine TrL.eff (effMake_sound rfl) (by dsimp only [holds, Ty.D]; omega) ?_; refine TrL.quiets 1 rfl True.intro ?_; refine TrL.nil ?_; refine Tr.seq ?_; refine Tr.region ?_; refine TrL.quiets 1 rfl True.intro ?_; refine TrL.nil ?_; refine Tr.seq ?_; refine Tr.seq ?_; refine Tr.region ?_; refine TrL.quiets 1 rfl True.intro ?_; refine TrL.nil ?_; refine Tr.block ?_
  refine Tr.loop (fun ((i, d, l) : Nat × Nat × List Bool) => ⟨[(0, [], vS s), (3, [], .arr 0), (4, [], vI (d : Int)), (5, [], vI (i : Int))], [.ra 4 .bool l]⟩)
    (fun (i, d, l) => i ≤ s.length ∧ d ≤ i ∧ l.length = s.length ∧ l.take i ++ outs d (s.drop i) = outs 0 s) (fun (i, d, l) => s.length - i) (0, 0, List.replicate s.length false) [0, 3, 4, 5] 1 (fun i h => Nat.lt_of_lt_of_le (hB i h) (by decide)) rfl
    ⟨Nat.zero_le _, Nat.le_refl _, by simp, by simp⟩ fun x hx => ?_
  obtain ⟨i, d, l⟩ := x
  obtain ⟨hi, hd, hl, heq⟩ := hx
  refine Tr.seq ?_; refine Tr.seq ?_; refine Tr.region ?_; refine TrL.quiets 4 rfl True.intro ?_; refine TrL.nil ?_
  refine Tr.cond rfl (fun h1 => ?_) (fun h1 => ?_)
  · simp only [decide_eq_true_eq] at h1
    have hlt : i < s.length := by omega
    have hb := byteAt_get s i hlt
    rw [List.drop_eq_getElem_cons hlt, outs_cons] at heq
    refine Tr.skip ?_; refine Tr.seq ?_; refine Tr.block ?_; refine Tr.seq ?_; refine Tr.region ?_; refine TrL.quiets 5 rfl (by simp only [allOf, impO, imp, inR, loOk, and_true]; omega) ?_; refine TrL.eff (effStore_sound rfl) (by dsimp only [holds, Ty.D]; omega) ?_; refine TrL.nil ?_; refine Tr.block ?_; refine Tr.seq ?_; refine Tr.region ?_; refine TrL.quiets 12 rfl (by simp only [allOf, impO, imp, inR, loOk, and_true]; omega) ?_; refine TrL.nil ?_
    have hw : IntKind.i64.wrap ((i : Int) + 1) = ((i + 1 : Nat) : Int) := w64n (by omega) (by omega)
    have hw2 : IntKind.i64.wrap (((i + 1 : Nat) : Int) + 1) = ((i + 2 : Nat) : Int) := w64n (by omega) (by omega)
    have hwd : IntKind.i64.wrap ((d : Int) + 1) = ((d + 1 : Nat) : Int) := w64n (by omega) (by omega)
    refine Tr.cond rfl (fun h2 => ?_) (fun h2 => ?_)
    · rw [hb, hw] at h2
      simp only [Bool.and_eq_true, decide_eq_true_eq, dollar_int] at h2
      obtain ⟨hc, h2⟩ := h2
      have hl2 : i + 1 < s.length := by omega
      have hb2 := byteAt_get s (i + 1) hl2
      rw [if_pos hc, List.drop_eq_getElem_cons hl2] at heq
      simp only at heq
      have hI : ∀ b : Bool, (((l.set i b).set i false).set (i + 1) false).take (i + 2) = l.take i ++ [false, false] := fun b => by
        rw [take_set _ (i + 1) _ (by simp; omega), take_set _ i _ (by simp; omega)]
        simp [List.take_set_of_le]
      refine Tr.seq ?_; refine Tr.seq ?_; refine Tr.region ?_; refine TrL.quiets 12 rfl (by simp only [allOf, impO, imp, inR, loOk, and_true]; omega) ?_; refine TrL.nil ?_
      refine Tr.cond rfl (fun h3 => ?_) (fun h3 => ?_)
      · rw [hw, hb2, isOpen_int] at h3
        rw [if_pos h3] at heq
        refine Tr.region ?_; refine TrL.quiets 3 rfl True.intro ?_; refine TrL.nil ?_; refine Tr.seq ?_; refine Tr.region ?_; refine TrL.quiets 3 rfl (by simp only [allOf, impO, imp, inR, loOk, and_true, List.length_set]; omega) ?_; refine TrL.eff (effStore_sound rfl) (by simp (disch := omega) only [holds, List.length_set, Int.toNat_natCast, w64]; omega) ?_; refine TrL.nil ?_; refine Tr.seq ?_; refine Tr.region ?_; refine TrL.quiets 3 rfl True.intro ?_; refine TrL.nil ?_; refine Tr.region ?_; refine TrL.quiets 3 rfl (by simp only [allOf, impO, imp, inR, loOk, and_true, List.length_set]; omega) ?_; refine TrL.eff (effStore_sound rfl) (by simp (disch := omega) only [holds, List.length_set, Int.toNat_natCast, w64]; omega) ?_; refine TrL.nil ?_; refine Tr.region ?_; refine TrL.quiets 3 rfl True.intro ?_; refine TrL.nil ?_
        refine ⟨(i + 2, d + 1, ((l.set i ((d : Int) == 0)).set i false).set (i + 1) false), ⟨by omega, by omega, by simp [hl], ?_⟩, by dsimp only; omega, ?_⟩
        · rw [hI, ← heq]; simp
        · refine Eq.trans (b := (⟨[(_, [], _), (_, [], _), (_, [], _), (_, [], _)], [.ra _ _ _]⟩ : St)) rfl ?_
          simp only [hw, hw2, hwd, Int.toNat_natCast]
      · rw [hw, hb2, isOpen_int] at h3
        rw [if_neg (by simp [h3])] at heq
        refine Tr.skip ?_; refine Tr.seq ?_; refine Tr.region ?_; refine TrL.quiets 3 rfl (by simp only [allOf, impO, imp, inR, loOk, and_true, List.length_set]; omega) ?_; refine TrL.eff (effStore_sound rfl) (by simp (disch := omega) only [holds, List.length_set, Int.toNat_natCast, w64]; omega) ?_; refine TrL.nil ?_; refine Tr.seq ?_; refine Tr.region ?_; refine TrL.quiets 3 rfl True.intro ?_; refine TrL.nil ?_; refine Tr.region ?_; refine TrL.quiets 3 rfl (by simp only [allOf, impO, imp, inR, loOk, and_true, List.length_set]; omega) ?_; refine TrL.eff (effStore_sound rfl) (by simp (disch := omega) only [holds, List.length_set, Int.toNat_natCast, w64]; omega) ?_; refine TrL.nil ?_; refine Tr.region ?_; refine TrL.quiets 3 rfl True.intro ?_; refine TrL.nil ?_
        refine ⟨(i + 2, d, ((l.set i ((d : Int) == 0)).set i false).set (i + 1) false), ⟨by omega, by omega, by simp [hl], ?_⟩, by dsimp only; omega, ?_⟩
        · rw [hI, ← heq]; simp
        · refine Eq.trans (b := (⟨[(_, [], _), (_, [], _), (_, [], _), (_, [], _)], [.ra _ _ _]⟩ : St)) rfl ?_
          simp only [hw, hw2, Int.toNat_natCast]
    · rw [hb, hw] at h2
      simp only [dollar_int] at h2
      have hd0 : decide ((d : Int) > 0) = decide (0 < d) := by rw [Bool.eq_iff_iff]; simp
      have hI : (l.set i ((d : Int) == 0)).take (i + 1) = l.take i ++ [decide (d = 0)] := by rw [take_set _ i _ (by omega), decide_zero]
      have heq' : l.take i ++ decide (d = 0) :: outs (if decide (0 < d) && isOpen s[i] then d + 1 else if decide (0 < d) && isClose s[i] then d - 1 else d) (s.drop (i + 1)) = outs 0 s := by
        by_cases hc : (s[i] == 36) = true
        · rw [hc] at h2
          simp only [Bool.true_and, decide_eq_false_iff_not] at h2
          have : s.drop (i + 1) = [] := List.drop_eq_nil_of_le (by omega)
          rw [if_pos hc, this] at heq
          rw [this, outs_nil]
          exact heq
        · rw [if_neg hc] at heq
          exact heq
      refine Tr.seq ?_; refine Tr.region ?_; refine TrL.quiets 15 rfl (by simp only [allOf, impO, imp, inR, loOk, and_true]; omega) ?_; refine TrL.nil ?_
      refine Tr.cond rfl (fun h4 => ?_) (fun h4 => ?_)
      · rw [hb, isOpen_int, hd0] at h4
        rw [if_pos h4] at heq'
        refine Tr.region ?_; refine TrL.quiets 3 rfl True.intro ?_; refine TrL.nil ?_; refine Tr.region ?_; refine TrL.quiets 3 rfl True.intro ?_; refine TrL.nil ?_
        refine ⟨(i + 1, d + 1, l.set i ((d : Int) == 0)), ⟨by omega, by omega, by simp [hl], ?_⟩, by dsimp only; omega, ?_⟩
        · rw [hI, ← heq']; simp
        · refine Eq.trans (b := (⟨[(_, [], _), (_, [], _), (_, [], _), (_, [], _)], [.ra _ _ _]⟩ : St)) rfl ?_
          simp only [hw, hwd, Int.toNat_natCast]
      · rw [hb, isOpen_int, hd0] at h4
        rw [if_neg (by simp [h4])] at heq'
        refine Tr.seq ?_; refine Tr.region ?_; refine TrL.quiets 15 rfl (by simp only [allOf, impO, imp, inR, loOk, and_true]; omega) ?_; refine TrL.nil ?_
        refine Tr.cond rfl (fun h5 => ?_) (fun h5 => ?_)
        · rw [hb, isClose_int, hd0] at h5
          rw [if_pos h5] at heq'
          have hdp : 0 < d := by
            simp only [Bool.and_eq_true, decide_eq_true_eq] at h5
            exact h5.1
          have hwd2 : IntKind.i64.wrap ((d : Int) - 1) = ((d - 1 : Nat) : Int) := w64n (by omega) (by omega)
          refine Tr.region ?_; refine TrL.quiets 3 rfl True.intro ?_; refine TrL.nil ?_; refine Tr.region ?_; refine TrL.quiets 3 rfl True.intro ?_; refine TrL.nil ?_
          refine ⟨(i + 1, d - 1, l.set i ((d : Int) == 0)), ⟨by omega, by omega, by simp [hl], ?_⟩, by dsimp only; omega, ?_⟩
          · rw [hI, ← heq']; simp
          · refine Eq.trans (b := (⟨[(_, [], _), (_, [], _), (_, [], _), (_, [], _)], [.ra _ _ _]⟩ : St)) rfl ?_
            simp only [hw, hwd2, Int.toNat_natCast]
        · rw [hb, isClose_int, hd0] at h5
          rw [if_neg (by simp [h5])] at heq'
          refine Tr.skip ?_; refine Tr.region ?_; refine TrL.quiets 3 rfl True.intro ?_; refine TrL.nil ?_
          refine ⟨(i + 1, d, l.set i ((d : Int) == 0)), ⟨by omega, by omega, by simp [hl], ?_⟩, by dsimp only; omega, ?_⟩
          · rw [hI, ← heq']; simp
          · refine Eq.trans (b := (⟨[(_, [], _), (_, [], _), (_, [], _), (_, [], _)], [.ra _ _ _]⟩ : St)) rfl ?_
            simp only [hw, Int.toNat_natCast]
  · simp only [decide_eq_false_iff_not] at h1
    rw [List.drop_eq_nil_of_le (by omega), outs_nil, List.append_nil, List.take_of_length_le (by omega)] at heq
    refine Tr.exit ?_; refine Tr.seq ?_
    refine Tr.freeze 0 rfl ?_
    refine Tr.region ?_; refine TrL.quiets 2 rfl True.intro ?_; refine TrL.nil ?_; refine Tr.ret ?_
    refine retQ.of rfl ?_
    rw [heq]
    rfl
end Go.Proofs.YtckgeebihhhapaaDoor.Sx
