/-
  The first functions: places, blanks.
-/
import Derived.Test.YtckgeebihhhapaaDoorSxN
import Derived.Test.YtckgeebihhhapaaDoorProg
set_option linter.unusedVariables false
set_option linter.unusedSimpArgs false
set_option maxRecDepth 20000
namespace Go.Proofs.YtckgeebihhhapaaDoor.Sx
open Go Go.RowKit Go.Proofs

theorem tmod_pos (v n : Int) (hn : 0 < n) : v.tmod n = if 0 ≤ v ∨ n ∣ v then v % n else v % n - n := by
  rw [Int.tmod_eq_emod]
  split
  · omega
  · have : ((n.natAbs : Nat) : Int) = n := by omega
    omega
theorem c_Place (v n : Int) (hn : 0 < n) (hn2 : n ≤ 9223372036854775807) (hv1 : -9223372036854775808 ≤ v) (hv2 : v ≤ 9223372036854775807) : CallV Tryd.prog 13 [vI v, vI n] (vI (v % n)) := by
  refine CallV.of Tryd.func13 (by kernel_rfl) rfl Tryd.ntmps13 (by simp) rfl fun cx hB => ?_
  refine Tr.seq (Tr.region (TrL.quiets 1 rfl True.intro (TrL.nil (Tr.seq (Tr.region (TrL.quiets 4 rfl ?_ ?_))))))
  · simp only [allOf, impO, imp, inR, and_true]
    omega
  refine TrL.nil (Tr.seq (Tr.seq (Tr.region (TrL.quiets 2 rfl True.intro (TrL.nil (Tr.cond rfl (fun h1 => ?_) (fun h1 => ?_)))))))
  · refine Tr.region (TrL.quiets 4 rfl True.intro ?_)
    refine TrL.nil (Tr.seq (Tr.region (TrL.quiets 2 rfl True.intro (TrL.nil (Tr.ret (retQ.of rfl ?_))))))
    have h := of_decide_eq_true h1
    have hm := Int.emod_nonneg v (show n ≠ 0 by omega)
    have hm2 := Int.emod_lt_of_pos v hn
    have ht : v.tmod n + n = v % n := by rw [tmod_pos v n hn] at h ⊢; split at h <;> rename_i hc <;> simp only [hc, if_true, if_false] at * <;> omega
    rw [ht, w64 (by omega) (by omega)]
  · refine Tr.skip (Tr.seq (Tr.region (TrL.quiets 2 rfl True.intro (TrL.nil (Tr.ret (retQ.of rfl ?_))))))
    have h := of_decide_eq_false h1
    have hm := Int.emod_nonneg v (show n ≠ 0 by omega)
    have hm2 := Int.emod_lt_of_pos v hn
    have ht : v.tmod n = v % n := by rw [tmod_pos v n hn] at h ⊢; split at h <;> rename_i hc <;> simp only [hc, if_true, if_false] at * <;> omega
    rw [ht]

theorem c_Blank (v : Int) : CallV Tryd.prog 70 [vY v] (vB (v == 32 || v == 9 || v == 10)) := by
  refine CallV.of Tryd.func70 (by kernel_rfl) rfl Tryd.ntmps70 (by simp) rfl fun cx hB => ?_
  refine Tr.seq (Tr.region (TrL.quiets 1 rfl True.intro (TrL.nil (Tr.seq (Tr.region (TrL.quiets 11 rfl True.intro ?_))))))
  refine TrL.nil (Tr.ret (retQ.of rfl rfl))

def left (s : Str) : Str := s.dropWhile isBlank
theorem c_ref_Left (s : Str) : CallV Tryd.prog 82 [vS s] (vS (left s)) := by
  refine CallV.of Tryd.func82 (by kernel_rfl) rfl Tryd.ntmps82 (by simp) rfl fun cx hB => ?_
  refine Tr.seq (Tr.region (TrL.quiets 1 rfl True.intro (TrL.nil (Tr.seq (Tr.block ?_)))))
  refine Tr.loop (fun x : Str => mk [(0, vS x)] []) (fun x => left x = left s) List.length s [0] 0 hB rfl rfl fun x hx => ?_
  refine Tr.seq (Tr.seq (Tr.region (TrL.quiets 6 rfl ?_ ?_)))
  · simp only [allOf, impO, imp, inR, and_true]
    intro h
    have := of_decide_eq_true h
    omega
  refine TrL.callV rfl rfl rfl rfl rfl (c_Blank _) ?_
  refine TrL.quiets 1 rfl True.intro (TrL.nil (Tr.cond rfl (fun h1 => ?_) (fun h1 => ?_)))
  · rcases x with _ | ⟨c, x⟩
    · simp at h1
    refine Tr.skip (Tr.block (Tr.region (TrL.quiets 3 rfl ?_ ?_)))
    · simp only [allOf, impO, imp, inR, loOk, and_true]
      simp
      omega
    refine TrL.nil ?_
    refine ⟨x, ?_, by simp, rfl⟩
    rw [← hx]
    simp only [Bool.and_eq_true] at h1
    have := h1.2
    rw [byteAt_cons, isBlank_int] at this
    simp [left, List.dropWhile_cons, this]
  · refine Tr.exit (Tr.seq (Tr.region (TrL.quiets 2 rfl True.intro (TrL.nil (Tr.ret (retQ.of rfl ?_))))))
    rw [← hx]
    rcases x with _ | ⟨c, x⟩
    · rfl
    · have h2 : isBlank c = false := by
        rw [← isBlank_int]
        rw [byteAt_cons] at h1
        have h3 : decide (((c :: x : List UInt8).length : Int) > 0) = true := by simp
        rw [h3] at h1
        simpa using h1
      simp [left, List.dropWhile_cons, h2]

def right (s : Str) : Str := (s.reverse.dropWhile isBlank).reverse
theorem right_snoc (y : Str) (c : UInt8) : right (y ++ [c]) = if isBlank c then right y else y ++ [c] := by
  simp only [right, List.reverse_append, List.reverse_cons, List.reverse_nil, List.nil_append, List.singleton_append, List.dropWhile_cons]
  split <;> simp
theorem c_ref_Right (s : Str) (hs : s.length ≤ 9223372036854775807) : CallV Tryd.prog 83 [vS s] (vS (right s)) := by
  refine CallV.of Tryd.func83 (by kernel_rfl) rfl Tryd.ntmps83 (by simp) rfl fun cx hB => ?_
  refine Tr.seq (Tr.region (TrL.quiets 1 rfl True.intro (TrL.nil (Tr.seq (Tr.block ?_)))))
  refine Tr.loop (fun x : Str => mk [(0, vS x)] []) (fun x => right x = right s ∧ x.length ≤ s.length) List.length s [0] 0 hB rfl ⟨rfl, Nat.le_refl _⟩ fun x hx => ?_
  obtain ⟨hx, hl⟩ := hx
  have hw : 0 < x.length → IntKind.i64.wrap ((x.length : Int) - 1) = ((x.length - 1 : Nat) : Int) := fun h => w64n (by omega) (by omega)
  refine Tr.seq (Tr.seq (Tr.region (TrL.quiets 9 rfl ?_ ?_)))
  · simp only [allOf, impO, imp, inR, loOk, and_true]
    intro h
    have := of_decide_eq_true h
    rw [hw (by omega)]
    omega
  refine TrL.callV rfl rfl rfl rfl rfl (c_Blank ..) ?_
  refine TrL.quiets 1 rfl True.intro (TrL.nil (Tr.cond rfl (fun h1 => ?_) (fun h1 => ?_)))
  · rcases List.eq_nil_or_concat x with rfl | ⟨y, c, rfl⟩
    · simp at h1
    have hw' := hw (by simp)
    simp only [List.concat_eq_append, List.length_append, List.length_singleton, Nat.add_sub_cancel] at *
    refine Tr.skip (Tr.block (Tr.region (TrL.quiets 6 rfl ?_ ?_)))
    · simp only [allOf, impO, imp, inR, loOk, and_true]
      simp only [List.length_append, List.length_singleton, hw']
      omega
    refine TrL.nil ?_
    refine ⟨y, ⟨?_, by omega⟩, by simp, ?_⟩
    · rw [← hx, right_snoc]
      simp only [Bool.and_eq_true, List.length_append, List.length_singleton, hw'] at h1
      have := h1.2
      rw [byteAt_last, isBlank_int] at this
      rw [if_pos this]
    · show mk [(0, vS (cut (y ++ [c]) none (some (IntKind.i64.wrap (((y ++ [c] : Str).length : Int) - 1)))))] [] = _
      simp only [List.length_append, List.length_singleton, hw']
      simp [cut]
  · refine Tr.exit (Tr.seq (Tr.region (TrL.quiets 2 rfl True.intro (TrL.nil (Tr.ret (retQ.of rfl ?_))))))
    rw [← hx]
    rcases List.eq_nil_or_concat x with rfl | ⟨y, c, rfl⟩
    · rfl
    · have hw' := hw (by simp)
      simp only [List.concat_eq_append, List.length_append, List.length_singleton, Nat.add_sub_cancel] at *
      rw [right_snoc]
      have h2 : isBlank c = false := by
        rw [← isBlank_int]
        simp only [hw'] at h1
        rw [byteAt_last] at h1
        have h3 : decide (((y.length + 1 : Nat) : Int) > 0) = true := by simp
        rw [h3] at h1
        simpa using h1
      rw [if_neg (by simp [h2])]

def trim (s : Str) : Str := right (left s)
theorem left_length (s : Str) : (left s).length ≤ s.length := (List.dropWhile_suffix _).length_le
theorem c_ref_Trim (s : Str) (hs : s.length ≤ 9223372036854775807) : CallV Tryd.prog 56 [vS s] (vS (trim s)) := by
  refine CallV.of Tryd.func56 (by kernel_rfl) rfl Tryd.ntmps56 (by simp) rfl fun cx hB => ?_
  refine Tr.seq (Tr.region (TrL.quiets 1 rfl True.intro (TrL.nil (Tr.seq (Tr.region (TrL.quiets 1 rfl True.intro (TrL.callV rfl rfl rfl rfl rfl (c_ref_Left ..) (TrL.callV rfl rfl rfl rfl rfl (c_ref_Right _ (Nat.le_trans (left_length s) hs)) (TrL.quiets 1 rfl True.intro (TrL.nil (Tr.ret (retQ.of rfl ?_))))))))))))
  rfl

def hasPre (s t : Str) : Bool := t.isPrefixOf s
theorem take_beq (s t : Str) : (s.take t.length == t) = t.isPrefixOf s := by
  rw [Bool.eq_iff_iff, beq_iff_eq, List.isPrefixOf_iff_prefix, List.prefix_iff_eq_take]
  exact eq_comm
theorem c_ref_Has (s t : Str) : CallV Tryd.prog 46 [vS s, vS t] (vB (hasPre s t)) := by
  refine CallV.of Tryd.func46 (by kernel_rfl) rfl Tryd.ntmps46 (by simp) rfl fun cx hB => ?_
  refine Tr.seq (Tr.region (TrL.quiets 1 rfl True.intro (TrL.nil (Tr.seq (Tr.region (TrL.quiets 14 rfl ?_ ?_))))))
  · simp only [allOf, impO, imp, inR, loOk, and_true]
    intro h
    have := of_decide_eq_true h
    omega
  refine TrL.nil (Tr.ret (retQ.of rfl ?_))
  congr 1
  simp only [hasPre, cut, Int.toNat_natCast, take_beq]
  by_cases h : t.length ≤ s.length
  · simp; omega
  · have : t.isPrefixOf s = false := by
      rw [Bool.eq_false_iff]
      intro hh
      exact h ((List.isPrefixOf_iff_prefix.1 hh).length_le)
    simp [this]

theorem c_ref_Same (a b : List Str) (ha : a.length ≤ 1099511627776) : CallV Tryd.prog 19 [vL .str a, vL .str b] (vB (decide (a = b))) := by
  refine CallV.of Tryd.func19 (by kernel_rfl) rfl Tryd.ntmps19 (by simp) rfl fun cx hB => ?_
  refine Tr.seq (Tr.region (TrL.quiets 1 rfl True.intro (TrL.nil (Tr.seq (Tr.seq (Tr.region (TrL.quiets 5 rfl True.intro (TrL.nil (Tr.cond rfl (fun h1 => ?_) (fun h1 => ?_))))))))))
  · refine Tr.seq (Tr.region (TrL.quiets 1 rfl True.intro (TrL.nil (Tr.ret (retQ.of rfl ?_)))))
    congr 1
    symm
    refine decide_eq_false fun e => ?_
    subst e
    simp at h1
  · have hab : a.length = b.length := by have h1' : (a.length : Int) = (b.length : Int) := by simpa using h1
                                         omega
    refine Tr.skip (Tr.seq (Tr.seq (Tr.region (TrL.quiets 1 rfl True.intro (TrL.nil (Tr.block ?_))))))
    refine Tr.loop (fun i : Nat => mk [(0, vL .str a), (1, vL .str b), (5, vI i)] []) (fun i => i ≤ a.length ∧ a.take i = b.take i) (fun i => a.length - i) 0 [0, 1, 5] 0 hB rfl (by simp) fun i hi => ?_
    obtain ⟨hi, heq⟩ := hi
    refine Tr.seq (Tr.seq (Tr.region (TrL.quiets 4 rfl True.intro (TrL.nil (Tr.cond rfl (fun h2 => ?_) (fun h2 => ?_))))))
    · have hlt : i < a.length := by have := of_decide_eq_true h2; omega
      refine Tr.skip (Tr.seq (Tr.block (Tr.seq (Tr.draw (by kernel_rfl) (by kernel_rfl) (TrD.quiets 9 rfl ?_ ?_)))))
      · simp only [allOf, impO, imp, inR, loOk, and_true]
        omega
      refine TrD.nil (Tr.cond rfl (fun h3 => ?_) (fun h3 => ?_))
      · refine Tr.seq (Tr.region (TrL.quiets 1 rfl True.intro (TrL.nil (Tr.ret (retQ.of rfl ?_)))))
        congr 1
        symm
        refine decide_eq_false fun e => ?_
        subst e
        simp at h3
      · refine Tr.skip (Tr.region (TrL.quiets 3 rfl True.intro ?_))
        refine TrL.nil ?_
        refine ⟨i + 1, ⟨by omega, ?_⟩, by dsimp only; omega, ?_⟩
        · have h4 : nth (t := .str) a (i : Int) = nth (t := .str) b (i : Int) := by simpa using h3
          rw [nth_get' (t := .str) a i hlt, nth_get' (t := .str) b i (by omega)] at h4
          rw [List.take_succ_eq_append_getElem hlt, List.take_succ_eq_append_getElem (by omega), heq, h4]
        · exact congrArg (fun z => mk [(0, vL .str a), (1, vL .str b), (5, vI z)] []) (w64n (y := i + 1) (by omega) (by omega))
    · have hge : a.length ≤ i := by have := of_decide_eq_false h2; omega
      refine Tr.exit (Tr.seq (Tr.region (TrL.quiets 1 rfl True.intro (TrL.nil (Tr.ret (retQ.of rfl ?_))))))
      congr 1
      symm
      refine decide_eq_true ?_
      rw [List.take_of_length_le (by omega), List.take_of_length_le (by omega)] at heq
      exact heq
end Go.Proofs.YtckgeebihhhapaaDoor.Sx
