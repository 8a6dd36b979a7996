/-
  The first functions: places, blanks.
-/
import Derived.Test.YteiickhgmmjcmaaGreatDoorSxN
import Derived.Test.YteiickhgmmjcmaaGreatDoorProg
set_option linter.unusedVariables false
set_option linter.unusedSimpArgs false
set_option maxRecDepth 20000
namespace Go.Proofs.YteiickhgmmjcmaaGreatDoor.Sx
open Go Go.RowKit Go.Proofs

theorem tmod_pos (v n : Int) (hn : 0 < n) : v.tmod n = if 0 ≤ v ∨ n ∣ v then v % n else v % n - n := by
  rw [Int.tmod_eq_emod]
  split
  · omega
  · have : ((n.natAbs : Nat) : Int) = n := by omega
    omega

theorem c_Place (v n : Int) (hn : 0 < n) (hn2 : n ≤ 9223372036854775807) (hv1 : -9223372036854775808 ≤ v) (hv2 : v ≤ 9223372036854775807) : CallV Tryz.prog 13 [vI v, vI n] (vI (v % n)) := by
  refine CallV.of Tryz.func13 (by kernel_rfl) rfl Tryz.ntmps13 (by simp) rfl fun cx hB => ?_
  refine Tr.seq (Tr.region (TrL.quiets 1 rfl True.intro (TrL.nil (Tr.seq (Tr.region (TrL.quiets 4 rfl ?_ ?_))))))
  · simp only [allOf, impO, imp, inR, and_true]
    omega
  refine TrL.nil (Tr.seq (Tr.seq (Tr.region (TrL.quiets 2 rfl True.intro (TrL.nil (Tr.cond rfl (fun h1 => ?_) (fun h1 => ?_)))))))
  · refine Tr.region (TrL.quiets 4 rfl True.intro ?_)
    refine TrL.nil (Tr.seq (Tr.region (TrL.quiets 2 rfl True.intro (TrL.nil (Tr.ret (retQ.of rfl ?_))))))
    have h := of_decide_eq_true h1
    have hm := Int.emod_nonneg v (show n ≠ 0 by omega)
    have hm2 := Int.emod_lt_of_pos v hn
    have ht : v.tmod n + n = v % n := by rw [tmod_pos v n hn] at h ⊢; split at h <;> rename_i hc <;> simp only [hc, if_true, if_false] at * <;> omega
    rw [ht, w64 (by omega) (by omega)]
  · refine Tr.skip (Tr.seq (Tr.region (TrL.quiets 2 rfl True.intro (TrL.nil (Tr.ret (retQ.of rfl ?_))))))
    have h := of_decide_eq_false h1
    have hm := Int.emod_nonneg v (show n ≠ 0 by omega)
    have hm2 := Int.emod_lt_of_pos v hn
    have ht : v.tmod n = v % n := by rw [tmod_pos v n hn] at h ⊢; split at h <;> rename_i hc <;> simp only [hc, if_true, if_false] at * <;> omega
    rw [ht]



theorem c_Blank (v : Int) : CallV Tryz.prog 26 [vY v] (vB (v == 32 || v == 9 || v == 10)) := by
  refine CallV.of Tryz.func26 (by kernel_rfl) rfl Tryz.ntmps26 (by simp) rfl fun cx hB => ?_
  refine Tr.seq (Tr.region (TrL.quiets 1 rfl True.intro (TrL.nil (Tr.seq (Tr.region (TrL.quiets 11 rfl True.intro ?_))))))
  refine TrL.nil (Tr.ret (retQ.of rfl rfl))


def left (s : Str) : Str := s.dropWhile isBlank






































def right (s : Str) : Str := (s.reverse.dropWhile isBlank).reverse
theorem right_snoc (y : Str) (c : UInt8) : right (y ++ [c]) = if isBlank c then right y else y ++ [c] := by
  simp only [right, List.reverse_append, List.reverse_cons, List.reverse_nil, List.nil_append, List.singleton_append, List.dropWhile_cons]
  split <;> simp


















































def trim (s : Str) : Str := right (left s)
theorem left_length (s : Str) : (left s).length ≤ s.length := (List.dropWhile_suffix _).length_le







def hasPre (s t : Str) : Bool := t.isPrefixOf s
theorem take_beq (s t : Str) : (s.take t.length == t) = t.isPrefixOf s := by
  rw [Bool.eq_iff_iff, beq_iff_eq, List.isPrefixOf_iff_prefix, List.prefix_iff_eq_take]
  exact eq_comm






























































end Go.Proofs.YteiickhgmmjcmaaGreatDoor.Sx
