/-
  law00: Place, Digits.
-/
import Derived.Test.YtbnejfgdojdbdaaDoorSxW
import Derived.Test.YtbnejfgdojdbdaaDoorProg
set_option linter.unusedVariables false
set_option linter.unusedSimpArgs false
set_option maxRecDepth 20000
set_option maxHeartbeats 4000000
namespace Go.Proofs.YtbnejfgdojdbdaaDoor.Sx
open Go Go.RowKit

theorem tmod_pos (v n : Int) (hn : 0 < n) : v.tmod n = if 0 ≤ v ∨ n ∣ v then v % n else v % n - n := by
  rw [Int.tmod_eq_emod]
  split
  · omega
  · have : ((n.natAbs : Nat) : Int) = n := by omega
    omega
theorem c_Place (v n : Int) (hn : 0 < n) (hn2 : n ≤ 9223372036854775807) (hv1 : -9223372036854775808 ≤ v) (hv2 : v ≤ 9223372036854775807) : CallV Tryd.prog 5 [vI v, vI n] (vI (v % n)) := by
  refine CallV.of Tryd.func5 (by kernel_rfl) rfl Tryd.ntmps5 (by simp) rfl fun cx hB => ?_
  refine Tr.seq (Tr.region (TrL.quiets 1 rfl True.intro (TrL.nil (Tr.seq (Tr.region (TrL.quiets 4 rfl ?_ ?_))))))
  · simp only [allOf, impO, imp, inR, and_true]
    omega
  refine TrL.nil (Tr.seq (Tr.seq (Tr.region (TrL.quiets 2 rfl True.intro (TrL.nil (Tr.cond rfl (fun h1 => ?_) (fun h1 => ?_)))))))
  · refine Tr.region (TrL.quiets 4 rfl True.intro ?_)
    refine TrL.nil (Tr.seq (Tr.region (TrL.quiets 2 rfl True.intro (TrL.nil (Tr.ret (retQ.of rfl ?_))))))
    have h := of_decide_eq_true h1
    have hm := Int.emod_nonneg v (show n ≠ 0 by omega)
    have hm2 := Int.emod_lt_of_pos v hn
    have ht : v.tmod n + n = v % n := by rw [tmod_pos v n hn] at h ⊢; split at h <;> rename_i hc <;> simp only [hc, if_true, if_false] at * <;> omega
    rw [ht, w64 (by omega) (by omega)]
  · refine Tr.skip (Tr.seq (Tr.region (TrL.quiets 2 rfl True.intro (TrL.nil (Tr.ret (retQ.of rfl ?_))))))
    have h := of_decide_eq_false h1
    have hm := Int.emod_nonneg v (show n ≠ 0 by omega)
    have hm2 := Int.emod_lt_of_pos v hn
    have ht : v.tmod n = v % n := by rw [tmod_pos v n hn] at h ⊢; split at h <;> rename_i hc <;> simp only [hc, if_true, if_false] at * <;> omega
    rw [ht]


def digN (n : Nat) : Str := if n < 10 then [UInt8.ofNat (48 + n)] else digN (n / 10) ++ [UInt8.ofNat (48 + n % 10)]
theorem dig_one : ∀ n : Nat, n < 10 → cut ([48, 49, 50, 51, 52, 53, 54, 55, 56, 57] : Str) (some (n : Int)) (some ((n : Int) + 1)) = [UInt8.ofNat (48 + n)] := by decide
theorem digN_len : ∀ n : Nat, (digN n).length ≤ n + 1 := by
  intro n
  induction n using Nat.strongRecOn with
  | _ n ih =>
  rw [digN]
  split
  · simp
  · have := ih (n / 10) (by omega)
    rw [List.length_append, List.length_singleton]
    omega
theorem c_Digits : ∀ n : Nat, n ≤ 1099511627 → CallV Tryd.prog 6 [vI n] (vS (digN n)) := by
  intro n
  induction n using Nat.strongRecOn with
  | _ n ih =>
  intro hn
  refine CallV.of Tryd.func6 (by kernel_rfl) rfl Tryd.ntmps6 (by simp) rfl fun cx hB => ?_
  refine Tr.seq ?_; refine Tr.region ?_; refine TrL.quiets 1 rfl (by exact True.intro) ?_; refine TrL.nil ?_; refine Tr.seq ?_; refine Tr.block ?_; refine Tr.seq ?_; refine Tr.region ?_; refine TrL.quiets 3 rfl (by exact True.intro) ?_; refine TrL.nil ?_
  refine Tr.cond rfl (fun h1 => ?_) (fun h1 => ?_)
  · simp at h1
    omega
  refine Tr.seq ?_; refine Tr.region ?_; refine TrL.quiets 3 rfl (by exact True.intro) ?_; refine TrL.nil ?_
  refine Tr.cond rfl (fun h2 => ?_) (fun h2 => ?_)
  · simp at h2
    omega
  refine Tr.seq ?_; refine Tr.region ?_; refine TrL.quiets 3 rfl (by exact True.intro) ?_; refine TrL.nil ?_
  refine Tr.cond rfl (fun h3 => ?_) (fun h3 => ?_)
  · have h3' : n < 10 := by simp at h3; omega
    refine Tr.seq ?_; refine Tr.region ?_; refine TrL.quiets 5 rfl (by (simp (disch := omega) only [allOf, impO, imp, inR, loOk, and_true, w64, List.length_set, List.length_cons, List.length_nil, Option.getD_none, Option.getD_some, Ty.D, true_and, decide_eq_true_eq, decide_eq_false_iff_not, Bool.and_eq_true, Bool.or_eq_false_iff]; omega)) ?_; refine TrL.nil ?_; refine Tr.ret ?_
    refine retQ.of rfl ?_
    rw [w64 (by omega) (by omega), show ({ data := #[48, 49, 50, 51, 52, 53, 54, 55, 56, 57] } : ByteArray).data.toList = ([48, 49, 50, 51, 52, 53, 54, 55, 56, 57] : Str) from rfl, dig_one n h3', digN, if_pos h3']
  · have h3' : ¬ n < 10 := by simp at h3; omega
    have hq : Int.tdiv (n : Int) 10 = ((n / 10 : Nat) : Int) := by
      rw [Int.tdiv_eq_ediv_of_nonneg (by omega)]
      rfl
    have hr : Int.tmod (n : Int) 10 = ((n % 10 : Nat) : Int) := by
      rw [Int.tmod_eq_emod_of_nonneg (by omega)]
      rfl
    have hc := ih (n / 10) (by omega) (by omega)
    rw [← hq, ← w64 (x := Int.tdiv (n : Int) 10) (by omega) (by omega)] at hc
    refine Tr.skip ?_; refine Tr.seq ?_; refine Tr.draw (by kernel_rfl) (by kernel_rfl) ?_; refine TrD.quiets 2 rfl (by (simp only [allOf, impO, imp, inR, loOk, and_true]; omega)) ?_
    have hlit : ({ data := #[48, 49, 50, 51, 52, 53, 54, 55, 56, 57] } : ByteArray).data.toList = ([48, 49, 50, 51, 52, 53, 54, 55, 56, 57] : Str) := rfl
    have hcut := dig_one (n % 10) (by omega)
    have hw : IntKind.i64.wrap (((n % 10 : Nat) : Int) + 1) = ((n % 10 : Nat) : Int) + 1 := w64 (by omega) (by omega)
    first | refine TrL.callV rfl rfl rfl rfl rfl hc ?_ | refine TrD.callV rfl rfl rfl rfl rfl hc rfl ?_
    refine TrD.quiets 8 rfl ?_ ?_
    · have hl := digN_len (n / 10)
      rw [hr, hw, hlit, hcut]
      simp only [allOf, impO, imp, inR, loOk, and_true, List.length_cons, List.length_nil, Option.getD_some]
      omega
    refine TrD.nil ?_; refine Tr.ret ?_
    refine retQ.of rfl ?_
    rw [hr, hw, hlit, hcut]
    conv => rhs; rw [digN, if_neg h3']
end Go.Proofs.YtbnejfgdojdbdaaDoor.Sx
