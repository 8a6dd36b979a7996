/-
  The laws on assign: what they ask.
-/
import Derived.Test.YtafngfcfinligaaDoorF7
set_option linter.unusedVariables false
set_option linter.unusedSimpArgs false
set_option maxRecDepth 20000
set_option maxHeartbeats 4000000
namespace Go.Proofs.YtafngfcfinligaaDoor.Sx
open Go Go.RowKit Go.Proofs

/-- Numbers as they are handed in. -/
def okInts (ns : List Int) : Prop := ∀ v ∈ ns, -9223372036854775808 ≤ v ∧ v ≤ 9223372036854775807
theorem okInts_nth {ns : List Int} (h : okInts ns) (i : Nat) : -9223372036854775808 ≤ nth (t := .int .i64) ns (i : Int) ∧ nth (t := .int .i64) ns (i : Int) ≤ 9223372036854775807 := by
  simp only [nth, Int.toNat_natCast, List.getD_eq_getElem?_getD]
  cases hi : ns[i]? with
  | none => simp only [Option.getD_none]; decide
  | some v => exact h v (List.mem_of_getElem? hi)
theorem nth_le (l : List Str) (i : Int) (b : Nat) (h : ∀ x ∈ l, x.length ≤ b) : (nth (t := .str) l i : Str).length ≤ b := by
  simp only [nth, List.getD_eq_getElem?_getD]
  cases hi : l[i.toNat]? with
  | none => exact Nat.zero_le _
  | some v => exact h v (List.mem_of_getElem? hi)

theorem c_awake24 : CallV Tryd.prog 14 [] (vB true) := by
  refine CallV.of Tryd.func14 (by kernel_rfl) rfl Tryd.ntmps14 (by simp) rfl fun cx hB => ?_
  refine Tr.seq ?_; refine Tr.region ?_; refine TrL.quiets 1 rfl (by exact True.intro) ?_; refine TrL.nil ?_; refine Tr.seq ?_; refine Tr.region ?_
  first | refine TrL.callV rfl rfl rfl rfl rfl (c_assign_Read _ (by decide)) ?_ | refine TrD.callV rfl rfl rfl rfl rfl (c_assign_Read _ (by decide)) rfl ?_
  refine TrL.quiets 9 rfl (by exact True.intro) ?_; refine TrL.nil ?_; refine Tr.seq ?_; refine Tr.region ?_
  first | refine TrL.callV rfl rfl rfl rfl rfl (c_assign_Read _ (by decide)) ?_ | refine TrD.callV rfl rfl rfl rfl rfl (c_assign_Read _ (by decide)) rfl ?_
  refine TrL.quiets 9 rfl (by exact True.intro) ?_; refine TrL.nil ?_; refine Tr.seq ?_; refine Tr.region ?_; refine TrL.quiets 18 rfl (by exact True.intro) ?_
  first | refine TrL.callV rfl rfl rfl rfl rfl (c_assign_Colon _ (by decide)) ?_ | refine TrD.callV rfl rfl rfl rfl rfl (c_assign_Colon _ (by decide)) rfl ?_
  refine TrL.quiets 3 rfl (by exact True.intro) ?_
  first | refine TrL.callV rfl rfl rfl rfl rfl (c_assign_Semi _ (by decide)) ?_ | refine TrD.callV rfl rfl rfl rfl rfl (c_assign_Semi _ (by decide)) rfl ?_
  refine TrL.quiets 3 rfl (by exact True.intro) ?_
  first | refine TrL.callV rfl rfl rfl rfl rfl (c_assign_Colon _ (by decide)) ?_ | refine TrD.callV rfl rfl rfl rfl rfl (c_assign_Colon _ (by decide)) rfl ?_
  refine TrL.quiets 3 rfl (by exact True.intro) ?_; refine TrL.nil ?_; refine Tr.ret ?_
  refine retQ.of rfl ?_
  refine congrArg vB ?_
  kernel_rfl

def parts24 : List Str := [[97], [98], [36, 40], [36, 123], [41], [125], [40], [123], [36], [36, 36], [58], [61], [58, 61], [58, 58, 61], [43, 61], [63, 61], [59], [32], [43], [35]]
theorem c_AssignReads (s : Str) (ns : List Int) (hn : okInts ns) : CallV Tryd.prog 3 [vS s, vL (.int .i64) ns] (vB true) := by
  refine CallV.of Tryd.func3 (by kernel_rfl) rfl Tryd.ntmps3 (by simp) rfl fun cx hB => ?_
  refine Tr.seq ?_; refine Tr.region ?_; refine TrL.quiets 1 rfl (by exact True.intro) ?_; refine TrL.nil ?_; refine Tr.seq ?_; refine Tr.seq ?_; refine Tr.region ?_; refine TrL.quiets 3 rfl (by exact True.intro) ?_; refine TrL.nil ?_
  refine Tr.cond rfl (fun h1 => ?_) (fun h1 => ?_)
  · refine Tr.seq ?_; refine Tr.region ?_; refine TrL.callV rfl rfl rfl rfl rfl (by apply (c_awake24) <;> first | assumption | omega | (simp only [cut, List.length_take, List.length_drop, Int.toNat_natCast]; omega)) ?_; refine TrL.quiets 1 rfl (by exact True.intro) ?_; refine TrL.nil ?_; refine Tr.ret ?_
    refine retQ.of rfl ?_
    rfl
  simp only [decide_eq_false_iff_not] at h1
  have hs : s.length ≤ 800 := by omega
  refine Tr.skip ?_; refine Tr.seq ?_; refine Tr.region ?_; refine TrL.quiets 1 rfl (by exact True.intro) ?_; refine TrL.nil ?_; refine Tr.seq ?_; refine Tr.seq ?_; refine Tr.region ?_; refine TrL.quiets 1 rfl (by exact True.intro) ?_; refine TrL.nil ?_; refine Tr.block ?_
  refine Tr.loop (fun ((i, t) : Nat × Str) => ⟨[(0, [], vS s), (1, [], vL (.int .i64) ns), (5, [], vS t), (6, [], vI i)], []⟩)
    (fun (i, t) => i ≤ 14 ∧ t.length ≤ 3 * i) (fun (i, t) => 14 - i) (0, []) [0, 1, 5, 6] 0 hB rfl ⟨by decide, by decide⟩ fun x hx => ?_
  obtain ⟨i, t⟩ := x
  obtain ⟨hi, ht⟩ := hx
  refine Tr.seq ?_; refine Tr.seq ?_; refine Tr.region ?_; refine TrL.quiets 8 rfl (by exact True.intro) ?_; refine TrL.nil ?_
  refine Tr.cond rfl (fun h2 => ?_) (fun h2 => ?_)
  · simp only [Bool.and_eq_true, decide_eq_true_eq] at h2
    have hi1 : i < ns.length := by omega
    obtain ⟨hv1, hv2⟩ := okInts_nth hn i
    refine Tr.skip ?_; refine Tr.seq ?_; refine Tr.block ?_; refine Tr.region ?_; refine TrL.quiets 6 rfl (by (simp only [allOf, impO, imp, inR, loOk, and_true]; omega)) ?_
    first | refine TrL.callV rfl rfl rfl rfl rfl (c_Place _ 20 (by decide) (by decide) hv1 hv2) ?_ | refine TrD.callV rfl rfl rfl rfl rfl (c_Place _ 20 (by decide) (by decide) hv1 hv2) rfl ?_
    have hk := nth_le parts24 (nth (t := .int .i64) ns (i : Int) % 20) 3 (by decide)
    refine TrL.quiets 3 rfl ?_ ?_
    · simp only [allOf, impO, imp, inR, loOk, and_true]
      refine ⟨⟨Int.emod_nonneg _ (by decide), Int.emod_lt_of_pos _ (by decide)⟩, ?_⟩
      show ((t.length + (nth (t := .str) parts24 (nth (t := .int .i64) ns (i : Int) % 20) : Str).length : Nat) : Int) ≤ 9223372036854775807
      omega
    refine TrL.nil ?_; refine Tr.region ?_; refine TrL.quiets 3 rfl (by exact True.intro) ?_; refine TrL.nil ?_
    refine ⟨(i + 1, t ++ nth (t := .str) parts24 (nth (t := .int .i64) ns (i : Int) % 20)), ⟨by omega, ?_⟩, by dsimp only; omega, ?_⟩
    · simp only [List.length_append]
      omega
    · refine Eq.trans (b := (⟨[(_, [], _), (_, [], _), (_, [], _), (_, [], _)], []⟩ : St)) rfl ?_
      rw [w64n (y := i + 1) (by omega) (by omega)]
      rfl
  refine Tr.exit ?_; refine Tr.seq ?_; refine Tr.seq ?_; refine Tr.region ?_; refine TrL.quiets 4 rfl (by exact True.intro) ?_; refine TrL.nil ?_; refine Tr.block ?_
  have hst : ∀ j : Nat, (nth (t := .str) [s, t] (j : Int) : Str).length ≤ 1099511627776 := fun j => nth_le [s, t] j _ (by
    intro x hx
    simp only [List.mem_cons, List.not_mem_nil, or_false] at hx
    rcases hx with rfl | rfl <;> omega)
  refine Tr.loop (fun j : Nat => ⟨[(42, [], .agg [vS s, vS t]), (43, [], vI j)], []⟩)
    (fun j => j ≤ 2) (fun j => 2 - j) 0 [42, 43] 0 hB rfl (by decide) fun j hj => ?_
  refine Tr.seq ?_; refine Tr.region ?_; refine TrL.quiets 1 rfl (by exact True.intro) ?_; refine TrL.nil ?_; refine Tr.seq ?_
  refine Tr.cond rfl (fun h3 => ?_) (fun h3 => ?_)
  · simp only [decide_eq_true_eq] at h3
    refine Tr.skip ?_; refine Tr.seq ?_; refine Tr.block ?_; refine Tr.seq ?_; refine Tr.region ?_; refine TrL.quiets 2 rfl (by (simp only [allOf, impO, imp, inR, loOk, and_true]; omega)) ?_; refine TrL.nil ?_; refine Tr.seq ?_; refine Tr.region ?_; refine TrL.quiets 1 rfl (by exact True.intro) ?_
    first | refine TrL.callV rfl rfl rfl rfl rfl (c_assign_Read _ (hst j)) ?_ | refine TrD.callV rfl rfl rfl rfl rfl (c_assign_Read _ (hst j)) rfl ?_
    refine TrL.quiets 9 rfl (by exact True.intro) ?_; refine TrL.nil ?_; refine Tr.seq ?_; refine Tr.region ?_; refine TrL.quiets 1 rfl (by exact True.intro) ?_
    first | refine TrL.callV rfl rfl rfl rfl rfl (c_ref_Read _ (hst j)) ?_ | refine TrD.callV rfl rfl rfl rfl rfl (c_ref_Read _ (hst j)) rfl ?_
    refine TrL.quiets 9 rfl (by exact True.intro) ?_; refine TrL.nil ?_; refine Tr.seq ?_; refine Tr.region ?_; refine TrL.quiets 20 rfl (by exact True.intro) ?_
    first | refine TrL.callV rfl rfl rfl rfl rfl (c_assign_Colon _ (hst j)) ?_ | refine TrD.callV rfl rfl rfl rfl rfl (c_assign_Colon _ (hst j)) rfl ?_
    refine TrL.quiets 1 rfl (by exact True.intro) ?_
    first | refine TrL.callV rfl rfl rfl rfl rfl (c_ref_Colon _ (hst j)) ?_ | refine TrD.callV rfl rfl rfl rfl rfl (c_ref_Colon _ (hst j)) rfl ?_
    refine TrL.quiets 4 rfl (by exact True.intro) ?_
    first | refine TrL.callV rfl rfl rfl rfl rfl (c_assign_Semi _ (hst j)) ?_ | refine TrD.callV rfl rfl rfl rfl rfl (c_assign_Semi _ (hst j)) rfl ?_
    refine TrL.quiets 1 rfl (by exact True.intro) ?_
    first | refine TrL.callV rfl rfl rfl rfl rfl (c_ref_Semi _ (hst j)) ?_ | refine TrD.callV rfl rfl rfl rfl rfl (c_ref_Semi _ (hst j)) rfl ?_
    refine TrL.quiets 2 rfl (by exact True.intro) ?_; refine TrL.nil ?_
    refine Tr.cond rfl (fun h4 => ?_) (fun h4 => ?_)
    · exact absurd h4 (by simp)
    · refine Tr.skip ?_; refine Tr.region ?_; refine TrL.quiets 2 rfl (by exact True.intro) ?_; refine TrL.nil ?_
      refine ⟨j + 1, by omega, by dsimp only; omega, ?_⟩
      refine Eq.trans (b := (⟨[(_, [], _), (_, [], _)], []⟩ : St)) rfl ?_
      rw [w64n (y := j + 1) (by omega) (by omega)]
  · refine Tr.exit ?_; refine Tr.seq ?_; refine Tr.region ?_; refine TrL.callV rfl rfl rfl rfl rfl (by apply (c_awake24) <;> first | assumption | omega | (simp only [cut, List.length_take, List.length_drop, Int.toNat_natCast]; omega)) ?_; refine TrL.quiets 1 rfl (by exact True.intro) ?_; refine TrL.nil ?_; refine Tr.ret ?_
    refine retQ.of rfl ?_
    rfl
end Go.Proofs.YtafngfcfinligaaDoor.Sx
