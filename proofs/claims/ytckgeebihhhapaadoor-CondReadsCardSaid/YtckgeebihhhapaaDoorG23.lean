/-
  CondReads.
-/
import Derived.Test.YtckgeebihhhapaaDoorG22
import Derived.Test.YtckgeebihhhapaaDoorG11
set_option linter.unusedVariables false
set_option linter.unusedSimpArgs false
set_option maxRecDepth 20000
set_option maxHeartbeats 4000000
namespace Go.Proofs.YtckgeebihhhapaaDoor.Sx
open Go Go.RowKit Go.Proofs

theorem c_rRead' (s : Str) (hs : s.length ≤ 1000000) : CallV Tryd.prog 23 [vS s] (.tup [condSV (readF s).1, vB (readF s).2.1, vB (readF s).2.2]) := by
  have h := c_rRead s hs
  rw [read_same] at h
  exact h
def parts23 : List Str := [wIfeq, wIfneq, wIfdef, wIfndef, wElse, wEndif, [32], [40], [41], [44], [39], [34], [97], [36, 40, 98, 41], [105, 102, 101, 113, 32, 40, 97, 44, 98, 41], [39, 120, 39], [34, 121, 34], [32], [9], [101, 108, 115, 101, 32, 105, 102, 100, 101, 102, 32, 120], [40, 97, 44], [98, 41]]
theorem c_CondReads (s : Str) (ns : List Int) (hn : okInts ns) : CallV Tryd.prog 7 [vS s, vL (.int .i64) ns] (vB true) := by
  refine CallV.of Tryd.func7 (by kernel_rfl) rfl Tryd.ntmps7 (by simp) rfl fun cx hB => ?_
  refine Tr.seq ?_; refine Tr.region ?_; refine TrL.quiets 1 rfl (by exact True.intro) ?_; refine TrL.nil ?_; refine Tr.seq ?_; refine Tr.seq ?_; refine Tr.region ?_; refine TrL.quiets 3 rfl (by exact True.intro) ?_; refine TrL.nil ?_
  refine Tr.cond rfl (fun h1 => ?_) (fun h1 => ?_)
  · refine Tr.seq ?_; refine Tr.region ?_; refine TrL.callV rfl rfl rfl rfl rfl (by apply (c_awake23) <;> first | assumption | omega | (simp only [cut, List.length_take, List.length_drop, Int.toNat_natCast]; omega)) ?_; refine TrL.quiets 1 rfl (by exact True.intro) ?_; refine TrL.nil ?_; refine Tr.ret ?_
    refine retQ.of rfl ?_
    rfl
  simp only [decide_eq_false_iff_not] at h1
  have hs : s.length ≤ 500 := by omega
  refine Tr.skip ?_; refine Tr.seq ?_; refine Tr.region ?_; refine TrL.quiets 1 rfl (by exact True.intro) ?_; refine TrL.nil ?_; refine Tr.seq ?_; refine Tr.seq ?_; refine Tr.region ?_; refine TrL.quiets 1 rfl (by exact True.intro) ?_; refine TrL.nil ?_; refine Tr.block ?_
  refine Tr.loop (fun ((i, t) : Nat × Str) => ⟨[(0, [], vS s), (1, [], vL (.int .i64) ns), (5, [], vS t), (6, [], vI i)], []⟩)
    (fun (i, t) => i ≤ 8 ∧ t.length ≤ 12 * i) (fun (i, t) => 8 - i) (0, []) [0, 1, 5, 6] 0 hB rfl ⟨by decide, by decide⟩ fun x hx => ?_
  obtain ⟨i, t⟩ := x
  obtain ⟨hi, ht⟩ := hx
  refine Tr.seq ?_; refine Tr.seq ?_; refine Tr.region ?_; refine TrL.quiets 8 rfl (by exact True.intro) ?_; refine TrL.nil ?_
  refine Tr.cond rfl (fun h2 => ?_) (fun h2 => ?_)
  · simp only [Bool.and_eq_true, decide_eq_true_eq] at h2
    have hi1 : i < ns.length := by omega
    obtain ⟨hv1, hv2⟩ := okInts_nth hn i
    refine Tr.skip ?_; refine Tr.seq ?_; refine Tr.block ?_; refine Tr.region ?_; refine TrL.quiets 6 rfl (by (simp only [allOf, impO, imp, inR, loOk, and_true]; omega)) ?_
    first | refine TrL.callV rfl rfl rfl rfl rfl (c_Place _ 22 (by decide) (by decide) hv1 hv2) ?_ | refine TrD.callV rfl rfl rfl rfl rfl (c_Place _ 22 (by decide) (by decide) hv1 hv2) rfl ?_
    have hk := nth_le parts23 (nth (t := .int .i64) ns (i : Int) % 22) 12 (by decide)
    refine TrL.quiets 3 rfl ?_ ?_
    · simp only [allOf, impO, imp, inR, loOk, and_true]
      refine ⟨⟨Int.emod_nonneg _ (by decide), Int.emod_lt_of_pos _ (by decide)⟩, ?_⟩
      show ((t.length + (nth (t := .str) parts23 (nth (t := .int .i64) ns (i : Int) % 22) : Str).length : Nat) : Int) ≤ 9223372036854775807
      omega
    refine TrL.nil ?_; refine Tr.region ?_; refine TrL.quiets 3 rfl (by exact True.intro) ?_; refine TrL.nil ?_
    refine ⟨(i + 1, t ++ nth (t := .str) parts23 (nth (t := .int .i64) ns (i : Int) % 22)), ⟨by omega, ?_⟩, by dsimp only; omega, ?_⟩
    · simp only [List.length_append]
      omega
    · refine Eq.trans (b := (⟨[(_, [], _), (_, [], _), (_, [], _), (_, [], _)], []⟩ : St)) rfl ?_
      rw [w64n (y := i + 1) (by omega) (by omega)]
      rfl
  refine Tr.exit ?_; refine Tr.seq ?_; refine Tr.seq ?_; refine Tr.region ?_; refine TrL.quiets 4 rfl (by exact True.intro) ?_; refine TrL.nil ?_; refine Tr.block ?_
  have hst : ∀ j : Nat, (nth (t := .str) [s, t] (j : Int) : Str).length ≤ 1000000 := fun j => nth_le [s, t] j _ (by
    intro x hx
    simp only [List.mem_cons, List.not_mem_nil, or_false] at hx
    rcases hx with rfl | rfl <;> omega)
  refine Tr.loop (fun j : Nat => ⟨[(40, [], .agg [vS s, vS t]), (41, [], vI j)], []⟩)
    (fun j => j ≤ 2) (fun j => 2 - j) 0 [40, 41] 0 hB rfl (by decide) fun j hj => ?_
  refine Tr.seq ?_; refine Tr.region ?_; refine TrL.quiets 1 rfl (by exact True.intro) ?_; refine TrL.nil ?_; refine Tr.seq ?_
  refine Tr.cond rfl (fun h3 => ?_) (fun h3 => ?_)
  · simp only [decide_eq_true_eq] at h3
    have hst' := hst j
    refine Tr.skip ?_; refine Tr.seq ?_; refine Tr.block ?_; refine Tr.seq ?_; refine Tr.region ?_; refine TrL.quiets 2 rfl (by (simp only [allOf, impO, imp, inR, loOk, and_true]; omega)) ?_; refine TrL.nil ?_; refine Tr.seq ?_; refine Tr.region ?_; refine TrL.quiets 1 rfl (by exact True.intro) ?_
    first | refine TrL.callV rfl rfl rfl rfl rfl (c_cond_Read (nth (t := .str) [s, t] (j : Int)) hst') ?_ | refine TrD.callV rfl rfl rfl rfl rfl (c_cond_Read (nth (t := .str) [s, t] (j : Int)) hst') rfl ?_
    refine TrL.quiets 4 rfl (by exact True.intro) ?_; refine TrL.eff (effBox_sound rfl) (by exact True.intro) ?_; refine TrL.eff (effStore_sound rfl) (by exact True.intro) ?_; refine TrL.quiets 2 rfl (by exact True.intro) ?_; refine TrL.nil ?_; refine Tr.seq ?_; refine Tr.region ?_; refine TrL.quiets 1 rfl (by exact True.intro) ?_
    first | refine TrL.callV rfl rfl rfl rfl rfl (c_rRead' (nth (t := .str) [s, t] (j : Int)) hst') ?_ | refine TrD.callV rfl rfl rfl rfl rfl (c_rRead' (nth (t := .str) [s, t] (j : Int)) hst') rfl ?_
    generalize readF (nth (t := .str) [s, t] (j : Int)) = R
    obtain ⟨⟨e, w, a, b⟩, ok, bad⟩ := R
    refine TrL.quiets 4 rfl (by exact True.intro) ?_; refine TrL.eff (effBox_sound rfl) (by exact True.intro) ?_; refine TrL.eff (effStore_sound rfl) (by exact True.intro) ?_; refine TrL.quiets 2 rfl (by exact True.intro) ?_; refine TrL.nil ?_; refine Tr.seq ?_; refine Tr.region ?_; refine TrL.quiets 36 rfl (by exact True.intro) ?_; refine TrL.nil ?_
    refine Tr.cond rfl (fun h4 => ?_) (fun h4 => ?_)
    · exact absurd h4 (by simp)
    · refine Tr.skip ?_; refine Tr.region ?_; refine TrL.quiets 2 rfl (by exact True.intro) ?_; refine TrL.nil ?_
      refine ⟨j + 1, by omega, by dsimp only; omega, ?_⟩
      refine Eq.trans (b := (⟨[(_, [], _), (_, [], _)], []⟩ : St)) rfl ?_
      rw [w64n (y := j + 1) (by omega) (by omega)]
  · refine Tr.exit ?_; refine Tr.seq ?_; refine Tr.region ?_; refine TrL.callV rfl rfl rfl rfl rfl (by apply (c_awake23) <;> first | assumption | omega | (simp only [cut, List.length_take, List.length_drop, Int.toNat_natCast]; omega)) ?_; refine TrL.quiets 1 rfl (by exact True.intro) ?_; refine TrL.nil ?_; refine Tr.ret ?_
    refine retQ.of rfl ?_
    rfl
end Go.Proofs.YtckgeebihhhapaaDoor.Sx
