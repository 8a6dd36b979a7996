/-
  cond: the reference's pile, the rest.
-/
import Derived.Test.YtckgeebihhhapaaDoorG5
set_option linter.unusedVariables false
set_option linter.unusedSimpArgs false
set_option maxRecDepth 20000
set_option maxHeartbeats 4000000
namespace Go.Proofs.YtckgeebihhhapaaDoor.Sx
open Go Go.RowKit Go.Proofs

def pLive (l : List tbTy.D) : Bool := l.all (fun x => x.1)
theorem all_take {α : Type} (p : α → Bool) (l : List α) (i : Nat) (h : i < l.length) : (l.take (i + 1)).all p = ((l.take i).all p && p l[i]) := by
  rw [List.take_succ_eq_append_getElem h, List.all_append]
  simp
theorem c_pBelow (l : List tbTy.D) (k : Nat) (hk : k ≤ l.length) (hl : l.length ≤ 1000000) : CallT Tryd.prog 60 [.ptr 0 0, vI k] (pT l) (vB (pLive (l.take k))) (pT l) := by
  refine CallT.of Tryd.func60 (by kernel_rfl) rfl Tryd.ntmps60 (by simp) (by simp) fun cx hB => ?_
  have hB2 : ∀ i, cx.B i = true → i < 2 := fun i h => by have := hB i h; simp at this; omega
  refine Tr.seq ?_; refine Tr.region ?_; refine TrL.quiets 1 rfl (by exact True.intro) ?_; refine TrL.nil ?_; refine Tr.seq ?_; refine Tr.seq ?_; refine Tr.region ?_; refine TrL.quiets 1 rfl (by exact True.intro) ?_; refine TrL.nil ?_; refine Tr.block ?_
  refine Tr.loop (fun (i : Nat) => ⟨[(0, [], .ptr 0 0), (1, [], vI k), (5, [], vI i)], pT l⟩) (fun i => i ≤ k ∧ pLive (l.take i) = true) (fun i => k - i) 0 [0, 1, 5] 2 hB2 rfl ⟨Nat.zero_le _, rfl⟩ fun i hi => ?_
  obtain ⟨hi, hI⟩ := hi
  refine Tr.seq ?_; refine Tr.seq ?_; refine Tr.region ?_; refine TrL.quiets 3 rfl (by exact True.intro) ?_; refine TrL.nil ?_
  refine Tr.cond rfl (fun h1 => ?_) (fun h1 => ?_)
  · simp only [decide_eq_true_eq] at h1
    have hi1 : i < l.length := by omega
    have hn : nth (t := tbTy) l ((Int.toNat (i : Int) : Nat) : Int) = l[i] := nth_get' (t := tbTy) l i hi1
    have ha := all_take (fun x : tbTy.D => x.1) l i hi1
    have hi2 : i < k := by omega
    refine Tr.skip ?_; refine Tr.seq ?_; refine Tr.block ?_; refine Tr.seq ?_; refine Tr.region ?_; refine TrL.quiets 9 rfl (by (simp only [allOf, impO, imp, inR, loOk, and_true]; omega)) ?_; refine TrL.nil ?_
    refine Tr.cond rfl (fun h2 => ?_) (fun h2 => ?_)
    · refine Tr.seq ?_; refine Tr.region ?_; refine TrL.quiets 1 rfl (by exact True.intro) ?_; refine TrL.nil ?_; refine Tr.ret ?_
      refine retT.of rfl ?_ rfl
      have h3 : (l[i]).1 = false := by
        rw [hn] at h2
        simpa using h2
      refine congrArg vB ?_
      symm
      rw [pLive, List.all_eq_false]
      exact ⟨l[i], by rw [List.mem_take_iff_getElem]; exact ⟨i, by omega, rfl⟩, by simp [h3]⟩
    · have h3 : (l[i]).1 = true := by
        rw [hn] at h2
        simpa using h2
      refine Tr.skip ?_; refine Tr.region ?_; refine TrL.quiets 3 rfl (by exact True.intro) ?_; refine TrL.nil ?_
      refine ⟨i + 1, ⟨by omega, ?_⟩, by dsimp only; omega, ?_⟩
      · rw [pLive, ha, h3]
        simpa [pLive] using hI
      · refine Eq.trans (b := (⟨[(_, [], _), (_, [], _), (_, [], _)], [_, _]⟩ : St)) rfl ?_
        rw [w64n (y := i + 1) (by omega) (by omega)]
        rfl
  · simp only [decide_eq_false_iff_not] at h1
    obtain rfl : i = k := by omega
    refine Tr.exit ?_; refine Tr.seq ?_; refine Tr.region ?_; refine TrL.quiets 1 rfl (by exact True.intro) ?_; refine TrL.nil ?_; refine Tr.ret ?_
    refine retT.of rfl ?_ rfl
    rw [hI]
theorem c_pLive (l : List tbTy.D) (hl : l.length ≤ 1000000) : CallT Tryd.prog 33 [.ptr 0 0] (pT l) (vB (pLive l)) (pT l) := by
  refine CallT.of Tryd.func33 (by kernel_rfl) rfl Tryd.ntmps33 (by simp) (by simp) fun cx hB => ?_
  refine Tr.seq ?_; refine Tr.region ?_; refine TrL.quiets 1 rfl (by exact True.intro) ?_; refine TrL.nil ?_; refine Tr.seq ?_; refine Tr.region ?_; refine TrL.quiets 6 rfl (by exact True.intro) ?_
  refine TrL.callT [0, 1] rfl rfl rfl rfl rfl (c_pBelow l l.length (Nat.le_refl _) hl) rfl rfl rfl ?_
  refine TrL.quiets 1 rfl (by exact True.intro) ?_; refine TrL.nil ?_; refine Tr.ret ?_
  refine retT.of rfl ?_ rfl
  rw [List.take_of_length_le (Nat.le_refl _)]
  rfl
theorem c_pWants_nil : CallT Tryd.prog 35 [.ptr 0 0] (pT []) (vB false) (pT []) := by
  refine CallT.of Tryd.func35 (by kernel_rfl) rfl Tryd.ntmps35 (by simp) (by simp) fun cx hB => ?_
  refine Tr.seq ?_; refine Tr.region ?_; refine TrL.quiets 1 rfl (by exact True.intro) ?_; refine TrL.nil ?_; refine Tr.seq ?_; refine Tr.region ?_; refine TrL.quiets 6 rfl (by exact True.intro) ?_; refine TrL.nil ?_; refine Tr.seq ?_; refine Tr.region ?_; refine TrL.quiets 30 rfl (by (simp (disch := omega) only [allOf, impO, imp, inR, loOk, and_true, w64, List.length_set, List.length_cons, List.length_nil, Option.getD_none, Option.getD_some, Ty.D, true_and, decide_eq_true_eq, decide_eq_false_iff_not, Bool.and_eq_true, Bool.or_eq_false_iff]; omega)) ?_
  refine TrL.pass (vB false) rfl rfl rfl rfl rfl (by decide) (by decide) rfl ?_
  refine TrL.quiets 2 rfl (by exact True.intro) ?_; refine TrL.nil ?_; refine Tr.ret ?_
  exact retT.of rfl rfl rfl
theorem c_pWants_snoc (pre : List tbTy.D) (x : tbTy.D) (hl : pre.length < 1000000) :
    CallT Tryd.prog 35 [.ptr 0 0] (pT (pre ++ [x])) (vB (!x.2.1 && !x.2.2 && pLive pre)) (pT (pre ++ [x])) := by
  have hlen : (pre ++ [x]).length = pre.length + 1 := by simp
  have hw := last_wrap hlen (by omega)
  have hn := nth_last (t := tbTy) pre x
  have hlt : pre.length < (pre ++ [x]).length := by omega
  have hwt : (IntKind.i64.wrap (((pre ++ [x]).length : Int) - 1)).toNat = pre.length := by rw [hw]; rfl
  refine CallT.of Tryd.func35 (by kernel_rfl) rfl Tryd.ntmps35 (by simp) (by simp) fun cx hB => ?_
  refine Tr.seq ?_; refine Tr.region ?_; refine TrL.quiets 1 rfl (by exact True.intro) ?_; refine TrL.nil ?_; refine Tr.seq ?_; refine Tr.region ?_; refine TrL.quiets 6 rfl (by exact True.intro) ?_; refine TrL.nil ?_; refine Tr.seq ?_; refine Tr.region ?_; refine TrL.quiets 30 rfl (by (simp only [allOf, impO, imp, inR, loOk, and_true]; omega)) ?_
  refine TrL.isC 38 (sv' := vI (pre.length : Int)) rfl (congrArg vI hw) ?_
  refine TrL.callTG [0, 1] rfl rfl rfl rfl rfl (c_pBelow (pre ++ [x]) pre.length (by omega) (by omega)) rfl rfl rfl rfl ?_
  refine TrL.quiets 2 rfl (by exact True.intro) ?_; refine TrL.nil ?_; refine Tr.ret ?_
  refine retT.of rfl ?_ rfl
  refine congrArg vB ?_
  rw [hwt, hn, List.take_left]
  have : decide (((pre ++ [x]).length : Int) > 0) = true := decide_eq_true (by omega)
  rw [this]
  rfl
end Go.Proofs.YtckgeebihhhapaaDoor.Sx
