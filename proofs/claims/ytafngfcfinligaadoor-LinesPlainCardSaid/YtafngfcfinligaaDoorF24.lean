/-
  Lines: the reference's line without its remark.
-/
import Derived.Test.YtafngfcfinligaaDoorF23
set_option linter.unusedVariables false
set_option linter.unusedSimpArgs false
set_option maxRecDepth 20000
set_option maxHeartbeats 4000000
namespace Go.Proofs.YtafngfcfinligaaDoor.Sx
open Go Go.RowKit Go.Proofs

/-- Two ways that come together, ahead of what follows. -/
theorem Tr.joinT {P : Program} {cx : Cx} {n : Nat} {Q : Post} {α : Type} {x y : Code} {st : St} (S : α → St) (I : α → Prop) (slots : List Nat) (k : Nat) (hB : ∀ i, cx.B i = true → i < k) (h1 : Tr P cx n x st (joinQ S I slots k Q)) (h2 : ∀ a, I a → Tr P cx n y (S a) Q) : Tr P cx n x st (thenQ P cx n y Q) := by
  refine h1.mono fun e st' h => ?_
  cases e with
  | normal =>
    obtain ⟨a, hI, hk⟩ := h
    exact Tr.keep (env := st'.env) (tab := st'.tab) slots k hB hk (h2 a hI)
  | _ => exact h
theorem half_int (q : Nat) : Int.tdiv (q : Int) 2 = ((q / 2 : Nat) : Int) := by
  rw [Int.tdiv_eq_ediv_of_nonneg (by omega)]; omega
theorem even_int (q : Nat) : (Int.tmod (q : Int) 2 == 0) = decide (q % 2 = 0) := by
  rw [show (2 : Int) = ((2 : Nat) : Int) from rfl, Int.tmod_eq_emod_of_nonneg (by omega), Bool.eq_iff_iff]
  simp only [beq_iff_eq, decide_eq_true_eq]
  omega
theorem cut_byte (s : Str) (i : Nat) (h : i < s.length) : cut s (some (i : Int)) (some ((i + 1 : Nat) : Int)) = [s[i]] := by
  show (s.take (i + 1)).drop i = _
  rw [List.take_succ_eq_append_getElem h, List.drop_append_of_le_length (by simp; omega)]
  simp
theorem c_ref_Bare (s : Str) (hs : s.length ≤ 1099511627775) : CallV Tryd.prog 45 [vS s] (vS (bare s)) := by
  refine CallV.of Tryd.func45 (by kernel_rfl) rfl Tryd.ntmps45 (by simp) rfl fun cx hB => ?_
  refine Tr.seq ?_; refine Tr.region ?_; refine TrL.quiets 1 rfl (by exact True.intro) ?_; refine TrL.nil ?_; refine Tr.seq ?_; refine Tr.region ?_; refine TrL.quiets 2 rfl (by exact True.intro) ?_; refine TrL.nil ?_; refine Tr.seq ?_; refine Tr.seq ?_; refine Tr.region ?_; refine TrL.quiets 1 rfl (by exact True.intro) ?_; refine TrL.nil ?_; refine Tr.block ?_
  refine Tr.loop (fun (x : Str × Nat × Nat) => ⟨[(0, [], vS s), (3, [], vS x.1), (4, [], vI x.2.1), (5, [], vI x.2.2)], []⟩)
    (fun x => x.2.2 ≤ s.length ∧ x.2.1 ≤ x.1.length ∧ x.1.length ≤ x.2.2 ∧ bare s = bareR x.1 x.2.1 (s.drop x.2.2)) (fun x => s.length - x.2.2) ([], 0, 0) [0, 3, 4, 5] 0 hB rfl ⟨Nat.zero_le _, Nat.zero_le _, Nat.zero_le _, rfl⟩ fun x hx => ?_
  obtain ⟨t, b, i⟩ := x
  obtain ⟨h1, h2, h3, h4⟩ := hx
  simp only at h1 h2 h3 h4
  refine Tr.seq ?_; refine Tr.seq ?_; refine Tr.region ?_; refine TrL.quiets 4 rfl (by exact True.intro) ?_; refine TrL.nil ?_
  refine Tr.cond rfl (fun c1 => ?_) (fun c1 => ?_)
  · have hi : i < s.length := by
      have : ((i : Nat) : Int) < (s.length : Int) := of_decide_eq_true c1
      omega
    have hdrop : s.drop i = s[i] :: s.drop (i + 1) := List.drop_eq_getElem_cons hi
    rw [hdrop] at h4
    simp only [bareR] at h4
    refine Tr.skip ?_; refine Tr.seq ?_; refine Tr.block ?_; refine Tr.seq ?_; refine Tr.seq ?_; refine Tr.region ?_; refine TrL.quiets 3 rfl (by (simp only [allOf, impO, imp, inR, loOk, and_true]; omega)) ?_; refine TrL.nil ?_
    change Tr _ _ _ _ _ _
    refine Tr.joinT (fun (x : Str × Nat) => ⟨[(0, [], vS s), (3, [], vS x.1), (4, [], vI x.2), (5, [], vI i)], []⟩) (fun x => x.2 ≤ x.1.length + 1 ∧ x.1.length ≤ i ∧ bare s = bareR (x.1 ++ [s[i]]) x.2 (s.drop (i + 1))) [0, 3, 4, 5] 0 hB ?_ fun x hx => ?_
    · have b92 := byte_eq s i hi 92
      have b35 := byte_eq s i hi 35
      refine Tr.block ?_; refine Tr.seq ?_; refine Tr.region ?_; refine TrL.quiets 2 rfl (by exact True.intro) ?_; refine TrL.nil ?_
      refine Tr.cond rfl (fun c2 => ?_) (fun c2 => ?_)
      · have e : s[i] = 92 := by
          rw [show (92 : Int) = ((92 : UInt8).toNat : Int) from rfl, b92] at c2
          exact of_decide_eq_true c2
        rw [if_pos e] at h4
        refine Tr.region ?_; refine TrL.quiets 3 rfl (by exact True.intro) ?_; refine TrL.nil ?_
        refine ⟨(t, b + 1), ⟨by dsimp only; omega, h3, h4⟩, ?_⟩
        refine Eq.trans (b := (⟨[(_, [], _), (_, [], _), (_, [], _), (_, [], _)], []⟩ : St)) rfl ?_
        dsimp only
        rw [w64n (y := b + 1) (by omega) (by omega)]
      have e92 : ¬ s[i] = 92 := by
        rw [show (92 : Int) = ((92 : UInt8).toNat : Int) from rfl, b92] at c2
        exact of_decide_eq_false c2
      rw [if_neg e92] at h4
      refine Tr.seq ?_; refine Tr.region ?_; refine TrL.quiets 2 rfl (by exact True.intro) ?_; refine TrL.nil ?_
      refine Tr.cond rfl (fun c3 => ?_) (fun c3 => ?_)
      · have e : s[i] = 35 := by
          rw [show (35 : Int) = ((35 : UInt8).toNat : Int) from rfl, b35] at c3
          exact of_decide_eq_true c3
        rw [if_pos e] at h4
        have w1 : IntKind.i64.wrap (IntKind.i64.wrap ((t.length : Int) - (b : Int)) + IntKind.i64.wrap (Int.tdiv (b : Int) 2)) = ((t.length - b + b / 2 : Nat) : Int) := by
          rw [half_int, w64 (x := (t.length : Int) - (b : Int)) (by omega) (by omega), w64 (x := ((b / 2 : Nat) : Int)) (by omega) (by omega)]
          exact w64n (by omega) (by omega)
        have htl : (t.take (t.length - b + b / 2)).length = t.length - b + b / 2 := by simp; omega
        refine Tr.seq ?_; refine Tr.region ?_
        refine TrL.quiets 8 rfl ?_ ?_
        · simp only [allOf, impO, imp, and_true]
          decide
        refine TrL.is 28 (sv' := vI ((t.length - b + b / 2 : Nat) : Int)) rfl (congrArg vI w1) ?_
        refine TrL.quiets 2 rfl (by (simp only [allOf, impO, imp, inR, loOk, and_true]; omega)) ?_; refine TrL.nil ?_; refine Tr.seq ?_; refine Tr.seq ?_; refine Tr.region ?_; refine TrL.quiets 3 rfl (by (simp only [allOf, impO, imp, inR, loOk, and_true]; omega)) ?_; refine TrL.nil ?_
        refine Tr.cond rfl (fun c4 => ?_) (fun c4 => ?_)
        · have h5 : b % 2 = 0 := by
            rw [even_int] at c4
            exact of_decide_eq_true c4
          rw [if_pos h5] at h4
          refine Tr.seq ?_; refine Tr.region ?_; refine TrL.quiets 2 rfl (by exact True.intro) ?_; refine TrL.nil ?_; refine Tr.ret ?_
          refine retQ.of rfl ?_
          exact congrArg vS h4.symm
        · have h5 : ¬ b % 2 = 0 := by
            rw [even_int] at c4
            exact of_decide_eq_false c4
          rw [if_neg h5] at h4
          refine Tr.skip ?_; refine Tr.region ?_; refine TrL.quiets 1 rfl (by exact True.intro) ?_; refine TrL.nil ?_
          exact ⟨(t.take (t.length - b + b / 2), 0), ⟨by dsimp only; omega, by dsimp only; omega, h4⟩, rfl⟩
      · have e : ¬ s[i] = 35 := by
          rw [show (35 : Int) = ((35 : UInt8).toNat : Int) from rfl, b35] at c3
          exact of_decide_eq_false c3
        rw [if_neg e] at h4
        refine Tr.region ?_; refine TrL.quiets 1 rfl (by exact True.intro) ?_; refine TrL.nil ?_
        exact ⟨(t, 0), ⟨by dsimp only; omega, h3, h4⟩, rfl⟩
    · obtain ⟨t1, b1⟩ := x
      obtain ⟨k1, k2, k3⟩ := hx
      simp only at k1 k2 k3
      have w2 : IntKind.i64.wrap ((i : Int) + 1) = ((i + 1 : Nat) : Int) := w64n (by omega) (by omega)
      refine Tr.region ?_; refine TrL.quiets 8 rfl (by (simp (disch := omega) only [allOf, impO, imp, inR, loOk, and_true, w64, List.length_set, List.length_cons, List.length_nil, cut, List.length_take, List.length_drop, List.length_append, Int.toNat_natCast, Option.getD_none, Option.getD_some, Ty.D, true_and, decide_eq_true_eq, decide_eq_false_iff_not, Bool.and_eq_true, Bool.or_eq_false_iff]; omega)) ?_; refine TrL.nil ?_; refine Tr.region ?_; refine TrL.quiets 3 rfl (by exact True.intro) ?_; refine TrL.nil ?_
      refine ⟨(t1 ++ [s[i]], b1, i + 1), ⟨by dsimp only; omega, by simp; omega, by simp; omega, k3⟩, by dsimp only; omega, ?_⟩
      refine Eq.trans (b := (⟨[(_, [], _), (_, [], _), (_, [], _), (_, [], _)], []⟩ : St)) rfl ?_
      dsimp only
      rw [w2, cut_byte s i hi]
  have hi : i = s.length := by
    have : ¬ ((i : Nat) : Int) < (s.length : Int) := of_decide_eq_false c1
    omega
  rw [hi, List.drop_length] at h4
  refine Tr.exit ?_; refine Tr.seq ?_; refine Tr.region ?_; refine TrL.quiets 2 rfl (by exact True.intro) ?_; refine TrL.nil ?_; refine Tr.ret ?_
  refine retQ.of rfl ?_
  exact congrArg vS h4.symm
end Go.Proofs.YtafngfcfinligaaDoor.Sx
