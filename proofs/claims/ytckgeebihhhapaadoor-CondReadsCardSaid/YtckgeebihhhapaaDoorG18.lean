/-
  cond: the reference's two sides.
-/
import Derived.Test.YtckgeebihhhapaaDoorG17
set_option linter.unusedVariables false
set_option linter.unusedSimpArgs false
set_option maxRecDepth 20000
set_option maxHeartbeats 4000000
namespace Go.Proofs.YtckgeebihhhapaaDoor.Sx
open Go Go.RowKit Go.Proofs

def commaJ : Option Nat → Int
  | none => -1
  | some k => ((k + 1 : Nat) : Int)
theorem c_round (q : UInt8) (s : Str) (hs : s.length ≤ 1099511627776) : CallV Tryd.prog 107 [vS (q :: s)] (.tup [vS (bracketsF s).1, vS (bracketsF s).2.1, vB (bracketsF s).2.2]) := by
  refine CallV.of Tryd.func107 (by kernel_rfl) rfl Tryd.ntmps107 (by simp) rfl fun cx hB => ?_
  refine Tr.seq ?_; refine Tr.region ?_; refine TrL.quiets 3 rfl (by exact True.intro) ?_; refine TrL.nil ?_; refine Tr.seq ?_; refine Tr.region ?_; refine TrL.quiets 2 rfl (by exact True.intro) ?_; refine TrL.nil ?_; refine Tr.seq ?_; refine Tr.seq ?_; refine Tr.region ?_; refine TrL.quiets 1 rfl (by exact True.intro) ?_; refine TrL.nil ?_; refine Tr.block ?_
  refine Tr.loop (fun ((i, d, m) : Nat × Nat × Option Nat) => ⟨[(0, [], vS (q :: s)), (5, [], vI (d + 1 : Nat)), (6, [], vI (commaJ m)), (7, [], vI (i + 1 : Nat))], []⟩)
    (fun (i, d, m) => i ≤ s.length ∧ d ≤ i ∧ (∀ k, m = some k → k < i) ∧ bracketsF s = brkR s (s.drop i) i d m) (fun (i, d, m) => s.length - i) (0, 0, none) [0, 5, 6, 7] 0 hB rfl ⟨Nat.zero_le _, Nat.zero_le _, fun k h => (by cases h), rfl⟩ fun x hx => ?_
  obtain ⟨i, d, m⟩ := x
  obtain ⟨hi, hd, hm, hI⟩ := hx
  refine Tr.seq ?_; refine Tr.seq ?_; refine Tr.region ?_; refine TrL.quiets 4 rfl (by exact True.intro) ?_; refine TrL.nil ?_
  refine Tr.cond rfl (fun h1 => ?_) (fun h1 => ?_)
  · have hi1 : i < s.length := by
      have h3' : decide ((((i + 1 : Nat) : Int)) < ((q :: s).length : Int)) = true := h1
      rw [decide_eq_true_eq, List.length_cons] at h3'
      omega
    obtain ⟨c, hc⟩ : ∃ c, s[i] = c := ⟨_, rfl⟩
    rw [List.drop_eq_getElem_cons hi1, hc, brkR] at hI
    have hb : byteAt (q :: s) ((i + 1 : Nat) : Int) = ((c.toNat : Nat) : Int) := by
      rw [byteAt_get (q :: s) (i + 1) (by simp only [List.length_cons]; omega), ← hc]
      rfl
    have hbe : ∀ k : UInt8, (byteAt (q :: s) ((i + 1 : Nat) : Int) == ((k.toNat : Nat) : Int)) = decide (c = k) := fun k => by
      rw [hb, byte_beq, Bool.eq_iff_iff]; simp
    have c40 : (byteAt (q :: s) ((i + 1 : Nat) : Int) == 40) = decide (c = 40) := hbe 40
    have c41 : (byteAt (q :: s) ((i + 1 : Nat) : Int) == 41) = decide (c = 41) := hbe 41
    have c44 : (byteAt (q :: s) ((i + 1 : Nat) : Int) == 44) = decide (c = 44) := hbe 44
    have stE : ∀ (d' : Nat) (v : Int) (m' : Option Nat), v = ((d' + 1 : Nat) : Int) → (⟨[(0, [], vS (q :: s)), (5, [], vI v), (6, [], vI (commaJ m')), (7, [], vI (IntKind.i64.wrap (((i + 1 : Nat) : Int) + 1)))], []⟩ : St) = ⟨[(0, [], vS (q :: s)), (5, [], vI (d' + 1 : Nat)), (6, [], vI (commaJ m')), (7, [], vI ((i + 1 + 1 : Nat) : Int))], []⟩ := fun d' v m' hv => by
      rw [w64n (y := i + 1 + 1) (by omega) (by omega), hv]
    have hlen : (q :: s).length = s.length + 1 := rfl
    refine Tr.skip ?_; refine Tr.seq ?_; refine Tr.block ?_; refine Tr.seq ?_; refine Tr.region ?_; refine TrL.quiets 3 rfl (by (simp only [allOf, impO, imp, inR, loOk, and_true]; omega)) ?_; refine TrL.nil ?_; refine Tr.block ?_; refine Tr.seq ?_; refine Tr.region ?_; refine TrL.quiets 2 rfl (by exact True.intro) ?_; refine TrL.nil ?_
    refine Tr.cond rfl (fun g1 => ?_) (fun g1 => ?_)
    · have k1 : c = 40 := by rw [c40] at g1; simpa using g1
      rw [if_pos k1] at hI
      refine Tr.region ?_; refine TrL.quiets 3 rfl (by exact True.intro) ?_; refine TrL.nil ?_; refine Tr.region ?_; refine TrL.quiets 3 rfl (by exact True.intro) ?_; refine TrL.nil ?_
      exact ⟨(i + 1, d + 1, m), ⟨by omega, by omega, fun k h => by have := hm k h; omega, hI⟩, by dsimp only; omega, Eq.trans (by rfl) (stE (d + 1) _ m (w64n (x := ((d + 1 : Nat) : Int) + 1) (y := d + 1 + 1) (by omega) (by omega)))⟩
    have k1 : ¬ c = 40 := by rw [c40] at g1; simpa using g1
    rw [if_neg k1] at hI
    refine Tr.seq ?_; refine Tr.region ?_; refine TrL.quiets 2 rfl (by exact True.intro) ?_; refine TrL.nil ?_
    refine Tr.cond rfl (fun g2 => ?_) (fun g2 => ?_)
    · have k2 : c = 41 := by rw [c41] at g2; simpa using g2
      have hw1 : IntKind.i64.wrap (((d + 1 : Nat) : Int) - 1) = (d : Int) := w64n (by omega) (by omega)
      have hw2 : IntKind.i64.wrap (((i + 1 : Nat) : Int) + 1) = ((i + 2 : Nat) : Int) := w64n (by omega) (by omega)
      refine Tr.seq ?_; refine Tr.region ?_; refine TrL.quiets 3 rfl (by exact True.intro) ?_; refine TrL.nil ?_
      refine Tr.is 5 (sv' := vI (d : Int)) rfl (congrArg vI hw1) ?_
      refine Tr.seq ?_; refine Tr.region ?_; refine TrL.quiets 2 rfl (by exact True.intro) ?_; refine TrL.nil ?_
      refine Tr.cond rfl (fun g3 => ?_) (fun g3 => ?_)
      · have k3 : d = 0 := by
          have g3' : ((d : Int) == 0) = true := g3
          rw [beq_iff_eq] at g3'
          omega
        rw [if_pos ⟨k2, k3⟩] at hI
        have hcu : cut (q :: s) (some (IntKind.i64.wrap (((i + 1 : Nat) : Int) + 1))) none = s.drop (i + 1) := by
          rw [hw2]; rfl
        have hcl : (cut (q :: s) (some (IntKind.i64.wrap (((i + 1 : Nat) : Int) + 1))) none).length ≤ 9223372036854775807 := by rw [hcu, List.length_drop]; omega
        cases m with
        | none =>
          refine Tr.seq ?_; refine Tr.seq ?_; refine Tr.region ?_; refine TrL.quiets 7 rfl (by (simp (disch := omega) only [allOf, impO, imp, inR, loOk, and_true, w64, List.length_set, List.length_cons, List.length_nil, Option.getD_none, Option.getD_some, Ty.D, true_and, decide_eq_true_eq, decide_eq_false_iff_not, Bool.and_eq_true, Bool.or_eq_false_iff]; omega)) ?_
          first | refine TrL.callV rfl rfl rfl rfl rfl (c_ref_Trim (cut (q :: s) (some (IntKind.i64.wrap (((i + 1 : Nat) : Int) + 1))) none) hcl) ?_ | refine TrD.callV rfl rfl rfl rfl rfl (c_ref_Trim (cut (q :: s) (some (IntKind.i64.wrap (((i + 1 : Nat) : Int) + 1))) none) hcl) rfl ?_
          refine TrL.quiets 2 rfl (by exact True.intro) ?_; refine TrL.nil ?_
          refine Tr.cond rfl (fun g6 => ?_) (fun g6 => ?_)
          · refine Tr.seq ?_; refine Tr.region ?_; refine TrL.quiets 3 rfl (by exact True.intro) ?_; refine TrL.nil ?_; refine Tr.ret ?_
            refine retQ.of rfl ?_
            rw [hI]
            rfl
          · have g4 : (decide ((-1 : Int) < 0) || trim (cut (q :: s) (some (IntKind.i64.wrap (((i + 1 : Nat) : Int) + 1))) none) != []) = false := g6
            simp at g4
        | some k =>
          have hk := hm k rfl
          refine Tr.is 6 (sv' := vI ((k + 1 : Nat) : Int)) rfl rfl ?_
          refine Tr.seq ?_; refine Tr.seq ?_; refine Tr.region ?_; refine TrL.quiets 7 rfl (by (simp (disch := omega) only [allOf, impO, imp, inR, loOk, and_true, w64, List.length_set, List.length_cons, List.length_nil, Option.getD_none, Option.getD_some, Ty.D, true_and, decide_eq_true_eq, decide_eq_false_iff_not, Bool.and_eq_true, Bool.or_eq_false_iff]; omega)) ?_
          first | refine TrL.callV rfl rfl rfl rfl rfl (c_ref_Trim (cut (q :: s) (some (IntKind.i64.wrap (((i + 1 : Nat) : Int) + 1))) none) hcl) ?_ | refine TrD.callV rfl rfl rfl rfl rfl (c_ref_Trim (cut (q :: s) (some (IntKind.i64.wrap (((i + 1 : Nat) : Int) + 1))) none) hcl) rfl ?_
          refine TrL.quiets 2 rfl (by exact True.intro) ?_; refine TrL.nil ?_
          have g5 : (decide (((k + 1 : Nat) : Int) < 0) || trim (cut (q :: s) (some (IntKind.i64.wrap (((i + 1 : Nat) : Int) + 1))) none) != []) = (trim (s.drop (i + 1)) != []) := by
            rw [hcu, decide_eq_false (by omega), Bool.false_or]
          refine Tr.is 36 (sv' := vB (trim (s.drop (i + 1)) != [])) rfl (congrArg vB g5) ?_
          refine Tr.cond rfl (fun g6 => ?_) (fun g6 => ?_)
          · have g4 : ¬ trim (s.drop (i + 1)) = [] := by simpa using g6
            have hI' : bracketsF s = ([], [], false) := by rw [hI, brkEnd, if_neg g4]
            refine Tr.seq ?_; refine Tr.region ?_; refine TrL.quiets 3 rfl (by exact True.intro) ?_; refine TrL.nil ?_; refine Tr.ret ?_
            refine retQ.of rfl ?_
            rw [hI']
          · have g4 : trim (s.drop (i + 1)) = [] := by simpa using g6
            have hI' : bracketsF s = (right (s.take k), left ((s.take i).drop (k + 1)), true) := by rw [hI, brkEnd, if_pos g4]
            have hk1 := w64n (x := ((k + 1 : Nat) : Int) + 1) (y := k + 2) (by omega) (by omega)
            have hcu2 : cut (q :: s) (some (IntKind.i64.wrap (((k + 1 : Nat) : Int) + 1))) (some ((i + 1 : Nat) : Int)) = (s.take i).drop (k + 1) := by rw [hk1]; rfl
            have hcu3 : cut (q :: s) (some 1) (some ((k + 1 : Nat) : Int)) = s.take k := rfl
            refine Tr.skip ?_; refine Tr.seq ?_; refine Tr.draw (by kernel_rfl) (by kernel_rfl) ?_; refine TrD.quiets 3 rfl (by (simp (disch := omega) only [allOf, impO, imp, inR, loOk, and_true, w64, List.length_set, List.length_cons, List.length_nil, Option.getD_none, Option.getD_some, Ty.D, true_and, decide_eq_true_eq, decide_eq_false_iff_not, Bool.and_eq_true, Bool.or_eq_false_iff]; omega)) ?_
            first | refine TrL.callV rfl rfl rfl rfl rfl (c_ref_Right (cut (q :: s) (some 1) (some ((k + 1 : Nat) : Int))) (by rw [hcu3, List.length_take]; omega)) ?_ | refine TrD.callV rfl rfl rfl rfl rfl (c_ref_Right (cut (q :: s) (some 1) (some ((k + 1 : Nat) : Int))) (by rw [hcu3, List.length_take]; omega)) rfl ?_
            refine TrD.quiets 5 rfl (by (simp (disch := omega) only [allOf, impO, imp, inR, loOk, and_true, w64, List.length_set, List.length_cons, List.length_nil, Option.getD_none, Option.getD_some, Ty.D, true_and, decide_eq_true_eq, decide_eq_false_iff_not, Bool.and_eq_true, Bool.or_eq_false_iff]; omega)) ?_
            first | refine TrL.callV rfl rfl rfl rfl rfl (c_ref_Left (cut (q :: s) (some (IntKind.i64.wrap (((k + 1 : Nat) : Int) + 1))) (some ((i + 1 : Nat) : Int)))) ?_ | refine TrD.callV rfl rfl rfl rfl rfl (c_ref_Left (cut (q :: s) (some (IntKind.i64.wrap (((k + 1 : Nat) : Int) + 1))) (some ((i + 1 : Nat) : Int)))) rfl ?_
            rw [hcu2]
            refine TrD.quiets 3 rfl (by exact True.intro) ?_; refine TrD.nil ?_; refine Tr.ret ?_
            refine retQ.of rfl ?_
            rw [hI']
            rfl
      · have k3 : ¬ d = 0 := by
          have g3' : ((d : Int) == 0) = false := g3
          rw [beq_eq_false_iff_ne] at g3'
          omega
        rw [if_neg (fun h => k3 h.2), if_pos k2] at hI
        refine Tr.skip ?_; refine Tr.region ?_; refine TrL.quiets 3 rfl (by exact True.intro) ?_; refine TrL.nil ?_
        exact ⟨(i + 1, d - 1, m), ⟨by omega, by omega, fun k h => by have := hm k h; omega, hI⟩, by dsimp only; omega, Eq.trans (by rfl) (stE (d - 1) _ m (by omega))⟩
    have k2 : ¬ c = 41 := by rw [c41] at g2; simpa using g2
    rw [if_neg (fun h => k2 h.1), if_neg k2] at hI
    refine Tr.seq ?_; refine Tr.region ?_; refine TrL.quiets 2 rfl (by exact True.intro) ?_; refine TrL.nil ?_
    refine Tr.cond rfl (fun g3 => ?_) (fun g3 => ?_)
    · have k3 : c = 44 := by rw [c44] at g3; simpa using g3
      have g5 : ((((d + 1 : Nat) : Int) == 1) && decide (commaJ m < 0)) = decide (c = 44 ∧ d = 0 ∧ m = none) := by
        rw [Bool.eq_iff_iff]
        simp only [Bool.and_eq_true, decide_eq_true_eq, beq_iff_eq]
        cases m with
        | none => simp [commaJ, k3]; omega
        | some k => simp [commaJ]; omega
      refine Tr.seq ?_; refine Tr.region ?_; refine TrL.quiets 6 rfl (by exact True.intro) ?_; refine TrL.nil ?_
      refine Tr.is 54 (sv' := vB (decide (c = 44 ∧ d = 0 ∧ m = none))) rfl (congrArg vB g5) ?_
      refine Tr.cond rfl (fun g4 => ?_) (fun g4 => ?_)
      · have k4 : c = 44 ∧ d = 0 ∧ m = none := of_decide_eq_true g4
        rw [if_pos k4] at hI
        refine Tr.region ?_; refine TrL.quiets 2 rfl (by exact True.intro) ?_; refine TrL.nil ?_; refine Tr.region ?_; refine TrL.quiets 3 rfl (by exact True.intro) ?_; refine TrL.nil ?_
        exact ⟨(i + 1, d, some i), ⟨by omega, by omega, fun k h => by obtain rfl := Option.some.inj h; omega, hI⟩, by dsimp only; omega, stE d _ (some i) rfl⟩
      · have k4 : ¬ (c = 44 ∧ d = 0 ∧ m = none) := of_decide_eq_false g4
        rw [if_neg k4] at hI
        refine Tr.skip ?_; refine Tr.region ?_; refine TrL.quiets 3 rfl (by exact True.intro) ?_; refine TrL.nil ?_
        exact ⟨(i + 1, d, m), ⟨by omega, by omega, fun k h => by have := hm k h; omega, hI⟩, by dsimp only; omega, stE d _ m rfl⟩
    · have k3 : ¬ c = 44 := by rw [c44] at g3; simpa using g3
      rw [if_neg (fun h => k3 h.1)] at hI
      refine Tr.skip ?_; refine Tr.region ?_; refine TrL.quiets 3 rfl (by exact True.intro) ?_; refine TrL.nil ?_
      exact ⟨(i + 1, d, m), ⟨by omega, by omega, fun k h => by have := hm k h; omega, hI⟩, by dsimp only; omega, stE d _ m rfl⟩
  · have h1' : decide ((((i + 1 : Nat) : Int)) < ((q :: s).length : Int)) = false := h1
    rw [decide_eq_false_iff_not, List.length_cons] at h1'
    rw [List.drop_eq_nil_of_le (by omega), brkR] at hI
    refine Tr.exit ?_; refine Tr.seq ?_; refine Tr.region ?_; refine TrL.quiets 3 rfl (by exact True.intro) ?_; refine TrL.nil ?_; refine Tr.ret ?_
    refine retQ.of rfl ?_
    rw [hI]
end Go.Proofs.YtckgeebihhhapaaDoor.Sx
