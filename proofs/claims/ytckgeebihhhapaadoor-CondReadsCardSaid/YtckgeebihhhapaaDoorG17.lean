/-
  cond: the reference's first, quoted, four.
-/
import Derived.Test.YtckgeebihhhapaaDoorG10
set_option linter.unusedVariables false
set_option linter.unusedSimpArgs false
set_option maxRecDepth 20000
set_option maxHeartbeats 4000000
namespace Go.Proofs.YtckgeebihhhapaaDoor.Sx
open Go Go.RowKit Go.Proofs

/-! ### Plain -/
def stopB (w : Str) (c : UInt8) : Bool := isBlank c || ((w == wIfeq || w == wIfneq) && (decide (c = 40) || decide (c = 39) || decide (c = 34)))
def firstR : Str → Str → Str × Str
  | pre, [] => (pre, [])
  | pre, c :: r => if stopB pre c then (pre, c :: r) else firstR (pre ++ [c]) r
def firstF (s : Str) : Str × Str := firstR [] (left s)
theorem c_first (s : Str) (hs : s.length ≤ 1099511627776) : CallV Tryd.prog 55 [vS s] (.tup [vS (firstF s).1, vS (firstF s).2]) := by
  have hls := left_length s
  refine CallV.of Tryd.func55 (by kernel_rfl) rfl Tryd.ntmps55 (by simp) rfl fun cx hB => ?_
  refine Tr.seq ?_; refine Tr.region ?_; refine TrL.quiets 2 rfl (by exact True.intro) ?_; refine TrL.nil ?_; refine Tr.seq ?_; refine Tr.region ?_; refine TrL.quiets 1 rfl (by exact True.intro) ?_
  first | refine TrL.callV rfl rfl rfl rfl rfl (c_ref_Left s) ?_ | refine TrD.callV rfl rfl rfl rfl rfl (c_ref_Left s) rfl ?_
  unfold firstF
  generalize left s = t at *
  refine TrL.quiets 1 rfl (by exact True.intro) ?_; refine TrL.nil ?_; refine Tr.seq ?_; refine Tr.region ?_; refine TrL.quiets 1 rfl (by exact True.intro) ?_; refine TrL.nil ?_; refine Tr.seq ?_; refine Tr.block ?_
  refine Tr.loop (fun (i : Nat) => ⟨[(0, [], vS t), (4, [], vI i)], []⟩) (fun i => i ≤ t.length ∧ firstR [] t = firstR (t.take i) (t.drop i)) (fun i => t.length - i) 0 [0, 4] 0 hB rfl ⟨Nat.zero_le _, rfl⟩ fun i hi => ?_
  obtain ⟨hi, hI⟩ := hi
  refine Tr.seq ?_; refine Tr.seq ?_; refine Tr.region ?_; refine TrL.quiets 8 rfl (by (simp (disch := omega) only [allOf, impO, imp, inR, loOk, and_true, w64, List.length_set, List.length_cons, List.length_nil, Option.getD_none, Option.getD_some, Ty.D, true_and, decide_eq_true_eq, decide_eq_false_iff_not, Bool.and_eq_true, Bool.or_eq_false_iff]; omega)) ?_
  first | refine TrL.callV rfl rfl rfl rfl rfl (c_Blank _) ?_ | refine TrD.callV rfl rfl rfl rfl rfl (c_Blank _) rfl ?_
  refine TrL.quiets 2 rfl (by exact True.intro) ?_; refine TrL.nil ?_
  refine Tr.cond rfl (fun h1 => ?_) (fun h1 => ?_)
  · have h1' : (decide ((i : Int) < (t.length : Int)) && !(byteAt t (i : Int) == 32 || byteAt t (i : Int) == 9 || byteAt t (i : Int) == 10)) = true := h1
    rw [Bool.and_eq_true, decide_eq_true_eq] at h1'
    have hi1 : i < t.length := by omega
    obtain ⟨c, hc⟩ : ∃ c, t[i] = c := ⟨_, rfl⟩
    have hb : byteAt t (i : Int) = ((c.toNat : Nat) : Int) := by rw [byteAt_get t i hi1, hc]
    have hbe : ∀ k : UInt8, (byteAt t (i : Int) == ((k.toNat : Nat) : Int)) = decide (c = k) := fun k => by
      rw [hb, byte_beq, Bool.eq_iff_iff]; simp
    have b40 : (byteAt t (i : Int) == 40) = decide (c = 40) := hbe 40
    have b39 : (byteAt t (i : Int) == 39) = decide (c = 39) := hbe 39
    have b34 : (byteAt t (i : Int) == 34) = decide (c = 34) := hbe 34
    have hbl : isBlank c = false := by
      have := h1'.2
      rw [hb, isBlank_int] at this
      simpa using this
    rw [List.drop_eq_getElem_cons hi1, hc, firstR] at hI
    have htk : t.take (i + 1) = t.take i ++ [c] := by rw [List.take_succ_eq_append_getElem hi1, hc]
    have hst : stopB (t.take i) c = ((t.take i == wIfeq || t.take i == wIfneq) && (decide (c = 40) || decide (c = 39) || decide (c = 34))) := by rw [stopB, hbl, Bool.false_or]
    have g : ((cut t none (some (i : Int)) == wIfeq || cut t none (some (i : Int)) == wIfneq) && (byteAt t (i : Int) == 40 || byteAt t (i : Int) == 39 || byteAt t (i : Int) == 34)) = stopB (t.take i) c := by
      rw [hst, b40, b39, b34]
      rfl
    refine Tr.skip ?_; refine Tr.block ?_; refine Tr.seq ?_; refine Tr.seq ?_; refine Tr.region ?_; refine TrL.quiets 4 rfl (by (simp only [allOf, impO, imp, inR, loOk, and_true]; omega)) ?_; refine TrL.nil ?_; refine Tr.seq ?_; refine Tr.region ?_; refine TrL.quiets 24 rfl (by (simp only [allOf, impO, imp, inR, loOk, and_true]; omega)) ?_; refine TrL.nil ?_
    refine Tr.is 45 (sv' := vB (stopB (t.take i) c)) rfl (congrArg vB g) ?_
    refine Tr.cond rfl (fun h2 => ?_) (fun h2 => ?_)
    · have h2' : stopB (t.take i) c = true := h2
      rw [h2', if_pos rfl, ← hc, ← List.drop_eq_getElem_cons hi1] at hI
      refine Tr.exit ?_; refine Tr.seq ?_; refine Tr.draw (by kernel_rfl) (by kernel_rfl) ?_; refine TrD.quiets 8 rfl (by (simp (disch := omega) only [allOf, impO, imp, inR, loOk, and_true, w64, List.length_set, List.length_cons, List.length_nil, Option.getD_none, Option.getD_some, Ty.D, true_and, decide_eq_true_eq, decide_eq_false_iff_not, Bool.and_eq_true, Bool.or_eq_false_iff]; omega)) ?_; refine TrD.nil ?_; refine Tr.ret ?_
      refine retQ.of rfl ?_
      rw [hI]
      rfl
    · have h2' : ¬ stopB (t.take i) c = true := by rw [show stopB (t.take i) c = false from h2]; decide
      rw [if_neg h2', ← htk] at hI
      refine Tr.skip ?_; refine Tr.region ?_; refine TrL.quiets 3 rfl (by exact True.intro) ?_; refine TrL.nil ?_
      refine ⟨i + 1, ⟨by omega, hI⟩, by dsimp only; omega, ?_⟩
      refine Eq.trans (b := (⟨[(_, [], _), (_, [], _)], []⟩ : St)) rfl ?_
      rw [w64n (y := i + 1) (by omega) (by omega)]
  · have h1' : (decide ((i : Int) < (t.length : Int)) && !(byteAt t (i : Int) == 32 || byteAt t (i : Int) == 9 || byteAt t (i : Int) == 10)) = false := h1
    have hI' : firstR [] t = (t.take i, t.drop i) := by
      rw [hI]
      by_cases hi1 : i < t.length
      · rw [decide_eq_true (by omega), Bool.true_and, byteAt_get t i hi1, isBlank_int] at h1'
        rw [List.drop_eq_getElem_cons hi1, firstR, stopB, show isBlank t[i] = true by simpa using h1', Bool.true_or, if_pos rfl]
      · rw [List.drop_eq_nil_of_le (by omega)]
        rfl
    refine Tr.exit ?_; refine Tr.seq ?_; refine Tr.draw (by kernel_rfl) (by kernel_rfl) ?_; refine TrD.quiets 8 rfl (by (simp (disch := omega) only [allOf, impO, imp, inR, loOk, and_true, w64, List.length_set, List.length_cons, List.length_nil, Option.getD_none, Option.getD_some, Ty.D, true_and, decide_eq_true_eq, decide_eq_false_iff_not, Bool.and_eq_true, Bool.or_eq_false_iff]; omega)) ?_; refine TrD.nil ?_; refine Tr.ret ?_
    refine retQ.of rfl ?_
    rw [hI']
    rfl
def quotedR (s : Str) : Str × Str × Bool := match s with
  | [] => ([], [], false)
  | q :: r => if q = 39 ∨ q = 34 then (if Lib.indexByte r q < 0 then ([], [], false) else (r.take (Lib.indexByte r q).toNat, r.drop ((Lib.indexByte r q).toNat + 1), true)) else ([], [], false)
theorem quotedF_eq (s : Str) : quotedF s = quotedR (left s) := rfl
/-- From here on. -/
def idxAt (r : Str) (q : UInt8) (j : Nat) : Int := if Lib.indexByte (r.drop j) q < 0 then -1 else Lib.indexByte (r.drop j) q + j
theorem idxAt_step (r : Str) (q : UInt8) (j : Nat) (h : j < r.length) : idxAt r q j = if r[j] = q then (j : Int) else idxAt r q (j + 1) := by
  have hg := Lib.indexByte_ge (r.drop (j + 1)) q
  by_cases e : r[j] = q
  · have e1 : Lib.indexByte (r.drop j) q = 0 := by rw [List.drop_eq_getElem_cons h, Lib.indexByte, if_pos (by simpa using e)]
    unfold idxAt
    rw [e1, if_pos e]
    simp
  · have e1 : Lib.indexByte (r.drop j) q = if Lib.indexByte (r.drop (j + 1)) q == -1 then -1 else Lib.indexByte (r.drop (j + 1)) q + 1 := by
      rw [List.drop_eq_getElem_cons h, Lib.indexByte, if_neg (by simpa using e)]
    rw [if_neg e]
    unfold idxAt
    rw [e1]
    generalize Lib.indexByte (r.drop (j + 1)) q = v at *
    by_cases e2 : v = -1
    · subst e2
      rfl
    · have e3 : (v == -1) = false := by simpa using e2
      have e4 : (if (v == -1) = true then (-1 : Int) else v + 1) = v + 1 := by rw [e3]; rfl
      rw [e4, if_neg (by omega), if_neg (by omega)]
      omega
theorem idxAt_end (r : Str) (q : UInt8) (j : Nat) (h : r.length ≤ j) : idxAt r q j = -1 := by
  unfold idxAt
  rw [List.drop_eq_nil_of_le h]
  rfl
theorem idxAt_zero (r : Str) (q : UInt8) : idxAt r q 0 = Lib.indexByte r q := by
  have hg := Lib.indexByte_ge r q
  unfold idxAt
  rw [List.drop_zero]
  split
  · omega
  · omega
theorem c_rquoted (s : Str) (hs : s.length ≤ 1099511627776) : CallV Tryd.prog 108 [vS s] (.tup [vS (quotedR s).1, vS (quotedR s).2.1, vB (quotedR s).2.2]) := by
  refine CallV.of Tryd.func108 (by kernel_rfl) rfl Tryd.ntmps108 (by simp) rfl fun cx hB => ?_
  cases s with
  | nil =>
    refine Tr.seq ?_; refine Tr.region ?_; refine TrL.quiets 3 rfl (by exact True.intro) ?_; refine TrL.nil ?_; refine Tr.seq ?_; refine Tr.seq ?_; refine Tr.region ?_; refine TrL.quiets 12 rfl (by (simp [allOf, impO, imp, inR, loOk] <;> omega)) ?_; refine TrL.nil ?_
    refine Tr.cond rfl (fun h1 => ?_) (fun h1 => ?_)
    · refine Tr.seq ?_; refine Tr.region ?_; refine TrL.quiets 3 rfl (by exact True.intro) ?_; refine TrL.nil ?_; refine Tr.ret ?_
      refine retQ.of rfl ?_
      rfl
    · exact absurd h1 (by decide)
  | cons q r =>
    have hq : ((q :: r : Str) == ([] : Str) || (byteAt (q :: r) 0 != 39 && byteAt (q :: r) 0 != 34)) = !(decide (q = 39 ∨ q = 34)) := by
      rw [byteAt_cons, show (39 : Int) = ((39 : UInt8).toNat : Int) from rfl, show (34 : Int) = ((34 : UInt8).toNat : Int) from rfl, bne, bne, byte_beq, byte_beq, Bool.eq_iff_iff]
      simp
    have hs1 : r.length < 1099511627776 := by simp only [List.length_cons] at hs; omega
    refine Tr.seq ?_; refine Tr.region ?_; refine TrL.quiets 3 rfl (by exact True.intro) ?_; refine TrL.nil ?_; refine Tr.seq ?_; refine Tr.seq ?_; refine Tr.region ?_; refine TrL.quiets 12 rfl (by (simp (disch := omega) only [allOf, impO, imp, inR, loOk, and_true, w64, List.length_set, List.length_cons, List.length_nil, Option.getD_none, Option.getD_some, Ty.D, true_and, decide_eq_true_eq, decide_eq_false_iff_not, Bool.and_eq_true, Bool.or_eq_false_iff]; omega)) ?_; refine TrL.nil ?_
    refine Tr.cond rfl (fun h1 => ?_) (fun h1 => ?_)
    · have h2 : ¬ (q = 39 ∨ q = 34) := by
        have h3 : ((q :: r : Str) == ([] : Str) || (byteAt (q :: r) 0 != 39 && byteAt (q :: r) 0 != 34)) = true := h1
        rw [hq] at h3
        simpa using h3
      refine Tr.seq ?_; refine Tr.region ?_; refine TrL.quiets 3 rfl (by exact True.intro) ?_; refine TrL.nil ?_; refine Tr.ret ?_
      refine retQ.of rfl ?_
      rw [quotedR, if_neg h2]
    have h2 : q = 39 ∨ q = 34 := by
      have h3 : ((q :: r : Str) == ([] : Str) || (byteAt (q :: r) 0 != 39 && byteAt (q :: r) 0 != 34)) = false := h1
      rw [hq] at h3
      simpa [Decidable.or_iff_not_imp_left] using h3
    rw [quotedR, if_pos h2, ← idxAt_zero r q]
    refine Tr.skip ?_; refine Tr.seq ?_; refine Tr.seq ?_; refine Tr.region ?_; refine TrL.quiets 1 rfl (by exact True.intro) ?_; refine TrL.nil ?_; refine Tr.block ?_
    refine Tr.loop (fun (j : Nat) => ⟨[(0, [], vS (q :: r)), (5, [], vI (j + 1 : Nat))], []⟩) (fun j => j ≤ r.length ∧ idxAt r q 0 = idxAt r q j) (fun j => r.length - j) 0 [0, 5] 0 hB rfl ⟨Nat.zero_le _, rfl⟩ fun j hj => ?_
    obtain ⟨hj, hI⟩ := hj
    refine Tr.seq ?_; refine Tr.seq ?_; refine Tr.region ?_; refine TrL.quiets 4 rfl (by exact True.intro) ?_; refine TrL.nil ?_
    refine Tr.cond rfl (fun h3 => ?_) (fun h3 => ?_)
    · have hj1 : j < r.length := by
        have h3' : decide ((((j + 1 : Nat) : Int)) < ((q :: r).length : Int)) = true := h3
        rw [decide_eq_true_eq, List.length_cons] at h3'
        omega
      rw [idxAt_step r q j hj1] at hI
      have hb1 : byteAt (q :: r) ((j + 1 : Nat) : Int) = ((r[j].toNat : Nat) : Int) := by
        rw [byteAt_get (q :: r) (j + 1) (by simp only [List.length_cons]; omega)]
        rfl
      have g : (byteAt (q :: r) ((j + 1 : Nat) : Int) == byteAt (q :: r) 0) = decide (r[j] = q) := by
        rw [hb1, byteAt_cons, byte_beq, Bool.eq_iff_iff]
        simp
      refine Tr.skip ?_; refine Tr.seq ?_; refine Tr.block ?_; refine Tr.seq ?_; refine Tr.draw (by kernel_rfl) (by kernel_rfl) ?_; refine TrD.quiets 6 rfl (by (simp (disch := omega) only [allOf, impO, imp, inR, loOk, and_true, w64, List.length_set, List.length_cons, List.length_nil, Option.getD_none, Option.getD_some, Ty.D, true_and, decide_eq_true_eq, decide_eq_false_iff_not, Bool.and_eq_true, Bool.or_eq_false_iff]; omega)) ?_; refine TrD.nil ?_
      refine Tr.is 29 (sv' := vB (decide (r[j] = q))) rfl (congrArg vB g) ?_
      refine Tr.cond rfl (fun h4 => ?_) (fun h4 => ?_)
      · have h5 : r[j] = q := of_decide_eq_true h4
        rw [if_pos h5] at hI
        refine Tr.seq ?_; refine Tr.draw (by kernel_rfl) (by kernel_rfl) ?_; refine TrD.quiets 10 rfl (by (simp (disch := omega) only [allOf, impO, imp, inR, loOk, and_true, w64, List.length_set, List.length_cons, List.length_nil, Option.getD_none, Option.getD_some, Ty.D, true_and, decide_eq_true_eq, decide_eq_false_iff_not, Bool.and_eq_true, Bool.or_eq_false_iff]; omega)) ?_; refine TrD.nil ?_; refine Tr.ret ?_
        refine retQ.of rfl ?_
        have e9 := w64n (x := ((j + 1 : Nat) : Int) + 1) (y := j + 2) (by omega) (by omega)
        rw [hI, if_neg (by omega), Int.toNat_natCast, e9]
        rfl
      · have h5 : ¬ r[j] = q := of_decide_eq_false h4
        rw [if_neg h5] at hI
        refine Tr.skip ?_; refine Tr.region ?_; refine TrL.quiets 3 rfl (by exact True.intro) ?_; refine TrL.nil ?_
        refine ⟨j + 1, ⟨by omega, hI⟩, by dsimp only; omega, ?_⟩
        refine Eq.trans (b := (⟨[(_, [], _), (_, [], _)], []⟩ : St)) rfl ?_
        rw [w64n (y := j + 1 + 1) (by omega) (by omega)]
    · have hj1 : j = r.length := by
        have h3' : decide ((((j + 1 : Nat) : Int)) < ((q :: r).length : Int)) = false := h3
        rw [decide_eq_false_iff_not, List.length_cons] at h3'
        omega
      rw [idxAt_end r q j (by omega)] at hI
      refine Tr.exit ?_; refine Tr.seq ?_; refine Tr.region ?_; refine TrL.quiets 3 rfl (by exact True.intro) ?_; refine TrL.nil ?_; refine Tr.ret ?_
      refine retQ.of rfl ?_
      rw [hI, if_pos (by decide)]
def fourB (w : Str) : Bool := w == wIfeq || w == wIfneq || w == wIfdef || w == wIfndef
theorem c_four (w : Str) : CallV Tryd.prog 57 [vS w] (vB (fourB w)) := by
  refine CallV.of Tryd.func57 (by kernel_rfl) rfl Tryd.ntmps57 (by simp) rfl fun cx hB => ?_
  refine Tr.seq ?_; refine Tr.region ?_; refine TrL.quiets 1 rfl (by exact True.intro) ?_; refine TrL.nil ?_; refine Tr.seq ?_; refine Tr.region ?_; refine TrL.quiets 15 rfl (by exact True.intro) ?_; refine TrL.nil ?_; refine Tr.ret ?_
  refine retQ.of rfl ?_
  rfl
end Go.Proofs.YtckgeebihhhapaaDoor.Sx
