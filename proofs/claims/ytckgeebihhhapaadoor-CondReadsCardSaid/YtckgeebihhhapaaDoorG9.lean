/-
  cond: two sides.
-/
import Derived.Test.YtckgeebihhhapaaDoorG8
import Derived.Test.YtckgeebihhhapaaDoorF3
set_option linter.unusedVariables false
set_option linter.unusedSimpArgs false
set_option maxRecDepth 20000
set_option maxHeartbeats 4000000
namespace Go.Proofs.YtckgeebihhhapaaDoor.Sx
open Go Go.RowKit Go.Proofs

/-! ### Plain -/
def quotedF (s : Str) : Str × Str × Bool := match left s with
  | [] => ([], [], false)
  | q :: r => if q = 39 ∨ q = 34 then (if Lib.indexByte r q < 0 then ([], [], false) else (r.take (Lib.indexByte r q).toNat, r.drop ((Lib.indexByte r q).toNat + 1), true)) else ([], [], false)
theorem indexByte_bound (c : UInt8) : ∀ l : Str, -1 ≤ Lib.indexByte l c ∧ Lib.indexByte l c < (l.length : Int) + (if l = [] then 0 else 0)
  | [] => by simp [Lib.indexByte]
  | b :: l => by
    have ih := indexByte_bound c l
    rw [Lib.indexByte]
    simp only [List.length_cons, ite_self, Int.add_zero] at ih ⊢
    split
    · omega
    · split
      · omega
      · omega
theorem c_quoted (s : Str) (hs : s.length ≤ 1099511627776) : CallV Tryd.prog 81 [vS s] (.tup [vS (quotedF s).1, vS (quotedF s).2.1, vB (quotedF s).2.2]) := by
  have hls := left_length s
  refine CallV.of Tryd.func81 (by kernel_rfl) rfl Tryd.ntmps81 (by simp) rfl fun cx hB => ?_
  refine Tr.seq ?_; refine Tr.region ?_; refine TrL.quiets 3 rfl (by exact True.intro) ?_; refine TrL.nil ?_; refine Tr.seq ?_; refine Tr.region ?_; refine TrL.quiets 1 rfl (by exact True.intro) ?_
  first | refine TrL.callV rfl rfl rfl rfl rfl (c_words_Left s) ?_ | refine TrD.callV rfl rfl rfl rfl rfl (c_words_Left s) rfl ?_
  unfold quotedF
  generalize left s = t at *
  cases t with
  | nil =>
    refine TrL.quiets 1 rfl (by exact True.intro) ?_; refine TrL.nil ?_; refine Tr.seq ?_; refine Tr.seq ?_; refine Tr.region ?_; refine TrL.quiets 12 rfl (by (simp [allOf, impO, imp, inR, loOk] <;> omega)) ?_; refine TrL.nil ?_
    refine Tr.cond rfl (fun h1 => ?_) (fun h1 => ?_)
    · refine Tr.seq ?_; refine Tr.region ?_; refine TrL.quiets 3 rfl (by exact True.intro) ?_; refine TrL.nil ?_; refine Tr.ret ?_
      refine retQ.of rfl ?_
      rfl
    · exact absurd h1 (by decide)
  | cons q r =>
    have hq : (byteAt (q :: r) 0 != 39 && byteAt (q :: r) 0 != 34) = !(decide (q = 39 ∨ q = 34)) := by
      rw [byteAt_cons, show (39 : Int) = ((39 : UInt8).toNat : Int) from rfl, show (34 : Int) = ((34 : UInt8).toNat : Int) from rfl, bne, bne, byte_beq, byte_beq, Bool.eq_iff_iff]
      simp
    refine TrL.quiets 1 rfl (by exact True.intro) ?_; refine TrL.nil ?_; refine Tr.seq ?_; refine Tr.seq ?_; refine Tr.region ?_; refine TrL.quiets 12 rfl (by (simp (disch := omega) only [allOf, impO, imp, inR, loOk, and_true, w64, List.length_set, List.length_cons, List.length_nil, Option.getD_none, Option.getD_some, Ty.D, true_and, decide_eq_true_eq, decide_eq_false_iff_not, Bool.and_eq_true, Bool.or_eq_false_iff]; omega)) ?_; refine TrL.nil ?_
    refine Tr.cond rfl (fun h1 => ?_) (fun h1 => ?_)
    · have h2 : ¬ (q = 39 ∨ q = 34) := by
        have h3 : (byteAt (q :: r) 0 != 39 && byteAt (q :: r) 0 != 34) = true := h1
        rw [hq] at h3
        simpa using h3
      refine Tr.seq ?_; refine Tr.region ?_; refine TrL.quiets 3 rfl (by exact True.intro) ?_; refine TrL.nil ?_; refine Tr.ret ?_
      refine retQ.of rfl ?_
      dsimp only
      rw [if_neg h2]
    · have h2 : q = 39 ∨ q = 34 := by
        have h3 : (byteAt (q :: r) 0 != 39 && byteAt (q :: r) 0 != 34) = false := h1
        rw [hq] at h3
        simpa [Decidable.or_iff_not_imp_left] using h3
      dsimp only
      rw [if_pos h2]
      have hr : r.length + 1 ≤ s.length := by simpa using hls
      refine Tr.skip ?_; refine Tr.seq ?_; refine Tr.draw (by kernel_rfl) (by kernel_rfl) ?_; refine TrD.quiets 4 rfl (by (simp (disch := omega) only [allOf, impO, imp, inR, loOk, and_true, w64, List.length_set, List.length_cons, List.length_nil, Option.getD_none, Option.getD_some, Ty.D, true_and, decide_eq_true_eq, decide_eq_false_iff_not, Bool.and_eq_true, Bool.or_eq_false_iff]; omega)) ?_
      have hqb : (byteAt (q :: r) 0).toNat.toUInt8 = q := by
        rw [byteAt_cons, Int.toNat_natCast]
        simp
      have hix : Lib.indexByte (cut (q :: r) (some 1) none) (byteAt (q :: r) 0).toNat.toUInt8 = Lib.indexByte r q := by
        rw [hqb]; rfl
      first | refine TrL.callV rfl rfl rfl rfl rfl (c_IndexByte (cut (q :: r) (some 1) none) (byteAt (q :: r) 0)) ?_ | refine TrD.callV rfl rfl rfl rfl rfl (c_IndexByte (cut (q :: r) (some 1) none) (byteAt (q :: r) 0)) rfl ?_
      rw [hix]
      have hb := indexByte_bound q r
      simp only [ite_self, Int.add_zero] at hb
      generalize Lib.indexByte r q = k at *
      refine TrD.quiets 1 rfl (by exact True.intro) ?_; refine TrD.nil ?_; refine Tr.seq ?_; refine Tr.seq ?_; refine Tr.region ?_; refine TrL.quiets 2 rfl (by exact True.intro) ?_; refine TrL.nil ?_
      refine Tr.cond rfl (fun h3 => ?_) (fun h3 => ?_)
      · simp only [decide_eq_true_eq] at h3
        rw [if_pos h3]
        refine Tr.seq ?_; refine Tr.region ?_; refine TrL.quiets 3 rfl (by exact True.intro) ?_; refine TrL.nil ?_; refine Tr.ret ?_
        refine retQ.of rfl ?_
        rfl
      · simp only [decide_eq_false_iff_not] at h3
        rw [if_neg h3]
        obtain ⟨m, rfl⟩ : ∃ m : Nat, (m : Int) = k := ⟨k.toNat, by omega⟩
        have e1 := w64n (x := (m : Int) + 1) (y := m + 1) (by omega) (by omega)
        have e2 := w64n (x := (m : Int) + 2) (y := m + 2) (by omega) (by omega)
        refine Tr.skip ?_; refine Tr.seq ?_; refine Tr.draw (by kernel_rfl) (by kernel_rfl) ?_; refine TrD.quiets 11 rfl (by (simp (disch := omega) only [allOf, impO, imp, inR, loOk, and_true, w64, List.length_set, List.length_cons, List.length_nil, Option.getD_none, Option.getD_some, Ty.D, true_and, decide_eq_true_eq, decide_eq_false_iff_not, Bool.and_eq_true, Bool.or_eq_false_iff]; omega)) ?_; refine TrD.nil ?_; refine Tr.ret ?_
        refine retQ.of rfl ?_
        rw [e1, e2]
        rfl

def brkEnd (s r : Str) (i : Nat) : Option Nat → Str × Str × Bool
  | none => ([], [], false)
  | some k => if trim r = [] then (right (s.take k), left ((s.take i).drop (k + 1)), true) else ([], [], false)
/-- Two sides in brackets. -/
def brkR (s : Str) : Str → Nat → Nat → Option Nat → Str × Str × Bool
  | [], _, _, _ => ([], [], false)
  | c :: r, i, deep, comma =>
    if c = 40 then brkR s r (i + 1) (deep + 1) comma
    else if c = 41 ∧ deep = 0 then brkEnd s r i comma
    else if c = 41 then brkR s r (i + 1) (deep - 1) comma
    else if c = 44 ∧ deep = 0 ∧ comma = none then brkR s r (i + 1) deep (some i)
    else brkR s r (i + 1) deep comma
def bracketsF (s : Str) : Str × Str × Bool := brkR s s 0 0 none
def commaI : Option Nat → Int
  | none => -1
  | some k => k
theorem c_brackets (s : Str) (hs : s.length ≤ 1099511627776) : CallV Tryd.prog 80 [vS s] (.tup [vS (bracketsF s).1, vS (bracketsF s).2.1, vB (bracketsF s).2.2]) := by
  refine CallV.of Tryd.func80 (by kernel_rfl) rfl Tryd.ntmps80 (by simp) rfl fun cx hB => ?_
  refine Tr.seq ?_; refine Tr.region ?_; refine TrL.quiets 3 rfl (by exact True.intro) ?_; refine TrL.nil ?_; refine Tr.seq ?_; refine Tr.region ?_; refine TrL.quiets 2 rfl (by exact True.intro) ?_; refine TrL.nil ?_; refine Tr.seq ?_; refine Tr.seq ?_; refine Tr.region ?_; refine TrL.quiets 3 rfl (by exact True.intro) ?_; refine TrL.nil ?_; refine Tr.block ?_
  refine Tr.loop (fun ((i, d, m) : Nat × Nat × Option Nat) => ⟨[(0, [], vS s), (5, [], vI d), (6, [], vI (commaI m)), (9, [], vI s.length), (10, [], vI i)], []⟩)
    (fun (i, d, m) => i ≤ s.length ∧ d ≤ i ∧ (∀ k, m = some k → k < i) ∧ bracketsF s = brkR s (s.drop i) i d m) (fun (i, d, m) => s.length - i) (0, 0, none) [0, 5, 6, 9, 10] 0 hB rfl ⟨Nat.zero_le _, Nat.zero_le _, fun k h => (by cases h), rfl⟩ fun x hx => ?_
  obtain ⟨i, d, m⟩ := x
  obtain ⟨hi, hd, hm, hI⟩ := hx
  refine Tr.seq ?_; refine Tr.region ?_; refine TrL.quiets 1 rfl (by exact True.intro) ?_; refine TrL.nil ?_; refine Tr.seq ?_
  refine Tr.cond rfl (fun h1 => ?_) (fun h1 => ?_)
  · simp only [decide_eq_true_eq] at h1
    have hi1 : i < s.length := by omega
    obtain ⟨c, hc⟩ : ∃ c, s[i] = c := ⟨_, rfl⟩
    rw [List.drop_eq_getElem_cons hi1, hc, brkR] at hI
    have hb : byteAt s (i : Int) = ((c.toNat : Nat) : Int) := by rw [byteAt_get s i hi1, hc]
    have hbe : ∀ k : UInt8, (byteAt s (i : Int) == ((k.toNat : Nat) : Int)) = decide (c = k) := fun k => by
      rw [hb, byte_beq, Bool.eq_iff_iff]; simp
    have b40 := hbe 40
    have b41 := hbe 41
    have b44 := hbe 44
    have stE : ∀ (d' : Nat) (m' : Option Nat), (⟨[(0, [], vS s), (5, [], vI d'), (6, [], vI (commaI m')), (9, [], vI s.length), (10, [], vI (IntKind.i64.wrap ((i : Int) + 1)))], []⟩ : St) = ⟨[(0, [], vS s), (5, [], vI d'), (6, [], vI (commaI m')), (9, [], vI s.length), (10, [], vI ((i + 1 : Nat) : Int))], []⟩ := fun d' m' => by
      rw [w64n (y := i + 1) (by omega) (by omega)]
    have c40 : (byteAt s (i : Int) == 40) = decide (c = 40) := b40
    have c41 : (byteAt s (i : Int) == 41) = decide (c = 41) := b41
    have c44 : (byteAt s (i : Int) == 44) = decide (c = 44) := b44
    refine Tr.skip ?_; refine Tr.seq ?_; refine Tr.block ?_; refine Tr.seq ?_; refine Tr.region ?_; refine TrL.quiets 2 rfl (by exact True.intro) ?_; refine TrL.nil ?_; refine Tr.block ?_; refine Tr.seq ?_; refine Tr.region ?_; refine TrL.quiets 5 rfl (by (simp only [allOf, impO, imp, inR, loOk, and_true]; omega)) ?_; refine TrL.nil ?_
    refine Tr.cond rfl (fun g1 => ?_) (fun g1 => ?_)
    · have k1 : c = 40 := by rw [c40] at g1; simpa using g1
      rw [if_pos k1] at hI
      refine Tr.region ?_; refine TrL.quiets 3 rfl (by exact True.intro) ?_; refine TrL.nil ?_; refine Tr.region ?_; refine TrL.quiets 2 rfl (by exact True.intro) ?_; refine TrL.nil ?_
      refine ⟨(i + 1, d + 1, m), ⟨by omega, by omega, fun k h => by have := hm k h; omega, hI⟩, by dsimp only; omega, ?_⟩
      refine Eq.trans ?_ (stE (d + 1) m)
      refine Eq.trans (b := (⟨[(_, [], _), (_, [], _), (_, [], _), (_, [], _), (_, [], _)], []⟩ : St)) rfl ?_
      rw [w64n (x := (d : Int) + 1) (y := d + 1) (by omega) (by omega)]
    have k1 : ¬ c = 40 := by rw [c40] at g1; simpa using g1
    rw [if_neg k1] at hI
    refine Tr.seq ?_; refine Tr.region ?_; refine TrL.quiets 9 rfl (by (simp only [allOf, impO, imp, inR, loOk, and_true]; omega)) ?_; refine TrL.nil ?_
    refine Tr.cond rfl (fun g2 => ?_) (fun g2 => ?_)
    · have k2 : c = 41 ∧ d = 0 := by
        simp only [c41, Bool.and_eq_true, decide_eq_true_eq, beq_iff_eq] at g2
        exact ⟨g2.1, by omega⟩
      rw [if_pos k2] at hI
      have hcl : (cut s (some (IntKind.i64.wrap ((i : Int) + 1))) none).length ≤ 9223372036854775807 := by
        show (s.drop _).length ≤ _
        rw [List.length_drop]
        omega
      have hcu : cut s (some (IntKind.i64.wrap ((i : Int) + 1))) none = s.drop (i + 1) := by
        rw [w64n (y := i + 1) (by omega) (by omega)]; rfl
      cases m with
      | none =>
        refine Tr.seq ?_; refine Tr.seq ?_; refine Tr.region ?_; refine TrL.quiets 7 rfl (by (simp (disch := omega) only [allOf, impO, imp, inR, loOk, and_true, w64, List.length_set, List.length_cons, List.length_nil, Option.getD_none, Option.getD_some, Ty.D, true_and, decide_eq_true_eq, decide_eq_false_iff_not, Bool.and_eq_true, Bool.or_eq_false_iff]; omega)) ?_
        first | refine TrL.callV rfl rfl rfl rfl rfl (c_words_Trim (cut s (some (IntKind.i64.wrap ((i : Int) + 1))) none) hcl) ?_ | refine TrD.callV rfl rfl rfl rfl rfl (c_words_Trim (cut s (some (IntKind.i64.wrap ((i : Int) + 1))) none) hcl) rfl ?_
        refine TrL.quiets 2 rfl (by exact True.intro) ?_; refine TrL.nil ?_
        refine Tr.cond rfl (fun g3 => ?_) (fun g3 => ?_)
        · refine Tr.seq ?_; refine Tr.region ?_; refine TrL.quiets 3 rfl (by exact True.intro) ?_; refine TrL.nil ?_; refine Tr.ret ?_
          refine retQ.of rfl ?_
          rw [hI]
          rfl
        · have g4 : (decide ((-1 : Int) < 0) || trim (cut s (some (IntKind.i64.wrap ((i : Int) + 1))) none) != []) = false := g3
          simp at g4
      | some k =>
        have hk := hm k rfl
        refine Tr.is 6 (sv' := vI ((k : Nat) : Int)) rfl rfl ?_
        refine Tr.seq ?_; refine Tr.seq ?_; refine Tr.region ?_; refine TrL.quiets 7 rfl (by (simp (disch := omega) only [allOf, impO, imp, inR, loOk, and_true, w64, List.length_set, List.length_cons, List.length_nil, Option.getD_none, Option.getD_some, Ty.D, true_and, decide_eq_true_eq, decide_eq_false_iff_not, Bool.and_eq_true, Bool.or_eq_false_iff]; omega)) ?_
        first | refine TrL.callV rfl rfl rfl rfl rfl (c_words_Trim (cut s (some (IntKind.i64.wrap ((i : Int) + 1))) none) hcl) ?_ | refine TrD.callV rfl rfl rfl rfl rfl (c_words_Trim (cut s (some (IntKind.i64.wrap ((i : Int) + 1))) none) hcl) rfl ?_
        refine TrL.quiets 2 rfl (by exact True.intro) ?_; refine TrL.nil ?_
        have g5 : (decide (((k : Nat) : Int) < 0) || trim (cut s (some (IntKind.i64.wrap ((i : Int) + 1))) none) != []) = (trim (s.drop (i + 1)) != []) := by
          rw [hcu, decide_eq_false (by omega), Bool.false_or]
        refine Tr.is 38 (sv' := vB (trim (s.drop (i + 1)) != [])) rfl (congrArg vB g5) ?_
        refine Tr.cond rfl (fun g3 => ?_) (fun g3 => ?_)
        · have g4 : ¬ trim (s.drop (i + 1)) = [] := by simpa using g3
          have hI' : bracketsF s = ([], [], false) := by rw [hI, brkEnd, if_neg g4]
          refine Tr.seq ?_; refine Tr.region ?_; refine TrL.quiets 3 rfl (by exact True.intro) ?_; refine TrL.nil ?_; refine Tr.ret ?_
          refine retQ.of rfl ?_
          rw [hI']
        · have g4 : trim (s.drop (i + 1)) = [] := by simpa using g3
          have hI' : bracketsF s = (right (s.take k), left ((s.take i).drop (k + 1)), true) := by rw [hI, brkEnd, if_pos g4]
          have hk1 := w64n (x := (k : Int) + 1) (y := k + 1) (by omega) (by omega)
          have hcu2 : cut s (some (IntKind.i64.wrap ((k : Int) + 1))) (some (i : Int)) = (s.take i).drop (k + 1) := by rw [hk1]; rfl
          refine Tr.skip ?_; refine Tr.seq ?_; refine Tr.draw (by kernel_rfl) (by kernel_rfl) ?_; refine TrD.quiets 3 rfl (by (simp only [allOf, impO, imp, inR, loOk, and_true]; omega)) ?_
          first | refine TrL.callV rfl rfl rfl rfl rfl (c_TrimRight (s.take k) (by rw [List.length_take]; omega)) ?_ | refine TrD.callV rfl rfl rfl rfl rfl (c_TrimRight (s.take k) (by rw [List.length_take]; omega)) rfl ?_
          refine TrD.quiets 5 rfl (by (simp (disch := omega) only [allOf, impO, imp, inR, loOk, and_true, w64, List.length_set, List.length_cons, List.length_nil, Option.getD_none, Option.getD_some, Ty.D, true_and, decide_eq_true_eq, decide_eq_false_iff_not, Bool.and_eq_true, Bool.or_eq_false_iff]; omega)) ?_
          first | refine TrL.callV rfl rfl rfl rfl rfl (c_words_Left (cut s (some (IntKind.i64.wrap ((k : Int) + 1))) (some (i : Int)))) ?_ | refine TrD.callV rfl rfl rfl rfl rfl (c_words_Left (cut s (some (IntKind.i64.wrap ((k : Int) + 1))) (some (i : Int)))) rfl ?_
          rw [hcu2]
          refine TrD.quiets 3 rfl (by exact True.intro) ?_; refine TrD.nil ?_; refine Tr.ret ?_
          refine retQ.of rfl ?_
          rw [hI']
    have k2 : ¬ (c = 41 ∧ d = 0) := by
      intro k2
      rw [c41, k2.1, k2.2] at g2
      simp at g2
    rw [if_neg k2] at hI
    refine Tr.seq ?_; refine Tr.region ?_; refine TrL.quiets 5 rfl (by (simp only [allOf, impO, imp, inR, loOk, and_true]; omega)) ?_; refine TrL.nil ?_
    refine Tr.cond rfl (fun g3 => ?_) (fun g3 => ?_)
    · have k3 : c = 41 := by rw [c41] at g3; simpa using g3
      have hd1 : d ≠ 0 := fun e => k2 ⟨k3, e⟩
      rw [if_pos k3] at hI
      refine Tr.region ?_; refine TrL.quiets 3 rfl (by exact True.intro) ?_; refine TrL.nil ?_; refine Tr.region ?_; refine TrL.quiets 2 rfl (by exact True.intro) ?_; refine TrL.nil ?_
      refine ⟨(i + 1, d - 1, m), ⟨by omega, by omega, fun k h => by have := hm k h; omega, hI⟩, by dsimp only; omega, ?_⟩
      refine Eq.trans ?_ (stE (d - 1) m)
      refine Eq.trans (b := (⟨[(_, [], _), (_, [], _), (_, [], _), (_, [], _), (_, [], _)], []⟩ : St)) rfl ?_
      rw [w64n (x := (d : Int) - 1) (y := d - 1) (by omega) (by omega)]
    have k3 : ¬ c = 41 := by rw [c41] at g3; simpa using g3
    rw [if_neg k3] at hI
    refine Tr.seq ?_; refine Tr.region ?_; refine TrL.quiets 13 rfl (by (simp only [allOf, impO, imp, inR, loOk, and_true]; omega)) ?_; refine TrL.nil ?_
    have g5 : ((byteAt s (i : Int) == 44) && ((d : Int) == 0) && decide (commaI m < 0)) = decide (c = 44 ∧ d = 0 ∧ m = none) := by
      rw [c44, Bool.eq_iff_iff]
      simp only [Bool.and_eq_true, decide_eq_true_eq, beq_iff_eq]
      cases m with
      | none => simp [commaI]
      | some k => simp [commaI]
    refine Tr.is 56 (sv' := vB (decide (c = 44 ∧ d = 0 ∧ m = none))) rfl (congrArg vB g5) ?_
    refine Tr.cond rfl (fun g4 => ?_) (fun g4 => ?_)
    · have k4 : c = 44 ∧ d = 0 ∧ m = none := of_decide_eq_true g4
      rw [if_pos k4] at hI
      refine Tr.region ?_; refine TrL.quiets 2 rfl (by exact True.intro) ?_; refine TrL.nil ?_; refine Tr.region ?_; refine TrL.quiets 2 rfl (by exact True.intro) ?_; refine TrL.nil ?_
      exact ⟨(i + 1, d, some i), ⟨by omega, by omega, fun k h => by obtain rfl := Option.some.inj h; omega, hI⟩, by dsimp only; omega, stE d (some i)⟩
    · have k4 : ¬ (c = 44 ∧ d = 0 ∧ m = none) := of_decide_eq_false g4
      rw [if_neg k4] at hI
      refine Tr.skip ?_; refine Tr.region ?_; refine TrL.quiets 2 rfl (by exact True.intro) ?_; refine TrL.nil ?_
      exact ⟨(i + 1, d, m), ⟨by omega, by omega, fun k h => by have := hm k h; omega, hI⟩, by dsimp only; omega, stE d m⟩
  · simp only [decide_eq_false_iff_not] at h1
    rw [List.drop_eq_nil_of_le (by omega), brkR] at hI
    refine Tr.exit ?_; refine Tr.seq ?_; refine Tr.region ?_; refine TrL.quiets 3 rfl (by exact True.intro) ?_; refine TrL.nil ?_; refine Tr.ret ?_
    refine retQ.of rfl ?_
    rw [hI]
end Go.Proofs.YtckgeebihhhapaaDoor.Sx
