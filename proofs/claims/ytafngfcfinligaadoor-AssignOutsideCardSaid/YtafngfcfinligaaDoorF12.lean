/-
  AssignOutside.
-/
import Derived.Test.YtafngfcfinligaaDoorF11
set_option linter.unusedVariables false
set_option linter.unusedSimpArgs false
set_option maxRecDepth 20000
set_option maxHeartbeats 4000000
namespace Go.Proofs.YtafngfcfinligaaDoor.Sx
open Go Go.RowKit Go.Proofs

def opn2 (curly : Bool) : Str := if curly then [36, 123] else [36, 40]
def cls (curly : Bool) : Str := if curly then [125] else [41]
/-- Within a reference: what it opens it closes. -/
def Bal (x : Str) : Prop := ∀ d r, outs (d + 1) (x ++ r) = List.replicate x.length false ++ outs (d + 1) r
/-- A reference. -/
def Ref (x : Str) : Prop := (∀ r, outs 0 (x ++ r) = List.replicate x.length false ++ outs 0 r) ∧ x.head? = some 36
theorem bal_base : Bal [120, 58, 59, 61, 121] := by
  intro d r
  have h : decide (d + 1 = 0) = false := by simp
  simp [outs_cons, isOpen, isClose, List.replicate]
theorem bal_step (curly : Bool) {x : Str} (h : Bal x) (d : Nat) (r : Str) : outs d (opn2 curly ++ x ++ cls curly ++ r) = List.replicate (opn2 curly ++ x ++ cls curly).length false ++ outs d r := by
  have h1 : outs d (opn2 curly ++ (x ++ (cls curly ++ r))) = [false, false] ++ outs (d + 1) (x ++ (cls curly ++ r)) := by
    cases curly <;> simp [opn2, outs_cons, isOpen]
  have h2 : outs (d + 1) (cls curly ++ r) = false :: outs d r := by
    cases curly <;> simp [cls, outs_cons, isOpen, isClose]
  have h3 : (opn2 curly ++ x ++ cls curly).length = 2 + (x.length + 1) := by
    cases curly <;> simp [opn2, cls] <;> omega
  rw [List.append_assoc, List.append_assoc, h1, h, h2, h3, ← List.replicate_append_replicate, ← List.replicate_append_replicate]
  simp [List.replicate]
theorem ref_step (curly : Bool) {x : Str} (h : Bal x) : Bal (opn2 curly ++ x ++ cls curly) ∧ Ref (opn2 curly ++ x ++ cls curly) := by
  refine ⟨fun d r => bal_step curly h (d + 1) r, fun r => bal_step curly h 0 r, ?_⟩
  cases curly <;> rfl
theorem all_false (p : UInt8 → Bool) (n : Nat) (x : Str) : noHit p (List.replicate n false) x = true := by
  unfold noHit
  rw [List.all_eq_true]
  rintro ⟨b, c⟩ hq
  have := List.of_mem_zip hq
  rw [(List.mem_replicate.1 this.1).2]
  rfl
theorem Ref.even {x : Str} (h : Ref x) (p : UInt8 → Bool) : Even p x (List.replicate x.length false) := ⟨by simp, h.1, all_false p _ _⟩
/-- References and pairs alone. -/
structure Calm0 (s : Str) : Prop where
  even : ∀ p, ∃ m, Even p s m
  head : ∀ c, s.head? = some c → c = 36
theorem Calm0.nil : Calm0 [] := ⟨fun p => ⟨[], Even.nil p⟩, by simp⟩
theorem pairs_even (p : UInt8 → Bool) : Even p [36, 58, 36, 59] [false, false, false, false] := ⟨rfl, fun r => by simp [outs_cons, isOpen], all_false p 4 _⟩
theorem Calm0.more {s x : Str} (h : Calm0 s) (k : Ref x) : Calm0 (s ++ x ++ [36, 58, 36, 59]) := by
  refine ⟨fun p => ?_, fun c hc => ?_⟩
  · obtain ⟨m, hm⟩ := h.even p
    exact ⟨_, (hm.append (k.even p)).append (pairs_even p)⟩
  · cases s with
    | nil =>
      have h2 := k.2
      cases x with
      | nil => cases h2
      | cons a x =>
        obtain rfl := Option.some.inj h2
        obtain rfl := Option.some.inj hc
        rfl
    | cons a s => exact h.head c hc
theorem Calm0.tight {s : Str} (h : Calm0 s) : Tight (s ++ [97]) := by
  refine ⟨fun c hc => ?_, fun c hc => ?_⟩
  · cases s with
    | nil => obtain rfl := Option.some.inj hc; decide
    | cons a s =>
      obtain rfl := Option.some.inj hc
      rw [h.head a rfl]
      decide
  · rw [List.getLast?_append] at hc
    obtain rfl : (97 : UInt8) = c := by simpa using hc
    decide
theorem a_even (p : UInt8 → Bool) (hp : p 97 = false) : Even p [97] [true] := ⟨rfl, fun r => by rw [List.cons_append, outs_cons]; rfl, by simp [noHit, hp]⟩

theorem place_end {s : Str} (h : Calm0 s) (c : UInt8) (hc : (36 == c) = false) : place c s = -1 := by
  obtain ⟨m, hm⟩ := h.even (· == c)
  rw [place, scan_firstO _ _ hc _ s (Nat.le_refl _)]
  have := hm.first 0 []
  rw [List.append_nil] at this
  rw [this]
  rfl
theorem place_58 {s : Str} (h : Calm0 s) : place 58 (s ++ [97, 58, 98, 59, 99]) = ((s.length + 1 : Nat) : Int) := by
  obtain ⟨m, hm⟩ := h.even (· == 58)
  rw [place, scan_firstO _ _ (by decide) _ _ (Nat.le_refl _), hm.first 0, Nat.zero_add]
  rfl
theorem place_59 {s : Str} (h : Calm0 s) : place 59 (s ++ [97, 58, 98, 59, 99]) = ((s.length + 3 : Nat) : Int) := by
  obtain ⟨m, hm⟩ := h.even (· == 59)
  rw [place, scan_firstO _ _ (by decide) _ _ (Nat.le_refl _), hm.first 0, Nat.zero_add]
  rfl
theorem out_rule {s : Str} (h : Calm0 s) : (readR (s ++ [97, 58, 98, 59, 99])).2.2.2 = false := by
  obtain ⟨m, hm⟩ := h.even pSign
  have := readR_rule (s ++ [97]) [59, 99] _ 98 (hm.append (a_even pSign (by decide))) (by decide) (by decide)
  rw [← this]
  simp
theorem out_reads {s : Str} (h : Calm0 s) : readR (s ++ [97, 61, 98, 58, 59, 99]) = (s ++ [97], [61], [98, 58, 59, 99], true) := by
  obtain ⟨m, hm⟩ := h.even pSign
  have := readR_sign (s ++ [97]) [98, 58, 59, 99] [61] _ (hm.append (a_even pSign (by decide))) (by unfold calm; simp) (by decide)
  rw [h.tight.trim] at this
  have e : s ++ [97] ++ ([61] ++ [98, 58, 59, 99]) = s ++ [97, 61, 98, 58, 59, 99] := by simp
  rw [e] at this
  rw [this]
  rfl

theorem place8 (v n : Int) (hn : 0 < n) : ∃ a : Nat, v % n = (a : Int) ∧ (a : Int) < n := ⟨(v % n).toNat, by have := Int.emod_nonneg v (show n ≠ 0 by omega); omega, by have := Int.emod_nonneg v (show n ≠ 0 by omega); have := Int.emod_lt_of_pos v hn; omega⟩
theorem c_AssignOutside (n deep : Int) (curly : Bool) (hn1 : -9223372036854775808 ≤ n) (hn2 : n ≤ 9223372036854775807) (hd1 : -9223372036854775808 ≤ deep) (hd2 : deep ≤ 9223372036854775807) :
    CallV Tryd.prog 5 [vI n, vI deep, vB curly] (vB true) := by
  obtain ⟨a, ha, ha8⟩ := place8 n 8 (by decide)
  obtain ⟨b, hb, hb8⟩ := place8 deep 8 (by decide)
  refine CallV.of Tryd.func5 (by kernel_rfl) rfl Tryd.ntmps5 (by simp) rfl fun cx hB => ?_
  refine Tr.seq ?_; refine Tr.region ?_; refine TrL.quiets 1 rfl (by exact True.intro) ?_; refine TrL.nil ?_; refine Tr.seq ?_; refine Tr.region ?_; refine TrL.quiets 1 rfl (by exact True.intro) ?_
  first | refine TrL.callV rfl rfl rfl rfl rfl (c_Place _ 8 (by decide) (by decide) hn1 hn2) ?_ | refine TrD.callV rfl rfl rfl rfl rfl (c_Place _ 8 (by decide) (by decide) hn1 hn2) rfl ?_
  refine TrL.quiets 1 rfl (by exact True.intro) ?_
  first | refine TrL.callV rfl rfl rfl rfl rfl (c_Place _ 8 (by decide) (by decide) hd1 hd2) ?_ | refine TrD.callV rfl rfl rfl rfl rfl (c_Place _ 8 (by decide) (by decide) hd1 hd2) rfl ?_
  refine TrL.quiets 2 rfl (by exact True.intro) ?_; refine TrL.nil ?_; refine Tr.seq ?_; refine Tr.region ?_; refine TrL.quiets 2 rfl (by exact True.intro) ?_; refine TrL.nil ?_
  refine Tr.join (fun _ : Unit => ⟨[(7, [], vI (a : Int)), (8, [], vI (b : Int)), (9, [], vS (opn2 curly)), (10, [], vS (cls curly))], []⟩) (fun _ => True) [7, 8, 9, 10] 0 hB ?_ fun _ _ => ?_
  · refine Tr.seq ?_; refine Tr.region ?_; refine TrL.quiets 1 rfl (by exact True.intro) ?_; refine TrL.nil ?_
    refine Tr.cond rfl (fun h3 => ?_) (fun h3 => ?_)
    · obtain rfl : curly = true := h3
      refine Tr.region ?_; refine TrL.quiets 2 rfl (by exact True.intro) ?_; refine TrL.nil ?_
      refine ⟨(), trivial, ?_⟩
      refine Eq.trans (b := (⟨[(_, [], _), (_, [], _), (_, [], _), (_, [], _)], []⟩ : St)) rfl ?_
      rw [ha, hb]
      rfl
    · obtain rfl : curly = false := h3
      refine Tr.skip ?_
      refine ⟨(), trivial, ?_⟩
      refine Eq.trans (b := (⟨[(_, [], _), (_, [], _), (_, [], _), (_, [], _)], []⟩ : St)) rfl ?_
      rw [ha, hb]
      rfl
  have hol : (opn2 curly).length = 2 := by cases curly <;> rfl
  have hcl : (cls curly).length = 1 := by cases curly <;> rfl
  refine Tr.seq ?_; refine Tr.region ?_; refine TrL.quiets 1 rfl (by exact True.intro) ?_; refine TrL.nil ?_; refine Tr.seq ?_; refine Tr.seq ?_; refine Tr.region ?_; refine TrL.quiets 1 rfl (by exact True.intro) ?_; refine TrL.nil ?_; refine Tr.block ?_
  refine Tr.loop (fun ((i, x) : Nat × Str) => ⟨[(7, [], vI (a : Int)), (8, [], vI (b : Int)), (9, [], vS (opn2 curly)), (10, [], vS (cls curly)), (11, [], vS x), (12, [], vI i)], []⟩)
    (fun (i, x) => i ≤ b + 1 ∧ x.length ≤ 5 + 3 * i ∧ Bal x ∧ (0 < i → Ref x)) (fun (i, x) => b + 1 - i) (0, [120, 58, 59, 61, 121]) [7, 8, 9, 10, 11, 12] 0 hB rfl ⟨Nat.zero_le _, by decide, bal_base, fun h => absurd h (by decide)⟩ fun x hx => ?_
  obtain ⟨i, x⟩ := x
  obtain ⟨hi, hl, hx, hr⟩ := hx
  refine Tr.seq ?_; refine Tr.seq ?_; refine Tr.region ?_; refine TrL.quiets 3 rfl (by exact True.intro) ?_; refine TrL.nil ?_
  refine Tr.cond rfl (fun h1 => ?_) (fun h1 => ?_)
  · simp only [decide_eq_true_eq] at h1
    refine Tr.skip ?_; refine Tr.seq ?_; refine Tr.block ?_; refine Tr.region ?_; refine TrL.quiets 6 rfl (by (simp (disch := omega) only [allOf, impO, imp, inR, loOk, and_true, w64, List.length_set, List.length_cons, List.length_nil, cut, List.length_take, List.length_drop, List.length_append, Int.toNat_natCast, Option.getD_none, Option.getD_some, Ty.D, true_and, decide_eq_true_eq, decide_eq_false_iff_not, Bool.and_eq_true, Bool.or_eq_false_iff]; omega)) ?_; refine TrL.nil ?_; refine Tr.region ?_; refine TrL.quiets 3 rfl (by exact True.intro) ?_; refine TrL.nil ?_
    obtain ⟨r1, r2⟩ := ref_step curly hx
    refine ⟨(i + 1, opn2 curly ++ x ++ cls curly), ⟨by omega, by simp only [List.length_append]; omega, r1, fun _ => r2⟩, by dsimp only; omega, ?_⟩
    refine Eq.trans (b := (⟨[(_, [], _), (_, [], _), (_, [], _), (_, [], _), (_, [], _), (_, [], _)], []⟩ : St)) rfl ?_
    rw [w64n (y := i + 1) (by omega) (by omega)]
  simp only [decide_eq_false_iff_not] at h1
  have hx := hr (by omega)
  refine Tr.exit ?_; refine Tr.seq ?_; refine Tr.region ?_; refine TrL.quiets 1 rfl (by exact True.intro) ?_; refine TrL.nil ?_; refine Tr.seq ?_; refine Tr.seq ?_; refine Tr.region ?_; refine TrL.quiets 1 rfl (by exact True.intro) ?_; refine TrL.nil ?_; refine Tr.block ?_
  refine Tr.loop (fun ((j, s) : Nat × Str) => ⟨[(7, [], vI (a : Int)), (11, [], vS x), (13, [], vS s), (14, [], vI j)], []⟩)
    (fun (j, s) => j ≤ a ∧ s.length ≤ 100 * j ∧ Calm0 s) (fun (j, s) => a - j) (0, []) [7, 11, 13, 14] 0 hB rfl ⟨Nat.zero_le _, by decide, Calm0.nil⟩ fun z hz => ?_
  obtain ⟨j, s⟩ := z
  obtain ⟨hj, hsl, hs⟩ := hz
  refine Tr.seq ?_; refine Tr.seq ?_; refine Tr.region ?_; refine TrL.quiets 3 rfl (by exact True.intro) ?_; refine TrL.nil ?_
  refine Tr.cond rfl (fun h2 => ?_) (fun h2 => ?_)
  · simp only [decide_eq_true_eq] at h2
    refine Tr.skip ?_; refine Tr.seq ?_; refine Tr.block ?_; refine Tr.region ?_; refine TrL.quiets 5 rfl (by (simp (disch := omega) only [allOf, impO, imp, inR, loOk, and_true, w64, List.length_set, List.length_cons, List.length_nil, cut, List.length_take, List.length_drop, List.length_append, Int.toNat_natCast, Option.getD_none, Option.getD_some, Ty.D, true_and, decide_eq_true_eq, decide_eq_false_iff_not, Bool.and_eq_true, Bool.or_eq_false_iff]; omega)) ?_; refine TrL.nil ?_; refine Tr.region ?_; refine TrL.quiets 3 rfl (by exact True.intro) ?_; refine TrL.nil ?_
    refine ⟨(j + 1, s ++ x ++ [36, 58, 36, 59]), ⟨by omega, by simp only [List.length_append, List.length_cons, List.length_nil]; omega, hs.more hx⟩, by dsimp only; omega, ?_⟩
    refine Eq.trans (b := (⟨[(_, [], _), (_, [], _), (_, [], _), (_, [], _)], []⟩ : St)) rfl ?_
    rw [w64n (y := j + 1) (by omega) (by omega)]
  refine Tr.exit ?_; refine Tr.seq ?_; refine Tr.region ?_; refine TrL.quiets 3 rfl (by (simp (disch := omega) only [allOf, impO, imp, inR, loOk, and_true, w64, List.length_set, List.length_cons, List.length_nil, Option.getD_none, Option.getD_some, Ty.D, true_and, decide_eq_true_eq, decide_eq_false_iff_not, Bool.and_eq_true, Bool.or_eq_false_iff]; omega)) ?_; refine TrL.nil ?_; refine Tr.seq ?_; refine Tr.region ?_; refine TrL.quiets 1 rfl (by exact True.intro) ?_
  first | refine TrL.callV rfl rfl rfl rfl rfl (c_assign_Read _ (by simp only [List.length_append, List.length_cons, List.length_nil]; omega)) ?_ | refine TrD.callV rfl rfl rfl rfl rfl (c_assign_Read _ (by simp only [List.length_append, List.length_cons, List.length_nil]; omega)) rfl ?_
  refine TrL.quiets 9 rfl (by exact True.intro) ?_; refine TrL.nil ?_; refine Tr.seq ?_; refine Tr.region ?_; refine TrL.quiets 2 rfl (by (simp (disch := omega) only [allOf, impO, imp, inR, loOk, and_true, w64, List.length_set, List.length_cons, List.length_nil, Option.getD_none, Option.getD_some, Ty.D, true_and, decide_eq_true_eq, decide_eq_false_iff_not, Bool.and_eq_true, Bool.or_eq_false_iff]; omega)) ?_
  first | refine TrL.callV rfl rfl rfl rfl rfl (c_assign_Read _ (by simp only [List.length_append, List.length_cons, List.length_nil]; omega)) ?_ | refine TrD.callV rfl rfl rfl rfl rfl (c_assign_Read _ (by simp only [List.length_append, List.length_cons, List.length_nil]; omega)) rfl ?_
  refine TrL.is 60 (sv' := tup4 (s ++ [97], [61], [98, 58, 59, 99], true)) rfl (congrArg tup4 (out_reads hs)) ?_
  refine TrL.quiets 9 rfl (by exact True.intro) ?_; refine TrL.nil ?_; refine Tr.seq ?_; refine Tr.region ?_; refine TrL.quiets 1 rfl (by exact True.intro) ?_
  first | refine TrL.callV rfl rfl rfl rfl rfl (c_assign_Colon _ (by omega)) ?_ | refine TrD.callV rfl rfl rfl rfl rfl (c_assign_Colon _ (by omega)) rfl ?_
  refine TrL.quiets 3 rfl (by exact True.intro) ?_
  first | refine TrL.callV rfl rfl rfl rfl rfl (c_assign_Semi _ (by omega)) ?_ | refine TrD.callV rfl rfl rfl rfl rfl (c_assign_Semi _ (by omega)) rfl ?_
  refine TrL.quiets 4 rfl (by exact True.intro) ?_
  first | refine TrL.callV rfl rfl rfl rfl rfl (c_assign_Colon _ (by simp only [List.length_append, List.length_cons, List.length_nil]; omega)) ?_ | refine TrD.callV rfl rfl rfl rfl rfl (c_assign_Colon _ (by simp only [List.length_append, List.length_cons, List.length_nil]; omega)) rfl ?_
  refine TrL.quiets 7 rfl (by exact True.intro) ?_
  first | refine TrL.callV rfl rfl rfl rfl rfl (c_assign_Semi _ (by simp only [List.length_append, List.length_cons, List.length_nil]; omega)) ?_ | refine TrD.callV rfl rfl rfl rfl rfl (c_assign_Semi _ (by simp only [List.length_append, List.length_cons, List.length_nil]; omega)) rfl ?_
  refine TrL.quiets 27 rfl (by (simp (disch := omega) only [allOf, impO, imp, inR, loOk, and_true, w64, List.length_set, List.length_cons, List.length_nil, Option.getD_none, Option.getD_some, Ty.D, true_and, decide_eq_true_eq, decide_eq_false_iff_not, Bool.and_eq_true, Bool.or_eq_false_iff]; omega)) ?_; refine TrL.callV rfl rfl rfl rfl rfl (by apply (c_awake24) <;> first | assumption | omega | (simp only [cut, List.length_take, List.length_drop, Int.toNat_natCast]; omega)) ?_; refine TrL.quiets 2 rfl (by exact True.intro) ?_; refine TrL.nil ?_; refine Tr.ret ?_
  refine retQ.of rfl ?_
  refine congrArg vB ?_
  have e1 := place_end hs 58 (by decide)
  have e2 := place_end hs 59 (by decide)
  have e3 := place_58 hs
  have e4 := place_59 hs
  have e5 := out_rule hs
  show (((((((((place 58 s == -1 && place 59 s == -1) && place 58 (s ++ [97, 58, 98, 59, 99]) == IntKind.i64.wrap ((s.length : Int) + 1)) && place 59 (s ++ [97, 58, 98, 59, 99]) == IntKind.i64.wrap ((s.length : Int) + 3)) &&
    !(readR (s ++ [97, 58, 98, 59, 99])).2.2.2) && true) && s ++ [97] == s ++ [97]) && ([61] : Str) == [61]) && ([98, 58, 59, 99] : Str) == [98, 58, 59, 99]) && true) = true
  rw [e1, e2, e3, e4, e5, w64n (y := s.length + 1) (by omega) (by omega), w64n (y := s.length + 3) (by omega) (by omega)]
  simp
end Go.Proofs.YtafngfcfinligaaDoor.Sx
