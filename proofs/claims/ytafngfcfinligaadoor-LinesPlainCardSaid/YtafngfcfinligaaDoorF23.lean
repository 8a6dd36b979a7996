/-
  Lines: a line without its remark.
-/
import Derived.Test.YtafngfcfinligaaDoorF22
set_option linter.unusedVariables false
set_option linter.unusedSimpArgs false
set_option maxRecDepth 20000
set_option maxHeartbeats 4000000
namespace Go.Proofs.YtafngfcfinligaaDoor.Sx
open Go Go.RowKit Go.Proofs

/-! ### Plain -/
def bareR : Str → Nat → Str → Str
  | t, _, [] => t
  | t, b, c :: r => if c = 92 then bareR (t ++ [c]) (b + 1) r else if c = 35 then (if b % 2 = 0 then t.take (t.length - b + b / 2) else bareR (t.take (t.length - b + b / 2) ++ [c]) 0 r) else bareR (t ++ [c]) 0 r
def bare (s : Str) : Str := bareR [] 0 s
theorem bareR_scan (rest : Str) : ∀ (x t pre : Str), (∀ c ∈ x, c ≠ 35) → bareR t (bsl pre) (x ++ rest) = bareR (t ++ x) (bsl (pre ++ x)) rest
  | [], t, pre, _ => by simp
  | c :: x, t, pre, h => by
    have hc : c ≠ 35 := h c (by simp)
    have ih := bareR_scan rest x (t ++ [c]) (pre ++ [c]) (fun d hd => h d (by simp [hd]))
    simp only [List.cons_append, bareR]
    rw [bsl_snoc] at ih
    by_cases h92 : c = 92
    · rw [if_pos h92]
      rw [if_pos h92] at ih
      rw [ih]
      simp
    · rw [if_neg h92, if_neg hc]
      rw [if_neg h92] at ih
      rw [ih]
      simp
theorem bareR_none (t x : Str) (h : ∀ c ∈ x, c ≠ 35) : bareR t 0 x = t ++ x := by
  have := bareR_scan [] x t [] h
  rw [bsl_nil, List.append_nil] at this
  rw [this]
  rfl
theorem bareR_hit (t x r : Str) (h : ∀ c ∈ x, c ≠ 35) : bareR t 0 (x ++ 35 :: r) = if bsl x % 2 = 0 then t ++ x.take (x.length - bsl x + bsl x / 2) else bareR (t ++ x.take (x.length - bsl x + bsl x / 2) ++ [35]) 0 r := by
  have h1 := bareR_scan (35 :: r) x t [] h
  rw [bsl_nil, List.nil_append] at h1
  have hb := bsl_le x
  have h2 : (t ++ x).take ((t ++ x).length - bsl x + bsl x / 2) = t ++ x.take (x.length - bsl x + bsl x / 2) := by
    rw [List.take_append, List.take_of_length_le (by simp; omega)]
    congr 2
    simp
    omega
  rw [h1]
  simp only [bareR]
  rw [if_neg (by decide), h2]
  simp only [if_true]

theorem takeWhile_mem {p : UInt8 → Bool} : ∀ (l : Str) (c : UInt8), c ∈ l.takeWhile p → p c = true
  | [], c, h => by simp at h
  | d :: l, c, h => by
    simp only [List.takeWhile_cons] at h
    split at h
    · rename_i hd
      rcases List.mem_cons.1 h with rfl | h
      · exact hd
      · exact takeWhile_mem l c h
    · simp at h

/-! ### The walk -/
theorem c_Bare (s : Str) (hs : s.length ≤ 1099511627775) : CallV Tryd.prog 44 [vS s] (vS (bare s)) := by
  refine CallV.ofC Tryd.func44 (by kernel_rfl) rfl Tryd.ntmps44 (by simp) rfl fun cx hB hcl => ?_
  refine Tr.seq ?_; refine Tr.region ?_; refine TrL.quiets 1 rfl (by exact True.intro) ?_; refine TrL.nil ?_; refine Tr.seq ?_; refine Tr.region ?_; refine TrL.eff (effBox_sound rfl) (by exact True.intro) ?_; refine TrL.nil ?_; refine Tr.block ?_
  refine Tr.nilBox 0 1 5 (.int .u8) rfl rfl ?_
  refine Tr.mptr 0 0 rfl rfl ?_
  refine Tr.loop (fun (x : Str × Str) => ⟨[(0, [], vS x.2), (3, [], .ptr 0 0)], bldT 84 5 x.1⟩)
    (fun x => x.1.length + x.2.length ≤ s.length ∧ bare s = bareR x.1 0 x.2) (fun x => x.2.length) ([], s) [0, 3] 2 (fun i h => by have := hB i h; omega) rfl ⟨by simp, rfl⟩ fun x hx => ?_
  obtain ⟨u, r⟩ := x
  obtain ⟨hx1, hx2⟩ := hx
  simp only at hx1 hx2
  refine Tr.block ?_; refine Tr.seq ?_; refine Tr.region ?_; refine TrL.quiets 1 rfl (by exact True.intro) ?_
  first | refine TrL.callV rfl rfl rfl rfl rfl (c_IndexByte ..) ?_ | refine TrD.callV rfl rfl rfl rfl rfl (c_IndexByte ..) rfl ?_
  have hix := indexByte_tw 35 r
  refine TrL.quiets 1 rfl (by exact True.intro) ?_; refine TrL.nil ?_; refine Tr.seq ?_; refine Tr.seq ?_; refine Tr.region ?_; refine TrL.quiets 2 rfl (by exact True.intro) ?_; refine TrL.nil ?_
  refine Tr.cond rfl (fun h1 => ?_) (fun h1 => ?_)
  · refine Tr.seq ?_; refine Tr.region ?_; refine TrL.quiets 1 rfl (by exact True.intro) ?_
    refine TrL.callT [0, 1] rfl rfl rfl rfl rfl (c_WriteString u r (by omega)) rfl rfl rfl ?_
    refine TrL.nil ?_; refine Tr.seq ?_; refine Tr.region ?_
    refine TrL.built hcl hB builder_String enters_String rfl rfl rfl rfl rfl rfl rfl ?_
    refine TrL.quiets 1 rfl (by exact True.intro) ?_; refine TrL.nil ?_; refine Tr.ret ?_
    refine retQ.of rfl ?_
    refine congrArg vS ?_
    rw [hx2]
    refine (bareR_none u r fun c hc e => ?_).symm
    have hlt : Lib.indexByte r 35 < 0 := of_decide_eq_true h1
    have := Lib.contains_iff_indexByte r 35
    rw [List.contains_iff_mem.2 (e ▸ hc)] at this
    have := of_decide_eq_true this.symm
    omega
  obtain ⟨x, hxe⟩ : ∃ x, r.takeWhile (fun c => c != 35) = x := ⟨_, rfl⟩
  rw [hxe] at hix
  have hlt : x.length < r.length := by
    have h3 : ¬ Lib.indexByte r 35 < 0 := of_decide_eq_false h1
    by_cases h : x.length < r.length
    · exact h
    · rw [hix, if_neg h] at h3; omega
  rw [if_pos hlt] at hix
  have hno : ∀ c ∈ x, c ≠ 35 := by
    intro c hc
    rw [← hxe] at hc
    have := takeWhile_mem r c hc
    simpa using this
  have hr : r = x ++ 35 :: r.drop (x.length + 1) := by
    have h1 := List.takeWhile_append_dropWhile (p := fun c : UInt8 => c != 35) (l := r)
    rw [hxe] at h1
    cases hd : r.dropWhile (fun c : UInt8 => c != 35) with
    | nil => rw [hd, List.append_nil] at h1; rw [← h1] at hlt; omega
    | cons c t =>
      have hc : c = 35 := by
        have := List.head?_dropWhile_not (fun c : UInt8 => c != 35) r
        rw [hd] at this
        simpa using this
      rw [hd, hc] at h1
      have h2 : r.drop (x.length + 1) = t := by
        conv => lhs; rw [← h1]
        simp
      rw [h2]; exact h1.symm
  have htake : r.take x.length = x := by
    conv => lhs; rw [hr]
    simp
  have hq := bsl_le x
  obtain ⟨q, hqe⟩ : ∃ q, bsl x = q := ⟨_, rfl⟩
  have hit := bareR_hit u x (r.drop (x.length + 1)) hno
  rw [← hr, ← hx2, hqe] at hit
  rw [hqe] at hq
  refine Tr.is 4 (sv' := vI (x.length : Int)) rfl (congrArg vI hix) ?_
  refine Tr.skip ?_; refine Tr.seq ?_; refine Tr.region ?_; refine TrL.quiets 2 rfl (by exact True.intro) ?_
  first | refine TrL.callV rfl rfl rfl rfl rfl (c_quotes r x.length (by omega) (by omega)) ?_ | refine TrD.callV rfl rfl rfl rfl rfl (c_quotes r x.length (by omega) (by omega)) rfl ?_
  rw [htake, hqe]
  have w1 : IntKind.i64.wrap (IntKind.i64.wrap ((x.length : Int) - (q : Int)) + IntKind.i64.wrap (Int.tdiv (q : Int) 2)) = ((x.length - q + q / 2 : Nat) : Int) := by
    have e : Int.tdiv (q : Int) 2 = ((q / 2 : Nat) : Int) := by
      rw [Int.tdiv_eq_ediv_of_nonneg (by omega)]; omega
    rw [e, w64 (x := (x.length : Int) - (q : Int)) (by omega) (by omega), w64 (x := ((q / 2 : Nat) : Int)) (by omega) (by omega)]
    exact w64n (by omega) (by omega)
  have e1 : cut r none (some ((x.length - q + q / 2 : Nat) : Int)) = x.take (x.length - q + q / 2) := by
    show r.take (x.length - q + q / 2) = _
    conv => lhs; rw [hr]
    rw [List.take_append_of_le_length (by omega)]
  have htl : (x.take (x.length - q + q / 2)).length = x.length - q + q / 2 := by simp; omega
  refine TrL.quiets 1 rfl (by exact True.intro) ?_; refine TrL.nil ?_; refine Tr.seq ?_; refine Tr.region ?_
  refine TrL.quiets 7 rfl ?_ ?_
  · simp only [allOf, impO, imp, and_true]
    decide
  refine TrL.is 22 (sv' := vI ((x.length - q + q / 2 : Nat) : Int)) rfl (congrArg vI w1) ?_
  refine TrL.quiets 1 rfl (by (simp only [allOf, impO, imp, inR, loOk, and_true]; omega)) ?_
  refine TrL.is 23 (sv' := vS (x.take (x.length - q + q / 2))) rfl (congrArg vS e1) ?_
  refine TrL.callT [0, 1] rfl rfl rfl rfl rfl (c_WriteString u (x.take (x.length - q + q / 2)) (by omega)) rfl rfl rfl ?_
  refine TrL.nil ?_; refine Tr.seq ?_; refine Tr.seq ?_; refine Tr.region ?_; refine TrL.quiets 3 rfl (by (simp only [allOf, impO, imp, inR, loOk, and_true]; omega)) ?_; refine TrL.nil ?_
  have hev : (Int.tmod (q : Int) 2 == 0) = decide (q % 2 = 0) := by
    rw [show (2 : Int) = ((2 : Nat) : Int) from rfl, Int.tmod_eq_emod_of_nonneg (by omega), Bool.eq_iff_iff]
    simp only [beq_iff_eq, decide_eq_true_eq]
    omega
  refine Tr.cond rfl (fun h4 => ?_) (fun h4 => ?_)
  · have h5 : q % 2 = 0 := by
      rw [hev] at h4
      exact of_decide_eq_true h4
    rw [if_pos h5] at hit
    refine Tr.seq ?_; refine Tr.region ?_
    refine TrL.built hcl hB builder_String enters_String rfl rfl rfl rfl rfl rfl rfl ?_
    refine TrL.quiets 1 rfl (by exact True.intro) ?_; refine TrL.nil ?_; refine Tr.ret ?_
    refine retQ.of rfl ?_
    exact congrArg vS hit.symm
  have h5 : ¬ q % 2 = 0 := by
    rw [hev] at h4
    exact of_decide_eq_false h4
  rw [if_neg h5] at hit
  refine Tr.skip ?_; refine Tr.seq ?_; refine Tr.region ?_
  refine TrL.callT [0, 1] rfl rfl rfl rfl rfl (c_WriteByte (u ++ x.take (x.length - q + q / 2)) 35 (by simp; omega)) rfl rfl rfl ?_
  refine TrL.nil ?_; refine Tr.region ?_; refine TrL.quiets 5 rfl (by (simp (disch := omega) only [allOf, impO, imp, inR, loOk, and_true, w64, List.length_set, List.length_cons, List.length_nil, Option.getD_none, Option.getD_some, Ty.D, true_and, decide_eq_true_eq, decide_eq_false_iff_not, Bool.and_eq_true, Bool.or_eq_false_iff]; omega)) ?_; refine TrL.nil ?_
  refine ⟨(u ++ x.take (x.length - q + q / 2) ++ [35], r.drop (x.length + 1)), ⟨?_, hit⟩, ?_, ?_⟩
  · simp only [List.length_append, htl, List.length_cons, List.length_nil, List.length_drop]
    omega
  · simp only [List.length_drop]
    omega
  · refine Eq.trans (b := (⟨[(_, [], _), (_, [], _)], [_, _]⟩ : St)) rfl ?_
    rw [w64n (y := x.length + 1) (by omega) (by omega)]
    rfl
end Go.Proofs.YtafngfcfinligaaDoor.Sx
