/-
  cond: the word that a line begins with.
-/
import Derived.Test.YtckgeebihhhapaaDoorF14
import Derived.Test.YtckgeebihhhapaaDoorSxW
set_option linter.unusedVariables false
set_option linter.unusedSimpArgs false
set_option maxRecDepth 20000
set_option maxHeartbeats 4000000
namespace Go.Proofs.YtckgeebihhhapaaDoor.Sx
open Go Go.RowKit Go.Proofs

/-! ### Plain -/
abbrev opens : Str := [40, 39, 34]
abbrev wIfeq : Str := [105, 102, 101, 113]
abbrev wIfneq : Str := [105, 102, 110, 101, 113]
abbrev wIfdef : Str := [105, 102, 100, 101, 102]
abbrev wIfndef : Str := [105, 102, 110, 100, 101, 102]
abbrev wElse : Str := [101, 108, 115, 101]
abbrev wEndif : Str := [101, 110, 100, 105, 102]
abbrev sixW : List Str := [wIfeq, wIfneq, wIfdef, wIfndef, wElse, wEndif]
/-- May this stand behind a word? -/
def okAfter (w rest : Str) : Bool := rest == [] || Lib.indexAny (rest.take 1) blanks ≥ 0 || ((w == wIfeq || w == wIfneq) && decide (Lib.indexAny (rest.take 1) opens ≥ 0))
def startW (t : Str) : List Str → Str × Str
  | [] => ([], [])
  | w :: r => if hasPre t w && okAfter w (t.drop w.length) then (w, t.drop w.length) else startW t r
def startF (s : Str) : Str × Str := startW (left s) sixW

theorem c_ContainsAny (s ch : Str) (hs : s.length ≤ 4294967280) (hl2 : 2 ≤ ch.length) (hl3 : ch.length ≤ 3) (hch : ∀ x ∈ ch, x.toNat < 128) : CallV Tryd.prog 78 [vS s, vS ch] (vB (decide (Lib.indexAny s ch ≥ 0))) := by
  refine CallV.of Tryd.func78 (by kernel_rfl) rfl Tryd.ntmps78 (by simp) rfl fun cx hB => ?_
  refine Tr.seq ?_; refine Tr.region ?_; refine TrL.quiets 1 rfl (by exact True.intro) ?_; refine TrL.nil ?_; refine Tr.seq ?_; refine Tr.region ?_; refine TrL.quiets 2 rfl (by exact True.intro) ?_
  first | refine TrL.callV rfl rfl rfl rfl rfl (c_IndexAnyC s ch hs hl2 hl3 hch) ?_ | refine TrD.callV rfl rfl rfl rfl rfl (c_IndexAnyC s ch hs hl2 hl3 hch) rfl ?_
  refine TrL.quiets 2 rfl (by exact True.intro) ?_; refine TrL.nil ?_; refine Tr.ret ?_
  refine retQ.of rfl ?_
  rfl
theorem c_start (s : Str) (hs : s.length ≤ 1099511627776) : CallV Tryd.prog 52 [vS s] (.tup [vS (startF s).1, vS (startF s).2]) := by
  refine CallV.of Tryd.func52 (by kernel_rfl) rfl Tryd.ntmps52 (by simp) rfl fun cx hB => ?_
  refine Tr.seq ?_; refine Tr.region ?_; refine TrL.quiets 2 rfl (by exact True.intro) ?_; refine TrL.nil ?_; refine Tr.seq ?_; refine Tr.region ?_; refine TrL.quiets 1 rfl (by exact True.intro) ?_
  first | refine TrL.callV rfl rfl rfl rfl rfl (c_words_Left s) ?_ | refine TrD.callV rfl rfl rfl rfl rfl (c_words_Left s) rfl ?_
  refine TrL.quiets 1 rfl (by exact True.intro) ?_; refine TrL.nil ?_; refine Tr.seq ?_; refine Tr.seq ?_; refine Tr.region ?_; refine TrL.eff (effLit_sound rfl) (by exact True.intro) ?_; refine TrL.quiets 2 rfl (by exact True.intro) ?_; refine TrL.nil ?_; refine Tr.block ?_
  refine Tr.loop (fun (i : Nat) => ⟨[(0, [], vS (left s)), (11, [], .fix .str sixW), (12, [], vI 6), (13, [], vI i)], []⟩) (fun i => i ≤ 6 ∧ startF s = startW (left s) (sixW.drop i)) (fun i => 6 - i) 0 [0, 11, 12, 13] 0 hB rfl ⟨Nat.zero_le _, rfl⟩ fun i hi => ?_
  obtain ⟨hi, hI⟩ := hi
  have hls := left_length s
  refine Tr.seq ?_; refine Tr.region ?_; refine TrL.quiets 1 rfl (by exact True.intro) ?_; refine TrL.nil ?_; refine Tr.seq ?_
  refine Tr.cond rfl (fun h1 => ?_) (fun h1 => ?_)
  · simp only [decide_eq_true_eq] at h1
    have hi1 : i < sixW.length := by show i < 6; omega
    obtain ⟨w, hw⟩ : ∃ w, nth (t := .str) sixW (i : Int) = w := ⟨_, rfl⟩
    have hw2 : sixW[i] = w := by rw [← hw, nth_get' (t := .str) sixW i hi1]
    rw [List.drop_eq_getElem_cons hi1, hw2, startW] at hI
    refine Tr.skip ?_; refine Tr.seq ?_; refine Tr.block ?_; refine Tr.seq ?_; refine Tr.region ?_; refine TrL.quiets 3 rfl (by (simp only [allOf, impO, imp, inR, loOk, and_true]; omega)) ?_; refine TrL.nil ?_
    refine Tr.is 5 (sv' := vS w) rfl (congrArg vS hw) ?_
    refine Tr.seq ?_; refine Tr.region ?_; refine TrL.quiets 2 rfl (by exact True.intro) ?_
    first | refine TrL.callV rfl rfl rfl rfl rfl (c_CutPrefix ..) ?_ | refine TrD.callV rfl rfl rfl rfl rfl (c_CutPrefix ..) rfl ?_
    have hnext : (⟨[(0, [], vS (left s)), (11, [], .fix .str sixW), (12, [], vI 6), (13, [], vI (IntKind.i64.wrap ((i : Int) + 1)))], []⟩ : St) = ⟨[(0, [], vS (left s)), (11, [], .fix .str sixW), (12, [], vI 6), (13, [], vI ((i + 1 : Nat) : Int))], []⟩ := by
      rw [w64n (y := i + 1) (by omega) (by omega)]
    refine TrL.quiets 5 rfl (by exact True.intro) ?_; refine TrL.nil ?_; refine Tr.seq ?_; refine Tr.seq ?_; refine Tr.region ?_; refine TrL.quiets 2 rfl (by exact True.intro) ?_; refine TrL.nil ?_
    refine Tr.cond rfl (fun h2 => ?_) (fun h2 => ?_)
    · have hp : hasPre (left s) w = false := by simpa using h2
      rw [hp] at hI
      refine Tr.exit ?_; refine Tr.region ?_; refine TrL.quiets 2 rfl (by exact True.intro) ?_; refine TrL.nil ?_
      exact ⟨i + 1, ⟨by omega, by rw [hI]; rfl⟩, by dsimp only; omega, hnext⟩
    · have hp : hasPre (left s) w = true := by simpa using h2
      have ht : trimPre (left s) w = (left s).drop w.length := if_pos hp
      rw [hp] at hI
      obtain ⟨r, hr⟩ : ∃ r, (left s).drop w.length = r := ⟨_, rfl⟩
      have hrl : r.length ≤ s.length := by rw [← hr, List.length_drop]; omega
      rw [hr] at hI ht
      refine Tr.is 6 (sv' := vS r) rfl (congrArg vS ht) ?_
      have hpos : (r == []) = false → 1 ≤ r.length := fun h => by
        cases r with
        | nil => cases h
        | cons c r => simp
      have hone : (r.take 1).length ≤ 4294967280 := by rw [List.length_take]; omega
      refine Tr.skip ?_; refine Tr.seq ?_; refine Tr.region ?_; refine TrL.quiets 7 rfl (by exact True.intro) ?_; refine TrL.nil ?_; refine Tr.seq ?_; refine Tr.region ?_; refine TrL.quiets 5 rfl ?_ ?_
      · simp only [allOf, impO, imp, loOk, and_true]
        intro h
        have := hpos h
        omega
      first | refine TrL.callV rfl rfl rfl rfl rfl (c_ContainsAny (r.take 1) blanks hone (by decide) (by decide) (by decide)) ?_ | refine TrD.callV rfl rfl rfl rfl rfl (c_ContainsAny (r.take 1) blanks hone (by decide) (by decide) (by decide)) rfl ?_
      refine TrL.quiets 6 rfl ?_ ?_
      · simp only [allOf, impO, imp, loOk, and_true]
        intro _ h
        rw [Bool.or_eq_false_iff] at h
        have := hpos h.1
        omega
      first | refine TrL.callV rfl rfl rfl rfl rfl (c_ContainsAny (r.take 1) opens hone (by decide) (by decide) (by decide)) ?_ | refine TrD.callV rfl rfl rfl rfl rfl (c_ContainsAny (r.take 1) opens hone (by decide) (by decide) (by decide)) rfl ?_
      refine TrL.quiets 2 rfl (by exact True.intro) ?_; refine TrL.nil ?_
      refine Tr.cond rfl (fun h3 => ?_) (fun h3 => ?_)
      · have h4 : okAfter w r = true := h3
        rw [h4] at hI
        refine Tr.seq ?_; refine Tr.region ?_; refine TrL.quiets 4 rfl (by exact True.intro) ?_; refine TrL.nil ?_; refine Tr.ret ?_
        refine retQ.of rfl ?_
        rw [hI]
        rfl
      · have h4 : okAfter w r = false := h3
        rw [h4] at hI
        refine Tr.skip ?_; refine Tr.region ?_; refine TrL.quiets 2 rfl (by exact True.intro) ?_; refine TrL.nil ?_
        exact ⟨i + 1, ⟨by omega, by rw [hI]; rfl⟩, by dsimp only; omega, hnext⟩
  · simp only [decide_eq_false_iff_not] at h1
    obtain rfl : i = 6 := by omega
    refine Tr.exit ?_; refine Tr.seq ?_; refine Tr.region ?_; refine TrL.quiets 2 rfl (by exact True.intro) ?_; refine TrL.nil ?_; refine Tr.ret ?_
    refine retQ.of rfl ?_
    rw [hI]
    rfl
end Go.Proofs.YtckgeebihhhapaaDoor.Sx
