/-
  Patterns: Match, Put.
-/
import Derived.Test.YtcclfjddakonoaaGreatDoorG24
import Derived.Test.YtcclfjddakonoaaGreatDoorF3
set_option linter.unusedVariables false
set_option linter.unusedSimpArgs false
set_option maxRecDepth 20000
set_option maxHeartbeats 4000000
namespace Go.Proofs.YtcclfjddakonoaaGreatDoor.Sx
open Go Go.RowKit Go.Proofs

def hasSuf (s t : Str) : Bool := decide (t.length ≤ s.length) && s.drop (s.length - t.length) == t
def matchNo (pre post w : Str) : Bool := decide (w.length < pre.length + post.length) || !hasPre w pre || !hasSuf w post
def matchF (p : PatD) (w : Str) : Str × Bool := if p.1 = false then ([], w == p.2.1) else if matchNo p.2.1 p.2.2 w = true then ([], false) else ((w.take (w.length - p.2.2.length)).drop p.2.1.length, true)
def putF (p : PatD) (st : Str) : Str := if p.1 then p.2.1 ++ st ++ p.2.2 else p.2.1
theorem c_sl_HasSuffix (s t : Str) (hs : s.length ≤ 1099511627776) : CallV Tryz.prog 96 [vS s, vS t] (vB (hasSuf s t)) := by
  refine CallV.of Tryz.func96 (by kernel_rfl) rfl Tryz.ntmps96 (by simp) rfl fun cx hB => ?_
  by_cases h : t.length ≤ s.length
  · have e3 : IntKind.i64.wrap ((s.length : Int) - (t.length : Int)) = ((s.length - t.length : Nat) : Int) := w64n (by omega) (by omega)
    refine Tr.seq ?_; refine Tr.region ?_; refine TrL.quiets 1 rfl (by exact True.intro) ?_; refine TrL.nil ?_; refine Tr.seq ?_; refine Tr.region ?_; refine TrL.quiets 17 rfl (by (simp (disch := omega) only [allOf, impO, imp, inR, loOk, and_true, w64, List.length_set, List.length_cons, List.length_nil, Option.getD_none, Option.getD_some, Ty.D, true_and, decide_eq_true_eq, decide_eq_false_iff_not, Bool.and_eq_true, Bool.or_eq_false_iff]; omega)) ?_; refine TrL.nil ?_; refine Tr.ret ?_
    refine retQ.of rfl ?_
    rw [e3, hasSuf]
    refine congrArg vB ?_
    have e4 : decide ((s.length : Int) ≥ (t.length : Int)) = decide (t.length ≤ s.length) := by
      rw [Bool.eq_iff_iff, decide_eq_true_eq, decide_eq_true_eq]
      omega
    rw [e4]
    rfl
  · have e4 : decide ((s.length : Int) ≥ (t.length : Int)) = false := decide_eq_false (by omega)
    refine Tr.seq ?_; refine Tr.region ?_; refine TrL.quiets 1 rfl (by exact True.intro) ?_; refine TrL.nil ?_; refine Tr.seq ?_; refine Tr.region ?_; refine TrL.quiets 17 rfl (by (simp (disch := omega) only [allOf, impO, imp, inR, loOk, and_true, w64, List.length_set, List.length_cons, List.length_nil, Option.getD_none, Option.getD_some, Ty.D, true_and, decide_eq_true_eq, decide_eq_false_iff_not, Bool.and_eq_true, Bool.or_eq_false_iff]; omega)) ?_; refine TrL.nil ?_; refine Tr.ret ?_
    refine retQ.of rfl ?_
    rw [e4, hasSuf, decide_eq_false h]
    rfl
theorem c_HasSuffix (s t : Str) (hs : s.length ≤ 1099511627776) : CallV Tryz.prog 81 [vS s, vS t] (vB (hasSuf s t)) := by
  refine CallV.of Tryz.func81 (by kernel_rfl) rfl Tryz.ntmps81 (by simp) rfl fun cx hB => ?_
  refine Tr.seq ?_; refine Tr.region ?_; refine TrL.quiets 1 rfl (by exact True.intro) ?_; refine TrL.nil ?_; refine Tr.seq ?_; refine Tr.region ?_; refine TrL.quiets 2 rfl (by exact True.intro) ?_
  first | refine TrL.callV rfl rfl rfl rfl rfl (c_sl_HasSuffix s t hs) ?_ | refine TrD.callV rfl rfl rfl rfl rfl (c_sl_HasSuffix s t hs) rfl ?_
  refine TrL.quiets 1 rfl (by exact True.intro) ?_; refine TrL.nil ?_; refine Tr.ret ?_
  refine retQ.of rfl ?_
  rfl
theorem c_Ends (s t : Str) (hs : s.length ≤ 1099511627776) : CallV Tryz.prog 57 [vS s, vS t] (vB (hasSuf s t)) := by
  refine CallV.of Tryz.func57 (by kernel_rfl) rfl Tryz.ntmps57 (by simp) rfl fun cx hB => ?_
  by_cases h : t.length ≤ s.length
  · have e3 : IntKind.i64.wrap ((s.length : Int) - (t.length : Int)) = ((s.length - t.length : Nat) : Int) := w64n (by omega) (by omega)
    refine Tr.seq ?_; refine Tr.region ?_; refine TrL.quiets 1 rfl (by exact True.intro) ?_; refine TrL.nil ?_; refine Tr.seq ?_; refine Tr.region ?_; refine TrL.quiets 17 rfl (by (simp (disch := omega) only [allOf, impO, imp, inR, loOk, and_true, w64, List.length_set, List.length_cons, List.length_nil, Option.getD_none, Option.getD_some, Ty.D, true_and, decide_eq_true_eq, decide_eq_false_iff_not, Bool.and_eq_true, Bool.or_eq_false_iff]; omega)) ?_; refine TrL.nil ?_; refine Tr.ret ?_
    refine retQ.of rfl ?_
    rw [e3, hasSuf]
    refine congrArg vB ?_
    have e4 : decide ((s.length : Int) ≥ (t.length : Int)) = decide (t.length ≤ s.length) := by
      rw [Bool.eq_iff_iff, decide_eq_true_eq, decide_eq_true_eq]
      omega
    rw [e4]
    rfl
  · have e4 : decide ((s.length : Int) ≥ (t.length : Int)) = false := decide_eq_false (by omega)
    refine Tr.seq ?_; refine Tr.region ?_; refine TrL.quiets 1 rfl (by exact True.intro) ?_; refine TrL.nil ?_; refine Tr.seq ?_; refine Tr.region ?_; refine TrL.quiets 17 rfl (by (simp (disch := omega) only [allOf, impO, imp, inR, loOk, and_true, w64, List.length_set, List.length_cons, List.length_nil, Option.getD_none, Option.getD_some, Ty.D, true_and, decide_eq_true_eq, decide_eq_false_iff_not, Bool.and_eq_true, Bool.or_eq_false_iff]; omega)) ?_; refine TrL.nil ?_; refine Tr.ret ?_
    refine retQ.of rfl ?_
    rw [e4, hasSuf, decide_eq_false h]
    rfl
theorem c_Match (p : PatD) (w : Str) (hp : p.2.1.length + p.2.2.length ≤ 1099511627776) (hw : w.length ≤ 1099511627776) : CallV Tryz.prog 61 [patSV p, vS w] (.tup [vS (matchF p w).1, vB (matchF p w).2]) := by
  obtain ⟨has, pre, post⟩ := p
  dsimp only at hp
  refine CallV.of Tryz.func61 (by kernel_rfl) rfl Tryz.ntmps61 (by simp) rfl fun cx hB => ?_
  refine Tr.seq ?_; refine Tr.region ?_; refine TrL.eff (effBox_sound rfl) (by exact True.intro) ?_; refine TrL.quiets 2 rfl (by exact True.intro) ?_; refine TrL.nil ?_; refine Tr.seq ?_; refine Tr.seq ?_; refine Tr.region ?_; refine TrL.quiets 3 rfl (by exact True.intro) ?_; refine TrL.nil ?_
  refine Tr.cond rfl (fun h1 => ?_) (fun h1 => ?_)
  · have h2 : has = false := by simpa using h1
    subst h2
    refine Tr.seq ?_; refine Tr.draw (by kernel_rfl) (by kernel_rfl) ?_; refine TrD.quiets 6 rfl (by exact True.intro) ?_; refine TrD.nil ?_; refine Tr.ret ?_
    refine retQ.of rfl ?_
    rfl
  have h2 : has = true := by simpa using h1
  subst h2
  have e1 : IntKind.i64.wrap ((pre.length : Int) + (post.length : Int)) = ((pre.length + post.length : Nat) : Int) := w64n (by omega) (by omega)
  refine Tr.skip ?_; refine Tr.seq ?_; refine Tr.seq ?_; refine Tr.region ?_; refine TrL.quiets 14 rfl (by exact True.intro) ?_
  first | refine TrL.callV rfl rfl rfl rfl rfl (c_HasPrefix w pre) ?_ | refine TrD.callV rfl rfl rfl rfl rfl (c_HasPrefix w pre) rfl ?_
  refine TrL.quiets 6 rfl (by exact True.intro) ?_
  first | refine TrL.callV rfl rfl rfl rfl rfl (c_HasSuffix w post hw) ?_ | refine TrD.callV rfl rfl rfl rfl rfl (c_HasSuffix w post hw) rfl ?_
  refine TrL.quiets 2 rfl (by exact True.intro) ?_; refine TrL.nil ?_
  have e2 : (decide ((w.length : Int) < IntKind.i64.wrap ((pre.length : Int) + (post.length : Int))) || !hasPre w pre || !hasSuf w post) = matchNo pre post w := by
    rw [e1, matchNo]
    congr 2
    rw [Bool.eq_iff_iff, decide_eq_true_eq, decide_eq_true_eq]
    omega
  refine Tr.is 36 (sv' := vB (matchNo pre post w)) rfl (congrArg vB e2) ?_
  refine Tr.cond rfl (fun h3 => ?_) (fun h3 => ?_)
  · have h4 : matchNo pre post w = true := h3
    refine Tr.seq ?_; refine Tr.region ?_; refine TrL.quiets 2 rfl (by exact True.intro) ?_; refine TrL.nil ?_; refine Tr.ret ?_
    refine retQ.of rfl ?_
    rw [matchF, if_neg (fun h => Bool.noConfusion h), if_pos h4]
  · have h4 : matchNo pre post w = false := h3
    have h5 : pre.length + post.length ≤ w.length := by
      rw [matchNo, Bool.or_eq_false_iff, Bool.or_eq_false_iff, decide_eq_false_iff_not] at h4
      omega
    have e3 : IntKind.i64.wrap ((w.length : Int) - (post.length : Int)) = ((w.length - post.length : Nat) : Int) := w64n (by omega) (by omega)
    refine Tr.skip ?_; refine Tr.seq ?_; refine Tr.region ?_; refine TrL.quiets 13 rfl (by (simp (disch := omega) only [allOf, impO, imp, inR, loOk, and_true, w64, List.length_set, List.length_cons, List.length_nil, Option.getD_none, Option.getD_some, Ty.D, true_and, decide_eq_true_eq, decide_eq_false_iff_not, Bool.and_eq_true, Bool.or_eq_false_iff]; omega)) ?_; refine TrL.nil ?_; refine Tr.ret ?_
    refine retQ.of rfl ?_
    rw [matchF, if_neg (fun h => Bool.noConfusion h), if_neg (fun h => Bool.noConfusion (h4.symm.trans h)), e3]
    rfl
theorem c_Put (p : PatD) (st : Str) (hp : p.2.1.length + p.2.2.length + st.length ≤ 1099511627776) : CallV Tryz.prog 62 [patSV p, vS st] (vS (putF p st)) := by
  obtain ⟨has, pre, post⟩ := p
  dsimp only at hp
  refine CallV.of Tryz.func62 (by kernel_rfl) rfl Tryz.ntmps62 (by simp) rfl fun cx hB => ?_
  refine Tr.seq ?_; refine Tr.region ?_; refine TrL.eff (effBox_sound rfl) (by exact True.intro) ?_; refine TrL.quiets 1 rfl (by exact True.intro) ?_; refine TrL.nil ?_; refine Tr.seq ?_; refine Tr.seq ?_; refine Tr.region ?_; refine TrL.quiets 3 rfl (by exact True.intro) ?_; refine TrL.nil ?_
  refine Tr.cond rfl (fun h1 => ?_) (fun h1 => ?_)
  · have h2 : has = false := by simpa using h1
    subst h2
    refine Tr.seq ?_; refine Tr.region ?_; refine TrL.quiets 3 rfl (by exact True.intro) ?_; refine TrL.nil ?_; refine Tr.ret ?_
    refine retQ.of rfl ?_
    rfl
  have h2 : has = true := by simpa using h1
  subst h2
  refine Tr.skip ?_; refine Tr.seq ?_; refine Tr.region ?_; refine TrL.quiets 8 rfl (by (simp (disch := omega) only [allOf, impO, imp, inR, loOk, and_true, w64, List.length_set, List.length_cons, List.length_nil, cut, List.length_take, List.length_drop, List.length_append, Int.toNat_natCast, Option.getD_none, Option.getD_some, Ty.D, true_and, decide_eq_true_eq, decide_eq_false_iff_not, Bool.and_eq_true, Bool.or_eq_false_iff]; omega)) ?_; refine TrL.nil ?_; refine Tr.ret ?_
  refine retQ.of rfl ?_
  rfl
theorem c_rMatch (p : PatD) (w : Str) (hp : p.2.1.length + p.2.2.length ≤ 1099511627776) (hw : w.length ≤ 1099511627776) : CallV Tryz.prog 43 [patSV p, vS w] (.tup [vS (matchF p w).1, vB (matchF p w).2]) := by
  obtain ⟨has, pre, post⟩ := p
  dsimp only at hp
  refine CallV.of Tryz.func43 (by kernel_rfl) rfl Tryz.ntmps43 (by simp) rfl fun cx hB => ?_
  refine Tr.seq ?_; refine Tr.region ?_; refine TrL.eff (effBox_sound rfl) (by exact True.intro) ?_; refine TrL.quiets 2 rfl (by exact True.intro) ?_; refine TrL.nil ?_; refine Tr.seq ?_; refine Tr.seq ?_; refine Tr.region ?_; refine TrL.quiets 3 rfl (by exact True.intro) ?_; refine TrL.nil ?_
  refine Tr.cond rfl (fun h1 => ?_) (fun h1 => ?_)
  · have h2 : has = false := by simpa using h1
    subst h2
    refine Tr.seq ?_; refine Tr.draw (by kernel_rfl) (by kernel_rfl) ?_; refine TrD.quiets 6 rfl (by exact True.intro) ?_; refine TrD.nil ?_; refine Tr.ret ?_
    refine retQ.of rfl ?_
    rfl
  have h2 : has = true := by simpa using h1
  subst h2
  have e1 : IntKind.i64.wrap ((pre.length : Int) + (post.length : Int)) = ((pre.length + post.length : Nat) : Int) := w64n (by omega) (by omega)
  refine Tr.skip ?_; refine Tr.seq ?_; refine Tr.seq ?_; refine Tr.region ?_; refine TrL.quiets 14 rfl (by exact True.intro) ?_
  first | refine TrL.callV rfl rfl rfl rfl rfl (c_ref_Has w pre) ?_ | refine TrD.callV rfl rfl rfl rfl rfl (c_ref_Has w pre) rfl ?_
  refine TrL.quiets 6 rfl (by exact True.intro) ?_
  first | refine TrL.callV rfl rfl rfl rfl rfl (c_Ends w post hw) ?_ | refine TrD.callV rfl rfl rfl rfl rfl (c_Ends w post hw) rfl ?_
  refine TrL.quiets 2 rfl (by exact True.intro) ?_; refine TrL.nil ?_
  have e2 : (decide ((w.length : Int) < IntKind.i64.wrap ((pre.length : Int) + (post.length : Int))) || !hasPre w pre || !hasSuf w post) = matchNo pre post w := by
    rw [e1, matchNo]
    congr 2
    rw [Bool.eq_iff_iff, decide_eq_true_eq, decide_eq_true_eq]
    omega
  refine Tr.is 36 (sv' := vB (matchNo pre post w)) rfl (congrArg vB e2) ?_
  refine Tr.cond rfl (fun h3 => ?_) (fun h3 => ?_)
  · have h4 : matchNo pre post w = true := h3
    refine Tr.seq ?_; refine Tr.region ?_; refine TrL.quiets 2 rfl (by exact True.intro) ?_; refine TrL.nil ?_; refine Tr.ret ?_
    refine retQ.of rfl ?_
    rw [matchF, if_neg (fun h => Bool.noConfusion h), if_pos h4]
  · have h4 : matchNo pre post w = false := h3
    have h5 : pre.length + post.length ≤ w.length := by
      rw [matchNo, Bool.or_eq_false_iff, Bool.or_eq_false_iff, decide_eq_false_iff_not] at h4
      omega
    have e3 : IntKind.i64.wrap ((w.length : Int) - (post.length : Int)) = ((w.length - post.length : Nat) : Int) := w64n (by omega) (by omega)
    refine Tr.skip ?_; refine Tr.seq ?_; refine Tr.region ?_; refine TrL.quiets 13 rfl (by (simp (disch := omega) only [allOf, impO, imp, inR, loOk, and_true, w64, List.length_set, List.length_cons, List.length_nil, Option.getD_none, Option.getD_some, Ty.D, true_and, decide_eq_true_eq, decide_eq_false_iff_not, Bool.and_eq_true, Bool.or_eq_false_iff]; omega)) ?_; refine TrL.nil ?_; refine Tr.ret ?_
    refine retQ.of rfl ?_
    rw [matchF, if_neg (fun h => Bool.noConfusion h), if_neg (fun h => Bool.noConfusion (h4.symm.trans h)), e3]
    rfl
theorem c_rPut (p : PatD) (st : Str) (hp : p.2.1.length + p.2.2.length + st.length ≤ 1099511627776) : CallV Tryz.prog 44 [patSV p, vS st] (vS (putF p st)) := by
  obtain ⟨has, pre, post⟩ := p
  dsimp only at hp
  refine CallV.of Tryz.func44 (by kernel_rfl) rfl Tryz.ntmps44 (by simp) rfl fun cx hB => ?_
  refine Tr.seq ?_; refine Tr.region ?_; refine TrL.eff (effBox_sound rfl) (by exact True.intro) ?_; refine TrL.quiets 1 rfl (by exact True.intro) ?_; refine TrL.nil ?_; refine Tr.seq ?_; refine Tr.seq ?_; refine Tr.region ?_; refine TrL.quiets 3 rfl (by exact True.intro) ?_; refine TrL.nil ?_
  refine Tr.cond rfl (fun h1 => ?_) (fun h1 => ?_)
  · have h2 : has = false := by simpa using h1
    subst h2
    refine Tr.seq ?_; refine Tr.region ?_; refine TrL.quiets 3 rfl (by exact True.intro) ?_; refine TrL.nil ?_; refine Tr.ret ?_
    refine retQ.of rfl ?_
    rfl
  have h2 : has = true := by simpa using h1
  subst h2
  refine Tr.skip ?_; refine Tr.seq ?_; refine Tr.region ?_; refine TrL.quiets 8 rfl (by (simp (disch := omega) only [allOf, impO, imp, inR, loOk, and_true, w64, List.length_set, List.length_cons, List.length_nil, cut, List.length_take, List.length_drop, List.length_append, Int.toNat_natCast, Option.getD_none, Option.getD_some, Ty.D, true_and, decide_eq_true_eq, decide_eq_false_iff_not, Bool.and_eq_true, Bool.or_eq_false_iff]; omega)) ?_; refine TrL.nil ?_; refine Tr.ret ?_
  refine retQ.of rfl ?_
  rfl
end Go.Proofs.YtcclfjddakonoaaGreatDoor.Sx
