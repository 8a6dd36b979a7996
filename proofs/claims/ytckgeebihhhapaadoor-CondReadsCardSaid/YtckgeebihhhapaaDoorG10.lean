/-
  cond.Read.
-/
import Derived.Test.YtckgeebihhhapaaDoorG9
import Derived.Test.YtckgeebihhhapaaDoorF15
set_option linter.unusedVariables false
set_option linter.unusedSimpArgs false
set_option maxRecDepth 20000
set_option maxHeartbeats 4000000
namespace Go.Proofs.YtckgeebihhhapaaDoor.Sx
open Go Go.RowKit Go.Proofs

/-! ### Plain -/
theorem quotedF_len (s : Str) : (quotedF s).1.length ≤ s.length ∧ (quotedF s).2.1.length ≤ s.length := by
  have h := left_length s
  unfold quotedF
  cases hl : left s with
  | nil => exact ⟨Nat.zero_le _, Nat.zero_le _⟩
  | cons q r =>
    rw [hl] at h
    simp only [List.length_cons] at h
    dsimp only
    split
    · split
      · exact ⟨Nat.zero_le _, Nat.zero_le _⟩
      · exact ⟨by rw [List.length_take]; omega, by rw [List.length_drop]; omega⟩
    · exact ⟨Nat.zero_le _, Nat.zero_le _⟩
def sidesF (s : Str) : Str × Str × Bool :=
  if hasPre (left s) [40] then bracketsF ((left s).drop 1)
  else if (quotedF (left s)).2.2 = false then ([], [], false)
  else if (quotedF (quotedF (left s)).2.1).2.2 = false ∨ trim (quotedF (quotedF (left s)).2.1).2.1 ≠ [] then ([], [], false)
  else ((quotedF (left s)).1, (quotedF (quotedF (left s)).2.1).1, true)
theorem c_sides (s : Str) (hs : s.length ≤ 1099511627776) : CallV Tryd.prog 54 [vS s] (.tup [vS (sidesF s).1, vS (sidesF s).2.1, vB (sidesF s).2.2]) := by
  have hls := left_length s
  unfold sidesF
  refine CallV.of Tryd.func54 (by kernel_rfl) rfl Tryd.ntmps54 (by simp) rfl fun cx hB => ?_
  refine Tr.seq ?_; refine Tr.region ?_; refine TrL.quiets 3 rfl (by exact True.intro) ?_; refine TrL.nil ?_; refine Tr.seq ?_; refine Tr.region ?_; refine TrL.quiets 1 rfl (by exact True.intro) ?_
  first | refine TrL.callV rfl rfl rfl rfl rfl (c_words_Left s) ?_ | refine TrD.callV rfl rfl rfl rfl rfl (c_words_Left s) rfl ?_
  generalize left s = t at *
  refine TrL.quiets 1 rfl (by exact True.intro) ?_; refine TrL.nil ?_; refine Tr.seq ?_; refine Tr.seq ?_; refine Tr.region ?_; refine TrL.quiets 1 rfl (by exact True.intro) ?_
  first | refine TrL.callV rfl rfl rfl rfl rfl (c_CutPrefix ..) ?_ | refine TrD.callV rfl rfl rfl rfl rfl (c_CutPrefix ..) rfl ?_
  refine TrL.quiets 5 rfl (by exact True.intro) ?_; refine TrL.nil ?_; refine Tr.seq ?_; refine Tr.region ?_; refine TrL.quiets 1 rfl (by exact True.intro) ?_; refine TrL.nil ?_
  refine Tr.cond rfl (fun h1 => ?_) (fun h1 => ?_)
  · have h2 : hasPre t [40] = true := h1
    rw [if_pos h2]
    have ht : trimPre t [40] = t.drop 1 := if_pos h2
    refine Tr.seq ?_; refine Tr.region ?_; refine TrL.quiets 1 rfl (by exact True.intro) ?_
    first | refine TrL.callV rfl rfl rfl rfl rfl (c_brackets (trimPre t [40]) (by rw [ht, List.length_drop]; omega)) ?_ | refine TrD.callV rfl rfl rfl rfl rfl (c_brackets (trimPre t [40]) (by rw [ht, List.length_drop]; omega)) rfl ?_
    rw [ht]
    refine TrL.quiets 6 rfl (by exact True.intro) ?_; refine TrL.nil ?_; refine Tr.ret ?_
    refine retQ.of rfl ?_
    rfl
  have h2 : ¬ hasPre t [40] = true := by have h3 : hasPre t [40] = false := h1; rw [h3]; simp
  rw [if_neg h2]
  have hq1 := quotedF_len t
  refine Tr.skip ?_; refine Tr.seq ?_; refine Tr.region ?_; refine TrL.quiets 1 rfl (by exact True.intro) ?_
  first | refine TrL.callV rfl rfl rfl rfl rfl (c_quoted t (by omega)) ?_ | refine TrD.callV rfl rfl rfl rfl rfl (c_quoted t (by omega)) rfl ?_
  generalize quotedF t = q1 at *
  obtain ⟨a, t1, ok1⟩ := q1
  refine TrL.quiets 7 rfl (by exact True.intro) ?_; refine TrL.nil ?_; refine Tr.seq ?_; refine Tr.seq ?_; refine Tr.region ?_; refine TrL.quiets 2 rfl (by exact True.intro) ?_; refine TrL.nil ?_
  refine Tr.cond rfl (fun h3 => ?_) (fun h3 => ?_)
  · have h4 : ok1 = false := by simpa using h3
    subst h4
    refine Tr.seq ?_; refine Tr.region ?_; refine TrL.quiets 3 rfl (by exact True.intro) ?_; refine TrL.nil ?_; refine Tr.ret ?_
    refine retQ.of rfl ?_
    rfl
  have h4 : ok1 = true := by simpa using h3
  subst h4
  dsimp only at hq1 ⊢
  have hq2 := quotedF_len t1
  refine Tr.skip ?_; refine Tr.seq ?_; refine Tr.region ?_; refine TrL.quiets 1 rfl (by exact True.intro) ?_
  first | refine TrL.callV rfl rfl rfl rfl rfl (c_quoted t1 (by omega)) ?_ | refine TrD.callV rfl rfl rfl rfl rfl (c_quoted t1 (by omega)) rfl ?_
  generalize quotedF t1 = q2 at *
  obtain ⟨b, t2, ok2⟩ := q2
  dsimp only at hq2 ⊢
  refine TrL.quiets 7 rfl (by exact True.intro) ?_; refine TrL.nil ?_; refine Tr.seq ?_; refine Tr.seq ?_; refine Tr.region ?_; refine TrL.quiets 4 rfl (by exact True.intro) ?_
  first | refine TrL.callV rfl rfl rfl rfl rfl (c_words_Trim t2 (by omega)) ?_ | refine TrD.callV rfl rfl rfl rfl rfl (c_words_Trim t2 (by omega)) rfl ?_
  refine TrL.quiets 2 rfl (by exact True.intro) ?_; refine TrL.nil ?_
  refine Tr.cond rfl (fun h5 => ?_) (fun h5 => ?_)
  · have h6 : ok2 = false ∨ trim t2 ≠ [] := by simpa using h5
    rw [if_neg (by simp), if_pos h6]
    refine Tr.seq ?_; refine Tr.region ?_; refine TrL.quiets 3 rfl (by exact True.intro) ?_; refine TrL.nil ?_; refine Tr.ret ?_
    refine retQ.of rfl ?_
    rfl
  · have h6 : ¬ (ok2 = false ∨ trim t2 ≠ []) := by
      rw [Bool.or_eq_false_iff] at h5
      simpa using h5
    rw [if_neg (by simp), if_neg h6]
    refine Tr.skip ?_; refine Tr.seq ?_; refine Tr.region ?_; refine TrL.quiets 5 rfl (by exact True.intro) ?_; refine TrL.nil ?_; refine Tr.ret ?_
    refine retQ.of rfl ?_
    rfl

abbrev CondD := Bool × Str × Str × Str
abbrev condSV (c : CondD) : SV := .agg [vB c.1, vS c.2.1, vS c.2.2.1, vS c.2.2.2]
def tailF (e : Bool) (w rest : Str) : CondD × Bool × Bool :=
  if w = wIfdef ∨ w = wIfndef then (if (splitW rest).length ≠ 1 then ((e, w, [], []), true, true) else ((e, w, (splitW rest).getD 0 [], []), true, false))
  else ((e, w, (sidesF rest).1, (sidesF rest).2.1), true, !(sidesF rest).2.2)
def readF (s : Str) : CondD × Bool × Bool :=
  if (startF s).1 = [] then ((false, [], [], []), false, false)
  else if (startF s).1 = wEndif then ((false, wEndif, [], []), true, trim (startF s).2 != [])
  else if (startF s).1 = wElse then
    (if trim (startF s).2 = [] then ((true, [], [], []), true, false)
     else if (startF (startF s).2).1 = [] ∨ (startF (startF s).2).1 = wElse ∨ (startF (startF s).2).1 = wEndif then ((true, [], [], []), true, true)
     else tailF true (startF (startF s).2).1 (startF (startF s).2).2)
  else tailF false (startF s).1 (startF s).2
theorem startW_len (t : Str) : ∀ l : List Str, (startW t l).2.length ≤ t.length
  | [] => Nat.zero_le _
  | w :: r => by
    rw [startW]
    split
    · dsimp only; rw [List.length_drop]; omega
    · exact startW_len t r
theorem startF_len (s : Str) : (startF s).2.length ≤ s.length := Nat.le_trans (startW_len _ _) (left_length s)
abbrev cBox (c : CondD) : Ent := .box 48 [vB c.1, vS c.2.1, vS c.2.2.1, vS c.2.2.2]
theorem c_cond_Read (s : Str) (hs : s.length ≤ 1000000) : CallV Tryd.prog 22 [vS s] (.tup [condSV (readF s).1, vB (readF s).2.1, vB (readF s).2.2]) := by
  have hsl := startF_len s
  obtain ⟨R, hR⟩ : ∃ R, readF s = R := ⟨_, rfl⟩
  rw [hR]
  unfold readF at hR
  refine CallV.of Tryd.func22 (by kernel_rfl) rfl Tryd.ntmps22 (by simp) rfl fun cx hB => ?_
  have hB1 : ∀ i, cx.B i = true → i < 1 := fun i h => by have := hB i h; omega
  refine Tr.seq ?_; refine Tr.region ?_; refine TrL.eff (effBox_sound rfl) (by exact True.intro) ?_; refine TrL.quiets 2 rfl (by exact True.intro) ?_; refine TrL.nil ?_; refine Tr.seq ?_; refine Tr.region ?_; refine TrL.quiets 1 rfl (by exact True.intro) ?_
  first | refine TrL.callV rfl rfl rfl rfl rfl (c_start s (by omega)) ?_ | refine TrD.callV rfl rfl rfl rfl rfl (c_start s (by omega)) rfl ?_
  generalize startF s = p at *
  obtain ⟨w, rest⟩ := p
  dsimp only at hsl hR ⊢
  refine TrL.quiets 5 rfl (by exact True.intro) ?_; refine TrL.nil ?_; refine Tr.seq ?_; refine Tr.seq ?_; refine Tr.region ?_; refine TrL.quiets 1 rfl (by exact True.intro) ?_; refine TrL.nil ?_
  change Tr _ _ _ _ _ _
  refine Tr.joinN (fun (x : Bool × Str × Str) => ⟨[(2, [], .ptr 0 0), (5, [], vS x.2.1), (6, [], vS x.2.2)], [cBox (x.1, [], [], [])]⟩) (fun x => x.2.2.length ≤ s.length ∧ R = tailF x.1 x.2.1 x.2.2) [2, 5, 6] 1 hB1 ?_ fun x hx => ?_
  · refine Tr.block ?_; refine Tr.seq ?_; refine Tr.region ?_; refine TrL.quiets 2 rfl (by exact True.intro) ?_; refine TrL.nil ?_
    refine Tr.cond rfl (fun h1 => ?_) (fun h1 => ?_)
    · have e1 : w = [] := by simpa using h1
      rw [if_pos e1] at hR
      refine Tr.seq ?_; refine Tr.region ?_; refine TrL.quiets 1 rfl (by exact True.intro) ?_; refine TrL.eff (effStore_sound rfl) (by exact True.intro) ?_; refine TrL.quiets 2 rfl (by exact True.intro) ?_; refine TrL.nil ?_; refine Tr.ret ?_
      refine retQ.of rfl ?_
      rw [← hR]
      rfl
    have e1 : ¬ w = [] := by simpa using h1
    rw [if_neg e1] at hR
    refine Tr.seq ?_; refine Tr.region ?_; refine TrL.quiets 2 rfl (by exact True.intro) ?_; refine TrL.nil ?_
    refine Tr.cond rfl (fun h2 => ?_) (fun h2 => ?_)
    · have e2 : w = wEndif := by simpa using h2
      rw [if_pos e2] at hR
      subst e2
      refine Tr.seq ?_; refine Tr.region ?_; refine TrL.quiets 2 rfl (by exact True.intro) ?_; refine TrL.eff (effStore_sound rfl) (by exact True.intro) ?_; refine TrL.nil ?_; refine Tr.seq ?_; refine Tr.drawA 7 rfl (by kernel_rfl) ?_; refine TrA.take 1 rfl rfl (by kernel_rfl) rfl (by exact True.intro) ?_; refine TrA.two 0 2 (by kernel_rfl) rfl rfl ?_ ?_
      · refine TrL.quiets 1 rfl (by exact True.intro) ?_; refine TrL.nil ?_; refine TrA.one 2 (by kernel_rfl) rfl ?_
        first | refine TrL.callV rfl rfl rfl rfl rfl (c_words_Trim rest (by omega)) ?_ | refine TrD.callV rfl rfl rfl rfl rfl (c_words_Trim rest (by omega)) rfl ?_
        refine TrL.nil ?_; refine TrA.take 3 rfl rfl (by kernel_rfl) rfl (by exact True.intro) ?_; refine TrA.one 4 (by kernel_rfl) rfl ?_; refine TrL.eff (effStore_sound rfl) (by exact True.intro) ?_; refine TrL.nil ?_; refine TrA.take 5 rfl rfl (by kernel_rfl) rfl (by exact True.intro) ?_; refine TrA.take 6 rfl rfl (by kernel_rfl) rfl (by exact True.intro) ?_; refine TrA.done (by kernel_rfl) ?_; refine Tr.ret ?_
        refine retQ.of rfl ?_
        rw [← hR]
        rfl
      · first | refine TrL.callV rfl rfl rfl rfl rfl (c_words_Trim rest (by omega)) ?_ | refine TrD.callV rfl rfl rfl rfl rfl (c_words_Trim rest (by omega)) rfl ?_
        refine TrL.nil ?_; refine TrA.take 3 rfl rfl (by kernel_rfl) rfl (by exact True.intro) ?_; refine TrA.one 0 (by kernel_rfl) rfl ?_; refine TrL.quiets 1 rfl (by exact True.intro) ?_; refine TrL.nil ?_; refine TrA.one 4 (by kernel_rfl) rfl ?_; refine TrL.eff (effStore_sound rfl) (by exact True.intro) ?_; refine TrL.nil ?_; refine TrA.take 5 rfl rfl (by kernel_rfl) rfl (by exact True.intro) ?_; refine TrA.take 6 rfl rfl (by kernel_rfl) rfl (by exact True.intro) ?_; refine TrA.done (by kernel_rfl) ?_; refine Tr.ret ?_
        refine retQ.of rfl ?_
        rw [← hR]
        rfl
    have e2 : ¬ w = wEndif := by simpa using h2
    rw [if_neg e2] at hR
    refine Tr.seq ?_; refine Tr.region ?_; refine TrL.quiets 2 rfl (by exact True.intro) ?_; refine TrL.nil ?_
    refine Tr.cond rfl (fun h3 => ?_) (fun h3 => ?_)
    · have e3 : w = wElse := by simpa using h3
      rw [if_pos e3] at hR
      refine Tr.seq ?_; refine Tr.region ?_; refine TrL.quiets 1 rfl (by exact True.intro) ?_; refine TrL.eff (effStore_sound rfl) (by exact True.intro) ?_; refine TrL.nil ?_; refine Tr.seq ?_; refine Tr.seq ?_; refine Tr.region ?_; refine TrL.quiets 1 rfl (by exact True.intro) ?_
      first | refine TrL.callV rfl rfl rfl rfl rfl (c_words_Trim rest (by omega)) ?_ | refine TrD.callV rfl rfl rfl rfl rfl (c_words_Trim rest (by omega)) rfl ?_
      refine TrL.quiets 1 rfl (by exact True.intro) ?_; refine TrL.nil ?_
      refine Tr.cond rfl (fun h4 => ?_) (fun h4 => ?_)
      · have e4 : trim rest = [] := by simpa using h4
        rw [if_pos e4] at hR
        refine Tr.seq ?_; refine Tr.region ?_; refine TrL.quiets 1 rfl (by exact True.intro) ?_; refine TrL.eff (effStore_sound rfl) (by exact True.intro) ?_; refine TrL.quiets 2 rfl (by exact True.intro) ?_; refine TrL.nil ?_; refine Tr.ret ?_
        refine retQ.of rfl ?_
        rw [← hR]
        rfl
      have e4 : ¬ trim rest = [] := by simpa using h4
      rw [if_neg e4] at hR
      have hsl2 := startF_len rest
      refine Tr.skip ?_; refine Tr.seq ?_; refine Tr.region ?_; refine TrL.quiets 1 rfl (by exact True.intro) ?_
      first | refine TrL.callV rfl rfl rfl rfl rfl (c_start rest (by omega)) ?_ | refine TrD.callV rfl rfl rfl rfl rfl (c_start rest (by omega)) rfl ?_
      generalize startF rest = p2 at *
      obtain ⟨w2, rest2⟩ := p2
      dsimp only at hsl2 hR ⊢
      refine TrL.quiets 5 rfl (by exact True.intro) ?_; refine TrL.nil ?_; refine Tr.seq ?_; refine Tr.region ?_; refine TrL.quiets 10 rfl (by exact True.intro) ?_; refine TrL.nil ?_
      refine Tr.cond rfl (fun h5 => ?_) (fun h5 => ?_)
      · have e5 : w2 = [] ∨ w2 = wElse ∨ w2 = wEndif := by
          simp only [Bool.or_eq_true, beq_iff_eq] at h5
          rcases h5 with (h5 | h5) | h5
          · exact .inl h5
          · exact .inr (.inl h5)
          · exact .inr (.inr h5)
        rw [if_pos e5] at hR
        refine Tr.seq ?_; refine Tr.region ?_; refine TrL.quiets 1 rfl (by exact True.intro) ?_; refine TrL.eff (effStore_sound rfl) (by exact True.intro) ?_; refine TrL.quiets 2 rfl (by exact True.intro) ?_; refine TrL.nil ?_; refine Tr.ret ?_
        refine retQ.of rfl ?_
        rw [← hR]
        rfl
      have e5 : ¬ (w2 = [] ∨ w2 = wElse ∨ w2 = wEndif) := by
        simp only [Bool.or_eq_false_iff, beq_eq_false_iff_ne] at h5
        rintro (h | h | h)
        · exact h5.1.1 h
        · exact h5.1.2 h
        · exact h5.2 h
      rw [if_neg e5] at hR
      refine Tr.skip ?_
      exact ⟨(true, w2, rest2), ⟨by dsimp only; omega, hR.symm⟩, rfl⟩
    have e3 : ¬ w = wElse := by simpa using h3
    rw [if_neg e3] at hR
    refine Tr.skip ?_
    exact ⟨(false, w, rest), ⟨hsl, hR.symm⟩, rfl⟩
  obtain ⟨e, w3, rest3⟩ := x
  obtain ⟨hx1, hx2⟩ := hx
  dsimp only at hx1 hx2 ⊢
  unfold tailF at hx2
  refine Tr.seq ?_; refine Tr.region ?_; refine TrL.quiets 2 rfl (by exact True.intro) ?_; refine TrL.eff (effStore_sound rfl) (by exact True.intro) ?_; refine TrL.nil ?_; refine Tr.seq ?_; refine Tr.seq ?_; refine Tr.region ?_; refine TrL.quiets 6 rfl (by exact True.intro) ?_; refine TrL.nil ?_
  have h6 : (w3 == wIfdef || w3 == wIfndef) = decide (w3 = wIfdef ∨ w3 = wIfndef) := by
    rw [Bool.eq_iff_iff]; simp
  refine Tr.is 55 (sv' := vB (decide (w3 = wIfdef ∨ w3 = wIfndef))) rfl (congrArg vB h6) ?_
  refine Tr.cond rfl (fun h7 => ?_) (fun h7 => ?_)
  · rw [if_pos (of_decide_eq_true h7)] at hx2
    refine Tr.seq ?_; refine Tr.region ?_; refine TrL.quiets 1 rfl (by exact True.intro) ?_
    first | refine TrL.callV rfl rfl rfl rfl rfl (c_Split rest3 (by omega)) ?_ | refine TrD.callV rfl rfl rfl rfl rfl (c_Split rest3 (by omega)) rfl ?_
    have hspl := spl_length rest3 []
    have hsl3 : (splitW rest3).length ≤ rest3.length + 1 := hspl
    generalize splitW rest3 = l at *
    refine TrL.quiets 1 rfl (by exact True.intro) ?_; refine TrL.nil ?_; refine Tr.seq ?_; refine Tr.seq ?_; refine Tr.region ?_; refine TrL.quiets 3 rfl (by exact True.intro) ?_; refine TrL.nil ?_
    refine Tr.cond rfl (fun h8 => ?_) (fun h8 => ?_)
    · have e8 : l.length ≠ 1 := by
        simp only [bne_iff_ne, ne_eq] at h8
        omega
      rw [if_pos e8] at hx2
      refine Tr.seq ?_; refine Tr.region ?_; refine TrL.quiets 1 rfl (by exact True.intro) ?_; refine TrL.eff (effStore_sound rfl) (by exact True.intro) ?_; refine TrL.quiets 2 rfl (by exact True.intro) ?_; refine TrL.nil ?_; refine Tr.ret ?_
      refine retQ.of rfl ?_
      rw [hx2]
      rfl
    · have e8 : l.length = 1 := by
        simp only [bne_eq_false_iff_eq] at h8
        omega
      rw [if_neg (fun h => h e8)] at hx2
      refine Tr.skip ?_; refine Tr.seq ?_; refine Tr.region ?_; refine TrL.quiets 4 rfl (by (simp only [allOf, impO, imp, inR, loOk, and_true]; omega)) ?_; refine TrL.eff (effStore_sound rfl) (by exact True.intro) ?_; refine TrL.nil ?_; refine Tr.seq ?_; refine Tr.region ?_; refine TrL.quiets 1 rfl (by exact True.intro) ?_; refine TrL.eff (effStore_sound rfl) (by exact True.intro) ?_; refine TrL.quiets 2 rfl (by exact True.intro) ?_; refine TrL.nil ?_; refine Tr.ret ?_
      refine retQ.of rfl ?_
      rw [hx2]
      rfl
  · rw [if_neg (of_decide_eq_false h7)] at hx2
    refine Tr.skip ?_; refine Tr.seq ?_; refine Tr.region ?_; refine TrL.quiets 1 rfl (by exact True.intro) ?_
    first | refine TrL.callV rfl rfl rfl rfl rfl (c_sides rest3 (by omega)) ?_ | refine TrD.callV rfl rfl rfl rfl rfl (c_sides rest3 (by omega)) rfl ?_
    refine TrL.quiets 5 rfl (by exact True.intro) ?_; refine TrL.eff (effStore_sound rfl) (by exact True.intro) ?_; refine TrL.quiets 1 rfl (by exact True.intro) ?_; refine TrL.eff (effStore_sound rfl) (by exact True.intro) ?_; refine TrL.quiets 1 rfl (by exact True.intro) ?_; refine TrL.nil ?_; refine Tr.seq ?_; refine Tr.region ?_; refine TrL.quiets 3 rfl (by exact True.intro) ?_; refine TrL.eff (effStore_sound rfl) (by exact True.intro) ?_; refine TrL.quiets 2 rfl (by exact True.intro) ?_; refine TrL.nil ?_; refine Tr.ret ?_
    refine retQ.of rfl ?_
    rw [hx2]
    rfl
end Go.Proofs.YtckgeebihhhapaaDoor.Sx
