/-
  words.Strip; the laws on words: what they ask.
-/
import Derived.Test.YtafngfcfinligaaDoorF15
import Derived.Test.YtafngfcfinligaaDoorF9
set_option linter.unusedVariables false
set_option linter.unusedSimpArgs false
set_option maxRecDepth 20000
set_option maxHeartbeats 4000000
namespace Go.Proofs.YtafngfcfinligaaDoor.Sx
open Go Go.RowKit Go.Proofs

theorem splitW_len (s : Str) : (splitW s).length ≤ s.length + 1 := spl_length s []
theorem c_words_Strip (s : Str) (hs : s.length ≤ 4294967280) : CallV Tryd.prog 29 [vS s] (vS (strip s)) := by
  have h1 := joinW_splitW_le s
  have h2 := splitW_len s
  refine CallV.of Tryd.func29 (by kernel_rfl) rfl Tryd.ntmps29 (by simp) rfl fun cx hB => ?_
  refine Tr.seq ?_; refine Tr.region ?_; refine TrL.quiets 1 rfl (by exact True.intro) ?_; refine TrL.nil ?_; refine Tr.seq ?_; refine Tr.region ?_; refine TrL.quiets 1 rfl (by exact True.intro) ?_; refine TrL.callV rfl rfl rfl rfl rfl (by apply (c_Split) <;> first | assumption | omega | (simp only [cut, List.length_take, List.length_drop, Int.toNat_natCast]; omega)) ?_; refine TrL.callV rfl rfl rfl rfl rfl (by apply (c_words_Join) <;> first | assumption | omega | (simp only [cut, List.length_take, List.length_drop, Int.toNat_natCast]; omega)) ?_; refine TrL.quiets 1 rfl (by exact True.intro) ?_; refine TrL.nil ?_; refine Tr.ret ?_
  refine retQ.of rfl ?_
  rfl

theorem c_awake01 : CallV Tryd.prog 23 [] (vB true) := by
  refine CallV.of Tryd.func23 (by kernel_rfl) rfl Tryd.ntmps23 (by simp) rfl fun cx hB => ?_
  refine Tr.seq ?_; refine Tr.region ?_; refine TrL.quiets 1 rfl (by exact True.intro) ?_; refine TrL.nil ?_; refine Tr.seq ?_; refine Tr.region ?_
  first | refine TrL.callV rfl rfl rfl rfl rfl (c_words_Strip _ (by decide)) ?_ | refine TrD.callV rfl rfl rfl rfl rfl (c_words_Strip _ (by decide)) rfl ?_
  refine TrL.quiets 2 rfl (by exact True.intro) ?_
  first | refine TrL.callV rfl rfl rfl rfl rfl (c_Split _ (by decide)) ?_ | refine TrD.callV rfl rfl rfl rfl rfl (c_Split _ (by decide)) rfl ?_
  refine TrL.quiets 4 rfl (by exact True.intro) ?_
  refine TrL.is 8 (sv' := vB true) rfl (congrArg vB (by kernel_rfl)) ?_
  refine TrL.want rfl rfl rfl ?_
  refine TrL.eff (effLit_sound rfl) (by exact True.intro) ?_
  refine TrL.plain 9 rfl ?_
  first | refine TrL.callV rfl rfl rfl rfl rfl (c_words_Join [[97], [98]] (by decide) (by decide)) ?_ | refine TrD.callV rfl rfl rfl rfl rfl (c_words_Join [[97], [98]] (by decide) (by decide)) rfl ?_
  refine TrL.quiets 3 rfl (by exact True.intro) ?_
  first | refine TrL.callV rfl rfl rfl rfl rfl (c_words_Trim _ (by decide)) ?_ | refine TrD.callV rfl rfl rfl rfl rfl (c_words_Trim _ (by decide)) rfl ?_
  refine TrL.quiets 3 rfl (by exact True.intro) ?_
  first | refine TrL.callV rfl rfl rfl rfl rfl (c_words_Left _) ?_ | refine TrD.callV rfl rfl rfl rfl rfl (c_words_Left _) rfl ?_
  refine TrL.quiets 3 rfl (by exact True.intro) ?_; refine TrL.nil ?_; refine Tr.ret ?_
  refine retQ.of rfl ?_
  refine congrArg vB ?_
  kernel_rfl

theorem joinW_le (l : List Str) (m : Nat) (h : ∀ x ∈ l, x.length ≤ m) : (joinW l).length ≤ l.length * (m + 1) := by
  induction l with
  | nil => simp [joinW]
  | cons x l ih =>
    have h1 := h x (by simp)
    have h2 := ih (fun y hy => h y (by simp [hy]))
    have h3 : (joinW (x :: l)).length ≤ x.length + 1 + (joinW l).length := by
      cases l with
      | nil => simp [joinW]
      | cons y l => simp [joinW]; omega
    simp only [List.length_cons, Nat.add_mul] at *
    omega
theorem c_WordsAll (s : Str) (l : List Str) : CallV Tryd.prog 6 [vS s, vL .str l] (vB true) := by
  refine CallV.of Tryd.func6 (by kernel_rfl) rfl Tryd.ntmps6 (by simp) rfl fun cx hB => ?_
  refine Tr.seq ?_; refine Tr.region ?_; refine TrL.quiets 1 rfl (by exact True.intro) ?_; refine TrL.nil ?_; refine Tr.seq ?_; refine Tr.seq ?_; refine Tr.region ?_; refine TrL.quiets 8 rfl (by exact True.intro) ?_; refine TrL.nil ?_
  refine Tr.cond rfl (fun h1 => ?_) (fun h1 => ?_)
  · refine Tr.seq ?_; refine Tr.region ?_; refine TrL.callV rfl rfl rfl rfl rfl (by apply (c_awake01) <;> first | assumption | omega | (simp only [cut, List.length_take, List.length_drop, Int.toNat_natCast]; omega)) ?_; refine TrL.quiets 1 rfl (by exact True.intro) ?_; refine TrL.nil ?_; refine Tr.ret ?_
    refine retQ.of rfl ?_
    rfl
  simp only [Bool.or_eq_false_iff, decide_eq_false_iff_not, Int.not_lt, gt_iff_lt] at h1
  obtain ⟨h1, h2⟩ := h1
  have hs : s.length ≤ 2000 := by omega
  have hl : l.length ≤ 50 := by
    have : ((List.length l : Nat) : Int) ≤ 50 := h2
    omega
  refine Tr.skip ?_; refine Tr.seq ?_; refine Tr.seq ?_; refine Tr.region ?_; refine TrL.quiets 1 rfl (by exact True.intro) ?_; refine TrL.nil ?_; refine Tr.block ?_
  refine Tr.loop (fun (i : Nat) => ⟨[(0, [], vS s), (1, [], vL .str l), (5, [], vI i)], []⟩)
    (fun i => i ≤ l.length ∧ ∀ x ∈ l.take i, x.length ≤ 100) (fun i => l.length - i) 0 [0, 1, 5] 0 hB rfl ⟨by omega, by simp⟩ fun i hi => ?_
  obtain ⟨hi, hj⟩ := hi
  refine Tr.seq ?_; refine Tr.seq ?_; refine Tr.region ?_; refine TrL.quiets 4 rfl (by exact True.intro) ?_; refine TrL.nil ?_
  refine Tr.cond rfl (fun h3 => ?_) (fun h3 => ?_)
  · have hi1 : i < l.length := by
      have : ((i : Nat) : Int) < (l.length : Int) := of_decide_eq_true h3
      omega
    refine Tr.skip ?_; refine Tr.seq ?_; refine Tr.block ?_; refine Tr.seq ?_; refine Tr.region ?_; refine TrL.quiets 6 rfl (by (simp only [allOf, impO, imp, inR, loOk, and_true]; omega)) ?_; refine TrL.nil ?_
    refine Tr.cond rfl (fun h4 => ?_) (fun h4 => ?_)
    · refine Tr.seq ?_; refine Tr.region ?_; refine TrL.callV rfl rfl rfl rfl rfl (by apply (c_awake01) <;> first | assumption | omega | (simp only [cut, List.length_take, List.length_drop, Int.toNat_natCast]; omega)) ?_; refine TrL.quiets 1 rfl (by exact True.intro) ?_; refine TrL.nil ?_; refine Tr.ret ?_
      refine retQ.of rfl ?_
      rfl
    have h5 : l[i].length ≤ 100 := by
      have h6 : ¬ (((nth (t := .str) l (i : Int) : Str).length : Nat) : Int) > 100 := of_decide_eq_false h4
      rw [nth_get' (t := .str) l i hi1] at h6
      have h7 : ¬ ((l[i].length : Nat) : Int) > 100 := h6
      omega
    refine Tr.skip ?_; refine Tr.region ?_; refine TrL.quiets 3 rfl (by exact True.intro) ?_; refine TrL.nil ?_
    refine ⟨i + 1, ⟨by omega, ?_⟩, by dsimp only; omega, ?_⟩
    · intro x hx
      rw [List.take_succ_eq_append_getElem hi1, List.mem_append] at hx
      rcases hx with hx | hx
      · exact hj x hx
      · rw [List.mem_singleton] at hx
        rw [hx]; exact h5
    · refine Eq.trans (b := (⟨[(_, [], _), (_, [], _), (_, [], _)], []⟩ : St)) rfl ?_
      rw [w64n (y := i + 1) (by omega) (by omega)]
  have hall : ∀ x ∈ l, x.length ≤ 100 := by
    have : l.take i = l := List.take_of_length_le (by
      have : ¬ ((i : Nat) : Int) < (l.length : Int) := of_decide_eq_false h3
      omega)
    rwa [this] at hj
  have hjl := joinW_le l 100 hall
  have hjl2 := Nat.mul_le_mul_right (100 + 1) hl
  have hsp := splitW_len s
  refine Tr.exit ?_; refine Tr.seq ?_; refine Tr.region ?_; refine TrL.quiets 1 rfl (by exact True.intro) ?_
  first | refine TrL.callV rfl rfl rfl rfl rfl (c_Split s (by omega)) ?_ | refine TrD.callV rfl rfl rfl rfl rfl (c_Split s (by omega)) rfl ?_
  refine TrL.quiets 1 rfl (by exact True.intro) ?_
  first | refine TrL.callV rfl rfl rfl rfl rfl (c_ref_Split s (by omega)) ?_ | refine TrD.callV rfl rfl rfl rfl rfl (c_ref_Split s (by omega)) rfl ?_
  first | refine TrL.callV rfl rfl rfl rfl rfl (c_ref_Same _ _ (by omega)) ?_ | refine TrD.callV rfl rfl rfl rfl rfl (c_ref_Same _ _ (by omega)) rfl ?_
  refine TrL.quiets 2 rfl (by exact True.intro) ?_
  first | refine TrL.callV rfl rfl rfl rfl rfl (c_words_Join l (by omega) (by omega)) ?_ | refine TrD.callV rfl rfl rfl rfl rfl (c_words_Join l (by omega) (by omega)) rfl ?_
  refine TrL.quiets 1 rfl (by exact True.intro) ?_
  first | refine TrL.callV rfl rfl rfl rfl rfl (c_ref_Join l (by omega) (by omega)) ?_ | refine TrD.callV rfl rfl rfl rfl rfl (c_ref_Join l (by omega) (by omega)) rfl ?_
  refine TrL.quiets 4 rfl (by exact True.intro) ?_
  first | refine TrL.callV rfl rfl rfl rfl rfl (c_words_Strip s (by omega)) ?_ | refine TrD.callV rfl rfl rfl rfl rfl (c_words_Strip s (by omega)) rfl ?_
  refine TrL.quiets 1 rfl (by exact True.intro) ?_
  first | refine TrL.callV rfl rfl rfl rfl rfl (c_ref_Strip s (by omega)) ?_ | refine TrD.callV rfl rfl rfl rfl rfl (c_ref_Strip s (by omega)) rfl ?_
  refine TrL.quiets 4 rfl (by exact True.intro) ?_
  first | refine TrL.callV rfl rfl rfl rfl rfl (c_words_Trim s (by omega)) ?_ | refine TrD.callV rfl rfl rfl rfl rfl (c_words_Trim s (by omega)) rfl ?_
  refine TrL.quiets 1 rfl (by exact True.intro) ?_
  first | refine TrL.callV rfl rfl rfl rfl rfl (c_ref_Trim s (by omega)) ?_ | refine TrD.callV rfl rfl rfl rfl rfl (c_ref_Trim s (by omega)) rfl ?_
  refine TrL.quiets 4 rfl (by exact True.intro) ?_
  first | refine TrL.callV rfl rfl rfl rfl rfl (c_words_Left s) ?_ | refine TrD.callV rfl rfl rfl rfl rfl (c_words_Left s) rfl ?_
  refine TrL.quiets 1 rfl (by exact True.intro) ?_
  first | refine TrL.callV rfl rfl rfl rfl rfl (c_ref_Left s) ?_ | refine TrD.callV rfl rfl rfl rfl rfl (c_ref_Left s) rfl ?_
  refine TrL.quiets 3 rfl (by exact True.intro) ?_
  first | refine TrL.callV rfl rfl rfl rfl rfl c_awake01 ?_ | refine TrD.callV rfl rfl rfl rfl rfl c_awake01 rfl ?_
  refine TrL.quiets 2 rfl (by exact True.intro) ?_; refine TrL.nil ?_; refine Tr.ret ?_
  refine retQ.of rfl ?_
  refine congrArg vB ?_
  simp
end Go.Proofs.YtafngfcfinligaaDoor.Sx
