/-
  WordsOther.
-/
import Derived.Test.YtafngfcfinligaaDoorF17
set_option linter.unusedVariables false
set_option linter.unusedSimpArgs false
set_option maxRecDepth 20000
set_option maxHeartbeats 4000000
namespace Go.Proofs.YtafngfcfinligaaDoor.Sx
open Go Go.RowKit Go.Proofs

theorem numStr3 (c : UInt8) : numStr [97, (c.toNat : Int), 98] = [97, c, 98] := by simp [numStr]
theorem rep_all (c : UInt8) (k : Nat) : ∀ d ∈ List.replicate k c, isBlank d = isBlank c := fun d hd => by rw [(List.mem_replicate.1 hd).2]
theorem left_no {w : Str} (h : ∀ c ∈ w, isBlank c = false) : left w = w := by
  cases w with
  | nil => rfl
  | cons c w => simp [left, List.dropWhile_cons, h c (by simp)]
theorem right_no {w : Str} (h : ∀ c ∈ w, isBlank c = false) : right w = w := by
  have : left w.reverse = w.reverse := left_no (fun c hc => h c (List.mem_reverse.1 hc))
  simp only [right]
  rw [show w.reverse.dropWhile isBlank = w.reverse from this, List.reverse_reverse]
theorem other_plain (c : UInt8) (j : Nat) : (((((splitW [97, c, 98]).length : Int) == 2) == isBlank c && (((splitW [97, c, 98]).length : Int) == 1) == !isBlank c &&
    trim (List.replicate j c) == if isBlank c = true then [] else List.replicate j c) &&
    left (List.replicate j c ++ [120]) == (if isBlank c = true then [] else List.replicate j c) ++ [120] && (strip [97, c, 98] == [97, 32, 98]) == isBlank c && true) = true := by
  have hr := rep_all c j
  cases hc : isBlank c with
  | true =>
    have h1 : splitW [97, c, 98] = [[97], [98]] := by
      have := splitW_gap (g := [c]) ⟨by simp, by simp [hc]⟩ [97] [98]
      rw [show [97, c, 98] = [97] ++ [c] ++ [98] from rfl, this]
      decide
    have h2 : ∀ x : Str, left (List.replicate j c ++ x) = left x := fun x => left_blank _ x (fun d hd => by rw [hr d hd, hc])
    have h3 : trim (List.replicate j c) = [] := by
      have := h2 []
      rw [List.append_nil] at this
      rw [trim, this]
      rfl
    have h4 : strip [97, c, 98] = [97, 32, 98] := by rw [strip, h1]; rfl
    rw [h1, h2, h3, h4]
    simp only [if_true]
    decide
  | false =>
    have hw : Word [97, c, 98] := ⟨by simp, fun d hd => by
      simp only [List.mem_cons, List.not_mem_nil, or_false] at hd
      rcases hd with rfl | rfl | rfl
      · decide
      · exact hc
      · decide⟩
    have hn : ∀ d ∈ List.replicate j c, isBlank d = false := fun d hd => by rw [hr d hd, hc]
    have h3 : trim (List.replicate j c) = List.replicate j c := by rw [trim, left_no hn, right_no hn]
    have h5 : left (List.replicate j c ++ [120]) = List.replicate j c ++ [120] := left_no (fun d hd => by
      rcases List.mem_append.1 hd with h | h
      · exact hn d h
      · rw [List.mem_singleton.1 h]; decide)
    have h4 : strip [97, c, 98] = [97, c, 98] := by rw [strip, hw.split]; rfl
    have h6 : (([97, c, 98] : Str) == [97, 32, 98]) = false := by
      rw [beq_eq_false_iff_ne]
      intro e
      simp only [List.cons.injEq, true_and, and_true] at e
      rw [e] at hc
      cases hc
    rw [hw.split, h3, h4, h5, h6]
    simp
theorem c_WordsOther (c0 n : Int) (hc : 0 ≤ c0 ∧ c0 < 256) (h1 : -9223372036854775808 ≤ n) (h2 : n ≤ 9223372036854775807) : CallV Tryd.prog 9 [vY c0, vI n] (vB true) := by
  obtain ⟨c, rfl⟩ : ∃ c : UInt8, ((c.toNat : Nat) : Int) = c0 := ⟨UInt8.ofNat c0.toNat, by rw [UInt8.toNat_ofNat']; omega⟩
  refine CallV.of Tryd.func9 (by kernel_rfl) rfl Tryd.ntmps9 (by simp) rfl fun cx hB => ?_
  obtain ⟨K, hK, hK2⟩ : ∃ K : Nat, n % 30 = (K : Int) ∧ K < 30 := ⟨(n % 30).toNat, by omega, by omega⟩
  refine Tr.seq ?_; refine Tr.region ?_; refine TrL.quiets 1 rfl (by exact True.intro) ?_; refine TrL.nil ?_; refine Tr.seq ?_; refine Tr.region ?_; refine TrL.quiets 1 rfl (by exact True.intro) ?_; refine TrL.eff (effLit_sound rfl) (by exact True.intro) ?_; refine TrL.quiets 2 rfl (by exact True.intro) ?_; refine TrL.nil ?_; refine Tr.seq ?_; refine Tr.region ?_; refine TrL.quiets 11 rfl (by exact True.intro) ?_; refine TrL.nil ?_; refine Tr.seq ?_; refine Tr.region ?_; refine TrL.quiets 1 rfl (by exact True.intro) ?_
  refine TrL.is 25 (sv' := vS [97, c, 98]) rfl (congrArg vS (numStr3 c)) ?_
  refine TrL.is 5 (sv' := vS [97, c, 98]) rfl (congrArg vS (numStr3 c)) ?_
  refine TrL.is 6 (sv' := vB (isBlank c)) rfl (congrArg vB (isBlank_int c)) ?_
  first | refine TrL.callV rfl rfl rfl rfl rfl (c_Split [97, c, 98] (by simp)) ?_ | refine TrD.callV rfl rfl rfl rfl rfl (c_Split [97, c, 98] (by simp)) rfl ?_
  refine TrL.quiets 1 rfl (by exact True.intro) ?_; refine TrL.nil ?_; refine Tr.seq ?_; refine Tr.region ?_; refine TrL.quiets 1 rfl (by exact True.intro) ?_
  first | refine TrL.callV rfl rfl rfl rfl rfl (c_Place n 30 (by decide) (by decide) h1 h2) ?_ | refine TrD.callV rfl rfl rfl rfl rfl (c_Place n 30 (by decide) (by decide) h1 h2) rfl ?_
  refine TrL.quiets 1 rfl (by exact True.intro) ?_; refine TrL.nil ?_; refine Tr.seq ?_; refine Tr.region ?_; refine TrL.quiets 1 rfl (by exact True.intro) ?_; refine TrL.nil ?_; refine Tr.seq ?_; refine Tr.seq ?_; refine Tr.region ?_; refine TrL.quiets 1 rfl (by exact True.intro) ?_; refine TrL.nil ?_; refine Tr.block ?_
  refine Tr.is 8 (sv' := vI (K : Int)) rfl (congrArg vI hK) ?_
  refine Tr.loop (fun (j : Nat) => ⟨[(0, [], vY (c.toNat : Int)), (5, [], vS [97, c, 98]), (6, [], vB (isBlank c)), (7, [], vL .str (splitW [97, c, 98])), (8, [], vI (K : Int)), (9, [], vS (List.replicate j c)), (10, [], vI j)], []⟩)
    (fun j => j ≤ K) (fun j => K - j) 0 [0, 5, 6, 7, 8, 9, 10] 0 hB rfl (Nat.zero_le _) fun j hj => ?_
  refine Tr.seq ?_; refine Tr.seq ?_; refine Tr.region ?_; refine TrL.quiets 3 rfl (by exact True.intro) ?_; refine TrL.nil ?_
  refine Tr.cond rfl (fun c1 => ?_) (fun c1 => ?_)
  · have hjK : j < K := by
      have : ((j : Nat) : Int) < (K : Int) := of_decide_eq_true c1
      omega
    refine Tr.skip ?_; refine Tr.seq ?_; refine Tr.block ?_; refine Tr.region ?_; refine TrL.quiets 2 rfl (by exact True.intro) ?_; refine TrL.eff (effLit_sound rfl) (by exact True.intro) ?_; refine TrL.quiets 3 rfl ?_ ?_
    · simp only [allOf, impO, imp, and_true]
      simp [numStr]
      omega
    refine TrL.nil ?_; refine Tr.region ?_; refine TrL.quiets 3 rfl (by exact True.intro) ?_; refine TrL.nil ?_
    refine ⟨j + 1, by omega, by dsimp only; omega, ?_⟩
    refine Eq.trans (b := (⟨[(_, [], _), (_, [], _), (_, [], _), (_, [], _), (_, [], _), (_, [], _), (_, [], _)], []⟩ : St)) rfl ?_
    rw [w64n (y := j + 1) (by omega) (by omega)]
    dsimp only
    rw [show (List.replicate (j + 1) c : Str) = List.replicate j c ++ numStr [(c.toNat : Int)] by simp [numStr, List.replicate_succ']]
  have hjK : j = K := by
    have : ¬ ((j : Nat) : Int) < (K : Int) := of_decide_eq_false c1
    omega
  subst hjK
  refine Tr.exit ?_; refine Tr.seq ?_; refine Tr.region ?_; refine TrL.quiets 2 rfl (by exact True.intro) ?_; refine TrL.nil ?_
  refine Tr.join (fun (_ : Unit) => ⟨[(5, [], vS [97, c, 98]), (6, [], vB (isBlank c)), (7, [], vL .str (splitW [97, c, 98])), (9, [], vS (List.replicate j c)), (11, [], vS (if isBlank c then [] else List.replicate j c))], []⟩) (fun _ => True) [5, 6, 7, 9, 11] 0 hB ?_ fun _ _ => ?_
  · refine Tr.seq ?_; refine Tr.region ?_; refine TrL.quiets 1 rfl (by exact True.intro) ?_; refine TrL.nil ?_
    refine Tr.cond rfl (fun c2 => ?_) (fun c2 => ?_)
    · refine Tr.region ?_; refine TrL.quiets 1 rfl (by exact True.intro) ?_; refine TrL.nil ?_
      exact ⟨(), True.intro, by rw [c2]; rfl⟩
    · refine Tr.skip ?_
      exact ⟨(), True.intro, by rw [c2]; rfl⟩
  refine Tr.seq ?_; refine Tr.region ?_; refine TrL.quiets 15 rfl (by exact True.intro) ?_
  first | refine TrL.callV rfl rfl rfl rfl rfl (c_words_Trim (List.replicate j c) (by simp; omega)) ?_ | refine TrD.callV rfl rfl rfl rfl rfl (c_words_Trim (List.replicate j c) (by simp; omega)) rfl ?_
  refine TrL.quiets 6 rfl ?_ ?_
  · simp only [allOf, impO, imp, and_true]
    intro _
    simp
    omega
  first | refine TrL.callV rfl rfl rfl rfl rfl (c_words_Left _) ?_ | refine TrD.callV rfl rfl rfl rfl rfl (c_words_Left _) rfl ?_
  refine TrL.quiets 6 rfl ?_ ?_
  · simp only [allOf, impO, imp, and_true]
    intro _
    split <;> simp
    omega
  first | refine TrL.callV rfl rfl rfl rfl rfl (c_words_Strip [97, c, 98] (by simp)) ?_ | refine TrD.callV rfl rfl rfl rfl rfl (c_words_Strip [97, c, 98] (by simp)) rfl ?_
  refine TrL.quiets 5 rfl (by exact True.intro) ?_
  first | refine TrL.callV rfl rfl rfl rfl rfl c_awake01 ?_ | refine TrD.callV rfl rfl rfl rfl rfl c_awake01 rfl ?_
  refine TrL.quiets 2 rfl (by exact True.intro) ?_; refine TrL.nil ?_; refine Tr.ret ?_
  refine retQ.of rfl ?_
  refine congrArg vB ?_
  exact other_plain c j
end Go.Proofs.YtafngfcfinligaaDoor.Sx
