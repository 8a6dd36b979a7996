/-
  The reference's words.
-/
import Derived.Test.YteiickhgmmjcmaaGreatDoorF1
set_option linter.unusedVariables false
set_option linter.unusedSimpArgs false
set_option maxRecDepth 20000
namespace Go.Proofs.YteiickhgmmjcmaaGreatDoor.Sx
open Go Go.RowKit Go.Proofs

/-- The words of a text, one of them begun. -/
def spl : Str → Str → List Str
  | acc, [] => if acc = [] then [] else [acc]
  | acc, c :: r => if isBlank c then (if acc = [] then spl [] r else acc :: spl [] r) else spl (acc ++ [c]) r
def splitW (s : Str) : List Str := spl [] s
theorem spl_length : ∀ (s acc : Str), (spl acc s).length ≤ s.length + 1
  | [], acc => by simp only [spl]; split <;> simp
  | c :: r, acc => by
    simp only [spl]
    split
    · split
      · have := spl_length r []; simp; omega
      · have := spl_length r []; simp; omega
    · have := spl_length r (acc ++ [c]); simp; omega


theorem c_ref_Split (s : Str) (hs : s.length ≤ 1099511627775) : CallV Tryz.prog 12 [vS s] (vL .str (splitW s)) := by
  refine CallV.of Tryz.func12 (by kernel_rfl) rfl Tryz.ntmps12 (by simp) rfl fun cx hB => ?_
  refine Tr.seq (Tr.region (TrL.quiets 1 rfl True.intro (TrL.nil (Tr.seq (Tr.region (TrL.quiets 1 rfl True.intro (TrL.nil (Tr.seq (Tr.region (TrL.quiets 1 rfl True.intro (TrL.nil (Tr.seq (Tr.seq (Tr.region (TrL.quiets 1 rfl True.intro (TrL.nil (Tr.block ?_)))))))))))))))))
  refine Tr.nilRow 3 9 .str rfl ?_
  refine Tr.loop (fun (i, j, l) => ⟨[(0, [], vS s), (3, [], .own 0), (4, [], vI ((j : Nat) : Int)), (5, [], vI ((i : Nat) : Int))], [.gs 9 .str l]⟩)
    (fun (i, j, l) => l.length ≤ i ∧ ((i ≤ s.length ∧ j ≤ i ∧ splitW s = l ++ spl ((s.take i).drop j) (s.drop i)) ∨ (i = s.length + 1 ∧ l = splitW s)))
    (fun x => s.length + 1 - x.1) (0, 0, []) [0, 3, 4, 5] 1 (fun i hi => by have := hB i hi; omega) rfl ⟨Nat.le_refl _, .inl ⟨Nat.zero_le _, Nat.le_refl _, rfl⟩⟩ fun x hx => ?_
  obtain ⟨i, j, l⟩ := x
  obtain ⟨hl, hx⟩ := hx
  refine Tr.seq (Tr.seq (Tr.region (TrL.quiets 4 rfl True.intro (TrL.nil (Tr.cond rfl (fun h1 => ?_) (fun h1 => ?_))))))
  · have hi : i ≤ s.length := by have := of_decide_eq_true h1; omega
    obtain ⟨_, hj, heq⟩ := hx.resolve_right (fun h => by omega)
    have hw : IntKind.i64.wrap ((i : Int) + 1) = ((i + 1 : Nat) : Int) := w64n (by omega) (by omega)
    refine Tr.skip (Tr.seq (Tr.block (Tr.seq (Tr.seq (Tr.region (TrL.quiets 8 rfl ?_ ?_))))))
    · simp only [allOf, impO, imp, inR, loOk, and_true]
      intro h
      have := of_decide_eq_true h
      omega
    refine TrL.callV rfl rfl rfl rfl rfl (c_Blank ..) ?_
    refine TrL.quiets 2 rfl True.intro (TrL.nil (Tr.cond rfl (fun h2 => ?_) (fun h2 => ?_)))
    · simp only [Bool.and_eq_true, decide_eq_true_eq, Bool.not_eq_true'] at h2
      have hlt : i < s.length := by omega
      have hb := h2.2
      rw [byteAt_get _ _ hlt, isBlank_int] at hb
      refine Tr.exit (Tr.region (TrL.quiets 3 rfl True.intro (TrL.nil ?_)))
      refine ⟨(i + 1, j, l), ⟨by omega, .inl ⟨by omega, by omega, ?_⟩⟩, by dsimp only; omega, ?_⟩
      · rw [heq, List.drop_eq_getElem_cons hlt, spl, hb, if_neg Bool.false_ne_true, List.take_succ_eq_append_getElem hlt, List.drop_append_of_le_length (by simp; omega)]
      · exact congrArg (fun z => (⟨[(0, [], vS s), (3, [], .own 0), (4, [], vI j), (5, [], vI z)], [.gs 9 .str l]⟩ : St)) hw
    · have hcur : (i ≤ j ↔ (s.take i).drop j = []) := by
        rw [List.drop_eq_nil_iff, List.length_take]
        omega
      refine Tr.skip (Tr.seq (Tr.seq (Tr.region (TrL.quiets 3 rfl True.intro (TrL.nil (Tr.cond rfl (fun h3 => ?_) (fun h3 => ?_)))))))
      · have hji : j < i := by have := of_decide_eq_true h3; omega
        have hne : (s.take i).drop j ≠ [] := fun e => by have := hcur.2 e; omega
        refine Tr.region (TrL.quiets 5 rfl ?_ ?_)
        · simp only [allOf, impO, imp, inR, loOk, and_true]
          simp only [Option.getD_some]
          omega
        refine TrL.eff (effLit_sound rfl) True.intro (TrL.eff (effAppend_sound rfl) ?_ ?_)
        · show l.length + 1 ≤ bigN
          simp only [bigN]
          omega
        refine TrL.quiets 1 rfl True.intro (TrL.nil (Tr.region (TrL.quiets 3 rfl True.intro (TrL.nil (Tr.region (TrL.quiets 3 rfl True.intro (TrL.nil ?_)))))))
        refine ⟨(i + 1, i + 1, l ++ [(s.take i).drop j]), ⟨by first | omega | (simp; omega), ?_⟩, by dsimp only; omega, ?_⟩
        · by_cases hlt : i < s.length
          · refine .inl ⟨by omega, Nat.le_refl _, ?_⟩
            have hb : isBlank s[i] = true := by
              have h3 : decide ((i : Int) < (s.length : Int)) = true := by simp; omega
              rw [h3, byteAt_get _ _ hlt, isBlank_int] at h2
              simpa using h2
            have h0 : (s.take (i + 1)).drop (i + 1) = [] := List.drop_eq_nil_of_le (by simp; omega)
            rw [heq, h0, List.drop_eq_getElem_cons hlt, spl, hb, if_pos rfl, if_neg hne]
            simp
          · refine .inr ⟨by omega, ?_⟩
            have : s.drop i = [] := List.drop_eq_nil_of_le (by omega)
            rw [heq, this, spl, if_neg hne]
        · show (⟨[(0, [], vS s), (3, [], .own 0), (4, [], vI (IntKind.i64.wrap ((i : Int) + 1))), (5, [], vI (IntKind.i64.wrap ((i : Int) + 1)))], [.gs 9 .str (l ++ [cut s (some (j : Int)) (some (i : Int))])]⟩ : St) = _
          rw [hw]
          rfl
      · have hji : i ≤ j := by have := of_decide_eq_false h3; omega
        have he := hcur.1 hji
        refine Tr.skip (Tr.region (TrL.quiets 3 rfl True.intro (TrL.nil (Tr.region (TrL.quiets 3 rfl True.intro (TrL.nil ?_))))))
        refine ⟨(i + 1, i + 1, l), ⟨by first | omega | (simp; omega), ?_⟩, by dsimp only; omega, ?_⟩
        · by_cases hlt : i < s.length
          · refine .inl ⟨by omega, Nat.le_refl _, ?_⟩
            have hb : isBlank s[i] = true := by
              have h3 : decide ((i : Int) < (s.length : Int)) = true := by simp; omega
              rw [h3, byteAt_get _ _ hlt, isBlank_int] at h2
              simpa using h2
            have h0 : (s.take (i + 1)).drop (i + 1) = [] := List.drop_eq_nil_of_le (by simp; omega)
            rw [heq, h0, List.drop_eq_getElem_cons hlt, spl, hb, if_pos rfl, if_pos he]
          · refine .inr ⟨by omega, ?_⟩
            have : s.drop i = [] := List.drop_eq_nil_of_le (by omega)
            rw [heq, this, he, spl, if_pos rfl, List.append_nil]
        · exact congrArg (fun z => (⟨[(0, [], vS s), (3, [], .own 0), (4, [], vI z), (5, [], vI z)], [.gs 9 .str l]⟩ : St)) hw
  · rcases hx with ⟨h, _⟩ | ⟨_, hx⟩
    · have := of_decide_eq_false h1; omega
    refine Tr.exit (Tr.seq (Tr.region (TrL.quiets 2 rfl True.intro (TrL.nil (Tr.ret (retQ.of rfl ?_))))))
    rw [← hx]


/-- Words with a blank between. -/
def joinW : List Str → Str
  | [] => []
  | [a] => a
  | a :: b :: l => a ++ 32 :: joinW (b :: l)
theorem joinW_snoc (l : List Str) (a : Str) : joinW (l ++ [a]) = (if l = [] then [] else joinW l ++ [32]) ++ a := by
  induction l with
  | nil => simp [joinW]
  | cons x l ih =>
    cases l with
    | nil => simp [joinW]
    | cons y l => simp [joinW] at ih ⊢; exact ih
theorem joinW_take_le (l : List Str) (i : Nat) : (joinW (l.take i)).length ≤ (joinW l).length := by
  induction l generalizing i with
  | nil => simp
  | cons a l ih =>
    cases i with
    | zero => simp [joinW]
    | succ i =>
      cases l with
      | nil => simp [joinW]
      | cons b l =>
        cases i with
        | zero => simp [joinW]
        | succ i =>
          have := ih (i + 1)
          simp only [List.take_succ_cons, joinW, List.length_append, List.length_cons] at this ⊢
          omega

theorem c_ref_Join (l : List Str) (hl : (joinW l).length ≤ 1099511627776) (hn : l.length ≤ 1099511627776) : CallV Tryz.prog 23 [vL .str l] (vS (joinW l)) := by
  refine CallV.of Tryz.func23 (by kernel_rfl) rfl Tryz.ntmps23 (by simp) rfl fun cx hB => ?_
  refine Tr.seq (Tr.region (TrL.quiets 1 rfl True.intro (TrL.nil (Tr.seq (Tr.region (TrL.quiets 1 rfl True.intro (TrL.nil (Tr.seq (Tr.seq (Tr.region (TrL.quiets 1 rfl True.intro (TrL.nil (Tr.block ?_)))))))))))))
  refine Tr.nilRow 3 5 (.int .u8) rfl ?_
  refine Tr.loop (fun i : Nat => ⟨[(0, [], vL .str l), (3, [], .own 0), (4, [], vI (i : Int))], [.gs 5 (.int .u8) (strBytes (joinW (l.take i)))]⟩) (fun i => i ≤ l.length) (fun i => l.length - i) 0 [0, 3, 4] 1 (fun i hi => by have := hB i hi; omega) rfl (Nat.zero_le _) fun i hi => ?_
  have hle := joinW_take_le l (i + 1)
  refine Tr.seq (Tr.seq (Tr.region (TrL.quiets 4 rfl True.intro (TrL.nil (Tr.cond rfl (fun h1 => ?_) (fun h1 => ?_))))))
  · have hlt : i < l.length := by have := of_decide_eq_true h1; omega
    have hj := joinW_snoc (l.take i) l[i]
    rw [← List.take_succ_eq_append_getElem hlt] at hj
    have hw : IntKind.i64.wrap ((i : Int) + 1) = ((i + 1 : Nat) : Int) := w64n (by omega) (by omega)
    have hnth := nth_get' (t := .str) l i hlt
    refine Tr.skip (Tr.seq (Tr.block (Tr.seq (Tr.seq (Tr.region (TrL.quiets 2 rfl True.intro (TrL.nil (Tr.cond rfl (fun h2 => ?_) (fun h2 => ?_)))))))))
    · have h0 : 0 < i := by have := of_decide_eq_true h2; omega
      have hne : l.take i ≠ [] := fun e => by
        have := congrArg List.length e
        rw [List.length_take, List.length_nil] at this
        omega
      rw [if_neg hne] at hj
      have hlen := congrArg List.length hj
      simp only [List.length_append, List.length_cons, List.length_nil] at hlen
      refine Tr.region (TrL.quiets 1 rfl True.intro (TrL.eff (effLit_sound rfl) True.intro (TrL.eff (effAppend_sound rfl) ?_ ?_)))
      · show (strBytes (joinW (l.take i))).length + 1 ≤ 1099511627776
        rw [strBytes_length]
        omega
      refine TrL.quiets 1 rfl True.intro (TrL.nil (Tr.region (TrL.quiets 5 rfl ?_ ?_)))
      · simp only [allOf, impO, imp, inR, loOk, and_true]
        exact inRn hlt
      refine TrL.eff (effAppend_sound rfl) ?_ ?_
      · show (strBytes (joinW (l.take i)) ++ [32]).length + (strBytes (nth (t := .str) l (i : Int))).length ≤ 1099511627776
        rw [hnth, List.length_append, strBytes_length, strBytes_length]
        simp only [List.length_cons, List.length_nil]
        omega
      refine TrL.quiets 1 rfl True.intro (TrL.nil (Tr.region (TrL.quiets 3 rfl True.intro (TrL.nil ?_))))
      refine ⟨i + 1, hlt, by dsimp only; omega, ?_⟩
      show (⟨[(0, [], vL .str l), (3, [], .own 0), (4, [], vI (IntKind.i64.wrap ((i : Int) + 1)))], [.gs 5 (.int .u8) (strBytes (joinW (l.take i)) ++ [32] ++ strBytes (nth (t := .str) l (i : Int)))]⟩ : St) = ⟨_, [.gs 5 (.int .u8) (strBytes (joinW (l.take (i + 1))))]⟩
      rw [hw, hnth, hj, strBytes_append, strBytes_append]
      rfl
    · have h0 : i = 0 := by have := of_decide_eq_false h2; omega
      subst h0
      simp only [List.take_zero, if_true, List.nil_append] at hj
      have hlen := congrArg List.length hj
      refine Tr.skip (Tr.region (TrL.quiets 5 rfl ?_ ?_))
      · simp only [allOf, impO, imp, inR, loOk, and_true]
        omega
      refine TrL.eff (effAppend_sound rfl) ?_ ?_
      · show 0 + (strBytes (nth (t := .str) l ((0 : Nat) : Int))).length ≤ 1099511627776
        rw [hnth, strBytes_length]
        omega
      refine TrL.quiets 1 rfl True.intro (TrL.nil (Tr.region (TrL.quiets 3 rfl True.intro (TrL.nil ?_))))
      refine ⟨1, hlt, by dsimp only; omega, ?_⟩
      show (⟨[(0, [], vL .str l), (3, [], .own 0), (4, [], vI (IntKind.i64.wrap (((0 : Nat) : Int) + 1)))], [.gs 5 (.int .u8) ([] ++ strBytes (nth (t := .str) l ((0 : Nat) : Int)))]⟩ : St) = ⟨_, [.gs 5 (.int .u8) (strBytes (joinW (l.take (0 + 1))))]⟩
      rw [hw, hnth, hj]
      rfl
  · have hge : l.length ≤ i := by have := of_decide_eq_false h1; omega
    refine Tr.exit (Tr.seq (Tr.region (TrL.quiets 3 rfl True.intro (TrL.nil (Tr.ret (retQ.of rfl ?_))))))
    show vS (numStr (strBytes (joinW (l.take i)))) = _
    rw [numStr_strBytes, List.take_of_length_le hge]


theorem joinW_splitW_le (s : Str) : (joinW (splitW s)).length ≤ s.length := by
  have key : ∀ (s acc : Str), (joinW (spl acc s)).length ≤ acc.length + s.length := by
    intro s
    induction s with
    | nil => intro acc; simp only [spl]; split <;> simp_all [joinW]
    | cons c s ih =>
      intro acc
      simp only [spl]
      split
      · split
        · have := ih []; simp at this ⊢; omega
        · have := ih []
          rcases hs : spl [] s with _ | ⟨b, l⟩
          · simp [joinW]
          · rw [hs] at this
            simp only [joinW, List.length_append, List.length_cons, List.length_nil] at this ⊢
            omega
      · have := ih (acc ++ [c])
        simp only [List.length_append, List.length_cons, List.length_nil] at this ⊢
        omega
  have := key s []
  rw [List.length_nil, Nat.zero_add] at this
  exact this
def strip (s : Str) : Str := joinW (splitW s)








end Go.Proofs.YteiickhgmmjcmaaGreatDoor.Sx
