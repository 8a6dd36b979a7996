/-
  words.Split: a range over a function.
-/
import Derived.Test.YteiickhgmmjcmaaGreatDoorF14
set_option linter.unusedVariables false
set_option linter.unusedSimpArgs false
set_option maxRecDepth 20000
set_option maxHeartbeats 4000000
namespace Go.Proofs.YteiickhgmmjcmaaGreatDoor.Sx
open Go Go.RowKit Go.Proofs

/-! ### Plain -/
/-- Where the first blank is. -/
def wlen (s : Str) : Nat := (s.takeWhile (fun c => !isBlank c)).length
theorem wlen_le (s : Str) : wlen s ≤ s.length := (List.takeWhile_sublist _).length_le
theorem left_le (s : Str) : (left s).length ≤ s.length := (List.dropWhile_sublist _).length_le
theorem take_wlen (s : Str) : s.take (wlen s) = s.takeWhile (fun c => !isBlank c) := by
  induction s with
  | nil => rfl
  | cons c s ih =>
    simp only [wlen, List.takeWhile_cons]
    split
    · simp only [List.length_cons, List.take_succ_cons]
      congr 1
    · rfl
theorem drop_wlen (s : Str) : s.drop (wlen s) = s.dropWhile (fun c => !isBlank c) := by
  have h1 := List.take_append_drop (wlen s) s
  have h2 := List.takeWhile_append_dropWhile (p := fun c => !isBlank c) (l := s)
  rw [take_wlen] at h1
  exact List.append_cancel_left (h1.trans h2.symm)
theorem spl_left (s : Str) : spl [] (left s) = spl [] s := by
  induction s with
  | nil => rfl
  | cons c s ih =>
    simp only [left, List.dropWhile_cons]
    split
    · rename_i hc
      simp only [spl, hc, if_true]
      exact ih
    · rfl
theorem spl_word (s : Str) : ∀ acc : Str, acc ++ s.takeWhile (fun c => !isBlank c) ≠ [] → spl acc s = (acc ++ s.takeWhile (fun c => !isBlank c)) :: spl [] (s.dropWhile (fun c => !isBlank c)) := by
  induction s with
  | nil => intro acc h; simp only [List.takeWhile_nil, List.append_nil] at h; simp [spl, h]
  | cons c s ih =>
    intro acc h
    cases hc : isBlank c with
    | true =>
      simp only [List.takeWhile_cons, List.dropWhile_cons, hc, Bool.not_true, Bool.false_eq_true, if_false, List.append_nil] at h ⊢
      simp only [spl, hc, if_true, h, if_false]
    | false =>
      simp only [List.takeWhile_cons, List.dropWhile_cons, hc, Bool.not_false, if_true] at h ⊢
      simp only [spl, hc, Bool.false_eq_true, if_false]
      rw [ih (acc ++ [c]) (by simp)]
      simp
theorem left_left (s : Str) : left (left s) = left s := by
  induction s with
  | nil => rfl
  | cons c s ih =>
    by_cases hc : isBlank c = true
    · simpa [left, List.dropWhile_cons, hc] using ih
    · simp [left, List.dropWhile_cons, hc]
theorem wlen_pos {s : Str} (h : left s = s) (hs : s ≠ []) : 0 < wlen s := by
  cases s with
  | nil => exact absurd rfl hs
  | cons c s =>
    cases hc : isBlank c with
    | true =>
      have : (left (c :: s)).length ≤ s.length := by
        simp only [left, List.dropWhile_cons, hc, if_true]
        exact left_le s
      rw [h] at this
      simp at this
      omega
    | false => simp [wlen, List.takeWhile_cons, hc]
theorem splitW_word {s : Str} (h : left s = s) (hs : s ≠ []) : splitW s = s.take (wlen s) :: splitW (left (s.drop (wlen s))) := by
  have hp := wlen_pos h hs
  have hne : s.takeWhile (fun c => !isBlank c) ≠ [] := by
    rw [← take_wlen]
    intro e
    have := congrArg List.length e
    simp only [List.length_take, List.length_nil] at this
    have := wlen_le s
    omega
  simp only [splitW]
  rw [spl_word s [] (by simpa using hne), spl_left, take_wlen, drop_wlen]
  rfl
theorem indexAny_blanks (s : Str) : Lib.indexAny s blanks = if wlen s < s.length then (wlen s : Int) else -1 := by
  induction s with
  | nil => rfl
  | cons c s ih =>
    rw [Lib.indexAny, blanks_contains]
    cases hc : isBlank c with
    | true => simp [wlen, List.takeWhile_cons, hc]
    | false =>
      have e : wlen (c :: s) = wlen s + 1 := by simp [wlen, List.takeWhile_cons, hc]
      rw [ih, e]
      simp only [Bool.false_eq_true, if_false, List.length_cons]
      by_cases h : wlen s < s.length
      · rw [if_pos h, if_neg (by simp), if_pos (by omega)]
        rfl
      · rw [if_neg h, if_pos (by rfl), if_neg (by omega)]

/-! ### The walk -/
theorem c_each (s : Str) : CallT Tryz.prog 40 [vS s] [] (.fn 68 [] [.ptr 0 0]) [.box 9 [vS s]] := by
  refine CallT.of Tryz.func40 (by kernel_rfl) rfl Tryz.ntmps40 (by simp) (by simp) fun cx hB => ?_
  refine Tr.seq ?_; refine Tr.region ?_; refine TrL.eff (effBox_sound rfl) (by exact True.intro) ?_; refine TrL.quiets 1 rfl (by exact True.intro) ?_; refine TrL.nil ?_; refine Tr.seq ?_; refine Tr.region ?_; refine TrL.quiets 2 rfl (by exact True.intro) ?_; refine TrL.nil ?_; refine Tr.ret ?_
  exact retT.of rfl rfl rfl

abbrev spT (x : List Str × Str) : List Ent := [.box 36 [.own 2], .box 9 [vS x.2], .gs 9 .str x.1]
theorem c_Split (s : Str) (hs : s.length ≤ 4294967280) : CallV Tryz.prog 21 [vS s] (vL .str (splitW s)) := by
  refine CallV.ofRange Tryz.func21 (by kernel_rfl) rfl Tryz.ntmps21 (by simp) rfl fun cx R hB hds hR => ?_
  refine RW.seq ?_
  refine Tr.region ?_; refine TrL.quiets 1 rfl (by exact True.intro) ?_; refine TrL.nil ?_
  refine ⟨rfl, RW.seq ?_⟩
  refine Tr.region ?_; refine TrL.eff (effBox_sound rfl) (by exact True.intro) ?_; refine TrL.nil ?_
  refine ⟨rfl, RW.seqR (RW.seq ?_)⟩
  refine Tr.region ?_; refine TrL.quiets 1 rfl (by exact True.intro) ?_
  refine TrL.callT [] rfl rfl rfl rfl rfl (c_each s) rfl rfl rfl ?_
  refine TrL.nil ?_
  refine ⟨rfl, ?_⟩
  refine RW.nilBox 0 0 9 .str rfl rfl ?_
  refine RW.keep [3, 6] 3 (fun i hi => by have := hB i hi; omega) (st' := ⟨[(3, [], .ptr 0 0), (6, [], .fn 68 [] [.ptr 1 0])], spT ([], s)⟩) rfl ?_
  refine RW.range (X := List Str × Str) (fun x => x.1.length + x.2.length ≤ s.length ∧ x.2 ≠ []) (fun x => vS (x.2.take (wlen x.2))) spT (fun x => spT (x.1 ++ [x.2.take (wlen x.2)], x.2)) (spT (splitW s, []))
    hB hds hR rfl Tryz.func68 (by kernel_rfl) rfl Tryz.ntmps68 rfl (by simp) rfl ?_ ?_ ?_
  · intro cx1 l hB1 hY
    have hB3 : ∀ i, cx1.B i = true → i < 3 := fun i hi => isBoxAt_lt ((hB1 i).symm.trans hi)
    refine Tr.seq ?_; refine Tr.region ?_; refine TrL.quiets 1 rfl (by exact True.intro) ?_; refine TrL.callV rfl rfl rfl rfl rfl (by apply (c_words_Left) <;> first | assumption | omega | (simp only [cut, List.length_take, List.length_drop, Int.toNat_natCast]; omega)) ?_; refine TrL.eff (effStore_sound rfl) (by exact True.intro) ?_; refine TrL.nil ?_; refine Tr.block ?_
    refine Tr.loop (fun x : List Str × Str => ⟨[(0, [], .yv l), (1, [], .ptr 1 0)], spT x⟩) (fun x => x.1.length + x.2.length ≤ s.length ∧ left x.2 = x.2 ∧ splitW s = x.1 ++ splitW x.2) (fun x => x.2.length) ([], left s) [0, 1] 3 hB3 rfl ?_ ?_
    · refine ⟨?_, left_left s, ?_⟩
      · have := left_le s
        simp; omega
      · simp [splitW, spl_left]
    rintro ⟨acc, t⟩ ⟨h1, h2, h3⟩
    simp only at h1 h2 h3
    refine Tr.seq ?_; refine Tr.seq ?_; refine Tr.region ?_; refine TrL.quiets 2 rfl (by exact True.intro) ?_; refine TrL.nil ?_
    refine Tr.cond rfl (fun c1 => ?_) (fun c1 => ?_)
    · have ht : t ≠ [] := fun e => by rw [e] at c1; cases c1
      have hpos := wlen_pos h2 ht
      have hwl := wlen_le t
      refine Tr.skip ?_; refine Tr.seq ?_; refine Tr.block ?_; refine Tr.seq ?_; refine Tr.region ?_; refine TrL.quiets 1 rfl (by exact True.intro) ?_
      first | refine TrL.callV rfl rfl rfl rfl rfl (c_IndexAny t (by omega)) ?_ | refine TrD.callV rfl rfl rfl rfl rfl (c_IndexAny t (by omega)) rfl ?_
      refine TrL.quiets 1 rfl (by exact True.intro) ?_; refine TrL.nil ?_
      refine Tr.join (fun (_ : Unit) => ⟨[(0, [], .yv l), (1, [], .ptr 1 0), (3, [], vI (wlen t : Int))], spT (acc, t)⟩) (fun _ => True) [0, 1, 3] 3 hB3 ?_ fun _ _ => ?_
      · have hix := indexAny_blanks t
        refine Tr.seq ?_; refine Tr.region ?_; refine TrL.quiets 2 rfl (by exact True.intro) ?_; refine TrL.nil ?_
        refine Tr.cond rfl (fun c2 => ?_) (fun c2 => ?_)
        · have e : t.length = wlen t := by
            simp only [decide_eq_true_eq] at c2
            by_cases h : wlen t < t.length
            · rw [if_pos h] at hix; omega
            · omega
          refine Tr.region ?_; refine TrL.quiets 3 rfl (by exact True.intro) ?_; refine TrL.nil ?_
          exact ⟨(), True.intro, by rw [← e]; rfl⟩
        · have e : Lib.indexAny t blanks = (wlen t : Int) := by
            simp only [decide_eq_false_iff_not] at c2
            by_cases h : wlen t < t.length
            · rw [if_pos h] at hix; exact hix
            · rw [if_neg h] at hix; omega
          refine Tr.skip ?_
          exact ⟨(), True.intro, by rw [← e]; rfl⟩
      · first | refine Tr.regionI (TrLI.of 4 rfl ?_) | (refine Tr.seq ?_; refine Tr.regionI (TrLI.of 4 rfl ?_)) | (refine Tr.seq ?_; refine Tr.seq ?_; refine Tr.regionI (TrLI.of 4 rfl ?_))
        refine TrL.quiets 4 rfl (by (simp only [allOf, impO, imp, inR, loOk, and_true]; omega)) ?_; refine TrL.nil ?_
        refine ⟨rfl, ?_⟩
        refine TrLI.yield (isBoxAt (spT ([], s))) (fun i hi => (hB1 i).trans hi) rfl rfl rfl rfl rfl rfl rfl (hY (acc, t) ⟨h1, ht⟩) ?_
        refine TrLI.all rfl ?_
        refine TrL.quiets 1 rfl (by exact True.intro) ?_; refine TrL.nil ?_
        refine ⟨rfl, ?_⟩
        change Tr _ _ _ _ _ _
        refine Tr.cond rfl (fun c3 => ?_) (fun c3 => ?_)
        · cases c3
        refine Tr.skip ?_; refine Tr.region ?_; refine TrL.quiets 3 rfl (by (simp (disch := omega) only [allOf, impO, imp, inR, loOk, and_true, w64, List.length_set, List.length_cons, List.length_nil, Option.getD_none, Option.getD_some, Ty.D, true_and, decide_eq_true_eq, decide_eq_false_iff_not, Bool.and_eq_true, Bool.or_eq_false_iff]; omega)) ?_; refine TrL.eff (effStore_sound rfl) (by exact True.intro) ?_; refine TrL.nil ?_; refine Tr.region ?_; refine TrL.quiets 1 rfl (by exact True.intro) ?_; refine TrL.callV rfl rfl rfl rfl rfl (by apply (c_words_Left) <;> first | assumption | omega | (simp only [cut, List.length_take, List.length_drop, Int.toNat_natCast]; omega)) ?_; refine TrL.eff (effStore_sound rfl) (by exact True.intro) ?_; refine TrL.nil ?_
        refine ⟨(acc ++ [t.take (wlen t)], left (t.drop (wlen t))), ⟨?_, left_left _, ?_⟩, ?_, rfl⟩
        · have := left_le (t.drop (wlen t))
          simp only [List.length_append, List.length_cons, List.length_nil, List.length_drop] at this ⊢
          omega
        · rw [h3, splitW_word h2 ht]
          simp
        · have := left_le (t.drop (wlen t))
          simp only [List.length_drop] at this ⊢
          omega
    · have ht : t = [] := by simpa using c1
      subst ht
      refine Tr.exit ?_
      refine ⟨.inl rfl, ?_⟩
      rw [h3]
      simp [splitW, spl]
  · rintro ⟨acc, t⟩ ⟨h1, h2⟩ cx2 l hB2 hd2
    simp only at h1 h2
    refine TrI.region (TrLI.all rfl ?_)
    refine TrL.quiets 1 rfl (by exact True.intro) ?_; refine TrL.nil ?_
    refine ⟨rfl, rfl, fun cx3 hB3 hd3 => TrI.block (TrI.region (TrLI.all rfl ?_))⟩
    refine TrL.quiets 2 rfl (by exact True.intro) ?_; refine TrL.eff (effLit_sound rfl) (by exact True.intro) ?_; refine TrL.eff (effAppend_sound rfl) ?_ ?_
    · show acc.length + 1 ≤ 1099511627776
      omega
    refine TrL.eff (effStore_sound rfl) (by exact True.intro) ?_; refine TrL.nil ?_
    exact ⟨rfl, rfl, rfl, rfl⟩
  · intro cx4 hB4
    refine Tr.seq ?_; refine Tr.region ?_; refine TrL.quiets 2 rfl (by exact True.intro) ?_; refine TrL.nil ?_; refine Tr.ret ?_
    refine retQ.of rfl ?_
    rfl
end Go.Proofs.YteiickhgmmjcmaaGreatDoor.Sx
