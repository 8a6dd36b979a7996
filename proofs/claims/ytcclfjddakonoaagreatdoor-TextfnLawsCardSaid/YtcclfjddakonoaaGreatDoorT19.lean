/-
  ref18: subst, find; ref05: Each, Pairs.
  ref18: subst, find; ref05: Each, Pairs, Filter.
  ref05: Pairs, Filter.
  What the document's sort, first and last words make, plain.
  ref18: Patsubst, one, two, Do.
  ref18: Patsubst, Do.
-/
import Derived.Test.YtcclfjddakonoaaGreatDoorT11
import Derived.Test.YtcclfjddakonoaaGreatDoorV18
set_option linter.unusedVariables false
set_option linter.unusedSimpArgs false
set_option maxRecDepth 20000
set_option maxHeartbeats 4000000
namespace Go.Proofs.YtcclfjddakonoaaGreatDoor.Sx
open Go Go.Proofs Go.RowKit

/-! ### ReplaceAll, from the front on -/
theorem index_skip {c : UInt8} {r f : Str} (h : f.isPrefixOf (c :: r) = false) : Lib.index (c :: r) f = if Lib.index r f == -1 then -1 else Lib.index r f + 1 := by
  rw [Lib.index, h]
  simp
theorem count_skip {c : UInt8} {r f : Str} (hf : f ≠ []) (h : f.isPrefixOf (c :: r) = false) : Lib.count (c :: r) f = Lib.count r f := by
  have hi := index_skip h
  have hge := Lib.index_ge r f
  by_cases hm : Lib.index r f = -1
  · rw [hm] at hi
    rw [Lib.count_miss hm, Lib.count_miss (by simpa using hi)]
  · obtain ⟨i, hi2⟩ : ∃ i : Nat, Lib.index r f = i := ⟨(Lib.index r f).toNat, by omega⟩
    have hb : (Lib.index r f == -1) = false := by simpa using hm
    rw [hb, hi2] at hi
    have hi3 : Lib.index (c :: r) f = ((i + 1 : Nat) : Int) := by rw [hi]; simp
    rw [Lib.count_hit hf hi2, Lib.count_hit hf hi3, show i + 1 + f.length = (i + f.length) + 1 by omega, List.drop_succ_cons]
def repR (f t s : Str) : Str := Lib.replaceK f t (Lib.count s f) s
theorem repR_nil {f : Str} (t : Str) (hf : f ≠ []) : repR f t [] = [] := by
  have : Lib.index [] f = -1 := by
    unfold Lib.index
    cases f with
    | nil => exact absurd rfl hf
    | cons a l => rfl
  unfold repR
  rw [Lib.count_miss this]
  rfl
theorem repR_hit {c : UInt8} {r f : Str} (t : Str) (hf : f ≠ []) (h : f.isPrefixOf (c :: r) = true) : repR f t (c :: r) = t ++ repR f t ((c :: r).drop f.length) := by
  have hi : Lib.index (c :: r) f = ((0 : Nat) : Int) := by rw [Lib.index, h]; rfl
  unfold repR
  rw [Lib.count_hit hf hi, Nat.zero_add, Nat.add_comm 1, Lib.replaceK_hit f t _ _ 0 hi]
  simp
theorem repR_skip {c : UInt8} {r f : Str} (t : Str) (hf : f ≠ []) (h : f.isPrefixOf (c :: r) = false) : repR f t (c :: r) = c :: repR f t r := by
  have hi := index_skip h
  have hge := Lib.index_ge r f
  unfold repR
  rw [count_skip hf h]
  by_cases hm : Lib.index r f = -1
  · rw [Lib.count_miss hm]
    rfl
  · obtain ⟨i, hi2⟩ : ∃ i : Nat, Lib.index r f = i := ⟨(Lib.index r f).toNat, by omega⟩
    have hb : (Lib.index r f == -1) = false := by simpa using hm
    rw [hb, hi2] at hi
    have hi3 : Lib.index (c :: r) f = ((i + 1 : Nat) : Int) := by rw [hi]; simp
    rw [Lib.count_hit hf hi2, Nat.add_comm 1, Lib.replaceK_hit f t _ _ i hi2, Lib.replaceK_hit f t _ _ (i + 1) hi3, show i + 1 + f.length = (i + f.length) + 1 by omega, List.drop_succ_cons, List.take_succ_cons]
    rfl
theorem repR_same {f : Str} (hf : f ≠ []) : ∀ (n : Nat) (s : Str), s.length ≤ n → repR f f s = s := by
  intro n
  induction n with
  | zero =>
    intro s hs
    obtain rfl := List.eq_nil_of_length_eq_zero (Nat.le_zero.1 hs)
    exact repR_nil f hf
  | succ n ih =>
    intro s hs
    cases s with
    | nil => exact repR_nil f hf
    | cons c r =>
      cases h : f.isPrefixOf (c :: r) with
      | true =>
        have hp : 1 ≤ f.length := List.length_pos_iff.2 hf
        rw [repR_hit f hf h, ih _ (by rw [List.length_drop]; omega)]
        obtain ⟨m, hm⟩ := List.isPrefixOf_iff_prefix.1 h
        rw [← hm, List.drop_left]
      | false =>
        rw [repR_skip f hf h, ih r (by simp only [List.length_cons] at hs; omega)]
theorem replaceAll_rep {f : Str} (t s : Str) (hf : f ≠ []) : Lib.replaceAll s f t = repR f t s := by
  unfold Lib.replaceAll Lib.replace
  by_cases h : f = t
  · subst h
    rw [if_pos (by simp), repR_same hf s.length s (Nat.le_refl _)]
  · rw [if_neg (by simpa using h)]
    unfold Lib.replaceNum
    rw [if_pos (.inl (by decide))]
    rfl
theorem repR_len {f : Str} (t : Str) (hf : f ≠ []) : ∀ (n : Nat) (s : Str), s.length ≤ n → (repR f t s).length ≤ s.length * (t.length + 1) := by
  intro n
  induction n with
  | zero =>
    intro s hs
    obtain rfl := List.eq_nil_of_length_eq_zero (Nat.le_zero.1 hs)
    rw [repR_nil t hf]
    simp
  | succ n ih =>
    intro s hs
    cases s with
    | nil => rw [repR_nil t hf]; simp
    | cons c r =>
      have hp : 1 ≤ f.length := List.length_pos_iff.2 hf
      cases h : f.isPrefixOf (c :: r) with
      | true =>
        have h1 := ih ((c :: r).drop f.length) (by rw [List.length_drop]; omega)
        rw [repR_hit t hf h, List.length_append]
        have h2 : ((c :: r).drop f.length).length ≤ r.length := by rw [List.length_drop, List.length_cons]; omega
        have h3 := Nat.mul_le_mul_right (t.length + 1) h2
        rw [List.length_cons, Nat.add_mul]
        omega
      | false =>
        have h1 := ih r (by simp only [List.length_cons] at hs; omega)
        rw [repR_skip t hf h, List.length_cons, List.length_cons, Nat.add_mul]
        omega

theorem contains_any (s f : Str) : Lib.contains s f = (List.range (s.length + 1)).any fun i => f.isPrefixOf (s.drop i) := by
  unfold Lib.contains
  rw [Bool.eq_iff_iff, decide_eq_true_eq, List.any_eq_true]
  constructor
  · intro h
    rcases Lib.index_spec s f with ⟨h1, _⟩ | ⟨i, h1, h2, h3, _⟩
    · omega
    · exact ⟨i, List.mem_range.2 (by omega), h3⟩
  · rintro ⟨i, hi, h⟩
    have hge := Lib.index_ge s f
    rcases Lib.index_spec s f with ⟨h1, h2⟩ | ⟨j, h1, _⟩
    · have := h2 i (by have := List.mem_range.1 hi; omega)
      unfold Lib.occAt at this
      rw [h] at this
      cases this
    · omega

theorem c_rSubst (f t s : Str) (hf : f.length ≤ 10000) (ht : t.length ≤ 10000) (hs : s.length ≤ 10000) : CallV Tryz.prog 20 [vS f, vS t, vS s] (vS (substF f t s)) := by
  refine CallV.of Tryz.func20 (by kernel_rfl) rfl Tryz.ntmps20 (by simp) rfl fun cx hB => ?_
  have hB1 : ∀ i, cx.B i = true → i < 1 := fun i h => by have := hB i h; omega
  refine Tr.seq ?_; refine Tr.region ?_; refine TrL.quiets 1 rfl (by exact True.intro) ?_; refine TrL.nil ?_; refine Tr.seq ?_; refine Tr.seq ?_; refine Tr.region ?_; refine TrL.quiets 2 rfl (by exact True.intro) ?_; refine TrL.nil ?_
  refine Tr.cond rfl (fun c1 => ?_) (fun c1 => ?_)
  · have c1' : f = [] := by simpa using c1
    refine Tr.seq ?_; refine Tr.region ?_; refine TrL.quiets 4 rfl (by (simp only [allOf, impO, imp, inR, loOk, and_true]; omega)) ?_; refine TrL.nil ?_; refine Tr.ret ?_
    refine retQ.of rfl ?_
    unfold substF
    rw [if_pos c1']
  have c1' : f ≠ [] := by simpa using c1
  have hsf : substF f t s = repR f t s := by
    unfold substF
    rw [if_neg c1', replaceAll_rep t s c1']
  have hrl := repR_len t c1' s.length s (Nat.le_refl _)
  have hrl2 : s.length * (t.length + 1) ≤ 10000 * 10001 := Nat.mul_le_mul hs (by omega)
  rw [hsf]
  have hfl : 1 ≤ f.length := List.length_pos_iff.2 c1'
  refine Tr.skip ?_; refine Tr.seq ?_; refine Tr.region ?_; refine TrL.quiets 1 rfl (by exact True.intro) ?_; refine TrL.nil ?_; refine Tr.seq ?_; refine Tr.seq ?_; refine Tr.region ?_; refine TrL.quiets 1 rfl (by exact True.intro) ?_; refine TrL.nil ?_
  change Tr _ _ _ _ _ _
  refine Tr.nilRow 7 5 (.int .u8) rfl ?_
  refine Tr.block ?_
  refine Tr.loop (fun (x : Str × Nat) => ⟨[(0, [], vS f), (1, [], vS t), (2, [], vS s), (7, [], .own 0), (8, [], vI x.2)], [.gs 5 (.int .u8) (strBytes x.1)]⟩)
    (fun x => x.2 ≤ s.length ∧ x.1 ++ repR f t (s.drop x.2) = repR f t s) (fun x => s.length - x.2) ([], 0) [0, 1, 2, 7, 8] 1 hB1 rfl ⟨Nat.zero_le _, rfl⟩ fun x hx => ?_
  obtain ⟨u, i⟩ := x
  obtain ⟨hi, hu⟩ := hx
  dsimp only at hi hu
  have hul : u.length ≤ 100010000 := by
    have := congrArg List.length hu
    rw [List.length_append] at this
    omega
  refine Tr.seq ?_; refine Tr.seq ?_; refine Tr.region ?_; refine TrL.quiets 4 rfl (by exact True.intro) ?_; refine TrL.nil ?_
  refine Tr.cond rfl (fun c2 => ?_) (fun c2 => ?_)
  · have hi1 : i < s.length := by simpa using c2
    have hdl := List.drop_eq_getElem_cons hi1
    refine Tr.skip ?_; refine Tr.block ?_; refine Tr.seq ?_; refine Tr.seq ?_; refine Tr.region ?_; refine TrL.quiets 4 rfl (by (simp (disch := omega) only [allOf, impO, imp, inR, loOk, and_true, w64, List.length_set, List.length_cons, List.length_nil, Option.getD_none, Option.getD_some, Ty.D, true_and, decide_eq_true_eq, decide_eq_false_iff_not, Bool.and_eq_true, Bool.or_eq_false_iff]; omega)) ?_
    first | refine TrL.callV rfl rfl rfl rfl rfl (c_ref_Has (s.drop i) f) ?_ | refine TrD.callV rfl rfl rfl rfl rfl (c_ref_Has (s.drop i) f) rfl ?_
    refine TrL.nil ?_
    refine Tr.cond rfl (fun c3 => ?_) (fun c3 => ?_)
    · have c3' : f.isPrefixOf (s[i] :: s.drop (i + 1)) = true := by rw [← hdl]; exact c3
      have hpl : i + f.length ≤ s.length := by
        have h1 := (List.isPrefixOf_iff_prefix.1 c3').length_le
        rw [← hdl, List.length_drop] at h1
        omega
      rw [hdl, repR_hit t c1' c3', ← hdl, List.drop_drop] at hu
      refine Tr.seq ?_; refine Tr.region ?_; refine TrL.quiets 2 rfl (by exact True.intro) ?_; refine TrL.eff (effAppend_sound rfl) ?_ ?_
      · show (strBytes u).length + (strBytes t).length ≤ 1099511627776
        rw [strBytes_length, strBytes_length]
        omega
      refine TrL.quiets 1 rfl (by exact True.intro) ?_; refine TrL.nil ?_; refine Tr.seq ?_; refine Tr.region ?_; refine TrL.quiets 5 rfl (by exact True.intro) ?_; refine TrL.nil ?_; refine Tr.exit ?_
      refine ⟨(u ++ t, i + f.length), ⟨hpl, ?_⟩, by dsimp only; omega, ?_⟩
      · dsimp only
        rw [List.append_assoc]
        exact hu
      refine Eq.trans (b := (⟨[(0, [], vS f), (1, [], vS t), (2, [], vS s), (7, [], .own 0), (8, [], vI (IntKind.i64.wrap ((i : Int) + (f.length : Int))))], [.gs 5 (.int .u8) (strBytes u ++ strBytes t)]⟩ : St)) rfl ?_
      dsimp only
      rw [strBytes_append, w64n (y := i + f.length) (by omega) (by omega)]
    · have c3' : f.isPrefixOf (s[i] :: s.drop (i + 1)) = false := by rw [← hdl]; exact c3
      rw [hdl, repR_skip t c1' c3'] at hu
      have hbt : byteAt s (i : Int) = (((s[i]).toNat : Nat) : Int) := byteAt_get s i hi1
      refine Tr.skip ?_; refine Tr.seq ?_; refine Tr.region ?_; refine TrL.quiets 4 rfl (by (simp only [allOf, impO, imp, inR, loOk, and_true]; omega)) ?_; refine TrL.eff (effLit_sound rfl) (by exact True.intro) ?_; refine TrL.eff (effAppend_sound rfl) ?_ ?_
      · show (strBytes u).length + 1 ≤ 1099511627776
        rw [strBytes_length]
        omega
      refine TrL.quiets 1 rfl (by exact True.intro) ?_; refine TrL.nil ?_; refine Tr.region ?_; refine TrL.quiets 3 rfl (by exact True.intro) ?_; refine TrL.nil ?_
      refine ⟨(u ++ [s[i]], i + 1), ⟨hi1, ?_⟩, by dsimp only; omega, ?_⟩
      · dsimp only
        rw [List.append_assoc]
        exact hu
      refine Eq.trans (b := (⟨[(0, [], vS f), (1, [], vS t), (2, [], vS s), (7, [], .own 0), (8, [], vI (IntKind.i64.wrap ((i : Int) + 1)))], [.gs 5 (.int .u8) (strBytes u ++ [byteAt s (i : Int)])]⟩ : St)) rfl ?_
      dsimp only
      rw [strBytes_append, hbt, w64n (y := i + 1) (by omega) (by omega)]
      rfl
  · have hi1 : i = s.length := by
      have : ¬ (i : Int) < s.length := by simpa using c2
      omega
    subst hi1
    rw [List.drop_length, repR_nil t c1', List.append_nil] at hu
    refine Tr.exit ?_; refine Tr.seq ?_; refine Tr.region ?_; refine TrL.quiets 3 rfl (by exact True.intro) ?_; refine TrL.nil ?_; refine Tr.ret ?_
    refine retQ.of rfl ?_
    rw [← hu]
    exact congrArg vS (numStr_strBytes u)
theorem c_rFind (f s : Str) (hf : f.length ≤ 10000) (hs : s.length ≤ 10000) : CallV Tryz.prog 38 [vS f, vS s] (vB (Lib.contains s f)) := by
  have hA := contains_any s f
  refine CallV.of Tryz.func38 (by kernel_rfl) rfl Tryz.ntmps38 (by simp) rfl fun cx hB => ?_
  refine Tr.seq ?_; refine Tr.region ?_; refine TrL.quiets 1 rfl (by exact True.intro) ?_; refine TrL.nil ?_; refine Tr.seq ?_; refine Tr.seq ?_; refine Tr.region ?_; refine TrL.quiets 1 rfl (by exact True.intro) ?_; refine TrL.nil ?_; refine Tr.block ?_
  refine Tr.loop (fun (i : Nat) => ⟨[(0, [], vS f), (1, [], vS s), (5, [], vI i)], []⟩) (fun i => i ≤ s.length + 1 ∧ ∀ j, j < i → f.isPrefixOf (s.drop j) = false) (fun i => s.length + 1 - i) 0 [0, 1, 5] 0 hB rfl ⟨Nat.zero_le _, fun j hj => by omega⟩ fun i hi => ?_
  obtain ⟨hi, hn⟩ := hi
  refine Tr.seq ?_; refine Tr.seq ?_; refine Tr.region ?_; refine TrL.quiets 4 rfl (by exact True.intro) ?_; refine TrL.nil ?_
  refine Tr.cond rfl (fun c2 => ?_) (fun c2 => ?_)
  · have hi1 : i ≤ s.length := by simpa using c2
    refine Tr.skip ?_; refine Tr.seq ?_; refine Tr.block ?_; refine Tr.seq ?_; refine Tr.region ?_; refine TrL.quiets 4 rfl (by (simp (disch := omega) only [allOf, impO, imp, inR, loOk, and_true, w64, List.length_set, List.length_cons, List.length_nil, Option.getD_none, Option.getD_some, Ty.D, true_and, decide_eq_true_eq, decide_eq_false_iff_not, Bool.and_eq_true, Bool.or_eq_false_iff]; omega)) ?_
    first | refine TrL.callV rfl rfl rfl rfl rfl (c_ref_Has (s.drop i) f) ?_ | refine TrD.callV rfl rfl rfl rfl rfl (c_ref_Has (s.drop i) f) rfl ?_
    refine TrL.nil ?_
    refine Tr.cond rfl (fun c3 => ?_) (fun c3 => ?_)
    · have c3' : f.isPrefixOf (s.drop i) = true := c3
      have hc : Lib.contains s f = true := by
        rw [hA, List.any_eq_true]
        exact ⟨i, List.mem_range.2 (by omega), c3'⟩
      refine Tr.seq ?_; refine Tr.region ?_; refine TrL.quiets 1 rfl (by exact True.intro) ?_; refine TrL.nil ?_; refine Tr.ret ?_
      refine retQ.of rfl ?_
      rw [hc]
    · have c3' : f.isPrefixOf (s.drop i) = false := c3
      refine Tr.skip ?_; refine Tr.region ?_; refine TrL.quiets 3 rfl (by exact True.intro) ?_; refine TrL.nil ?_
      refine ⟨i + 1, ⟨by omega, fun j hj => ?_⟩, by dsimp only; omega, ?_⟩
      · rcases Nat.lt_succ_iff_lt_or_eq.1 hj with h | h
        · exact hn j h
        · rw [h]; exact c3'
      refine Eq.trans (b := (⟨[(0, [], vS f), (1, [], vS s), (5, [], vI (IntKind.i64.wrap ((i : Int) + 1)))], []⟩ : St)) rfl ?_
      dsimp only
      rw [w64n (y := i + 1) (by omega) (by omega)]
  · have hi1 : i = s.length + 1 := by
      have : ¬ (i : Int) ≤ s.length := by simpa using c2
      omega
    subst hi1
    have hc : Lib.contains s f = false := by
      rw [hA, List.any_eq_false]
      intro j hj
      rw [hn j (List.mem_range.1 hj)]
      decide
    refine Tr.exit ?_; refine Tr.seq ?_; refine Tr.region ?_; refine TrL.quiets 1 rfl (by exact True.intro) ?_; refine TrL.nil ?_; refine Tr.ret ?_
    refine retQ.of rfl ?_
    rw [hc]
theorem c_rEach (l : List Str) (b e : Str) (hl : l.length ≤ 1099511627) (hb : b.length ≤ 1099511627) (he : e.length ≤ 1099511627) (hx : ∀ x ∈ l, x.length ≤ 1099511627) : CallV Tryz.prog 40 [vL .str l, vS b, vS e] (vL .str (eachF l b e)) := by
  refine CallV.of Tryz.func40 (by kernel_rfl) rfl Tryz.ntmps40 (by simp) rfl fun cx hB => ?_
  have hB1 : ∀ i, cx.B i = true → i < 1 := fun i h => by have := hB i h; omega
  refine Tr.seq ?_; refine Tr.region ?_; refine TrL.quiets 1 rfl (by exact True.intro) ?_; refine TrL.nil ?_; refine Tr.seq ?_; refine Tr.region ?_; refine TrL.quiets 1 rfl (by exact True.intro) ?_; refine TrL.nil ?_
  change Tr _ _ _ _ _ _
  refine Tr.nilRow 7 9 .str rfl ?_
  refine Tr.seq ?_; refine Tr.seq ?_; refine Tr.region ?_; refine TrL.quiets 1 rfl (by exact True.intro) ?_; refine TrL.nil ?_; refine Tr.block ?_
  refine Tr.loop (fun i : Nat => ⟨[(0, [], vL .str l), (1, [], vS b), (2, [], vS e), (7, [], .own 0), (8, [], vI i)], [.gs 9 .str (eachF (l.take i) b e)]⟩) (fun i => i ≤ l.length) (fun i => l.length - i) 0 [0, 1, 2, 7, 8] 1 hB1 rfl (Nat.zero_le _) fun i hi => ?_
  refine Tr.seq ?_; refine Tr.seq ?_; refine Tr.region ?_; refine TrL.quiets 4 rfl (by exact True.intro) ?_; refine TrL.nil ?_
  refine Tr.cond rfl (fun c1 => ?_) (fun c1 => ?_)
  · have hi1 : i < l.length := by simpa using c1
    have hmem : l[i] ∈ l := List.getElem_mem hi1
    have hxi := hx _ hmem
    have hnth : nth (t := .str) l (i : Int) = l[i] := nth_get' (t := .str) _ _ hi1
    have hxn : (nth (t := .str) l (i : Int)).length ≤ 1099511627 := by rw [hnth]; exact hxi
    have hel : (eachF (l.take i) b e).length = i := by simp [eachF]; omega
    refine Tr.skip ?_; refine Tr.seq ?_; refine Tr.block ?_; refine Tr.region ?_; refine TrL.quiets 9 rfl (by (simp (disch := omega) only [allOf, impO, imp, inR, loOk, and_true, w64, List.length_set, List.length_cons, List.length_nil, cut, List.length_take, List.length_drop, List.length_append, Int.toNat_natCast, Option.getD_none, Option.getD_some, Ty.D, true_and, decide_eq_true_eq, decide_eq_false_iff_not, Bool.and_eq_true, Bool.or_eq_false_iff]; omega)) ?_; refine TrL.eff (effLit_sound rfl) (by exact True.intro) ?_; refine TrL.eff (effAppend_sound rfl) ?_ ?_
    · show (eachF (l.take i) b e).length + 1 ≤ 1099511627776
      omega
    refine TrL.quiets 1 rfl (by exact True.intro) ?_; refine TrL.nil ?_; refine Tr.region ?_; refine TrL.quiets 3 rfl (by exact True.intro) ?_; refine TrL.nil ?_
    refine ⟨i + 1, hi1, by dsimp only; omega, ?_⟩
    refine Eq.trans (b := (⟨[(0, [], vL .str l), (1, [], vS b), (2, [], vS e), (7, [], .own 0), (8, [], vI (IntKind.i64.wrap ((i : Int) + 1)))], [.gs 9 .str (eachF (l.take i) b e ++ [b ++ nth (t := .str) l (i : Int) ++ e])]⟩ : St)) rfl ?_
    dsimp only
    rw [hnth, eachF_take l b e i hi1, w64n (y := i + 1) (by omega) (by omega)]
  · have hi1 : i = l.length := by
      have : ¬ (i : Int) < l.length := by simpa using c1
      omega
    subst hi1
    rw [List.take_length]
    refine Tr.exit ?_; refine Tr.seq ?_; refine Tr.region ?_; refine TrL.quiets 2 rfl (by exact True.intro) ?_; refine TrL.nil ?_; refine Tr.ret ?_
    refine retQ.of rfl ?_
    rfl

theorem getD_in {l : List Str} {i : Nat} (h : i < l.length) : l.getD i [] = nth (t := .str) l (i : Int) := by
  rw [nth_get' (t := .str) _ _ h, List.getD_eq_getElem?_getD, List.getElem?_eq_getElem h]
  rfl
theorem getD_out {l : List Str} {i : Nat} (h : l.length ≤ i) : l.getD i [] = [] := by
  rw [List.getD_eq_getElem?_getD, List.getElem?_eq_none h]
  rfl
theorem c_rPairs (a b : List Str) (ha : a.length ≤ 1099511627) (hb : b.length ≤ 1099511627) (hxa : ∀ x ∈ a, x.length ≤ 1099511627) (hxb : ∀ x ∈ b, x.length ≤ 1099511627) : CallV Tryz.prog 41 [vL .str a, vL .str b] (vL .str (pairsF a b)) := by
  refine CallV.of Tryz.func41 (by kernel_rfl) rfl Tryz.ntmps41 (by simp) rfl fun cx hB => ?_
  have hB1 : ∀ i, cx.B i = true → i < 1 := fun i h => by have := hB i h; omega
  obtain ⟨m, hm⟩ : ∃ m, max a.length b.length = m := ⟨_, rfl⟩
  refine Tr.seq ?_; refine Tr.region ?_; refine TrL.quiets 1 rfl (by exact True.intro) ?_; refine TrL.nil ?_; refine Tr.seq ?_; refine Tr.region ?_; refine TrL.quiets 1 rfl (by exact True.intro) ?_; refine TrL.nil ?_
  change Tr _ _ _ _ _ _
  refine Tr.nilRow 5 9 .str rfl ?_
  refine Tr.seq ?_; refine Tr.seq ?_; refine Tr.region ?_; refine TrL.quiets 1 rfl (by exact True.intro) ?_; refine TrL.nil ?_; refine Tr.block ?_
  refine Tr.loop (fun i : Nat => ⟨[(0, [], vL .str a), (1, [], vL .str b), (5, [], .own 0), (6, [], vI i)], [.gs 9 .str ((List.range i).map (pairF a b))]⟩) (fun i => i ≤ m) (fun i => m - i) 0 [0, 1, 5, 6] 1 hB1 rfl (Nat.zero_le _) fun i hi => ?_
  refine Tr.seq ?_; refine Tr.seq ?_; refine Tr.region ?_; refine TrL.quiets 10 rfl (by exact True.intro) ?_; refine TrL.nil ?_
  refine Tr.cond rfl (fun c1 => ?_) (fun c1 => ?_)
  · have hi1 : i < m := by
      have : i < a.length ∨ i < b.length := by simpa using c1
      omega
    have hi2 : i + 1 ≤ m := hi1
    have hna : i < a.length → (nth (t := .str) a (i : Int)).length ≤ 1099511627 := fun h => by rw [nth_get' (t := .str) _ _ h]; exact hxa _ (List.getElem_mem h)
    have hnb : i < b.length → (nth (t := .str) b (i : Int)).length ≤ 1099511627 := fun h => by rw [nth_get' (t := .str) _ _ h]; exact hxb _ (List.getElem_mem h)
    refine Tr.skip ?_; refine Tr.seq ?_; refine Tr.block ?_; refine Tr.seq ?_; refine Tr.region ?_; refine TrL.quiets 1 rfl (by exact True.intro) ?_; refine TrL.nil ?_; refine Tr.seq ?_; refine Tr.seq ?_; refine Tr.region ?_; refine TrL.quiets 4 rfl (by exact True.intro) ?_; refine TrL.nil ?_
    refine Tr.cond rfl (fun c2 => ?_) (fun c2 => ?_)
    · have h1 : i < a.length := by simpa using c2
      have h1n := hna h1
      refine Tr.region ?_; refine TrL.quiets 5 rfl (by (simp only [allOf, impO, imp, inR, loOk, and_true]; omega)) ?_; refine TrL.nil ?_; refine Tr.seq ?_; refine Tr.seq ?_; refine Tr.region ?_; refine TrL.quiets 4 rfl (by exact True.intro) ?_; refine TrL.nil ?_
      refine Tr.cond rfl (fun c3 => ?_) (fun c3 => ?_)
      · have h2 : i < b.length := by simpa using c3
        have h2n := hnb h2
        refine Tr.region ?_; refine TrL.quiets 7 rfl (by (simp only [allOf, impO, imp, inR, loOk, and_true]; omega)) ?_; refine TrL.nil ?_; refine Tr.region ?_; refine TrL.quiets 2 rfl (by exact True.intro) ?_; refine TrL.eff (effLit_sound rfl) (by exact True.intro) ?_; refine TrL.eff (effAppend_sound rfl) ?_ ?_
        · show ((List.range i).map (pairF a b)).length + 1 ≤ 1099511627776
          rw [List.length_map, List.length_range]
          omega
        refine TrL.quiets 1 rfl (by exact True.intro) ?_; refine TrL.nil ?_; refine Tr.region ?_; refine TrL.quiets 3 rfl (by exact True.intro) ?_; refine TrL.nil ?_
        refine ⟨i + 1, hi2, by dsimp only; omega, ?_⟩
        refine Eq.trans (b := (⟨[(0, [], vL .str a), (1, [], vL .str b), (5, [], .own 0), (6, [], vI (IntKind.i64.wrap ((i : Int) + 1)))], [.gs 9 .str ((List.range i).map (pairF a b) ++ [nth (t := .str) a (i : Int) ++ nth (t := .str) b (i : Int)])]⟩ : St)) rfl ?_
        dsimp only
        rw [List.range_succ, List.map_append, w64n (y := i + 1) (by omega) (by omega)]
        simp only [List.map_cons, List.map_nil, pairF, getD_in h1, getD_in h2]
      · have h2 : b.length ≤ i := by simpa using c3
        refine Tr.skip ?_; refine Tr.region ?_; refine TrL.quiets 2 rfl (by exact True.intro) ?_; refine TrL.eff (effLit_sound rfl) (by exact True.intro) ?_; refine TrL.eff (effAppend_sound rfl) ?_ ?_
        · show ((List.range i).map (pairF a b)).length + 1 ≤ 1099511627776
          rw [List.length_map, List.length_range]
          omega
        refine TrL.quiets 1 rfl (by exact True.intro) ?_; refine TrL.nil ?_; refine Tr.region ?_; refine TrL.quiets 3 rfl (by exact True.intro) ?_; refine TrL.nil ?_
        refine ⟨i + 1, hi2, by dsimp only; omega, ?_⟩
        refine Eq.trans (b := (⟨[(0, [], vL .str a), (1, [], vL .str b), (5, [], .own 0), (6, [], vI (IntKind.i64.wrap ((i : Int) + 1)))], [.gs 9 .str ((List.range i).map (pairF a b) ++ [nth (t := .str) a (i : Int)])]⟩ : St)) rfl ?_
        dsimp only
        rw [List.range_succ, List.map_append, w64n (y := i + 1) (by omega) (by omega)]
        simp only [List.map_cons, List.map_nil, pairF, getD_in h1, getD_out h2, List.append_nil]
    · have h1 : a.length ≤ i := by simpa using c2
      refine Tr.skip ?_; refine Tr.seq ?_; refine Tr.seq ?_; refine Tr.region ?_; refine TrL.quiets 4 rfl (by exact True.intro) ?_; refine TrL.nil ?_
      refine Tr.cond rfl (fun c3 => ?_) (fun c3 => ?_)
      · have h2 : i < b.length := by simpa using c3
        have h2n := hnb h2
        refine Tr.region ?_; refine TrL.quiets 7 rfl (by (simp (disch := omega) only [allOf, impO, imp, inR, loOk, and_true, w64, List.length_set, List.length_cons, List.length_nil, Option.getD_none, Option.getD_some, Ty.D, true_and, decide_eq_true_eq, decide_eq_false_iff_not, Bool.and_eq_true, Bool.or_eq_false_iff]; omega)) ?_; refine TrL.nil ?_; refine Tr.region ?_; refine TrL.quiets 2 rfl (by exact True.intro) ?_; refine TrL.eff (effLit_sound rfl) (by exact True.intro) ?_; refine TrL.eff (effAppend_sound rfl) ?_ ?_
        · show ((List.range i).map (pairF a b)).length + 1 ≤ 1099511627776
          rw [List.length_map, List.length_range]
          omega
        refine TrL.quiets 1 rfl (by exact True.intro) ?_; refine TrL.nil ?_; refine Tr.region ?_; refine TrL.quiets 3 rfl (by exact True.intro) ?_; refine TrL.nil ?_
        refine ⟨i + 1, hi2, by dsimp only; omega, ?_⟩
        refine Eq.trans (b := (⟨[(0, [], vL .str a), (1, [], vL .str b), (5, [], .own 0), (6, [], vI (IntKind.i64.wrap ((i : Int) + 1)))], [.gs 9 .str ((List.range i).map (pairF a b) ++ [[] ++ nth (t := .str) b (i : Int)])]⟩ : St)) rfl ?_
        dsimp only
        rw [List.range_succ, List.map_append, w64n (y := i + 1) (by omega) (by omega)]
        simp only [List.map_cons, List.map_nil, pairF, getD_out h1, getD_in h2]
      · have h2 : b.length ≤ i := by simpa using c3
        omega
  · have hi1 : i = m := by
      have : a.length ≤ i ∧ b.length ≤ i := by simpa using c1
      omega
    subst hi1
    refine Tr.exit ?_; refine Tr.seq ?_; refine Tr.region ?_; refine TrL.quiets 2 rfl (by exact True.intro) ?_; refine TrL.nil ?_; refine Tr.ret ?_
    refine retQ.of rfl ?_
    unfold pairsF
    rw [hm]
theorem c_rFilter (ps l : List Str) (out : Bool) (hps : ps.length ≤ 1099511627) (hpx : ∀ p ∈ ps, p.length ≤ 1099511627) (hl : l.length ≤ 1099511627) (hw : ∀ w ∈ l, w.length ≤ 1099511627776) :
    CallV Tryz.prog 39 [vL .str ps, vL .str l, vB out] (vL .str (filterF ps l out)) := by
  have hkp : ∀ p ∈ ps.map patF, okPat p := by
    intro p hp
    obtain ⟨q, hq, rfl⟩ := List.mem_map.1 hp
    have h1 := patF_lenT q
    have h2 := hpx q hq
    unfold okPat
    omega
  have hpl : (ps.map patF).length = ps.length := List.length_map ..
  unfold filterF
  refine CallV.of Tryz.func39 (by kernel_rfl) rfl Tryz.ntmps39 (by simp) rfl fun cx hB => ?_
  have hB2 : ∀ i, cx.B i = true → i < 2 := fun i h => by have := hB i h; omega
  refine Tr.seq ?_; refine Tr.region ?_; refine TrL.quiets 1 rfl (by exact True.intro) ?_; refine TrL.nil ?_; refine Tr.seq ?_; refine Tr.region ?_; refine TrL.quiets 1 rfl (by exact True.intro) ?_; refine TrL.nil ?_; refine Tr.seq ?_; refine Tr.region ?_; refine TrL.quiets 1 rfl (by exact True.intro) ?_; refine TrL.nil ?_; refine Tr.seq ?_; refine Tr.seq ?_; refine Tr.region ?_; refine TrL.quiets 1 rfl (by exact True.intro) ?_; refine TrL.nil ?_
  change Tr _ _ _ _ _ _
  refine Tr.nilRow 8 64 pTy rfl ?_
  refine Tr.nilRow 7 9 .str rfl ?_
  refine Tr.block ?_
  refine Tr.loop (fun i : Nat => ⟨[(0, [], vL .str ps), (1, [], vL .str l), (2, [], vB out), (7, [], .own 1), (8, [], .own 0), (9, [], vI i)], [.gs 64 pTy ((ps.take i).map patF), .gs 9 .str []]⟩) (fun i => i ≤ ps.length) (fun i => ps.length - i) 0 [0, 1, 2, 7, 8, 9] 2 hB2 rfl (Nat.zero_le _) fun i hi => ?_
  refine Tr.seq ?_; refine Tr.seq ?_; refine Tr.region ?_; refine TrL.quiets 4 rfl (by exact True.intro) ?_; refine TrL.nil ?_
  refine Tr.cond rfl (fun c1 => ?_) (fun c1 => ?_)
  · have hi1 : i < ps.length := by simpa using c1
    have hnth : nth (t := .str) ps (i : Int) = ps[i] := nth_get' (t := .str) _ _ hi1
    have hpi := hpx _ (List.getElem_mem hi1)
    have hml : ((ps.take i).map patF).length = i := by rw [List.length_map, List.length_take]; omega
    have hms : (ps.take (i + 1)).map patF = (ps.take i).map patF ++ [patF ps[i]] := by
      rw [List.take_succ_eq_append_getElem hi1, List.map_append]
      rfl
    rw [← hnth] at hpi
    refine Tr.skip ?_; refine Tr.seq ?_; refine Tr.block ?_; refine Tr.region ?_; refine TrL.quiets 5 rfl (by (simp only [allOf, impO, imp, inR, loOk, and_true]; omega)) ?_
    first | refine TrL.callV rfl rfl rfl rfl rfl (c_rOf (nth (t := .str) ps (i : Int)) (by omega)) ?_ | refine TrD.callV rfl rfl rfl rfl rfl (c_rOf (nth (t := .str) ps (i : Int)) (by omega)) rfl ?_
    refine TrL.eff (effLit_sound rfl) (by exact True.intro) ?_; refine TrL.eff (effAppend_sound rfl) ?_ ?_
    · show ((ps.take i).map patF).length + 1 ≤ 1099511627776
      omega
    refine TrL.quiets 1 rfl (by exact True.intro) ?_; refine TrL.nil ?_; refine Tr.region ?_; refine TrL.quiets 3 rfl (by exact True.intro) ?_; refine TrL.nil ?_
    refine ⟨i + 1, hi1, by dsimp only; omega, ?_⟩
    refine Eq.trans (b := (⟨[(0, [], vL .str ps), (1, [], vL .str l), (2, [], vB out), (7, [], .own 1), (8, [], .own 0), (9, [], vI (IntKind.i64.wrap ((i : Int) + 1)))], [.gs 64 pTy ((ps.take i).map patF ++ [patF (nth (t := .str) ps (i : Int))]), .gs 9 .str []]⟩ : St)) rfl ?_
    dsimp only
    rw [hms, hnth, w64n (y := i + 1) (by omega) (by omega)]
  have hi1 : ps.length = i := by
    have : ¬ (i : Int) < ps.length := by simpa using c1
    omega
  subst hi1
  rw [List.take_length]
  generalize ps.map patF = P at hkp hpl
  refine Tr.keep [1, 2, 7, 8] 2 hB2 (st' := ⟨[(1, [], vL .str l), (2, [], vB out), (7, [], .own 1), (8, [], .own 0)], [.gs 64 pTy P, .gs 9 .str []]⟩) rfl ?_
  refine Tr.exit ?_; refine Tr.seq ?_; refine Tr.seq ?_; refine Tr.region ?_; refine TrL.quiets 1 rfl (by exact True.intro) ?_; refine TrL.nil ?_; refine Tr.block ?_
  refine Tr.loop (fun i : Nat => ⟨[(1, [], vL .str l), (2, [], vB out), (7, [], .own 1), (8, [], .own 0), (10, [], vI i)], [.gs 64 pTy P, .gs 9 .str ((l.take i).filter (soF P out))]⟩) (fun i => i ≤ l.length) (fun i => l.length - i) 0 [1, 2, 7, 8, 10] 2 hB2 rfl (Nat.zero_le _) fun i hi => ?_
  refine Tr.seq ?_; refine Tr.seq ?_; refine Tr.region ?_; refine TrL.quiets 4 rfl (by exact True.intro) ?_; refine TrL.nil ?_
  refine Tr.cond rfl (fun c2 => ?_) (fun c2 => ?_)
  · have hi1 : i < l.length := by simpa using c2
    have hnth : nth (t := .str) l (i : Int) = l[i] := nth_get' (t := .str) _ _ hi1
    have hwi := hw _ (List.getElem_mem hi1)
    have hfl : ((l.take i).filter (soF P out)).length ≤ i := by
      have h1 := List.length_filter_le (soF P out) (l.take i)
      rw [List.length_take] at h1
      omega
    have hfs : (l.take (i + 1)).filter (soF P out) = (l.take i).filter (soF P out) ++ if soF P out l[i] then [l[i]] else [] := by
      rw [List.take_succ_eq_append_getElem hi1, List.filter_append]
      congr 1
      cases h : soF P out l[i] <;> simp [h]
    rw [← hnth] at hwi hfs
    refine Tr.skip ?_; refine Tr.seq ?_; refine Tr.block ?_; refine Tr.seq ?_; refine Tr.region ?_; refine TrL.quiets 1 rfl (by exact True.intro) ?_; refine TrL.nil ?_; refine Tr.seq ?_; refine Tr.seq ?_; refine Tr.region ?_; refine TrL.quiets 1 rfl (by exact True.intro) ?_; refine TrL.nil ?_; refine Tr.block ?_
    refine Tr.loop (fun k : Nat => ⟨[(1, [], vL .str l), (2, [], vB out), (7, [], .own 1), (8, [], .own 0), (10, [], vI i), (11, [], vB ((P.take k).any fun p => (matchF p (nth (t := .str) l (i : Int))).2)), (12, [], vI k)], [.gs 64 pTy P, .gs 9 .str ((l.take i).filter (soF P out))]⟩) (fun k => k ≤ P.length) (fun k => P.length - k) 0 [1, 2, 7, 8, 10, 11, 12] 2 hB2 rfl (Nat.zero_le _) fun k hk => ?_
    refine Tr.seq ?_; refine Tr.seq ?_; refine Tr.region ?_; refine TrL.quiets 8 rfl (by exact True.intro) ?_; refine TrL.nil ?_
    refine Tr.cond rfl (fun c3 => ?_) (fun c3 => ?_)
    · obtain ⟨hkl, hkf⟩ : k < P.length ∧ ((P.take k).any fun p => (matchF p (nth (t := .str) l (i : Int))).2) = false := by
        simp only [Bool.and_eq_true, decide_eq_true_eq, Bool.not_eq_true'] at c3
        exact ⟨by omega, c3.2⟩
      have hnp : nth (t := pTy) P (k : Int) = P[k] := nth_get' (t := pTy) P k hkl
      have hpk := hkp _ (List.getElem_mem hkl)
      rw [← hnp] at hpk
      have hany : ((P.take (k + 1)).any fun p => (matchF p (nth (t := .str) l (i : Int))).2) = (matchF P[k] (nth (t := .str) l (i : Int))).2 := by
        rw [List.take_succ_eq_append_getElem hkl, List.any_append, hkf]
        simp
      refine Tr.skip ?_; refine Tr.seq ?_; refine Tr.block ?_; refine Tr.draw (by kernel_rfl) (by kernel_rfl) ?_; refine TrD.quiets 8 rfl (by (simp only [allOf, impO, imp, inR, loOk, and_true]; omega)) ?_
      first | refine TrL.callV rfl rfl rfl rfl rfl (c_rMatch (nth (t := pTy) P (k : Int)) (nth (t := .str) l (i : Int)) hpk hwi) ?_ | refine TrD.callV rfl rfl rfl rfl rfl (c_rMatch (nth (t := pTy) P (k : Int)) (nth (t := .str) l (i : Int)) hpk hwi) rfl ?_
      refine TrD.quiets 4 rfl (by exact True.intro) ?_; refine TrD.nil ?_; refine Tr.region ?_; refine TrL.quiets 3 rfl (by exact True.intro) ?_; refine TrL.nil ?_
      refine ⟨k + 1, hkl, by dsimp only; omega, ?_⟩
      refine Eq.trans (b := (⟨[(1, [], vL .str l), (2, [], vB out), (7, [], .own 1), (8, [], .own 0), (10, [], vI i), (11, [], vB (matchF (nth (t := pTy) P (k : Int)) (nth (t := .str) l (i : Int))).2), (12, [], vI (IntKind.i64.wrap ((k : Int) + 1)))], [.gs 64 pTy P, .gs 9 .str ((l.take i).filter (soF P out))]⟩ : St)) rfl ?_
      dsimp only
      rw [hany, hnp, w64n (y := k + 1) (by omega) (by omega)]
    have hany : ((P.take k).any fun p => (matchF p (nth (t := .str) l (i : Int))).2) = P.any fun p => (matchF p (nth (t := .str) l (i : Int))).2 := by
      rcases Nat.lt_or_ge k P.length with h | h
      · have h1 : ((P.take k).any fun p => (matchF p (nth (t := .str) l (i : Int))).2) = true := by
          simp only [Bool.and_eq_false_iff, decide_eq_false_iff_not, Bool.not_eq_false'] at c3
          rcases c3 with c3 | c3
          · omega
          · exact c3
        rw [h1]
        obtain ⟨p, hp, hpm⟩ := List.any_eq_true.1 h1
        exact (List.any_eq_true.2 ⟨p, List.mem_of_mem_take hp, hpm⟩).symm
      · rw [List.take_of_length_le h]
    have hso : soF P out (nth (t := .str) l (i : Int)) = (((P.take k).any fun p => (matchF p (nth (t := .str) l (i : Int))).2) != out) := by rw [hany]; rfl
    refine Tr.keep [1, 2, 7, 8, 10, 11] 2 hB2 (st' := ⟨[(1, [], vL .str l), (2, [], vB out), (7, [], .own 1), (8, [], .own 0), (10, [], vI i), (11, [], vB ((P.take k).any fun p => (matchF p (nth (t := .str) l (i : Int))).2))], [.gs 64 pTy P, .gs 9 .str ((l.take i).filter (soF P out))]⟩) rfl ?_
    generalize ((P.take k).any fun p => (matchF p (nth (t := .str) l (i : Int))).2) = f at hso
    refine Tr.exit ?_; refine Tr.seq ?_; refine Tr.region ?_; refine TrL.quiets 3 rfl (by exact True.intro) ?_; refine TrL.nil ?_
    refine Tr.cond rfl (fun c4 => ?_) (fun c4 => ?_)
    · have h4 : soF P out (nth (t := .str) l (i : Int)) = true := by rw [hso]; exact c4
      rw [if_pos h4] at hfs
      refine Tr.region ?_; refine TrL.quiets 5 rfl (by (simp only [allOf, impO, imp, inR, loOk, and_true]; omega)) ?_; refine TrL.eff (effLit_sound rfl) (by exact True.intro) ?_; refine TrL.eff (effAppend_sound rfl) ?_ ?_
      · show ((l.take i).filter (soF P out)).length + 1 ≤ 1099511627776
        omega
      refine TrL.quiets 1 rfl (by exact True.intro) ?_; refine TrL.nil ?_; refine Tr.region ?_; refine TrL.quiets 3 rfl (by exact True.intro) ?_; refine TrL.nil ?_
      refine ⟨i + 1, hi1, by dsimp only; omega, ?_⟩
      refine Eq.trans (b := (⟨[(1, [], vL .str l), (2, [], vB out), (7, [], .own 1), (8, [], .own 0), (10, [], vI (IntKind.i64.wrap ((i : Int) + 1)))], [.gs 64 pTy P, .gs 9 .str ((l.take i).filter (soF P out) ++ [(nth (t := .str) l (i : Int))])]⟩ : St)) rfl ?_
      dsimp only
      rw [hfs, w64n (y := i + 1) (by omega) (by omega)]
    · have h4 : soF P out (nth (t := .str) l (i : Int)) = false := by rw [hso]; exact c4
      rw [h4, if_neg (by decide), List.append_nil] at hfs
      refine Tr.skip ?_; refine Tr.region ?_; refine TrL.quiets 3 rfl (by exact True.intro) ?_; refine TrL.nil ?_
      refine ⟨i + 1, hi1, by dsimp only; omega, ?_⟩
      refine Eq.trans (b := (⟨[(1, [], vL .str l), (2, [], vB out), (7, [], .own 1), (8, [], .own 0), (10, [], vI (IntKind.i64.wrap ((i : Int) + 1)))], [.gs 64 pTy P, .gs 9 .str ((l.take i).filter (soF P out))]⟩ : St)) rfl ?_
      dsimp only
      rw [hfs, w64n (y := i + 1) (by omega) (by omega)]
  have hi1 : l.length = i := by
    have : ¬ (i : Int) < l.length := by simpa using c2
    omega
  subst hi1
  rw [List.take_length]
  refine Tr.exit ?_; refine Tr.seq ?_; refine Tr.region ?_; refine TrL.quiets 2 rfl (by exact True.intro) ?_; refine TrL.nil ?_; refine Tr.ret ?_
  refine retQ.of rfl ?_
  rfl

theorem ddF_sub : ∀ (l : List Str) (p : Option Str), (ddF p l).Sublist l
  | [], p => List.Sublist.refl _
  | x :: l, p => by
    unfold ddF
    split
    · exact (ddF_sub l (some x)).cons x
    · exact (ddF_sub l (some x)).cons_cons x
theorem ddF_mem {y : Str} : ∀ (l : List Str) (p : Str), y ∈ l → y = p ∨ y ∈ ddF (some p) l
  | x :: l, p, h => by
    unfold ddF
    rcases List.mem_cons.1 h with rfl | h
    · split
      · rename_i hp
        exact .inl (Option.some.inj hp).symm
      · exact .inr (by simp)
    · rcases ddF_mem l x h with rfl | h2
      · split
        · rename_i hp
          exact .inl (Option.some.inj hp).symm
        · exact .inr (by simp)
      · split
        · exact .inr h2
        · exact .inr (List.mem_cons.2 (.inr h2))
theorem ddF_nodup : ∀ (l : List Str) (p : Str), Asc (p :: l) → (p :: ddF (some p) l).Nodup
  | [], p, _ => by simp [ddF]
  | x :: l, p, h => by
    have h1 := List.pairwise_cons.1 h
    have ih := ddF_nodup l x h1.2
    unfold ddF
    split
    · rename_i hp
      rw [Option.some.inj hp]
      exact ih
    · rename_i hp
      refine List.nodup_cons.2 ⟨fun hm => ?_, ih⟩
      rcases List.mem_cons.1 hm with e | hm
      · exact hp (congrArg some e)
      · have h2 := (ddF_sub l (some x)).subset hm
        have h3 := of_decide_eq_true (h1.1 x (by simp))
        have h4 := of_decide_eq_true ((List.pairwise_cons.1 h1.2).1 p h2)
        exact hp (congrArg some (List.le_antisymm h3 h4))
theorem cmp_facts {l : List Str} (h : Asc l) : Asc (cmpS l) ∧ (cmpS l).Nodup ∧ ∀ y, y ∈ cmpS l ↔ y ∈ l := by
  rw [cmpS_dd]
  refine ⟨h.sublist (ddF_sub l none), ?_, fun y => ⟨fun hy => (ddF_sub l none).subset hy, fun hy => ?_⟩⟩
  · cases l with
    | nil => simp [ddF]
    | cons x l =>
      unfold ddF
      rw [if_neg (by simp)]
      exact ddF_nodup l x h
  · cases l with
    | nil => cases hy
    | cons x l =>
      unfold ddF
      rw [if_neg (by simp)]
      rcases List.mem_cons.1 hy with rfl | hy
      · simp
      · rcases ddF_mem l x hy with rfl | h2
        · simp
        · exact List.mem_cons.2 (.inr h2)
theorem insS_facts {m : List Str} (h : m.Nodup) (x : Str) : (insS m x).Nodup ∧ ∀ y, y ∈ insS m x ↔ y ∈ m ∨ y = x := by
  unfold insS
  split
  · rename_i hx
    exact ⟨h, fun y => ⟨.inl, fun hy => by rcases hy with hy | rfl; exact hy; exact hx⟩⟩
  · rename_i hx
    refine ⟨(sortS_perm _).nodup_iff.2 (List.nodup_append.2 ⟨h, by simp, fun a ha b hb => ?_⟩), fun y => ?_⟩
    · rw [List.mem_singleton] at hb
      rintro rfl
      exact hx (hb ▸ ha)
    · rw [(sortS_perm _).mem_iff, List.mem_append, List.mem_singleton]
theorem usort_facts (l : List Str) : (usort l).Nodup ∧ ∀ y, y ∈ usort l ↔ y ∈ l := by
  have key : ∀ (l m : List Str), m.Nodup → (l.foldl insS m).Nodup ∧ ∀ y, y ∈ l.foldl insS m ↔ y ∈ m ∨ y ∈ l := by
    intro l
    induction l with
    | nil => exact fun m h => ⟨h, fun y => by simp⟩
    | cons x l ih =>
      intro m h
      obtain ⟨h1, h2⟩ := insS_facts h x
      obtain ⟨h3, h4⟩ := ih (insS m x) h1
      refine ⟨h3, fun y => ?_⟩
      rw [List.foldl_cons, h4, h2, List.mem_cons, or_assoc]
  obtain ⟨h1, h2⟩ := key l [] (by simp)
  exact ⟨h1, fun y => by unfold usort; rw [h2]; simp⟩
theorem usort_sortF (l : List Str) : usort l = sortF l := by
  obtain ⟨h1, h2⟩ := usort_facts l
  obtain ⟨h3, h4, h5⟩ := cmp_facts (sortS_sorted l)
  have e1 := sortS_unique (List.Perm.refl (usort l)) (usort_asc l)
  have hp : (cmpS (sortS l)).Perm (usort l) := (List.perm_ext_iff_of_nodup h4 h1).2 fun y => by rw [h5, h2, (sortS_perm l).mem_iff]
  have e2 := sortS_unique hp h3
  rw [e1]
  exact e2.symm
theorem firstF_is (a : Str) : firstF a = (splitW a).headD [] := by
  unfold firstF
  generalize splitW a = l
  cases l with
  | nil => rfl
  | cons x l =>
    unfold sliceF
    rw [if_neg (by simp only [List.length_cons]; omega)]
    have h1 : min (1 : Int) ((x :: l).length : Int) = 1 := by simp only [List.length_cons]; omega
    rw [h1]
    simp
theorem lastF_is (a : Str) : lastF a = (splitW a).getLastD [] := by
  unfold lastF
  generalize splitW a = l
  rcases List.eq_nil_or_concat l with rfl | ⟨m, x, rfl⟩
  · rfl
  · unfold sliceF
    rw [List.concat_eq_append]
    have hl : ((m ++ [x]).length : Int) = (m.length : Int) + 1 := by simp
    rw [hl, if_neg (by omega)]
    have h1 : max ((m.length : Int) + 1) 1 = (m.length : Int) + 1 := by omega
    have h2 : min ((m.length : Int) + 1) ((m.length : Int) + 1) = (m.length : Int) + 1 := by omega
    rw [h1, h2, show ((m.length : Int) + 1 - 1).toNat = m.length by omega, show ((m.length : Int) + 1 - ((m.length : Int) + 1 - 1)).toNat = 1 by omega, List.drop_left]
    simp

theorem c_rOne (name a : Str) (ha : a.length ≤ 10000) : CallV Tryz.prog 18 [vS name, vS a] (.tup [vS (doF name [a]).1, vB (doF name [a]).2]) := by
  have hl := split_lim ha
  have hjs : (joinW (splitW a)).length ≤ 1099511627 := join_lim 10000 (by decide) (by omega) hl.2
  have hsl := sortF_len (splitW a)
  have hj4 : (joinW (sortF (splitW a))).length ≤ 1099511627 := join_lim 10000 (by decide) (by omega) fun x hx => hl.2 x (sortF_mem hx)
  have hso := c_refSort (splitW a) (by omega)
  rw [usort_sortF] at hso
  have hfi := firstF_is a
  have hla := lastF_is a
  have hst : strip a = joinW (splitW a) := rfl
  have hsw : sortWF a = joinW (sortF (splitW a)) := rfl
  have hsp := c_ref_Split a (by omega)
  refine CallV.of Tryz.func18 (by kernel_rfl) rfl Tryz.ntmps18 (by simp) rfl fun cx hB => ?_
  refine Tr.seq ?_; refine Tr.region ?_; refine TrL.quiets 2 rfl (by exact True.intro) ?_; refine TrL.nil ?_; refine Tr.seq ?_; refine Tr.region ?_; refine TrL.quiets 1 rfl (by exact True.intro) ?_
  first | refine TrL.callV rfl rfl rfl rfl rfl hsp ?_ | refine TrD.callV rfl rfl rfl rfl rfl hsp rfl ?_
  generalize splitW a = l at hl hjs hsl hj4 hso hfi hla hst hsw hsp
  refine TrL.quiets 1 rfl (by exact True.intro) ?_; refine TrL.nil ?_; refine Tr.seq ?_; refine Tr.seq ?_; refine Tr.region ?_; refine TrL.quiets 1 rfl (by exact True.intro) ?_; refine TrL.nil ?_; refine Tr.block ?_; refine Tr.seq ?_; refine Tr.region ?_; refine TrL.quiets 2 rfl (by exact True.intro) ?_; refine TrL.nil ?_
  refine Tr.cond rfl (fun h1 => ?_) (fun h1 => ?_)
  · have e : name = kStrip := eq_of_beq h1
    have hd : doF name [a] = (strip a, true) := by rw [e]; rfl
    rw [hd, hst]
    refine Tr.seq ?_; refine Tr.region ?_; refine TrL.quiets 1 rfl (by exact True.intro) ?_
    first | refine TrL.callV rfl rfl rfl rfl rfl (c_ref_Join l (by omega) (by omega)) ?_ | refine TrD.callV rfl rfl rfl rfl rfl (c_ref_Join l (by omega) (by omega)) rfl ?_
    refine TrL.quiets 2 rfl (by exact True.intro) ?_; refine TrL.nil ?_; refine Tr.ret ?_
    refine retQ.of rfl ?_
    rfl
  have n1 : ¬ name = kStrip := fun e => by rw [e] at h1; exact absurd h1 (by decide)
  refine Tr.seq ?_; refine Tr.region ?_; refine TrL.quiets 2 rfl (by exact True.intro) ?_; refine TrL.nil ?_
  refine Tr.cond rfl (fun h2 => ?_) (fun h2 => ?_)
  · have e : name = kSort := eq_of_beq h2
    have hd : doF name [a] = (sortWF a, true) := by rw [e]; rfl
    rw [hd, hsw]
    refine Tr.seq ?_; refine Tr.region ?_; refine TrL.quiets 1 rfl (by exact True.intro) ?_
    first | refine TrL.callV rfl rfl rfl rfl rfl hso ?_ | refine TrD.callV rfl rfl rfl rfl rfl hso rfl ?_
    first | refine TrL.callV rfl rfl rfl rfl rfl (c_ref_Join (sortF l) (by omega) (by omega)) ?_ | refine TrD.callV rfl rfl rfl rfl rfl (c_ref_Join (sortF l) (by omega) (by omega)) rfl ?_
    refine TrL.quiets 2 rfl (by exact True.intro) ?_; refine TrL.nil ?_; refine Tr.ret ?_
    refine retQ.of rfl ?_
    rfl
  have n2 : ¬ name = kSort := fun e => by rw [e] at h2; exact absurd h2 (by decide)
  refine Tr.seq ?_; refine Tr.region ?_; refine TrL.quiets 2 rfl (by exact True.intro) ?_; refine TrL.nil ?_
  refine Tr.cond rfl (fun h3 => ?_) (fun h3 => ?_)
  · have e : name = kFirst := eq_of_beq h3
    have hd : doF name [a] = (firstF a, true) := by rw [e]; rfl
    rw [hd, hfi]
    refine Tr.seq ?_; refine Tr.seq ?_; refine Tr.region ?_; refine TrL.quiets 3 rfl (by exact True.intro) ?_; refine TrL.nil ?_
    refine Tr.cond rfl (fun g1 => ?_) (fun g1 => ?_)
    · have g2 : 0 < l.length := by simpa using g1
      refine Tr.seq ?_; refine Tr.region ?_; refine TrL.quiets 5 rfl (by (simp only [allOf, impO, imp, inR, loOk, and_true]; omega)) ?_; refine TrL.nil ?_; refine Tr.ret ?_
      refine retQ.of rfl ?_
      have h5 : nth (t := .str) l ((0 : Nat) : Int) = l[0] := nth_get' (t := .str) _ _ g2
      rw [show nth (t := .str) l 0 = l[0] from h5]
      cases l with
      | nil => simp at g2
      | cons x r => rfl
    · have g2 : l = [] := by
        have : ¬ (0 : Int) < l.length := by simpa using g1
        exact List.eq_nil_of_length_eq_zero (by omega)
      subst g2
      refine Tr.skip ?_; refine Tr.seq ?_; refine Tr.region ?_; refine TrL.quiets 2 rfl (by exact True.intro) ?_; refine TrL.nil ?_; refine Tr.ret ?_
      refine retQ.of rfl ?_
      rfl
  have n3 : ¬ name = kFirst := fun e => by rw [e] at h3; exact absurd h3 (by decide)
  refine Tr.seq ?_; refine Tr.region ?_; refine TrL.quiets 2 rfl (by exact True.intro) ?_; refine TrL.nil ?_
  refine Tr.cond rfl (fun h4 => ?_) (fun h4 => ?_)
  · have e : name = kLast := eq_of_beq h4
    have hd : doF name [a] = (lastF a, true) := by rw [e]; rfl
    rw [hd, hla]
    refine Tr.seq ?_; refine Tr.seq ?_; refine Tr.region ?_; refine TrL.quiets 3 rfl (by exact True.intro) ?_; refine TrL.nil ?_
    refine Tr.cond rfl (fun g1 => ?_) (fun g1 => ?_)
    · have g2 : 0 < l.length := by simpa using g1
      have hw : IntKind.i64.wrap ((l.length : Int) - 1) = ((l.length - 1 : Nat) : Int) := by rw [w64 (by omega) (by omega)]; omega
      refine Tr.seq ?_; refine Tr.region ?_; refine TrL.quiets 8 rfl (by (simp only [allOf, impO, imp, inR, loOk, and_true]; omega)) ?_; refine TrL.nil ?_; refine Tr.ret ?_
      refine retQ.of rfl ?_
      have h5 : nth (t := .str) l ((l.length - 1 : Nat) : Int) = l[l.length - 1] := nth_get' (t := .str) _ _ (by omega)
      rw [hw, h5, List.getLastD_eq_getLast?, List.getLast?_eq_getElem?, List.getElem?_eq_getElem (by omega)]
      rfl
    · have g2 : l = [] := by
        have : ¬ (0 : Int) < l.length := by simpa using g1
        exact List.eq_nil_of_length_eq_zero (by omega)
      subst g2
      refine Tr.skip ?_; refine Tr.seq ?_; refine Tr.region ?_; refine TrL.quiets 2 rfl (by exact True.intro) ?_; refine TrL.nil ?_; refine Tr.ret ?_
      refine retQ.of rfl ?_
      rfl
  have n4 : ¬ name = kLast := fun e => by rw [e] at h4; exact absurd h4 (by decide)
  have hd : doF name [a] = ([], false) := by
    show (if name = kStrip then _ else _) = _
    rw [if_neg n1, if_neg n2, if_neg n3, if_neg n4]
  rw [hd]
  refine Tr.skip ?_; refine Tr.seq ?_; refine Tr.region ?_; refine TrL.quiets 2 rfl (by exact True.intro) ?_; refine TrL.nil ?_; refine Tr.ret ?_
  refine retQ.of rfl ?_
  rfl
theorem c_rTwo (name a b : Str) (ha : a.length ≤ 10000) (hb : b.length ≤ 10000) : CallV Tryz.prog 19 [vS name, vS a, vS b] (.tup [vS (doF name [a, b]).1, vB (doF name [a, b]).2]) := by
  have ha2 := split_lim ha
  have hb2 := split_lim hb
  have hsa := c_ref_Split a (by omega)
  have hsb := c_ref_Split b (by omega)
  have hfl : ∀ out, (filterF (splitW a) (splitW b) out).length ≤ 10001 := fun out => Nat.le_trans (List.length_filter_le _ _) (by omega)
  have hfj : ∀ out, (joinW (filterF (splitW a) (splitW b) out)).length ≤ 1099511627 := fun out => join_lim 10000 (by decide) (by have := hfl out; omega) fun x hx => hb2.2 x (List.mem_filter.1 hx).1
  have he1 := eachF_lim (b := []) (e := a) hb2.1 hb2.2 (by simpa using ha)
  have he2 := eachF_lim (b := a) (e := []) hb2.1 hb2.2 (by simpa using ha)
  have hj1 : (joinW (eachF (splitW b) [] a)).length ≤ 1099511627 := join_lim 20000 (by decide) (by omega) he1.2
  have hj2 : (joinW (eachF (splitW b) a [])).length ≤ 1099511627 := join_lim 20000 (by decide) (by omega) he2.2
  have hp := pairsF_lim ha2.1 hb2.1 ha2.2 hb2.2
  have hj3 : (joinW (pairsF (splitW a) (splitW b))).length ≤ 1099511627 := join_lim 20000 (by decide) (by omega) hp.2
  have q1 : ∀ out, filtF a b out = joinW (filterF (splitW a) (splitW b) out) := fun out => rfl
  have q2 : sufF a b = joinW (eachF (splitW b) [] a) := rfl
  have q3 : preF a b = joinW (eachF (splitW b) a []) := rfl
  have q4 : joinF a b = joinW (pairsF (splitW a) (splitW b)) := rfl
  refine CallV.of Tryz.func19 (by kernel_rfl) rfl Tryz.ntmps19 (by simp) rfl fun cx hB => ?_
  refine Tr.seq ?_; refine Tr.region ?_; refine TrL.quiets 2 rfl (by exact True.intro) ?_; refine TrL.nil ?_; refine Tr.seq ?_; refine Tr.region ?_; refine TrL.quiets 1 rfl (by exact True.intro) ?_
  first | refine TrL.callV rfl rfl rfl rfl rfl hsa ?_ | refine TrD.callV rfl rfl rfl rfl rfl hsa rfl ?_
  refine TrL.quiets 1 rfl (by exact True.intro) ?_
  first | refine TrL.callV rfl rfl rfl rfl rfl hsb ?_ | refine TrD.callV rfl rfl rfl rfl rfl hsb rfl ?_
  generalize splitW a = la at ha2 hsa hfl hfj hp hj3 q1 q4
  generalize splitW b = lb at hb2 hsb hfl hfj he1 he2 hj1 hj2 hp hj3 q1 q2 q3 q4
  refine TrL.quiets 2 rfl (by exact True.intro) ?_; refine TrL.nil ?_; refine Tr.seq ?_; refine Tr.seq ?_; refine Tr.region ?_; refine TrL.quiets 1 rfl (by exact True.intro) ?_; refine TrL.nil ?_; refine Tr.block ?_; refine Tr.seq ?_; refine Tr.region ?_; refine TrL.quiets 2 rfl (by exact True.intro) ?_; refine TrL.nil ?_
  refine Tr.cond rfl (fun h1 => ?_) (fun h1 => ?_)
  · have e : name = kFind := eq_of_beq h1
    have hd : doF name [a, b] = (findF a b, true) := by rw [e]; rfl
    rw [hd]
    unfold findF
    refine Tr.seq ?_; refine Tr.seq ?_; refine Tr.region ?_; refine TrL.quiets 2 rfl (by exact True.intro) ?_
    first | refine TrL.callV rfl rfl rfl rfl rfl (c_rFind a b ha hb) ?_ | refine TrD.callV rfl rfl rfl rfl rfl (c_rFind a b ha hb) rfl ?_
    refine TrL.nil ?_
    refine Tr.cond rfl (fun g1 => ?_) (fun g1 => ?_)
    · have g2 : Lib.contains b a = true := g1
      rw [if_pos g2]
      refine Tr.seq ?_; refine Tr.region ?_; refine TrL.quiets 3 rfl (by exact True.intro) ?_; refine TrL.nil ?_; refine Tr.ret ?_
      refine retQ.of rfl ?_
      rfl
    · have g2 : ¬ Lib.contains b a = true := by rw [show Lib.contains b a = false from g1]; decide
      rw [if_neg g2]
      refine Tr.skip ?_; refine Tr.seq ?_; refine Tr.region ?_; refine TrL.quiets 2 rfl (by exact True.intro) ?_; refine TrL.nil ?_; refine Tr.ret ?_
      refine retQ.of rfl ?_
      rfl
  have n1 : ¬ name = kFind := fun e => by rw [e] at h1; exact absurd h1 (by decide)
  refine Tr.seq ?_; refine Tr.seq ?_; refine Tr.region ?_; refine TrL.quiets 2 rfl (by exact True.intro) ?_; refine TrL.nil ?_
  have hfilt : name = kFilter ∨ name = kFilterOut → doF name [a, b] = (joinW (filterF la lb (name == kFilterOut)), true) := by
    rintro (e | e)
    · rw [e, ← q1]; rfl
    · rw [e, ← q1]; rfl
  have hflo := hfl (name == kFilterOut)
  have hfjo := hfj (name == kFilterOut)
  refine Tr.cond rfl (fun h2 => ?_) (fun h2 => ?_)
  · have e : name = kFilter := eq_of_beq h2
    have hd := hfilt (.inl e)
    rw [hd]
    refine Tr.skip ?_
    refine Tr.cond rfl (fun h2b => ?_) (fun h2b => ?_)
    · refine Tr.seq ?_; refine Tr.region ?_; refine TrL.quiets 4 rfl (by exact True.intro) ?_
      first | refine TrL.callV rfl rfl rfl rfl rfl (c_rFilter la lb (name == kFilterOut) (by omega) (fun x hx => by have := ha2.2 x hx; omega) (by omega) (fun x hx => by have := hb2.2 x hx; omega)) ?_ | refine TrD.callV rfl rfl rfl rfl rfl (c_rFilter la lb (name == kFilterOut) (by omega) (fun x hx => by have := ha2.2 x hx; omega) (by omega) (fun x hx => by have := hb2.2 x hx; omega)) rfl ?_
      first | refine TrL.callV rfl rfl rfl rfl rfl (c_ref_Join (filterF la lb (name == kFilterOut)) (by omega) (by omega)) ?_ | refine TrD.callV rfl rfl rfl rfl rfl (c_ref_Join (filterF la lb (name == kFilterOut)) (by omega) (by omega)) rfl ?_
      refine TrL.quiets 2 rfl (by exact True.intro) ?_; refine TrL.nil ?_; refine Tr.ret ?_
      refine retQ.of rfl ?_
      rfl
    · rw [h2] at h2b
      cases h2b
  have n2 : ¬ name = kFilter := fun e => by rw [e] at h2; exact absurd h2 (by decide)
  refine Tr.region ?_; refine TrL.quiets 2 rfl (by exact True.intro) ?_; refine TrL.nil ?_
  refine Tr.cond rfl (fun h3 => ?_) (fun h3 => ?_)
  · have e : name = kFilterOut := eq_of_beq h3
    have hd := hfilt (.inr e)
    rw [hd]
    refine Tr.seq ?_; refine Tr.region ?_; refine TrL.quiets 4 rfl (by exact True.intro) ?_
    first | refine TrL.callV rfl rfl rfl rfl rfl (c_rFilter la lb (name == kFilterOut) (by omega) (fun x hx => by have := ha2.2 x hx; omega) (by omega) (fun x hx => by have := hb2.2 x hx; omega)) ?_ | refine TrD.callV rfl rfl rfl rfl rfl (c_rFilter la lb (name == kFilterOut) (by omega) (fun x hx => by have := ha2.2 x hx; omega) (by omega) (fun x hx => by have := hb2.2 x hx; omega)) rfl ?_
    first | refine TrL.callV rfl rfl rfl rfl rfl (c_ref_Join (filterF la lb (name == kFilterOut)) (by omega) (by omega)) ?_ | refine TrD.callV rfl rfl rfl rfl rfl (c_ref_Join (filterF la lb (name == kFilterOut)) (by omega) (by omega)) rfl ?_
    refine TrL.quiets 2 rfl (by exact True.intro) ?_; refine TrL.nil ?_; refine Tr.ret ?_
    refine retQ.of rfl ?_
    rfl
  have n3 : ¬ name = kFilterOut := fun e => by rw [e] at h3; exact absurd h3 (by decide)
  refine Tr.seq ?_; refine Tr.region ?_; refine TrL.quiets 2 rfl (by exact True.intro) ?_; refine TrL.nil ?_
  refine Tr.cond rfl (fun h4 => ?_) (fun h4 => ?_)
  · have e : name = kSuffix := eq_of_beq h4
    have hd : doF name [a, b] = (sufF a b, true) := by rw [e]; rfl
    rw [hd, q2]
    refine Tr.seq ?_; refine Tr.region ?_; refine TrL.quiets 2 rfl (by exact True.intro) ?_
    first | refine TrL.callV rfl rfl rfl rfl rfl (c_rEach lb [] a (by omega) (by simp) (by omega) (fun x hx => by have := hb2.2 x hx; omega)) ?_ | refine TrD.callV rfl rfl rfl rfl rfl (c_rEach lb [] a (by omega) (by simp) (by omega) (fun x hx => by have := hb2.2 x hx; omega)) rfl ?_
    first | refine TrL.callV rfl rfl rfl rfl rfl (c_ref_Join (eachF lb [] a) (by omega) (by omega)) ?_ | refine TrD.callV rfl rfl rfl rfl rfl (c_ref_Join (eachF lb [] a) (by omega) (by omega)) rfl ?_
    refine TrL.quiets 2 rfl (by exact True.intro) ?_; refine TrL.nil ?_; refine Tr.ret ?_
    refine retQ.of rfl ?_
    rfl
  have n4 : ¬ name = kSuffix := fun e => by rw [e] at h4; exact absurd h4 (by decide)
  refine Tr.seq ?_; refine Tr.region ?_; refine TrL.quiets 2 rfl (by exact True.intro) ?_; refine TrL.nil ?_
  refine Tr.cond rfl (fun h5 => ?_) (fun h5 => ?_)
  · have e : name = kPrefix := eq_of_beq h5
    have hd : doF name [a, b] = (preF a b, true) := by rw [e]; rfl
    rw [hd, q3]
    refine Tr.seq ?_; refine Tr.region ?_; refine TrL.quiets 2 rfl (by exact True.intro) ?_
    first | refine TrL.callV rfl rfl rfl rfl rfl (c_rEach lb a [] (by omega) (by omega) (by simp) (fun x hx => by have := hb2.2 x hx; omega)) ?_ | refine TrD.callV rfl rfl rfl rfl rfl (c_rEach lb a [] (by omega) (by omega) (by simp) (fun x hx => by have := hb2.2 x hx; omega)) rfl ?_
    first | refine TrL.callV rfl rfl rfl rfl rfl (c_ref_Join (eachF lb a []) (by omega) (by omega)) ?_ | refine TrD.callV rfl rfl rfl rfl rfl (c_ref_Join (eachF lb a []) (by omega) (by omega)) rfl ?_
    refine TrL.quiets 2 rfl (by exact True.intro) ?_; refine TrL.nil ?_; refine Tr.ret ?_
    refine retQ.of rfl ?_
    rfl
  have n5 : ¬ name = kPrefix := fun e => by rw [e] at h5; exact absurd h5 (by decide)
  refine Tr.seq ?_; refine Tr.region ?_; refine TrL.quiets 2 rfl (by exact True.intro) ?_; refine TrL.nil ?_
  refine Tr.cond rfl (fun h6 => ?_) (fun h6 => ?_)
  · have e : name = kJoin := eq_of_beq h6
    have hd : doF name [a, b] = (joinF a b, true) := by rw [e]; rfl
    rw [hd, q4]
    refine Tr.seq ?_; refine Tr.region ?_; refine TrL.quiets 2 rfl (by exact True.intro) ?_
    first | refine TrL.callV rfl rfl rfl rfl rfl (c_rPairs la lb (by omega) (by omega) (fun x hx => by have := ha2.2 x hx; omega) (fun x hx => by have := hb2.2 x hx; omega)) ?_ | refine TrD.callV rfl rfl rfl rfl rfl (c_rPairs la lb (by omega) (by omega) (fun x hx => by have := ha2.2 x hx; omega) (fun x hx => by have := hb2.2 x hx; omega)) rfl ?_
    first | refine TrL.callV rfl rfl rfl rfl rfl (c_ref_Join (pairsF la lb) (by omega) (by omega)) ?_ | refine TrD.callV rfl rfl rfl rfl rfl (c_ref_Join (pairsF la lb) (by omega) (by omega)) rfl ?_
    refine TrL.quiets 2 rfl (by exact True.intro) ?_; refine TrL.nil ?_; refine Tr.ret ?_
    refine retQ.of rfl ?_
    rfl
  have n6 : ¬ name = kJoin := fun e => by rw [e] at h6; exact absurd h6 (by decide)
  have hd : doF name [a, b] = ([], false) := by
    show (if name = kFind then _ else _) = _
    rw [if_neg n1, if_neg n2, if_neg n3, if_neg n4, if_neg n5, if_neg n6]
  rw [hd]
  refine Tr.skip ?_; refine Tr.seq ?_; refine Tr.region ?_; refine TrL.quiets 2 rfl (by exact True.intro) ?_; refine TrL.nil ?_; refine Tr.ret ?_
  refine retQ.of rfl ?_
  rfl

theorem c_rPatsubst (f t s : Str) (hf : f.length ≤ 10000) (ht : t.length ≤ 10000) (hs : s.length ≤ 10000) : CallV Tryz.prog 21 [vS f, vS t, vS s] (vS (patsubstF f t s)) := by
  have h2 := split_lim hs
  have hpf := patF_lenT f
  have hpt := patF_lenT t
  have h4 : (joinW ((splitW s).map fun w => (replF f t w).1)).length ≤ 1099511627 := join_lim 20000 (by decide) (by rw [List.length_map]; omega) fun x hx => by
    obtain ⟨w, hw, rfl⟩ := List.mem_map.1 hx
    exact replF_len f t w hf ht (h2.2 w hw)
  have cs := c_ref_Split s (by omega)
  have cj := c_ref_Join ((splitW s).map fun w => (replF f t w).1) (by omega) (by rw [List.length_map]; omega)
  generalize hl : splitW s = l at h2 h4 cs cj
  have hps : patsubstF f t s = joinW (l.map fun w => (replF f t w).1) := by unfold patsubstF; rw [hl]
  rw [hps]
  refine CallV.of Tryz.func21 (by kernel_rfl) rfl Tryz.ntmps21 (by simp) rfl fun cx hB => ?_
  have hB3 : ∀ i, cx.B i = true → i < 3 := fun i h => by have := hB i h; omega
  refine Tr.seq ?_; refine Tr.region ?_; refine TrL.quiets 1 rfl (by exact True.intro) ?_; refine TrL.nil ?_; refine Tr.seq ?_; refine Tr.region ?_; refine TrL.quiets 1 rfl (by exact True.intro) ?_
  first | refine TrL.callV rfl rfl rfl rfl rfl cs ?_ | refine TrD.callV rfl rfl rfl rfl rfl cs rfl ?_
  refine TrL.quiets 1 rfl (by exact True.intro) ?_; refine TrL.nil ?_; refine Tr.seq ?_; refine Tr.region ?_; refine TrL.quiets 1 rfl (by exact True.intro) ?_
  first | refine TrL.callV rfl rfl rfl rfl rfl (c_rOf f (by omega)) ?_ | refine TrD.callV rfl rfl rfl rfl rfl (c_rOf f (by omega)) rfl ?_
  refine TrL.quiets 1 rfl (by exact True.intro) ?_
  first | refine TrL.callV rfl rfl rfl rfl rfl (c_rOf t (by omega)) ?_ | refine TrD.callV rfl rfl rfl rfl rfl (c_rOf t (by omega)) rfl ?_
  refine TrL.eff (effBox_sound rfl) (by exact True.intro) ?_; refine TrL.eff (effBox_sound rfl) (by exact True.intro) ?_; refine TrL.eff (effStore_sound rfl) (by exact True.intro) ?_; refine TrL.eff (effStore_sound rfl) (by exact True.intro) ?_; refine TrL.nil ?_
  change Tr _ _ _ _ _ _
  refine Tr.keep [1, 7, 8, 9] 2 (fun i h => by have := hB i h; omega) (st' := ⟨[(1, [], vS t), (7, [], vL .str l), (8, [], .ptr 0 0), (9, [], .ptr 1 0)], [rpBox (patF f), rpBox (patF t)]⟩) rfl ?_
  refine Tr.seq ?_; refine Tr.region ?_; refine TrL.quiets 1 rfl (by exact True.intro) ?_; refine TrL.nil ?_; refine Tr.seq ?_; refine Tr.seq ?_; refine Tr.region ?_; refine TrL.quiets 1 rfl (by exact True.intro) ?_; refine TrL.nil ?_
  change Tr _ _ _ _ _ _
  refine Tr.nilRow 10 9 .str rfl ?_
  refine Tr.block ?_
  refine Tr.loop (fun i : Nat => ⟨[(1, [], vS t), (7, [], vL .str l), (8, [], .ptr 0 0), (9, [], .ptr 1 0), (10, [], .own 2), (11, [], vI i)], [rpBox (patF f), rpBox (patF t), .gs 9 .str ((l.take i).map fun w => (replF f t w).1)]⟩) (fun i => i ≤ l.length) (fun i => l.length - i) 0 [1, 7, 8, 9, 10, 11] 3 hB3 rfl (Nat.zero_le _) fun i hi => ?_
  refine Tr.seq ?_; refine Tr.seq ?_; refine Tr.region ?_; refine TrL.quiets 4 rfl (by exact True.intro) ?_; refine TrL.nil ?_
  refine Tr.cond rfl (fun c1 => ?_) (fun c1 => ?_)
  · have hi1 : i < l.length := by simpa using c1
    have hnth : nth (t := .str) l (i : Int) = l[i] := nth_get' (t := .str) _ _ hi1
    have hwi := h2.2 _ (List.getElem_mem hi1)
    have hml : ((l.take i).map fun w => (replF f t w).1).length = i := by rw [List.length_map, List.length_take]; omega
    have hms : ((l.take (i + 1)).map fun w => (replF f t w).1) = ((l.take i).map fun w => (replF f t w).1) ++ [(replF f t (nth (t := .str) l (i : Int))).1] := by
      rw [List.take_succ_eq_append_getElem hi1, List.map_append, hnth]
      rfl
    rw [← hnth] at hwi
    have hmw := matchF_len (patF f) (nth (t := .str) l (i : Int))
    have cm := c_rMatch (patF f) (nth (t := .str) l (i : Int)) (by omega) (by omega)
    refine Tr.skip ?_; refine Tr.seq ?_; refine Tr.block ?_; refine Tr.seq ?_; refine Tr.draw (by kernel_rfl) (by kernel_rfl) ?_; refine TrD.quiets 5 rfl (by (simp only [allOf, impO, imp, inR, loOk, and_true]; omega)) ?_
    first | refine TrL.callV rfl rfl rfl rfl rfl cm ?_ | refine TrD.callV rfl rfl rfl rfl rfl cm rfl ?_
    refine TrD.quiets 5 rfl (by exact True.intro) ?_; refine TrD.nil ?_; refine Tr.block ?_; refine Tr.seq ?_; refine Tr.region ?_; refine TrL.quiets 3 rfl (by exact True.intro) ?_; refine TrL.nil ?_
    refine Tr.cond rfl (fun c2 => ?_) (fun c2 => ?_)
    · have c2' : (matchF (patF f) (nth (t := .str) l (i : Int))).2 = false := by simpa using c2
      have hr : (replF f t (nth (t := .str) l (i : Int))).1 = (nth (t := .str) l (i : Int)) := by unfold replF; rw [if_pos c2']
      refine Tr.region ?_; refine TrL.quiets 5 rfl (by (simp only [allOf, impO, imp, inR, loOk, and_true]; omega)) ?_; refine TrL.eff (effLit_sound rfl) (by exact True.intro) ?_; refine TrL.eff (effAppend_sound rfl) ?_ ?_
      · show ((l.take i).map fun w => (replF f t w).1).length + 1 ≤ 1099511627776
        omega
      refine TrL.quiets 1 rfl (by exact True.intro) ?_; refine TrL.nil ?_; refine Tr.region ?_; refine TrL.quiets 3 rfl (by exact True.intro) ?_; refine TrL.nil ?_
      refine ⟨i + 1, hi1, by dsimp only; omega, ?_⟩
      refine Eq.trans (b := (⟨[(1, [], vS t), (7, [], vL .str l), (8, [], .ptr 0 0), (9, [], .ptr 1 0), (10, [], .own 2), (11, [], vI (IntKind.i64.wrap ((i : Int) + 1)))], [rpBox (patF f), rpBox (patF t), .gs 9 .str (((l.take i).map fun w => (replF f t w).1) ++ [(nth (t := .str) l (i : Int))])]⟩ : St)) rfl ?_
      dsimp only
      rw [hms, hr, w64n (y := i + 1) (by omega) (by omega)]
    have c2' : ¬ (matchF (patF f) (nth (t := .str) l (i : Int))).2 = false := by simpa using c2
    refine Tr.seq ?_; refine Tr.region ?_; refine TrL.quiets 3 rfl (by exact True.intro) ?_; refine TrL.nil ?_
    refine Tr.cond rfl (fun c3 => ?_) (fun c3 => ?_)
    · have c3' : (patF f).1 = true := c3
      have hr : (replF f t (nth (t := .str) l (i : Int))).1 = putF (patF t) (matchF (patF f) (nth (t := .str) l (i : Int))).1 := by unfold replF; rw [if_neg c2', if_pos c3']
      refine Tr.region ?_; refine TrL.quiets 3 rfl (by exact True.intro) ?_
      first | refine TrL.callV rfl rfl rfl rfl rfl (c_rPut (patF t) (matchF (patF f) (nth (t := .str) l (i : Int))).1 (by omega)) ?_ | refine TrD.callV rfl rfl rfl rfl rfl (c_rPut (patF t) (matchF (patF f) (nth (t := .str) l (i : Int))).1 (by omega)) rfl ?_
      refine TrL.eff (effLit_sound rfl) (by exact True.intro) ?_; refine TrL.eff (effAppend_sound rfl) ?_ ?_
      · show ((l.take i).map fun w => (replF f t w).1).length + 1 ≤ 1099511627776
        omega
      refine TrL.quiets 1 rfl (by exact True.intro) ?_; refine TrL.nil ?_; refine Tr.region ?_; refine TrL.quiets 3 rfl (by exact True.intro) ?_; refine TrL.nil ?_
      refine ⟨i + 1, hi1, by dsimp only; omega, ?_⟩
      refine Eq.trans (b := (⟨[(1, [], vS t), (7, [], vL .str l), (8, [], .ptr 0 0), (9, [], .ptr 1 0), (10, [], .own 2), (11, [], vI (IntKind.i64.wrap ((i : Int) + 1)))], [rpBox (patF f), rpBox (patF t), .gs 9 .str (((l.take i).map fun w => (replF f t w).1) ++ [putF (patF t) (matchF (patF f) (nth (t := .str) l (i : Int))).1])]⟩ : St)) rfl ?_
      dsimp only
      rw [hms, hr, w64n (y := i + 1) (by omega) (by omega)]
    · have c3' : ¬ (patF f).1 = true := by rw [show (patF f).1 = false from c3]; decide
      have hr : (replF f t (nth (t := .str) l (i : Int))).1 = t := by unfold replF; rw [if_neg c2', if_neg c3']
      refine Tr.region ?_; refine TrL.quiets 2 rfl (by exact True.intro) ?_; refine TrL.eff (effLit_sound rfl) (by exact True.intro) ?_; refine TrL.eff (effAppend_sound rfl) ?_ ?_
      · show ((l.take i).map fun w => (replF f t w).1).length + 1 ≤ 1099511627776
        omega
      refine TrL.quiets 1 rfl (by exact True.intro) ?_; refine TrL.nil ?_; refine Tr.region ?_; refine TrL.quiets 3 rfl (by exact True.intro) ?_; refine TrL.nil ?_
      refine ⟨i + 1, hi1, by dsimp only; omega, ?_⟩
      refine Eq.trans (b := (⟨[(1, [], vS t), (7, [], vL .str l), (8, [], .ptr 0 0), (9, [], .ptr 1 0), (10, [], .own 2), (11, [], vI (IntKind.i64.wrap ((i : Int) + 1)))], [rpBox (patF f), rpBox (patF t), .gs 9 .str (((l.take i).map fun w => (replF f t w).1) ++ [t])]⟩ : St)) rfl ?_
      dsimp only
      rw [hms, hr, w64n (y := i + 1) (by omega) (by omega)]
  · have hi1 : l.length = i := by
      have : ¬ (i : Int) < l.length := by simpa using c1
      omega
    subst hi1
    rw [List.take_length]
    refine Tr.exit ?_; refine Tr.seq ?_; refine Tr.region ?_; refine TrL.quiets 1 rfl (by exact True.intro) ?_
    first | refine TrL.callV rfl rfl rfl rfl rfl cj ?_ | refine TrD.callV rfl rfl rfl rfl rfl cj rfl ?_
    refine TrL.quiets 1 rfl (by exact True.intro) ?_; refine TrL.nil ?_; refine Tr.ret ?_
    refine retQ.of rfl ?_
    rfl
abbrev RDoIs (name : Str) (l : List Str) : Prop := CallV Tryz.prog 11 [vS name, vL .str l] (.tup [vS (doF name l).1, vB (doF name l).2])
theorem c_rDo (name : Str) (l : List Str) (hl : l.length ≤ 1000) (hx : ∀ x ∈ l, x.length ≤ 10000) : RDoIs name l := by
  unfold RDoIs
  by_cases l1 : l.length = 1
  · obtain ⟨a, rfl⟩ := List.length_eq_one_iff.1 l1
    refine CallV.of Tryz.func11 (by kernel_rfl) rfl Tryz.ntmps11 (by simp) rfl fun cx hB => ?_
    refine Tr.seq ?_; refine Tr.region ?_; refine TrL.quiets 2 rfl (by exact True.intro) ?_; refine TrL.nil ?_; refine Tr.seq ?_; refine Tr.seq ?_; refine Tr.region ?_; refine TrL.quiets 2 rfl (by exact True.intro) ?_; refine TrL.nil ?_; refine Tr.block ?_; refine Tr.seq ?_; refine Tr.region ?_; refine TrL.quiets 2 rfl (by exact True.intro) ?_; refine TrL.nil ?_
    refine Tr.cond rfl (fun h1 => ?_) (fun h1 => ?_)
    · refine Tr.seq ?_; refine Tr.region ?_; refine TrL.quiets 4 rfl (by (simp only [allOf, impO, imp, inR, loOk, and_true]; omega)) ?_
      refine TrL.is 13 (sv' := vS a) rfl rfl ?_
      first | refine TrL.callV rfl rfl rfl rfl rfl (c_rOne name a (hx a (by simp))) ?_ | refine TrD.callV rfl rfl rfl rfl rfl (c_rOne name a (hx a (by simp))) rfl ?_
      refine TrL.quiets 4 rfl (by exact True.intro) ?_; refine TrL.nil ?_; refine Tr.ret ?_
      refine retQ.of rfl ?_
      rfl
    · exact absurd h1 (by simp)
  by_cases l2 : l.length = 2
  · obtain ⟨a, b, rfl⟩ := len_two l2
    refine CallV.of Tryz.func11 (by kernel_rfl) rfl Tryz.ntmps11 (by simp) rfl fun cx hB => ?_
    refine Tr.seq ?_; refine Tr.region ?_; refine TrL.quiets 2 rfl (by exact True.intro) ?_; refine TrL.nil ?_; refine Tr.seq ?_; refine Tr.seq ?_; refine Tr.region ?_; refine TrL.quiets 2 rfl (by exact True.intro) ?_; refine TrL.nil ?_; refine Tr.block ?_; refine Tr.seq ?_; refine Tr.region ?_; refine TrL.quiets 2 rfl (by exact True.intro) ?_; refine TrL.nil ?_
    refine Tr.cond rfl (fun h1 => ?_) (fun h1 => ?_)
    · exact absurd h1 (by simp)
    refine Tr.seq ?_; refine Tr.region ?_; refine TrL.quiets 2 rfl (by exact True.intro) ?_; refine TrL.nil ?_
    refine Tr.cond rfl (fun h2 => ?_) (fun h2 => ?_)
    · refine Tr.seq ?_; refine Tr.draw (by kernel_rfl) (by kernel_rfl) ?_; refine TrD.quiets 7 rfl (by (simp only [allOf, impO, imp, inR, loOk, and_true]; omega)) ?_
      first | refine TrL.callV rfl rfl rfl rfl rfl (c_rTwo name a b (hx a (by simp)) (hx b (by simp))) ?_ | refine TrD.callV rfl rfl rfl rfl rfl (c_rTwo name a b (hx a (by simp)) (hx b (by simp))) rfl ?_
      refine TrD.quiets 4 rfl (by exact True.intro) ?_; refine TrD.nil ?_; refine Tr.ret ?_
      refine retQ.of rfl ?_
      rfl
    · exact absurd h2 (by simp)
  by_cases l3 : l.length = 3
  · obtain ⟨a, b, c, rfl⟩ := len_three l3
    refine CallV.of Tryz.func11 (by kernel_rfl) rfl Tryz.ntmps11 (by simp) rfl fun cx hB => ?_
    refine Tr.seq ?_; refine Tr.region ?_; refine TrL.quiets 2 rfl (by exact True.intro) ?_; refine TrL.nil ?_; refine Tr.seq ?_; refine Tr.seq ?_; refine Tr.region ?_; refine TrL.quiets 2 rfl (by exact True.intro) ?_; refine TrL.nil ?_; refine Tr.block ?_; refine Tr.seq ?_; refine Tr.region ?_; refine TrL.quiets 2 rfl (by exact True.intro) ?_; refine TrL.nil ?_
    refine Tr.cond rfl (fun h1 => ?_) (fun h1 => ?_)
    · exact absurd h1 (by simp)
    refine Tr.seq ?_; refine Tr.region ?_; refine TrL.quiets 2 rfl (by exact True.intro) ?_; refine TrL.nil ?_
    refine Tr.cond rfl (fun h2 => ?_) (fun h2 => ?_)
    · exact absurd h2 (by simp)
    refine Tr.seq ?_; refine Tr.region ?_; refine TrL.quiets 2 rfl (by exact True.intro) ?_; refine TrL.nil ?_
    refine Tr.cond rfl (fun h3 => ?_) (fun h3 => ?_)
    · refine Tr.seq ?_; refine Tr.seq ?_; refine Tr.region ?_; refine TrL.quiets 2 rfl (by exact True.intro) ?_; refine TrL.nil ?_
      refine Tr.cond rfl (fun h4 => ?_) (fun h4 => ?_)
      · have e : name = kSubst := eq_of_beq h4
        have hd : doF name [a, b, c] = (substF a b c, true) := by rw [e]; rfl
        rw [hd]
        refine Tr.seq ?_; refine Tr.draw (by kernel_rfl) (by kernel_rfl) ?_; refine TrD.quiets 9 rfl (by (simp only [allOf, impO, imp, inR, loOk, and_true]; omega)) ?_
        first | refine TrL.callV rfl rfl rfl rfl rfl (c_rSubst a b c (hx a (by simp)) (hx b (by simp)) (hx c (by simp))) ?_ | refine TrD.callV rfl rfl rfl rfl rfl (c_rSubst a b c (hx a (by simp)) (hx b (by simp)) (hx c (by simp))) rfl ?_
        refine TrD.quiets 2 rfl (by exact True.intro) ?_; refine TrD.nil ?_; refine Tr.ret ?_
        refine retQ.of rfl ?_
        rfl
      have n4 : ¬ name = kSubst := fun e => by rw [e] at h4; exact absurd h4 (by decide)
      refine Tr.skip ?_; refine Tr.seq ?_; refine Tr.region ?_; refine TrL.quiets 2 rfl (by exact True.intro) ?_; refine TrL.nil ?_
      refine Tr.cond rfl (fun h5 => ?_) (fun h5 => ?_)
      · have e : name = kPatsubst := eq_of_beq h5
        have hd : doF name [a, b, c] = (patsubstF a b c, true) := by rw [e]; rfl
        rw [hd]
        refine Tr.seq ?_; refine Tr.draw (by kernel_rfl) (by kernel_rfl) ?_; refine TrD.quiets 9 rfl (by (simp only [allOf, impO, imp, inR, loOk, and_true]; omega)) ?_
        first | refine TrL.callV rfl rfl rfl rfl rfl (c_rPatsubst a b c (hx a (by simp)) (hx b (by simp)) (hx c (by simp))) ?_ | refine TrD.callV rfl rfl rfl rfl rfl (c_rPatsubst a b c (hx a (by simp)) (hx b (by simp)) (hx c (by simp))) rfl ?_
        refine TrD.quiets 2 rfl (by exact True.intro) ?_; refine TrD.nil ?_; refine Tr.ret ?_
        refine retQ.of rfl ?_
        rfl
      have n5 : ¬ name = kPatsubst := fun e => by rw [e] at h5; exact absurd h5 (by decide)
      have hd : doF name [a, b, c] = ([], false) := by
        show (if name = kSubst then _ else _) = _
        rw [if_neg n4, if_neg n5]
      rw [hd]
      refine Tr.skip ?_; refine Tr.seq ?_; refine Tr.region ?_; refine TrL.quiets 2 rfl (by exact True.intro) ?_; refine TrL.nil ?_; refine Tr.ret ?_
      refine retQ.of rfl ?_
      rfl
    · exact absurd h3 (by simp)
  have hd : doF name l = ([], false) := by
    match l, l1, l2, l3 with
    | [], _, _, _ => rfl
    | [a], h, _, _ => simp at h
    | [a, b], _, h, _ => simp at h
    | [a, b, c], _, _, h => simp at h
    | a :: b :: c :: d :: l, _, _, _ => rfl
  rw [hd]
  refine CallV.of Tryz.func11 (by kernel_rfl) rfl Tryz.ntmps11 (by simp) rfl fun cx hB => ?_
  refine Tr.seq ?_; refine Tr.region ?_; refine TrL.quiets 2 rfl (by exact True.intro) ?_; refine TrL.nil ?_; refine Tr.seq ?_; refine Tr.seq ?_; refine Tr.region ?_; refine TrL.quiets 2 rfl (by exact True.intro) ?_; refine TrL.nil ?_; refine Tr.block ?_; refine Tr.seq ?_; refine Tr.region ?_; refine TrL.quiets 2 rfl (by exact True.intro) ?_; refine TrL.nil ?_
  refine Tr.cond rfl (fun h1 => ?_) (fun h1 => ?_)
  · exact absurd h1 (by simp; omega)
  refine Tr.seq ?_; refine Tr.region ?_; refine TrL.quiets 2 rfl (by exact True.intro) ?_; refine TrL.nil ?_
  refine Tr.cond rfl (fun h2 => ?_) (fun h2 => ?_)
  · exact absurd h2 (by simp; omega)
  refine Tr.seq ?_; refine Tr.region ?_; refine TrL.quiets 2 rfl (by exact True.intro) ?_; refine TrL.nil ?_
  refine Tr.cond rfl (fun h3 => ?_) (fun h3 => ?_)
  · exact absurd h3 (by simp; omega)
  refine Tr.skip ?_; refine Tr.seq ?_; refine Tr.region ?_; refine TrL.quiets 2 rfl (by exact True.intro) ?_; refine TrL.nil ?_; refine Tr.ret ?_
  refine retQ.of rfl ?_
  rfl
end Go.Proofs.YtcclfjddakonoaaGreatDoor.Sx
