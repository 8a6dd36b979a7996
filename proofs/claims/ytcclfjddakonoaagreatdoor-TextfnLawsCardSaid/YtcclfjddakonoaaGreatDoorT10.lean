/-
  strings.Join with nothing between; the functions of texts, one by one.
  The functions of texts: the others.
  addsuffix, addprefix, patsubst; functions; Do.
  textfn: functions, Do.
  textfn.Do, at any name.
-/
import Derived.Test.YtcclfjddakonoaaGreatDoorT5
set_option linter.unusedVariables false
set_option linter.unusedSimpArgs false
set_option maxRecDepth 20000
set_option maxHeartbeats 4000000
namespace Go.Proofs.YtcclfjddakonoaaGreatDoor.Sx
open Go Go.Proofs Go.RowKit

theorem join_flat (l : List Str) : Lib.join l [] = l.flatten := by
  induction l with
  | nil => rfl
  | cons a l ih =>
    cases l with
    | nil => simp [Lib.join, List.intercalate]
    | cons b l =>
      simp only [Lib.join, List.intercalate, List.intersperse, List.flatten_cons] at ih ⊢
      rw [← ih]
      simp
theorem c_lib_Flat (l : List Str) (hl : (l.flatten).length ≤ 1099511627776) (hn : l.length ≤ 1099511627776) : CallV Tryz.prog 53 [vL .str l, vS []] (vS (l.flatten)) := by
  refine ⟨Go.Proofs.enters_of Tryz.func53 (by kernel_rfl) rfl, fun cx σ ρ w vs hw hd => ?_⟩
  simp only [SV.denL, SV.den] at hd
  obtain ⟨v1, r1, rfl, ⟨A, n, c, hv, hnn, hc, hm, hcells⟩, v2, r2, rfl, h2, rfl⟩ := hd
  simp only [Den, List.cons.injEq, and_true] at hv h2
  subst hv h2
  have fin : ∀ (t : Str) (w' : World), t = l.flatten → Below w.heap.size w w' → ∃ v τ, Ending.returned (strV t) = .returned v ∧ σ.le τ ∧ WR cx τ ρ [] w' ∧ SV.den τ ρ (vS (l.flatten)) v := by
    rintro t w' rfl hB
    refine ⟨_, σ, rfl, Mem.le_refl _, hw.below (Mem.le_refl _) (fun a v ha => ?_) hB (fun a v ha => .inl ⟨v, ha⟩), by simp [SV.den, Den]⟩
    exact (hB.cell (sub_lt hw.sub ha)).trans (hw.sub a v ha)
  by_cases h0 : 0 < n
  · obtain ⟨ad, rfl, hcl⟩ := hcells h0
    have hcell : ∀ (j : Nat) x, l[j]? = some x → w.cell? (ad.add j) = some (strV x) := by
      intro j x hx
      obtain ⟨cx', h1, h2⟩ := hcl j x hx
      rw [Den] at h1
      have := h2 0 (strV x) (by rw [h1]; rfl)
      simp only [Ty.cells, Nat.mul_one, Nat.add_zero] at this
      exact hw.sub _ _ this
    have hl0 : 0 < l.length := by omega
    have hc0 := hcell 0 l[0] (List.getElem?_eq_getElem hl0)
    rw [Addr.add_zero'] at hc0
    have hsp := spot_none hc0
    have hbk := World.block_lt_of_cell? w ad hc0
    obtain ⟨bk, o, sp⟩ := ad
    simp only at hsp hbk
    subst hsp
    have := Tryz.strings_Join bk o c (l.map fun s => ⟨s.toArray⟩) ⟨([] : Str).toArray⟩ w (fun j x hx => by
      rw [List.getElem?_map, Option.map_eq_some_iff] at hx
      obtain ⟨s, hs, rfl⟩ := hx
      have := hcell j s hs
      rwa [add_lit] at this) hbk (by simp; omega) (by simp; omega) (by
        simp only [List.map_map, mk_data]
        rw [show (List.map ((fun x => x.data.toList) ∘ fun s => (⟨s.toArray⟩ : ByteArray)) l) = l by simp [Function.comp_def]]
        rw [join_flat]; omega)
    rw [List.length_map, ← hnn] at this
    refine this.mono ?_
    rintro e w' ⟨rfl, hB⟩
    refine fin _ w' ?_ hB
    simp only [List.map_map, mk_data]
    rw [show (List.map ((fun x => x.data.toList) ∘ fun s => (⟨s.toArray⟩ : ByteArray)) l) = l by simp [Function.comp_def], join_flat]
  · have hl0 : l = [] := List.eq_nil_of_length_eq_zero (by omega)
    have hn0 : n = 0 := by omega
    subst hl0 hn0
    refine (Tryz.strings_Join_none A c ⟨([] : Str).toArray⟩ w).mono ?_
    rintro e w' ⟨rfl, rfl⟩
    exact fin [] _ rfl (Below.refl _ _)
theorem mem_joinW {x : Str} : ∀ {l : List Str}, x ∈ l → x.length ≤ (joinW l).length
  | [], h => by cases h
  | [a], h => by
    obtain rfl := List.mem_singleton.1 h
    exact Nat.le_refl _
  | a :: b :: l, h => by
    rcases List.mem_cons.1 h with rfl | h
    · simp [joinW]
    · have := mem_joinW (l := b :: l) h
      simp only [joinW, List.length_append, List.length_cons]
      omega
theorem splitW_each (s : Str) : ∀ x ∈ splitW s, x.length ≤ s.length := fun x hx => Nat.le_trans (mem_joinW hx) (joinW_splitW_le s)
theorem joinW_leT (b : Nat) : ∀ l : List Str, (∀ x ∈ l, x.length ≤ b) → (joinW l).length ≤ l.length * (b + 1)
  | [], h => by simp [joinW]
  | [a], h => by
    have := h a (by simp)
    simp only [joinW, List.length_singleton]
    omega
  | a :: c :: l, h => by
    have h1 := h a (by simp)
    have h2 := joinW_leT b (c :: l) (fun x hx => h x (by simp [hx]))
    simp only [joinW, List.length_append, List.length_cons, Nat.add_mul] at h2 ⊢
    omega

theorem split_lim {s : Str} (h : s.length ≤ 10000) : (splitW s).length ≤ 10001 ∧ ∀ x ∈ splitW s, x.length ≤ 10000 :=
  ⟨Nat.le_trans (splitW_len s) (Nat.succ_le_succ h), fun x hx => Nat.le_trans (splitW_each s x hx) h⟩
theorem join_lim (b : Nat) (hb : b ≤ 40000) {l : List Str} (hl : l.length ≤ 20002) (h : ∀ x ∈ l, x.length ≤ b) : (joinW l).length ≤ 1099511627 := by
  have h1 := joinW_leT b l h
  have h2 : l.length * (b + 1) ≤ 20002 * 40001 := Nat.mul_le_mul hl (by omega)
  omega

/-! ### What they make -/
def substF (f t s : Str) : Str := if f = [] then s ++ t else Lib.replaceAll s f t
def patsubstF (f t s : Str) : Str := joinW ((splitW s).map fun w => (replF f t w).1)
def findF (f s : Str) : Str := if Lib.contains s f then f else []
def filtF (a b : Str) (out : Bool) : Str := joinW (filterF (splitW a) (splitW b) out)
def sortWF (a : Str) : Str := joinW (sortF (splitW a))
def firstF (a : Str) : Str := (sliceF (splitW a) 1 1).flatten
def lastF (a : Str) : Str := (sliceF (splitW a) (splitW a).length (splitW a).length).flatten
def sufF (a b : Str) : Str := joinW (eachF (splitW b) [] a)
def preF (a b : Str) : Str := joinW (eachF (splitW b) a [])
def joinF (a b : Str) : Str := joinW (pairsF (splitW a) (splitW b))

theorem c_list (l : List Str) (i : Nat) (hi : i < l.length) (hl : l.length ≤ 10) (hx : ∀ x ∈ l, x.length ≤ 10000) : CallV Tryz.prog 46 [vL .str l, vI i] (vL .str (splitW l[i])) := by
  have hnth : nth (t := .str) l (i : Int) = l[i] := nth_get' (t := .str) _ _ hi
  have hxi := hx _ (List.getElem_mem hi)
  refine CallV.of Tryz.func46 (by kernel_rfl) rfl Tryz.ntmps46 (by simp) rfl fun cx hB => ?_
  refine Tr.seq ?_; refine Tr.region ?_; refine TrL.quiets 1 rfl (by exact True.intro) ?_; refine TrL.nil ?_; refine Tr.seq ?_; refine Tr.region ?_; refine TrL.quiets 4 rfl (by (simp only [allOf, impO, imp, inR, loOk, and_true]; omega)) ?_
  refine TrL.is 8 (sv' := vS l[i]) rfl (congrArg vS hnth) ?_
  first | refine TrL.callV rfl rfl rfl rfl rfl (c_Split l[i] (by omega)) ?_ | refine TrD.callV rfl rfl rfl rfl rfl (c_Split l[i] (by omega)) rfl ?_
  refine TrL.quiets 1 rfl (by exact True.intro) ?_; refine TrL.nil ?_; refine Tr.ret ?_
  refine retQ.of rfl ?_
  rfl
theorem c_fSubst (f t s : Str) (hf : f.length ≤ 10000) (ht : t.length ≤ 10000) (hs : s.length ≤ 10000) : CallV Tryz.prog 24 [vL .str [f, t, s]] (vS (substF f t s)) := by
  refine CallV.of Tryz.func24 (by kernel_rfl) rfl Tryz.ntmps24 (by simp) rfl fun cx hB => ?_
  refine Tr.seq ?_; refine Tr.region ?_; refine TrL.quiets 1 rfl (by exact True.intro) ?_; refine TrL.nil ?_; refine Tr.seq ?_; refine Tr.seq ?_; refine Tr.region ?_; refine TrL.quiets 4 rfl (by (simp (disch := omega) only [allOf, impO, imp, inR, loOk, and_true, w64, List.length_set, List.length_cons, List.length_nil, Option.getD_none, Option.getD_some, Ty.D, true_and, decide_eq_true_eq, decide_eq_false_iff_not, Bool.and_eq_true, Bool.or_eq_false_iff]; omega)) ?_; refine TrL.nil ?_
  refine Tr.cond rfl (fun c1 => ?_) (fun c1 => ?_)
  · have c1' : f = [] := by simpa [nth] using c1
    refine Tr.seq ?_; refine Tr.draw (by kernel_rfl) (by kernel_rfl) ?_; refine TrD.quiets 8 rfl ?_ ?_
    · simp only [allOf, impO, imp, inR, and_true, List.length_cons, List.length_nil, show nth (t := .str) [f, t, s] 2 = s from rfl, show nth (t := .str) [f, t, s] 1 = t from rfl]
      omega
    refine TrD.nil ?_; refine Tr.ret ?_
    refine retQ.of rfl ?_
    unfold substF
    rw [if_pos c1']
    rfl
  · have c1' : f ≠ [] := by simpa [nth] using c1
    have h1 : 1 ≤ f.length := List.length_pos_iff.2 c1'
    have h2 := Lib.countB_mul_le ⟨f.toArray⟩ (show 1 ≤ (⟨f.toArray⟩ : ByteArray).size from h1) s.length ⟨s.toArray⟩ (Nat.le_refl _)
    have h3 : Lib.countB ⟨s.toArray⟩ ⟨f.toArray⟩ ≤ 10000 := by
      have h4 : Lib.countB ⟨s.toArray⟩ ⟨f.toArray⟩ * 1 ≤ Lib.countB ⟨s.toArray⟩ ⟨f.toArray⟩ * f.length := Nat.mul_le_mul_left _ h1
      have h5 : Lib.countB ⟨s.toArray⟩ ⟨f.toArray⟩ * f.length ≤ s.length := h2
      omega
    have h4 : Lib.countB ⟨s.toArray⟩ ⟨f.toArray⟩ * t.length ≤ 10000 * 10000 := Nat.mul_le_mul h3 ht
    have hc := c_ReplaceAll s f t (by omega) h1 (by omega)
    refine Tr.skip ?_; refine Tr.seq ?_; refine Tr.draw (by kernel_rfl) (by kernel_rfl) ?_; refine TrD.quiets 9 rfl (by (simp (disch := omega) only [allOf, impO, imp, inR, loOk, and_true, w64, List.length_set, List.length_cons, List.length_nil, Option.getD_none, Option.getD_some, Ty.D, true_and, decide_eq_true_eq, decide_eq_false_iff_not, Bool.and_eq_true, Bool.or_eq_false_iff]; omega)) ?_
    first | refine TrL.callV rfl rfl rfl rfl rfl hc ?_ | refine TrD.callV rfl rfl rfl rfl rfl hc rfl ?_
    refine TrD.quiets 1 rfl (by exact True.intro) ?_; refine TrD.nil ?_; refine Tr.ret ?_
    refine retQ.of rfl ?_
    unfold substF
    rw [if_neg c1']

theorem l1 {a : Str} (ha : a.length ≤ 10000) : ∀ x ∈ [a], x.length ≤ 10000 := by
  intro x hx
  rw [List.mem_singleton.1 hx]
  exact ha
theorem l2 {a b : Str} (ha : a.length ≤ 10000) (hb : b.length ≤ 10000) : ∀ x ∈ [a, b], x.length ≤ 10000 := by
  intro x hx
  simp only [List.mem_cons, List.not_mem_nil, or_false] at hx
  rcases hx with rfl | rfl <;> assumption
theorem l3 {a b c : Str} (ha : a.length ≤ 10000) (hb : b.length ≤ 10000) (hc : c.length ≤ 10000) : ∀ x ∈ [a, b, c], x.length ≤ 10000 := by
  intro x hx
  simp only [List.mem_cons, List.not_mem_nil, or_false] at hx
  rcases hx with rfl | rfl | rfl <;> assumption
theorem c_fStrip (a : Str) (ha : a.length ≤ 10000) : CallV Tryz.prog 26 [vL .str [a]] (vS (strip a)) := by
  refine CallV.of Tryz.func26 (by kernel_rfl) rfl Tryz.ntmps26 (by simp) rfl fun cx hB => ?_
  refine Tr.seq ?_; refine Tr.region ?_; refine TrL.quiets 1 rfl (by exact True.intro) ?_; refine TrL.nil ?_; refine Tr.seq ?_; refine Tr.region ?_; refine TrL.quiets 3 rfl (by (simp (disch := omega) only [allOf, impO, imp, inR, loOk, and_true, w64, List.length_set, List.length_cons, List.length_nil, Option.getD_none, Option.getD_some, Ty.D, true_and, decide_eq_true_eq, decide_eq_false_iff_not, Bool.and_eq_true, Bool.or_eq_false_iff]; omega)) ?_
  refine TrL.is 5 (sv' := vS a) rfl rfl ?_
  first | refine TrL.callV rfl rfl rfl rfl rfl (c_words_Strip a (by omega)) ?_ | refine TrD.callV rfl rfl rfl rfl rfl (c_words_Strip a (by omega)) rfl ?_
  refine TrL.quiets 1 rfl (by exact True.intro) ?_; refine TrL.nil ?_; refine Tr.ret ?_
  refine retQ.of rfl ?_
  rfl
theorem c_fFind (a b : Str) (ha : a.length ≤ 10000) (hb : b.length ≤ 10000) : CallV Tryz.prog 27 [vL .str [a, b]] (vS (findF a b)) := by
  refine CallV.of Tryz.func27 (by kernel_rfl) rfl Tryz.ntmps27 (by simp) rfl fun cx hB => ?_
  refine Tr.seq ?_; refine Tr.region ?_; refine TrL.quiets 1 rfl (by exact True.intro) ?_; refine TrL.nil ?_; refine Tr.seq ?_; refine Tr.seq ?_; refine Tr.draw (by kernel_rfl) (by kernel_rfl) ?_; refine TrD.quiets 6 rfl (by (simp (disch := omega) only [allOf, impO, imp, inR, loOk, and_true, w64, List.length_set, List.length_cons, List.length_nil, Option.getD_none, Option.getD_some, Ty.D, true_and, decide_eq_true_eq, decide_eq_false_iff_not, Bool.and_eq_true, Bool.or_eq_false_iff]; omega)) ?_
  first | refine TrL.callV rfl rfl rfl rfl rfl (c_Contains b a (by omega)) ?_ | refine TrD.callV rfl rfl rfl rfl rfl (c_Contains b a (by omega)) rfl ?_
  refine TrD.nil ?_
  refine Tr.cond rfl (fun c1 => ?_) (fun c1 => ?_)
  · have c1' : Lib.contains b a = true := c1
    refine Tr.seq ?_; refine Tr.region ?_; refine TrL.quiets 4 rfl (by (simp (disch := omega) only [allOf, impO, imp, inR, loOk, and_true, w64, List.length_set, List.length_cons, List.length_nil, Option.getD_none, Option.getD_some, Ty.D, true_and, decide_eq_true_eq, decide_eq_false_iff_not, Bool.and_eq_true, Bool.or_eq_false_iff]; omega)) ?_; refine TrL.nil ?_; refine Tr.ret ?_
    refine retQ.of rfl ?_
    unfold findF
    rw [if_pos c1']
    rfl
  · have c1' : Lib.contains b a = false := c1
    refine Tr.skip ?_; refine Tr.seq ?_; refine Tr.region ?_; refine TrL.quiets 1 rfl (by exact True.intro) ?_; refine TrL.nil ?_; refine Tr.ret ?_
    refine retQ.of rfl ?_
    unfold findF
    rw [c1']
    rfl
theorem c_fFilter (a b : Str) (ha : a.length ≤ 10000) (hb : b.length ≤ 10000) : CallV Tryz.prog 28 [vL .str [a, b]] (vS (filtF a b false)) := by
  have h1 := split_lim ha
  have h2 := split_lim hb
  have h3 : (filterF (splitW a) (splitW b) false).length ≤ 20002 := Nat.le_trans (List.length_filter_le _ _) (by omega)
  have h4 : (joinW (filterF (splitW a) (splitW b) false)).length ≤ 1099511627 := join_lim 10000 (by decide) h3 fun x hx => h2.2 x (List.mem_filter.1 hx).1
  refine CallV.of Tryz.func28 (by kernel_rfl) rfl Tryz.ntmps28 (by simp) rfl fun cx hB => ?_
  refine Tr.seq ?_; refine Tr.region ?_; refine TrL.quiets 1 rfl (by exact True.intro) ?_; refine TrL.nil ?_; refine Tr.seq ?_; refine Tr.region ?_; refine TrL.quiets 1 rfl (by exact True.intro) ?_
  first | refine TrL.callV rfl rfl rfl rfl rfl (c_list [a, b] 0 (show 0 < 2 by decide) (show 2 ≤ 10 by decide) (l2 ha hb)) ?_ | refine TrD.callV rfl rfl rfl rfl rfl (c_list [a, b] 0 (show 0 < 2 by decide) (show 2 ≤ 10 by decide) (l2 ha hb)) rfl ?_
  refine TrL.quiets 1 rfl (by exact True.intro) ?_
  first | refine TrL.callV rfl rfl rfl rfl rfl (c_list [a, b] 1 (show 1 < 2 by decide) (show 2 ≤ 10 by decide) (l2 ha hb)) ?_ | refine TrD.callV rfl rfl rfl rfl rfl (c_list [a, b] 1 (show 1 < 2 by decide) (show 2 ≤ 10 by decide) (l2 ha hb)) rfl ?_
  first | refine TrL.callV rfl rfl rfl rfl rfl (c_Filter (splitW a) (splitW b) false (by omega) (fun x hx => by have := h1.2 x hx; omega) (by omega) (fun x hx => by have := h2.2 x hx; omega)) ?_ | refine TrD.callV rfl rfl rfl rfl rfl (c_Filter (splitW a) (splitW b) false (by omega) (fun x hx => by have := h1.2 x hx; omega) (by omega) (fun x hx => by have := h2.2 x hx; omega)) rfl ?_
  first | refine TrL.callV rfl rfl rfl rfl rfl (c_words_Join (filterF (splitW a) (splitW b) false) (by omega) (by omega)) ?_ | refine TrD.callV rfl rfl rfl rfl rfl (c_words_Join (filterF (splitW a) (splitW b) false) (by omega) (by omega)) rfl ?_
  refine TrL.quiets 1 rfl (by exact True.intro) ?_; refine TrL.nil ?_; refine Tr.ret ?_
  refine retQ.of rfl ?_
  rfl
theorem c_fFilterOut (a b : Str) (ha : a.length ≤ 10000) (hb : b.length ≤ 10000) : CallV Tryz.prog 29 [vL .str [a, b]] (vS (filtF a b true)) := by
  have h1 := split_lim ha
  have h2 := split_lim hb
  have h3 : (filterF (splitW a) (splitW b) true).length ≤ 20002 := Nat.le_trans (List.length_filter_le _ _) (by omega)
  have h4 : (joinW (filterF (splitW a) (splitW b) true)).length ≤ 1099511627 := join_lim 10000 (by decide) h3 fun x hx => h2.2 x (List.mem_filter.1 hx).1
  refine CallV.of Tryz.func29 (by kernel_rfl) rfl Tryz.ntmps29 (by simp) rfl fun cx hB => ?_
  refine Tr.seq ?_; refine Tr.region ?_; refine TrL.quiets 1 rfl (by exact True.intro) ?_; refine TrL.nil ?_; refine Tr.seq ?_; refine Tr.region ?_; refine TrL.quiets 1 rfl (by exact True.intro) ?_
  first | refine TrL.callV rfl rfl rfl rfl rfl (c_list [a, b] 0 (show 0 < 2 by decide) (show 2 ≤ 10 by decide) (l2 ha hb)) ?_ | refine TrD.callV rfl rfl rfl rfl rfl (c_list [a, b] 0 (show 0 < 2 by decide) (show 2 ≤ 10 by decide) (l2 ha hb)) rfl ?_
  refine TrL.quiets 1 rfl (by exact True.intro) ?_
  first | refine TrL.callV rfl rfl rfl rfl rfl (c_list [a, b] 1 (show 1 < 2 by decide) (show 2 ≤ 10 by decide) (l2 ha hb)) ?_ | refine TrD.callV rfl rfl rfl rfl rfl (c_list [a, b] 1 (show 1 < 2 by decide) (show 2 ≤ 10 by decide) (l2 ha hb)) rfl ?_
  first | refine TrL.callV rfl rfl rfl rfl rfl (c_Filter (splitW a) (splitW b) true (by omega) (fun x hx => by have := h1.2 x hx; omega) (by omega) (fun x hx => by have := h2.2 x hx; omega)) ?_ | refine TrD.callV rfl rfl rfl rfl rfl (c_Filter (splitW a) (splitW b) true (by omega) (fun x hx => by have := h1.2 x hx; omega) (by omega) (fun x hx => by have := h2.2 x hx; omega)) rfl ?_
  first | refine TrL.callV rfl rfl rfl rfl rfl (c_words_Join (filterF (splitW a) (splitW b) true) (by omega) (by omega)) ?_ | refine TrD.callV rfl rfl rfl rfl rfl (c_words_Join (filterF (splitW a) (splitW b) true) (by omega) (by omega)) rfl ?_
  refine TrL.quiets 1 rfl (by exact True.intro) ?_; refine TrL.nil ?_; refine Tr.ret ?_
  refine retQ.of rfl ?_
  rfl
theorem sortF_len (l : List Str) : (sortF l).length ≤ l.length := by
  have h1 := Lib.compact_length_le (sortS l)
  have h2 := (sortS_perm l).length_eq
  exact Nat.le_trans h1 (Nat.le_of_eq h2)
theorem sortF_mem {l : List Str} {x : Str} (h : x ∈ sortF l) : x ∈ l := by
  unfold sortF cmpS at h
  have h1 : x ∈ sortS l := by
    unfold Lib.compact Lib.compactUpTo at h
    obtain ⟨j, hj, rfl⟩ := List.mem_map.1 h
    have hj1 := List.mem_range.1 (List.mem_filter.1 hj).1
    have : (sortS l).toArray[j]! = (sortS l)[j] := by
      rw [getElem!_pos (sortS l).toArray j (by simpa using hj1)]
      simp
    rw [this]
    exact List.getElem_mem hj1
  exact (sortS_perm l).mem_iff.1 h1
theorem c_fSort (a : Str) (ha : a.length ≤ 10000) : CallV Tryz.prog 30 [vL .str [a]] (vS (sortWF a)) := by
  have h1 := split_lim ha
  have h3 := sortF_len (splitW a)
  have h4 : (joinW (sortF (splitW a))).length ≤ 1099511627 := join_lim 10000 (by decide) (by omega) fun x hx => h1.2 x (sortF_mem hx)
  refine CallV.of Tryz.func30 (by kernel_rfl) rfl Tryz.ntmps30 (by simp) rfl fun cx hB => ?_
  refine Tr.seq ?_; refine Tr.region ?_; refine TrL.quiets 1 rfl (by exact True.intro) ?_; refine TrL.nil ?_; refine Tr.seq ?_; refine Tr.region ?_; refine TrL.quiets 1 rfl (by exact True.intro) ?_
  first | refine TrL.callV rfl rfl rfl rfl rfl (c_list [a] 0 (show 0 < 1 by decide) (show 1 ≤ 10 by decide) (l1 ha)) ?_ | refine TrD.callV rfl rfl rfl rfl rfl (c_list [a] 0 (show 0 < 1 by decide) (show 1 ≤ 10 by decide) (l1 ha)) rfl ?_
  first | refine TrL.callV rfl rfl rfl rfl rfl (c_lSort (splitW a) (by omega)) ?_ | refine TrD.callV rfl rfl rfl rfl rfl (c_lSort (splitW a) (by omega)) rfl ?_
  first | refine TrL.callV rfl rfl rfl rfl rfl (c_words_Join (sortF (splitW a)) (by omega) (by omega)) ?_ | refine TrD.callV rfl rfl rfl rfl rfl (c_words_Join (sortF (splitW a)) (by omega) (by omega)) rfl ?_
  refine TrL.quiets 1 rfl (by exact True.intro) ?_; refine TrL.nil ?_; refine Tr.ret ?_
  refine retQ.of rfl ?_
  rfl
theorem sliceF_len (l : List Str) (f t : Int) : (sliceF l f t).length ≤ l.length := by
  unfold sliceF
  split
  · simp
  · rw [List.length_take, List.length_drop]
    omega
theorem sliceF_mem {l : List Str} {f t : Int} {x : Str} (h : x ∈ sliceF l f t) : x ∈ l := by
  unfold sliceF at h
  split at h
  · cases h
  · exact List.mem_of_mem_drop (List.mem_of_mem_take h)
theorem flat_le (b : Nat) : ∀ l : List Str, (∀ x ∈ l, x.length ≤ b) → l.flatten.length ≤ l.length * b
  | [], h => by simp
  | a :: l, h => by
    have h1 := h a (by simp)
    have h2 := flat_le b l (fun x hx => h x (by simp [hx]))
    simp only [List.flatten_cons, List.length_append, List.length_cons, Nat.add_mul]
    omega
theorem flat_lim {l : List Str} (hl : l.length ≤ 10001) (h : ∀ x ∈ l, x.length ≤ 10000) : l.flatten.length ≤ 1099511627 := by
  have h1 := flat_le 10000 l h
  omega
theorem c_fFirst (a : Str) (ha : a.length ≤ 10000) : CallV Tryz.prog 31 [vL .str [a]] (vS (firstF a)) := by
  have h1 := split_lim ha
  have h2 := sliceF_len (splitW a) 1 1
  have h3 : (sliceF (splitW a) 1 1).flatten.length ≤ 1099511627 := flat_lim (by omega) fun x hx => h1.2 x (sliceF_mem hx)
  refine CallV.of Tryz.func31 (by kernel_rfl) rfl Tryz.ntmps31 (by simp) rfl fun cx hB => ?_
  refine Tr.seq ?_; refine Tr.region ?_; refine TrL.quiets 1 rfl (by exact True.intro) ?_; refine TrL.nil ?_; refine Tr.seq ?_; refine Tr.region ?_; refine TrL.quiets 1 rfl (by exact True.intro) ?_
  first | refine TrL.callV rfl rfl rfl rfl rfl (c_list [a] 0 (show 0 < 1 by decide) (show 1 ≤ 10 by decide) (l1 ha)) ?_ | refine TrD.callV rfl rfl rfl rfl rfl (c_list [a] 0 (show 0 < 1 by decide) (show 1 ≤ 10 by decide) (l1 ha)) rfl ?_
  first | refine TrL.callV rfl rfl rfl rfl rfl (c_Slice (splitW a) 1 1 (by decide) (by decide) (by omega)) ?_ | refine TrD.callV rfl rfl rfl rfl rfl (c_Slice (splitW a) 1 1 (by decide) (by decide) (by omega)) rfl ?_
  first | refine TrL.callV rfl rfl rfl rfl rfl (c_lib_Flat (sliceF (splitW a) 1 1) (by omega) (by omega)) ?_ | refine TrD.callV rfl rfl rfl rfl rfl (c_lib_Flat (sliceF (splitW a) 1 1) (by omega) (by omega)) rfl ?_
  refine TrL.quiets 1 rfl (by exact True.intro) ?_; refine TrL.nil ?_; refine Tr.ret ?_
  refine retQ.of rfl ?_
  rfl
theorem c_fLast (a : Str) (ha : a.length ≤ 10000) : CallV Tryz.prog 32 [vL .str [a]] (vS (lastF a)) := by
  have h1 := split_lim ha
  have h2 := sliceF_len (splitW a) (splitW a).length (splitW a).length
  have h3 : (sliceF (splitW a) (splitW a).length (splitW a).length).flatten.length ≤ 1099511627 := flat_lim (by omega) fun x hx => h1.2 x (sliceF_mem hx)
  refine CallV.of Tryz.func32 (by kernel_rfl) rfl Tryz.ntmps32 (by simp) rfl fun cx hB => ?_
  refine Tr.seq ?_; refine Tr.region ?_; refine TrL.quiets 1 rfl (by exact True.intro) ?_; refine TrL.nil ?_; refine Tr.seq ?_; refine Tr.region ?_; refine TrL.quiets 1 rfl (by exact True.intro) ?_
  first | refine TrL.callV rfl rfl rfl rfl rfl (c_list [a] 0 (show 0 < 1 by decide) (show 1 ≤ 10 by decide) (l1 ha)) ?_ | refine TrD.callV rfl rfl rfl rfl rfl (c_list [a] 0 (show 0 < 1 by decide) (show 1 ≤ 10 by decide) (l1 ha)) rfl ?_
  refine TrL.quiets 1 rfl (by exact True.intro) ?_; refine TrL.nil ?_; refine Tr.seq ?_; refine Tr.region ?_; refine TrL.quiets 5 rfl (by exact True.intro) ?_
  first | refine TrL.callV rfl rfl rfl rfl rfl (c_Slice (splitW a) (splitW a).length (splitW a).length (by omega) (by omega) (by omega)) ?_ | refine TrD.callV rfl rfl rfl rfl rfl (c_Slice (splitW a) (splitW a).length (splitW a).length (by omega) (by omega) (by omega)) rfl ?_
  first | refine TrL.callV rfl rfl rfl rfl rfl (c_lib_Flat (sliceF (splitW a) (splitW a).length (splitW a).length) (by omega) (by omega)) ?_ | refine TrD.callV rfl rfl rfl rfl rfl (c_lib_Flat (sliceF (splitW a) (splitW a).length (splitW a).length) (by omega) (by omega)) rfl ?_
  refine TrL.quiets 1 rfl (by exact True.intro) ?_; refine TrL.nil ?_; refine Tr.ret ?_
  refine retQ.of rfl ?_
  rfl
theorem pairsF_lim {a b : List Str} (ha : a.length ≤ 10001) (hb : b.length ≤ 10001) (hxa : ∀ x ∈ a, x.length ≤ 10000) (hxb : ∀ x ∈ b, x.length ≤ 10000) : (pairsF a b).length ≤ 10001 ∧ ∀ x ∈ pairsF a b, x.length ≤ 20000 := by
  have hgd : ∀ (l : List Str) (i : Nat), (∀ x ∈ l, x.length ≤ 10000) → (l.getD i []).length ≤ 10000 := by
    intro l i h
    rw [List.getD_eq_getElem?_getD]
    cases hg : l[i]? with
    | none => simp
    | some x => exact h x (List.mem_of_getElem? hg)
  refine ⟨by simp only [pairsF, List.length_map, List.length_range]; omega, fun x hx => ?_⟩
  obtain ⟨i, _, rfl⟩ := List.mem_map.1 hx
  have h1 := hgd a i hxa
  have h2 := hgd b i hxb
  unfold pairF
  rw [List.length_append]
  omega
theorem c_fJoin (a b : Str) (ha : a.length ≤ 10000) (hb : b.length ≤ 10000) : CallV Tryz.prog 35 [vL .str [a, b]] (vS (joinF a b)) := by
  have h1 := split_lim ha
  have h2 := split_lim hb
  have h3 := pairsF_lim h1.1 h2.1 h1.2 h2.2
  have h4 : (joinW (pairsF (splitW a) (splitW b))).length ≤ 1099511627 := join_lim 20000 (by decide) (by omega) h3.2
  refine CallV.of Tryz.func35 (by kernel_rfl) rfl Tryz.ntmps35 (by simp) rfl fun cx hB => ?_
  refine Tr.seq ?_; refine Tr.region ?_; refine TrL.quiets 1 rfl (by exact True.intro) ?_; refine TrL.nil ?_; refine Tr.seq ?_; refine Tr.region ?_; refine TrL.quiets 1 rfl (by exact True.intro) ?_
  first | refine TrL.callV rfl rfl rfl rfl rfl (c_list [a, b] 0 (show 0 < 2 by decide) (show 2 ≤ 10 by decide) (l2 ha hb)) ?_ | refine TrD.callV rfl rfl rfl rfl rfl (c_list [a, b] 0 (show 0 < 2 by decide) (show 2 ≤ 10 by decide) (l2 ha hb)) rfl ?_
  refine TrL.quiets 1 rfl (by exact True.intro) ?_
  first | refine TrL.callV rfl rfl rfl rfl rfl (c_list [a, b] 1 (show 1 < 2 by decide) (show 2 ≤ 10 by decide) (l2 ha hb)) ?_ | refine TrD.callV rfl rfl rfl rfl rfl (c_list [a, b] 1 (show 1 < 2 by decide) (show 2 ≤ 10 by decide) (l2 ha hb)) rfl ?_
  first | refine TrL.callV rfl rfl rfl rfl rfl (c_Pairs (splitW a) (splitW b) (by omega) (by omega) (fun x hx => by have := h1.2 x hx; omega) (fun x hx => by have := h2.2 x hx; omega)) ?_ | refine TrD.callV rfl rfl rfl rfl rfl (c_Pairs (splitW a) (splitW b) (by omega) (by omega) (fun x hx => by have := h1.2 x hx; omega) (fun x hx => by have := h2.2 x hx; omega)) rfl ?_
  first | refine TrL.callV rfl rfl rfl rfl rfl (c_words_Join (pairsF (splitW a) (splitW b)) (by omega) (by omega)) ?_ | refine TrD.callV rfl rfl rfl rfl rfl (c_words_Join (pairsF (splitW a) (splitW b)) (by omega) (by omega)) rfl ?_
  refine TrL.quiets 1 rfl (by exact True.intro) ?_; refine TrL.nil ?_; refine Tr.ret ?_
  refine retQ.of rfl ?_
  rfl

theorem eachF_lim {l : List Str} {b e : Str} (hl : l.length ≤ 10001) (hx : ∀ x ∈ l, x.length ≤ 10000) (hb : b.length + e.length ≤ 10000) : (eachF l b e).length ≤ 10001 ∧ ∀ x ∈ eachF l b e, x.length ≤ 20000 := by
  refine ⟨by simp only [eachF, List.length_map]; exact hl, fun x hxm => ?_⟩
  obtain ⟨y, hy, rfl⟩ := List.mem_map.1 hxm
  have := hx y hy
  rw [List.length_append, List.length_append]
  omega
theorem c_fSuffix (a b : Str) (ha : a.length ≤ 10000) (hb : b.length ≤ 10000) : CallV Tryz.prog 33 [vL .str [a, b]] (vS (sufF a b)) := by
  have h2 := split_lim hb
  have h3 := eachF_lim (b := []) (e := a) h2.1 h2.2 (by simpa using ha)
  have h4 : (joinW (eachF (splitW b) [] a)).length ≤ 1099511627 := join_lim 20000 (by decide) (by omega) h3.2
  have cl := c_list [a, b] 1 (show 1 < 2 by decide) (show 2 ≤ 10 by decide) (l2 ha hb)
  have ce := c_Each (splitW b) [] a (by omega) (by simp) (by omega) (fun x hx => by have := h2.2 x hx; omega)
  have cj := c_words_Join (eachF (splitW b) [] a) (by omega) (by omega)
  refine CallV.of Tryz.func33 (by kernel_rfl) rfl Tryz.ntmps33 (by simp) rfl fun cx hB => ?_
  refine Tr.seq ?_; refine Tr.region ?_; refine TrL.quiets 1 rfl (by exact True.intro) ?_; refine TrL.nil ?_; refine Tr.seq ?_
  refine Tr.drawA 8 rfl (by kernel_rfl) ?_
  refine TrA.take 0 rfl rfl (by kernel_rfl) rfl (by exact True.intro) ?_; refine TrA.take 2 rfl rfl (by kernel_rfl) rfl (by exact True.intro) ?_; refine TrA.take 3 rfl rfl (by kernel_rfl) rfl ?_ ?_
  · show (0 : Int) ≤ 0 ∧ (0 : Int) < 2
    decide
  refine TrA.two 1 4 (by kernel_rfl) rfl rfl ?_ ?_
  · first | refine TrL.callV rfl rfl rfl rfl rfl cl ?_ | refine TrD.callV rfl rfl rfl rfl rfl cl rfl ?_
    refine TrL.nil ?_; refine TrA.one 4 (by kernel_rfl) rfl ?_; refine TrL.quiets 1 rfl (by exact True.intro) ?_; refine TrL.nil ?_; refine TrA.one 5 (by kernel_rfl) rfl ?_
    first | refine TrL.callV rfl rfl rfl rfl rfl ce ?_ | refine TrD.callV rfl rfl rfl rfl rfl ce rfl ?_
    refine TrL.nil ?_; refine TrA.one 6 (by kernel_rfl) rfl ?_
    first | refine TrL.callV rfl rfl rfl rfl rfl cj ?_ | refine TrD.callV rfl rfl rfl rfl rfl cj rfl ?_
    refine TrL.nil ?_; refine TrA.take 7 rfl rfl (by kernel_rfl) rfl (by exact True.intro) ?_; refine TrA.done (by kernel_rfl) ?_; refine Tr.ret ?_
    refine retQ.of rfl ?_
    rfl
  · refine TrL.quiets 1 rfl (by exact True.intro) ?_; refine TrL.nil ?_; refine TrA.one 1 (by kernel_rfl) rfl ?_
    first | refine TrL.callV rfl rfl rfl rfl rfl cl ?_ | refine TrD.callV rfl rfl rfl rfl rfl cl rfl ?_
    refine TrL.nil ?_; refine TrA.one 5 (by kernel_rfl) rfl ?_
    first | refine TrL.callV rfl rfl rfl rfl rfl ce ?_ | refine TrD.callV rfl rfl rfl rfl rfl ce rfl ?_
    refine TrL.nil ?_; refine TrA.one 6 (by kernel_rfl) rfl ?_
    first | refine TrL.callV rfl rfl rfl rfl rfl cj ?_ | refine TrD.callV rfl rfl rfl rfl rfl cj rfl ?_
    refine TrL.nil ?_; refine TrA.take 7 rfl rfl (by kernel_rfl) rfl (by exact True.intro) ?_; refine TrA.done (by kernel_rfl) ?_; refine Tr.ret ?_
    refine retQ.of rfl ?_
    rfl
theorem c_fPrefix (a b : Str) (ha : a.length ≤ 10000) (hb : b.length ≤ 10000) : CallV Tryz.prog 34 [vL .str [a, b]] (vS (preF a b)) := by
  have h2 := split_lim hb
  have h3 := eachF_lim (b := a) (e := []) h2.1 h2.2 (by simpa using ha)
  have h4 : (joinW (eachF (splitW b) a [])).length ≤ 1099511627 := join_lim 20000 (by decide) (by omega) h3.2
  have cl := c_list [a, b] 1 (show 1 < 2 by decide) (show 2 ≤ 10 by decide) (l2 ha hb)
  have ce := c_Each (splitW b) a [] (by omega) (by omega) (by simp) (fun x hx => by have := h2.2 x hx; omega)
  have cj := c_words_Join (eachF (splitW b) a []) (by omega) (by omega)
  refine CallV.of Tryz.func34 (by kernel_rfl) rfl Tryz.ntmps34 (by simp) rfl fun cx hB => ?_
  refine Tr.seq ?_; refine Tr.region ?_; refine TrL.quiets 1 rfl (by exact True.intro) ?_; refine TrL.nil ?_; refine Tr.seq ?_
  refine Tr.drawA 8 rfl (by kernel_rfl) ?_
  refine TrA.take 0 rfl rfl (by kernel_rfl) rfl (by exact True.intro) ?_; refine TrA.take 2 rfl rfl (by kernel_rfl) rfl (by exact True.intro) ?_; refine TrA.take 3 rfl rfl (by kernel_rfl) rfl ?_ ?_
  · show (0 : Int) ≤ 0 ∧ (0 : Int) < 2
    decide
  refine TrA.two 1 4 (by kernel_rfl) rfl rfl ?_ ?_
  · first | refine TrL.callV rfl rfl rfl rfl rfl cl ?_ | refine TrD.callV rfl rfl rfl rfl rfl cl rfl ?_
    refine TrL.nil ?_; refine TrA.one 4 (by kernel_rfl) rfl ?_; refine TrL.quiets 1 rfl (by exact True.intro) ?_; refine TrL.nil ?_; refine TrA.one 5 (by kernel_rfl) rfl ?_
    first | refine TrL.callV rfl rfl rfl rfl rfl ce ?_ | refine TrD.callV rfl rfl rfl rfl rfl ce rfl ?_
    refine TrL.nil ?_; refine TrA.one 6 (by kernel_rfl) rfl ?_
    first | refine TrL.callV rfl rfl rfl rfl rfl cj ?_ | refine TrD.callV rfl rfl rfl rfl rfl cj rfl ?_
    refine TrL.nil ?_; refine TrA.take 7 rfl rfl (by kernel_rfl) rfl (by exact True.intro) ?_; refine TrA.done (by kernel_rfl) ?_; refine Tr.ret ?_
    refine retQ.of rfl ?_
    rfl
  · refine TrL.quiets 1 rfl (by exact True.intro) ?_; refine TrL.nil ?_; refine TrA.one 1 (by kernel_rfl) rfl ?_
    first | refine TrL.callV rfl rfl rfl rfl rfl cl ?_ | refine TrD.callV rfl rfl rfl rfl rfl cl rfl ?_
    refine TrL.nil ?_; refine TrA.one 5 (by kernel_rfl) rfl ?_
    first | refine TrL.callV rfl rfl rfl rfl rfl ce ?_ | refine TrD.callV rfl rfl rfl rfl rfl ce rfl ?_
    refine TrL.nil ?_; refine TrA.one 6 (by kernel_rfl) rfl ?_
    first | refine TrL.callV rfl rfl rfl rfl rfl cj ?_ | refine TrD.callV rfl rfl rfl rfl rfl cj rfl ?_
    refine TrL.nil ?_; refine TrA.take 7 rfl rfl (by kernel_rfl) rfl (by exact True.intro) ?_; refine TrA.done (by kernel_rfl) ?_; refine Tr.ret ?_
    refine retQ.of rfl ?_
    rfl
theorem replF_len (f t w : Str) (hf : f.length ≤ 10000) (ht : t.length ≤ 10000) (hw : w.length ≤ 10000) : (replF f t w).1.length ≤ 20000 := by
  have hpt := patF_lenT t
  have hml := matchF_len (patF f) w
  unfold replF
  split
  · show w.length ≤ 20000
    omega
  · split
    · show (putF _ _).length ≤ 20000
      unfold putF
      split
      · simp only [List.length_append]
        omega
      · omega
    · show t.length ≤ 20000
      omega
theorem c_fPatsubst (f t s : Str) (hf : f.length ≤ 10000) (ht : t.length ≤ 10000) (hs : s.length ≤ 10000) : CallV Tryz.prog 25 [vL .str [f, t, s]] (vS (patsubstF f t s)) := by
  have h2 := split_lim hs
  have h4 : (joinW ((splitW s).map fun w => (replF f t w).1)).length ≤ 1099511627 := join_lim 20000 (by decide) (by rw [List.length_map]; omega) fun x hx => by
    obtain ⟨w, hw, rfl⟩ := List.mem_map.1 hx
    exact replF_len f t w hf ht (h2.2 w hw)
  have cl := c_list [f, t, s] 2 (show 2 < 3 by decide) (show 3 ≤ 10 by decide) (l3 hf ht hs)
  have cj := c_words_Join ((splitW s).map fun w => (replF f t w).1) (by omega) (by rw [List.length_map]; omega)
  generalize hl : splitW s = l at h2 h4 cl cj
  have hps : patsubstF f t s = joinW (l.map fun w => (replF f t w).1) := by unfold patsubstF; rw [hl]
  rw [hps]
  refine CallV.of Tryz.func25 (by kernel_rfl) rfl Tryz.ntmps25 (by simp) rfl fun cx hB => ?_
  have hB1 : ∀ i, cx.B i = true → i < 1 := fun i h => by have := hB i h; omega
  refine Tr.seq ?_; refine Tr.region ?_; refine TrL.quiets 1 rfl (by exact True.intro) ?_; refine TrL.nil ?_; refine Tr.seq ?_; refine Tr.region ?_; refine TrL.quiets 1 rfl (by exact True.intro) ?_; refine TrL.nil ?_; refine Tr.seq ?_; refine Tr.seq ?_; refine Tr.region ?_; refine TrL.quiets 1 rfl (by exact True.intro) ?_
  first | refine TrL.callV rfl rfl rfl rfl rfl cl ?_ | refine TrD.callV rfl rfl rfl rfl rfl cl rfl ?_
  rw [show [f, t, s][2] = s from rfl, hl]
  refine TrL.quiets 2 rfl (by exact True.intro) ?_; refine TrL.nil ?_
  change Tr _ _ _ _ _ _
  refine Tr.keep [0, 3, 9, 10, 11] 0 hB (st' := ⟨[(0, [], vL .str [f, t, s]), (3, [], .nils), (9, [], vL .str l), (10, [], vI l.length), (11, [], vI 0)], []⟩) rfl ?_
  refine Tr.nilRow 3 9 .str rfl ?_
  refine Tr.block ?_
  refine Tr.loop (fun i : Nat => ⟨[(0, [], vL .str [f, t, s]), (3, [], .own 0), (9, [], vL .str l), (10, [], vI l.length), (11, [], vI i)], [.gs 9 .str ((l.take i).map fun w => (replF f t w).1)]⟩) (fun i => i ≤ l.length) (fun i => l.length - i) 0 [0, 3, 9, 10, 11] 1 hB1 rfl (Nat.zero_le _) fun i hi => ?_
  refine Tr.seq ?_; refine Tr.region ?_; refine TrL.quiets 1 rfl (by exact True.intro) ?_; refine TrL.nil ?_; refine Tr.seq ?_
  refine Tr.cond rfl (fun c1 => ?_) (fun c1 => ?_)
  · have hi1 : i < l.length := by simpa using c1
    have hnth : nth (t := .str) l (i : Int) = l[i] := nth_get' (t := .str) _ _ hi1
    have hwi := h2.2 _ (List.getElem_mem hi1)
    have hml : ((l.take i).map fun w => (replF f t w).1).length = i := by rw [List.length_map, List.length_take]; omega
    have hms : ((l.take (i + 1)).map fun w => (replF f t w).1) = ((l.take i).map fun w => (replF f t w).1) ++ [(replF f t l[i]).1] := by
      rw [List.take_succ_eq_append_getElem hi1, List.map_append]
      rfl
    refine Tr.skip ?_; refine Tr.seq ?_; refine Tr.block ?_; refine Tr.seq ?_; refine Tr.region ?_; refine TrL.quiets 3 rfl (by (simp only [allOf, impO, imp, inR, loOk, and_true]; omega)) ?_; refine TrL.nil ?_
    change Tr _ _ _ _ _ _
    refine Tr.is 5 (sv' := vS l[i]) rfl (congrArg vS hnth) ?_
    refine Tr.keep [0, 3, 5, 9, 10, 11] 1 hB1 (st' := ⟨[(0, [], vL .str [f, t, s]), (3, [], .own 0), (5, [], vS l[i]), (9, [], vL .str l), (10, [], vI l.length), (11, [], vI i)], [.gs 9 .str ((l.take i).map fun w => (replF f t w).1)]⟩) rfl ?_
    have cr := c_Replace f t l[i] (by omega) (by omega) (by omega)
    refine Tr.seq ?_; refine Tr.draw (by kernel_rfl) (by kernel_rfl) ?_; refine TrD.quiets 7 rfl (by (simp (disch := omega) only [allOf, impO, imp, inR, loOk, and_true, w64, List.length_set, List.length_cons, List.length_nil, Option.getD_none, Option.getD_some, Ty.D, true_and, decide_eq_true_eq, decide_eq_false_iff_not, Bool.and_eq_true, Bool.or_eq_false_iff]; omega)) ?_
    first | refine TrL.callV rfl rfl rfl rfl rfl cr ?_ | refine TrD.callV rfl rfl rfl rfl rfl cr rfl ?_
    refine TrD.quiets 5 rfl (by exact True.intro) ?_; refine TrD.nil ?_; refine Tr.region ?_; refine TrL.quiets 2 rfl (by exact True.intro) ?_; refine TrL.eff (effLit_sound rfl) (by exact True.intro) ?_; refine TrL.eff (effAppend_sound rfl) ?_ ?_
    · show ((l.take i).map fun w => (replF f t w).1).length + 1 ≤ 1099511627776
      omega
    refine TrL.quiets 1 rfl (by exact True.intro) ?_; refine TrL.nil ?_; refine Tr.region ?_; refine TrL.quiets 2 rfl (by exact True.intro) ?_; refine TrL.nil ?_
    refine ⟨i + 1, hi1, by dsimp only; omega, ?_⟩
    refine Eq.trans (b := (⟨[(0, [], vL .str [f, t, s]), (3, [], .own 0), (9, [], vL .str l), (10, [], vI l.length), (11, [], vI (IntKind.i64.wrap ((i : Int) + 1)))], [.gs 9 .str (((l.take i).map fun w => (replF f t w).1) ++ [(replF f t l[i]).1])]⟩ : St)) rfl ?_
    dsimp only
    rw [hms, w64n (y := i + 1) (by omega) (by omega)]
  · have hi1 : i = l.length := by
      have : ¬ (i : Int) < l.length := by simpa using c1
      omega
    subst hi1
    rw [List.take_length]
    refine Tr.exit ?_; refine Tr.seq ?_; refine Tr.region ?_; refine TrL.quiets 1 rfl (by exact True.intro) ?_
    first | refine TrL.callV rfl rfl rfl rfl rfl cj ?_ | refine TrD.callV rfl rfl rfl rfl rfl cj rfl ?_
    refine TrL.quiets 1 rfl (by exact True.intro) ?_; refine TrL.nil ?_; refine Tr.ret ?_
    refine retQ.of rfl ?_
    rfl

abbrev fnV (n : Int) (f : Nat) : Value := .agg #[.int .i64 n, .func (.func f) #[] #[]]
def kSubst : Str := [115, 117, 98, 115, 116]
def kPatsubst : Str := [112, 97, 116, 115, 117, 98, 115, 116]
def kStrip : Str := [115, 116, 114, 105, 112]
def kFind : Str := [102, 105, 110, 100, 115, 116, 114, 105, 110, 103]
def kFilter : Str := [102, 105, 108, 116, 101, 114]
def kFilterOut : Str := [102, 105, 108, 116, 101, 114, 45, 111, 117, 116]
def kSort : Str := [115, 111, 114, 116]
def kFirst : Str := [102, 105, 114, 115, 116, 119, 111, 114, 100]
def kLast : Str := [108, 97, 115, 116, 119, 111, 114, 100]
def kSuffix : Str := [97, 100, 100, 115, 117, 102, 102, 105, 120]
def kPrefix : Str := [97, 100, 100, 112, 114, 101, 102, 105, 120]
def kJoin : Str := [106, 111, 105, 110]
def fnPuts : List (Str × Value) := [(kSubst, fnV 3 24), (kPatsubst, fnV 3 25), (kStrip, fnV 1 26), (kFind, fnV 2 27),
  (kFilter, fnV 2 28), (kFilterOut, fnV 2 29), (kSort, fnV 1 30), (kFirst, fnV 1 31), (kLast, fnV 1 32),
  (kSuffix, fnV 2 33), (kPrefix, fnV 2 34), (kJoin, fnV 2 35)]
def fnTab : List (Str × Value) := fnPuts.foldl (fun F p => putKey F p.1 p.2) []
theorem u_fns : Tryz.prog.underlying 48 = some (.map 9 46) := Tryz.underlying48
theorem u_strT : Tryz.prog.underlying 9 = some .string := Tryz.underlying9
theorem z_fn (w : World) : (zeroValue 46).run Tryz.prog w = .ok (.agg #[.int .i64 0, .nilFunc]) w := Tryz.zeroValue46 w
theorem c_functions : CallT Tryz.prog 17 [] [] (.mp 0) [.res (cmRes fnTab)] := by
  refine CallT.of Tryz.func17 (by kernel_rfl) rfl Tryz.ntmps17 (by simp) (by simp) fun cx hB => ?_
  refine Tr.seq ?_; refine Tr.region ?_; refine TrL.quiets 1 rfl (by exact True.intro) ?_; refine TrL.nil ?_; refine Tr.seq ?_; refine Tr.region ?_
  refine TrL.eff (newMap_sound (cmRes []) cm_starts rfl rfl rfl rfl) True.intro ?_
  refine TrL.quiets 1 rfl (by exact True.intro) ?_
  refine TrL.eff (cmPut_sound (k := kSubst) (lit_two (lit_int .i64 3) (lit_fn 24)) rfl (.inr rfl) rfl u_fns u_strT rfl rfl rfl rfl) True.intro ?_
  refine TrL.quiets 1 rfl (by exact True.intro) ?_
  refine TrL.eff (cmPut_sound (k := kPatsubst) (lit_two (lit_int .i64 3) (lit_fn 25)) rfl (.inr rfl) rfl u_fns u_strT rfl rfl rfl rfl) True.intro ?_
  refine TrL.quiets 1 rfl (by exact True.intro) ?_
  refine TrL.eff (cmPut_sound (k := kStrip) (lit_two (lit_int .i64 1) (lit_fn 26)) rfl (.inr rfl) rfl u_fns u_strT rfl rfl rfl rfl) True.intro ?_
  refine TrL.quiets 1 rfl (by exact True.intro) ?_
  refine TrL.eff (cmPut_sound (k := kFind) (lit_two (lit_int .i64 2) (lit_fn 27)) rfl (.inr rfl) rfl u_fns u_strT rfl rfl rfl rfl) True.intro ?_
  refine TrL.quiets 1 rfl (by exact True.intro) ?_
  refine TrL.eff (cmPut_sound (k := kFilter) (lit_two (lit_int .i64 2) (lit_fn 28)) rfl (.inr rfl) rfl u_fns u_strT rfl rfl rfl rfl) True.intro ?_
  refine TrL.quiets 1 rfl (by exact True.intro) ?_
  refine TrL.eff (cmPut_sound (k := kFilterOut) (lit_two (lit_int .i64 2) (lit_fn 29)) rfl (.inr rfl) rfl u_fns u_strT rfl rfl rfl rfl) True.intro ?_
  refine TrL.quiets 1 rfl (by exact True.intro) ?_
  refine TrL.eff (cmPut_sound (k := kSort) (lit_two (lit_int .i64 1) (lit_fn 30)) rfl (.inr rfl) rfl u_fns u_strT rfl rfl rfl rfl) True.intro ?_
  refine TrL.quiets 1 rfl (by exact True.intro) ?_
  refine TrL.eff (cmPut_sound (k := kFirst) (lit_two (lit_int .i64 1) (lit_fn 31)) rfl (.inr rfl) rfl u_fns u_strT rfl rfl rfl rfl) True.intro ?_
  refine TrL.quiets 1 rfl (by exact True.intro) ?_
  refine TrL.eff (cmPut_sound (k := kLast) (lit_two (lit_int .i64 1) (lit_fn 32)) rfl (.inr rfl) rfl u_fns u_strT rfl rfl rfl rfl) True.intro ?_
  refine TrL.quiets 1 rfl (by exact True.intro) ?_
  refine TrL.eff (cmPut_sound (k := kSuffix) (lit_two (lit_int .i64 2) (lit_fn 33)) rfl (.inr rfl) rfl u_fns u_strT rfl rfl rfl rfl) True.intro ?_
  refine TrL.quiets 1 rfl (by exact True.intro) ?_
  refine TrL.eff (cmPut_sound (k := kPrefix) (lit_two (lit_int .i64 2) (lit_fn 34)) rfl (.inr rfl) rfl u_fns u_strT rfl rfl rfl rfl) True.intro ?_
  refine TrL.quiets 1 rfl (by exact True.intro) ?_
  refine TrL.eff (cmPut_sound (k := kJoin) (lit_two (lit_int .i64 2) (lit_fn 35)) rfl (.inr rfl) rfl u_fns u_strT rfl rfl rfl rfl) True.intro ?_
  refine TrL.quiets 2 rfl (by exact True.intro) ?_; refine TrL.nil ?_; refine Tr.ret ?_
  exact retT.of rfl rfl rfl
abbrev fnZ : Value := .agg #[.int .i64 0, .nilFunc]
theorem c_DoAt (name : Str) (l : List Str) (F : Nat) (n : Int) (r : Str) (hans : lookV fnTab name fnZ true = .tuple #[fnV n F, .bool true]) (hl : l.length ≤ 1099511627) (hF : (l.length : Int) = n → CallV Tryz.prog F [vL .str l] (vS r)) :
    CallV Tryz.prog 10 [vS name, vL .str l] (.tup [vS (if (l.length : Int) = n then r else []), vB (decide ((l.length : Int) = n))]) := by
  refine CallV.of Tryz.func10 (by kernel_rfl) rfl Tryz.ntmps10 (by simp) rfl fun cx hB => ?_
  have hB2 : ∀ i, cx.B i = true → i < 2 := fun i h => Nat.lt_of_lt_of_le (hB i h) (by decide)
  refine Tr.seq ?_; refine Tr.region ?_; refine TrL.quiets 2 rfl (by exact True.intro) ?_; refine TrL.nil ?_; refine Tr.seq ?_; refine Tr.region ?_
  refine TrL.callT [] rfl rfl rfl rfl rfl c_functions rfl rfl rfl ?_
  refine TrL.quiets 1 rfl (by exact True.intro) ?_
  refine TrL.eff (cmLook_sound z_fn hans (lit_two (lit_int .i64 n) (lit_fn F)) rfl rfl rfl u_fns u_strT rfl rfl rfl rfl) True.intro ?_
  refine TrL.quiets 3 rfl (by exact True.intro) ?_; refine TrL.eff (effBox_sound rfl) (by exact True.intro) ?_; refine TrL.eff (effStore_sound rfl) (by exact True.intro) ?_; refine TrL.quiets 1 rfl (by exact True.intro) ?_; refine TrL.nil ?_
  change Tr _ _ _ _ _ _
  refine Tr.keep [1, 6, 7] 2 hB2 (st' := ⟨[(1, [], vL .str l), (6, [], .ptr 1 0), (7, [], vB true)], [.res (cmRes fnTab), .box 46 [vI n, .fn F [] []]]⟩) rfl ?_
  refine Tr.seq ?_; refine Tr.seq ?_; refine Tr.region ?_; refine TrL.quiets 9 rfl (by exact True.intro) ?_; refine TrL.nil ?_
  refine Tr.cond rfl (fun c1 => ?_) (fun c1 => ?_)
  · have hn : ¬ (l.length : Int) = n := by simpa using c1
    refine Tr.seq ?_; refine Tr.region ?_; refine TrL.quiets 2 rfl (by exact True.intro) ?_; refine TrL.nil ?_; refine Tr.ret ?_
    refine retQ.of rfl ?_
    rw [if_neg hn, decide_eq_false hn]
  · have hn : (l.length : Int) = n := by simpa using c1
    refine Tr.skip ?_; refine Tr.seq ?_; refine Tr.region ?_; refine TrL.quiets 3 rfl (by exact True.intro) ?_
    first | refine TrL.callV rfl rfl rfl rfl rfl (hF hn) ?_ | refine TrD.callV rfl rfl rfl rfl rfl (hF hn) rfl ?_
    refine TrL.quiets 2 rfl (by exact True.intro) ?_; refine TrL.nil ?_; refine Tr.ret ?_
    refine retQ.of rfl ?_
    rw [if_pos hn, decide_eq_true hn]
theorem c_DoNo (name : Str) (l : List Str) (hans : lookV fnTab name fnZ true = .tuple #[fnZ, .bool false]) (hl : l.length ≤ 1099511627) :
    CallV Tryz.prog 10 [vS name, vL .str l] (.tup [vS [], vB false]) := by
  refine CallV.of Tryz.func10 (by kernel_rfl) rfl Tryz.ntmps10 (by simp) rfl fun cx hB => ?_
  have hB2 : ∀ i, cx.B i = true → i < 2 := fun i h => Nat.lt_of_lt_of_le (hB i h) (by decide)
  refine Tr.seq ?_; refine Tr.region ?_; refine TrL.quiets 2 rfl (by exact True.intro) ?_; refine TrL.nil ?_; refine Tr.seq ?_; refine Tr.region ?_
  refine TrL.callT [] rfl rfl rfl rfl rfl c_functions rfl rfl rfl ?_
  refine TrL.quiets 1 rfl (by exact True.intro) ?_
  refine TrL.eff (cmLook_sound z_fn hans (lit_two (lit_int .i64 0) lit_nilf) rfl rfl rfl u_fns u_strT rfl rfl rfl rfl) True.intro ?_
  refine TrL.quiets 3 rfl (by exact True.intro) ?_; refine TrL.eff (effBox_sound rfl) (by exact True.intro) ?_; refine TrL.eff (effStore_sound rfl) (by exact True.intro) ?_; refine TrL.quiets 1 rfl (by exact True.intro) ?_; refine TrL.nil ?_
  change Tr _ _ _ _ _ _
  refine Tr.keep [1, 6, 7] 2 hB2 (st' := ⟨[(1, [], vL .str l), (6, [], .ptr 1 0), (7, [], vB false)], [.res (cmRes fnTab), .box 46 [vI 0, .nilf]]⟩) rfl ?_
  refine Tr.seq ?_; refine Tr.seq ?_; refine Tr.region ?_; refine TrL.quiets 9 rfl (by exact True.intro) ?_; refine TrL.nil ?_
  refine Tr.cond rfl (fun c1 => ?_) (fun c1 => ?_)
  · refine Tr.seq ?_; refine Tr.region ?_; refine TrL.quiets 2 rfl (by exact True.intro) ?_; refine TrL.nil ?_; refine Tr.ret ?_
    refine retQ.of rfl ?_
    rfl
  · exfalso
    simp at c1
/-! ### What Do answers -/
def doF (name : Str) (l : List Str) : Str × Bool :=
  match l with
  | [a] => if name = kStrip then (strip a, true) else if name = kSort then (sortWF a, true) else if name = kFirst then (firstF a, true) else if name = kLast then (lastF a, true) else ([], false)
  | [a, b] => if name = kFind then (findF a b, true) else if name = kFilter then (filtF a b false, true) else if name = kFilterOut then (filtF a b true, true) else if name = kSuffix then (sufF a b, true) else if name = kPrefix then (preF a b, true) else if name = kJoin then (joinF a b, true) else ([], false)
  | [a, b, c] => if name = kSubst then (substF a b c, true) else if name = kPatsubst then (patsubstF a b c, true) else ([], false)
  | _ => ([], false)

abbrev DoIs (name : Str) (l : List Str) : Prop := CallV Tryz.prog 10 [vS name, vL .str l] (.tup [vS (doF name l).1, vB (doF name l).2])
theorem len_two {l : List Str} (h : l.length = 2) : ∃ a b, l = [a, b] := by
  match l, h with
  | [a, b], _ => exact ⟨a, b, rfl⟩
theorem len_three {l : List Str} (h : l.length = 3) : ∃ a b c, l = [a, b, c] := by
  match l, h with
  | [a, b, c], _ => exact ⟨a, b, c, rfl⟩
theorem do1 {name : Str} {F : Nat} {g : Str → Str} (hans : lookV fnTab name fnZ true = .tuple #[fnV 1 F, .bool true]) (hg : ∀ a : Str, a.length ≤ 10000 → CallV Tryz.prog F [vL .str [a]] (vS (g a)))
    (hdo : ∀ a, doF name [a] = (g a, true)) (hno : ∀ l : List Str, l.length ≠ 1 → doF name l = ([], false)) (l : List Str) (hl : l.length ≤ 1000) (hx : ∀ x ∈ l, x.length ≤ 10000) : DoIs name l := by
  by_cases h : l.length = 1
  · obtain ⟨a, rfl⟩ := List.length_eq_one_iff.1 h
    have := c_DoAt name [a] F 1 (g a) hans (by simp) fun _ => hg a (hx a (by simp))
    unfold DoIs
    rw [hdo a]
    exact this
  · have := c_DoAt name l F 1 [] hans (by omega) fun e => absurd e (by omega)
    unfold DoIs
    rw [hno l h]
    rw [if_neg (by omega), decide_eq_false (by omega)] at this
    exact this
theorem do2 {name : Str} {F : Nat} {g : Str → Str → Str} (hans : lookV fnTab name fnZ true = .tuple #[fnV 2 F, .bool true]) (hg : ∀ a b : Str, a.length ≤ 10000 → b.length ≤ 10000 → CallV Tryz.prog F [vL .str [a, b]] (vS (g a b)))
    (hdo : ∀ a b, doF name [a, b] = (g a b, true)) (hno : ∀ l : List Str, l.length ≠ 2 → doF name l = ([], false)) (l : List Str) (hl : l.length ≤ 1000) (hx : ∀ x ∈ l, x.length ≤ 10000) : DoIs name l := by
  by_cases h : l.length = 2
  · obtain ⟨a, b, rfl⟩ := len_two h
    have := c_DoAt name [a, b] F 2 (g a b) hans (by simp) fun _ => hg a b (hx a (by simp)) (hx b (by simp))
    unfold DoIs
    rw [hdo a b]
    exact this
  · have := c_DoAt name l F 2 [] hans (by omega) fun e => absurd e (by omega)
    unfold DoIs
    rw [hno l h]
    rw [if_neg (by omega), decide_eq_false (by omega)] at this
    exact this
theorem do3 {name : Str} {F : Nat} {g : Str → Str → Str → Str} (hans : lookV fnTab name fnZ true = .tuple #[fnV 3 F, .bool true]) (hg : ∀ a b c : Str, a.length ≤ 10000 → b.length ≤ 10000 → c.length ≤ 10000 → CallV Tryz.prog F [vL .str [a, b, c]] (vS (g a b c)))
    (hdo : ∀ a b c, doF name [a, b, c] = (g a b c, true)) (hno : ∀ l : List Str, l.length ≠ 3 → doF name l = ([], false)) (l : List Str) (hl : l.length ≤ 1000) (hx : ∀ x ∈ l, x.length ≤ 10000) : DoIs name l := by
  by_cases h : l.length = 3
  · obtain ⟨a, b, c, rfl⟩ := len_three h
    have := c_DoAt name [a, b, c] F 3 (g a b c) hans (by simp) fun _ => hg a b c (hx a (by simp)) (hx b (by simp)) (hx c (by simp))
    unfold DoIs
    rw [hdo a b c]
    exact this
  · have := c_DoAt name l F 3 [] hans (by omega) fun e => absurd e (by omega)
    unfold DoIs
    rw [hno l h]
    rw [if_neg (by omega), decide_eq_false (by omega)] at this
    exact this
theorem no1 {name : Str} (h2 : ∀ a b, doF name [a, b] = ([], false)) (h3 : ∀ a b c, doF name [a, b, c] = ([], false)) (l : List Str) (h : l.length ≠ 1) : doF name l = ([], false) := by
  match l, h with
  | [], _ => rfl
  | [a], h => simp at h
  | [a, b], _ => exact h2 a b
  | [a, b, c], _ => exact h3 a b c
  | a :: b :: c :: d :: l, _ => rfl
theorem no2 {name : Str} (h2 : ∀ a, doF name [a] = ([], false)) (h3 : ∀ a b c, doF name [a, b, c] = ([], false)) (l : List Str) (h : l.length ≠ 2) : doF name l = ([], false) := by
  match l, h with
  | [], _ => rfl
  | [a], _ => exact h2 a
  | [a, b], h => simp at h
  | [a, b, c], _ => exact h3 a b c
  | a :: b :: c :: d :: l, _ => rfl
theorem no3 {name : Str} (h2 : ∀ a, doF name [a] = ([], false)) (h3 : ∀ a b, doF name [a, b] = ([], false)) (l : List Str) (h : l.length ≠ 3) : doF name l = ([], false) := by
  match l, h with
  | [], _ => rfl
  | [a], _ => exact h2 a
  | [a, b], _ => exact h3 a b
  | [a, b, c], h => simp at h
  | a :: b :: c :: d :: l, _ => rfl
theorem fnTab_is : fnTab = fnPuts := by kernel_rfl
theorem c_Do (name : Str) (l : List Str) (hl : l.length ≤ 1000) (hx : ∀ x ∈ l, x.length ≤ 10000) : DoIs name l := by
  by_cases h1 : name = kSubst
  · subst h1; exact do3 (by kernel_rfl) c_fSubst (fun a b c => rfl) (no3 (fun a => rfl) fun a b => rfl) l hl hx
  by_cases h2 : name = kPatsubst
  · subst h2; exact do3 (by kernel_rfl) c_fPatsubst (fun a b c => rfl) (no3 (fun a => rfl) fun a b => rfl) l hl hx
  by_cases h3 : name = kStrip
  · subst h3; exact do1 (by kernel_rfl) c_fStrip (fun a => rfl) (no1 (fun a b => rfl) fun a b c => rfl) l hl hx
  by_cases h4 : name = kFind
  · subst h4; exact do2 (by kernel_rfl) c_fFind (fun a b => rfl) (no2 (fun a => rfl) fun a b c => rfl) l hl hx
  by_cases h5 : name = kFilter
  · subst h5; exact do2 (by kernel_rfl) c_fFilter (fun a b => rfl) (no2 (fun a => rfl) fun a b c => rfl) l hl hx
  by_cases h6 : name = kFilterOut
  · subst h6; exact do2 (by kernel_rfl) c_fFilterOut (fun a b => rfl) (no2 (fun a => rfl) fun a b c => rfl) l hl hx
  by_cases h7 : name = kSort
  · subst h7; exact do1 (by kernel_rfl) c_fSort (fun a => rfl) (no1 (fun a b => rfl) fun a b c => rfl) l hl hx
  by_cases h8 : name = kFirst
  · subst h8; exact do1 (by kernel_rfl) c_fFirst (fun a => rfl) (no1 (fun a b => rfl) fun a b c => rfl) l hl hx
  by_cases h9 : name = kLast
  · subst h9; exact do1 (by kernel_rfl) c_fLast (fun a => rfl) (no1 (fun a b => rfl) fun a b c => rfl) l hl hx
  by_cases h10 : name = kSuffix
  · subst h10; exact do2 (by kernel_rfl) c_fSuffix (fun a b => rfl) (no2 (fun a => rfl) fun a b c => rfl) l hl hx
  by_cases h11 : name = kPrefix
  · subst h11; exact do2 (by kernel_rfl) c_fPrefix (fun a b => rfl) (no2 (fun a => rfl) fun a b c => rfl) l hl hx
  by_cases h12 : name = kJoin
  · subst h12; exact do2 (by kernel_rfl) c_fJoin (fun a b => rfl) (no2 (fun a => rfl) fun a b c => rfl) l hl hx
  have hi : idxKey fnTab name 0 = none := by
    rw [fnTab_is]
    unfold fnPuts
    simp only [idxKey, if_neg h1, if_neg h2, if_neg h3, if_neg h4, if_neg h5, if_neg h6, if_neg h7, if_neg h8, if_neg h9, if_neg h10, if_neg h11, if_neg h12]
  have hd : doF name l = ([], false) := by
    unfold doF
    split
    · rw [if_neg h3, if_neg h7, if_neg h8, if_neg h9]
    · rw [if_neg h4, if_neg h5, if_neg h6, if_neg h10, if_neg h11, if_neg h12]
    · rw [if_neg h1, if_neg h2]
    · rfl
  unfold DoIs
  rw [hd]
  exact c_DoNo name l (by unfold lookV; rw [hi]; rfl) (by omega)
end Go.Proofs.YtcclfjddakonoaaGreatDoor.Sx
