/-
  What VfsTrees and VfsMany lay, plain.
-/
import Derived.Test.YtgmjkciinnjpbaaDoorV12
import Derived.Test.YtgmjkciinnjpbaaDoorV14
set_option linter.unusedVariables false
set_option linter.unusedSimpArgs false
set_option maxRecDepth 100000
namespace Go.Proofs.YtgmjkciinnjpbaaDoor.Sx
open Go Go.RowKit Go.Proofs

def digF : Nat → Nat → Str
  | 0, _ => []
  | f + 1, n => if n < 10 then [UInt8.ofNat (48 + n)] else digF f (n / 10) ++ [UInt8.ofNat (48 + n % 10)]
theorem digN_F : ∀ f n : Nat, n < 10 ^ (f + 1) → digN n = digF (f + 1) n
  | 0, n, h => by
    rw [digN, digF, if_pos (by simpa using h), if_pos (by simpa using h)]
  | f + 1, n, h => by
    rw [digN, digF]
    split
    · rfl
    · rw [digN_F f (n / 10) ?_]
      rw [Nat.pow_succ] at h
      omega
theorem dig4 {n : Nat} (h : n < 10000) : digN n = digF 4 n := digN_F 3 n h

/-! ### VfsTrees -/
def nsT (k : Nat) : List Str := (List.range k).map fun j => 100 :: digF 4 j
def stepN (L : List Fent) (e : List Str × Bool × Str) : List Fent :=
  if hasP L e.1 || (preOf e.1).any (isF L) then L else L ++ asDirs ((preOf e.1).filter (fun q => !hasP L q)) ++ [(e.1, e.2.1, if e.2.1 then [] else e.2.2)]
theorem stepL_N {ns : List Str} (h : okL ns) (h0 : ns ≠ []) (L : List Fent) (b : Bool) (t : Str) : stepL L (flatS ns, b, t) = stepN L (ns, b, t) := by
  have h1 : flatS ns ≠ [] := by
    cases ns with
    | nil => exact absurd rfl h0
    | cons x l => simp [flatS]
  unfold stepL stepN
  dsimp only
  rw [absL_flat ns h]
  by_cases hc : (hasP L ns || (preOf ns).any (isF L)) = true
  · rw [if_pos hc, if_pos (.inr (by simpa using hc))]
  · rw [if_neg hc, if_neg (by rintro (h2 | h2); exact h1 h2; exact hc (by simpa using h2))]
def okNb (x : Str) : Bool := !x.isEmpty && !x.contains 47 && x != [46] && x != [46, 46]
theorem okNb_ok {x : Str} (h : okNb x = true) : okN x := by
  unfold okNb at h
  simp only [Bool.and_eq_true, Bool.not_eq_true', bne_iff_ne] at h
  exact ⟨by rintro rfl; simp at h, by simpa using h.1.1.2, h.1.2, h.2⟩
def rootL : List Fent := [([], true, [])]
def LT (k : Nat) : List Fent := stepN rootL (nsT k, false, [120])
def treeChk (k : Nat) : Bool :=
  (nsT k).all okNb && (stepN (LT k) (nsT k ++ [[121]], false, [122]) == LT k) && hasP (LT k) (nsT k) &&
  (List.range k).all (fun i => kids (LT k) (nsT i) == [100 :: digF 4 i]) && (LT k).length == k + 1 && findE (LT k) (nsT k) == some (nsT k, false, [120]) &&
  findE (LT k) (nsT k ++ [[121]]) == none && kids (LT k) (nsT k) == []
theorem tree_all : (List.range 20).all (fun j => treeChk (j + 1)) = true := by kernel_rfl

def esT (k : Nat) (b : Bool) : List EntD := (flatS (nsT k), false, [120]) :: if b then [(flatS (nsT k) ++ [47, 121], false, [122]), (flatS (nsT k), false, [111, 116, 104, 101, 114]), (flatS (nsT k), true, [])] else []
structure TreeFacts (k : Nat) : Prop where
  ok : okL (nsT k)
  below : stepN (LT k) (nsT k ++ [[121]], false, [122]) = LT k
  has : hasP (LT k) (nsT k) = true
  kids : ∀ i < k, kids (LT k) (nsT i) = [100 :: digF 4 i]
  len : (LT k).length = k + 1
  find : findE (LT k) (nsT k) = some (nsT k, false, [120])
  no : findE (LT k) (nsT k ++ [[121]]) = none
  leaf : Sx.kids (LT k) (nsT k) = []
theorem treeFacts {k : Nat} (h1 : 1 ≤ k) (h2 : k ≤ 20) : TreeFacts k := by
  have h := List.all_eq_true.1 tree_all (k - 1) (by rw [List.mem_range]; omega)
  rw [show k - 1 + 1 = k by omega] at h
  simp only [treeChk, Bool.and_eq_true, beq_iff_eq, List.all_eq_true, List.mem_range] at h
  obtain ⟨⟨⟨⟨⟨⟨⟨a1, a2⟩, a3⟩, a4⟩, a5⟩, a6⟩, a7⟩, a8⟩ := h
  exact ⟨fun x hx => okNb_ok (a1 x hx), a2, a3, a4, a5, a6, a7, a8⟩
theorem nsT_ne {k : Nat} (h : 1 ≤ k) : nsT k ≠ [] := by
  intro h0
  have := congrArg List.length h0
  simp [nsT] at this
  omega
theorem nsT_succ (i : Nat) : nsT (i + 1) = nsT i ++ [100 :: digF 4 i] := by
  unfold nsT
  rw [List.range_succ, List.map_append]
  rfl
theorem okL_take {k i : Nat} (h : okL (nsT k)) (hi : i ≤ k) : okL (nsT i) := by
  intro x hx
  refine h x ?_
  unfold nsT at hx ⊢
  obtain ⟨j, hj, rfl⟩ := List.mem_map.1 hx
  rw [List.mem_range] at hj
  exact List.mem_map.2 ⟨j, by rw [List.mem_range]; omega, rfl⟩
theorem ok_y : okN ([121] : Str) := okNb_ok rfl
theorem okL_snoc {l : List Str} {x : Str} (h : okL l) (hx : okN x) : okL (l ++ [x]) := by
  intro z hz
  rcases List.mem_append.1 hz with hz | hz
  · exact h z hz
  · rw [List.mem_singleton.1 hz]; exact hx
theorem stepN_has {L : List Fent} {e : List Str × Bool × Str} (h : hasP L e.1 = true) : stepN L e = L := by
  unfold stepN
  rw [if_pos (by rw [h]; rfl)]
theorem trees_fs {k : Nat} (h1 : 1 ≤ k) (h2 : k ≤ 20) (b : Bool) : fsOf (esT k b) = LT k := by
  have F := treeFacts h1 h2
  have hy : flatS (nsT k) ++ [47, 121] = flatS (nsT k ++ [[121]]) := by rw [flatS_append]; rfl
  unfold fsOf
  rw [List.take_of_length_le (by unfold esT; cases b <;> simp)]
  unfold esT
  rw [List.foldl_cons, stepL_N F.ok (nsT_ne h1)]
  show List.foldl stepL (LT k) _ = _
  cases b with
  | false => rfl
  | true =>
    have s1 : stepL (LT k) (flatS (nsT k ++ [[121]]), false, [122]) = LT k := by rw [stepL_N (okL_snoc F.ok ok_y) (by simp), F.below]
    have s2 : ∀ (d : Bool) (t : Str), stepL (LT k) (flatS (nsT k), d, t) = LT k := fun d t => by rw [stepL_N F.ok (nsT_ne h1), stepN_has F.has]
    rw [if_pos rfl, List.foldl_cons, List.foldl_cons, List.foldl_cons, List.foldl_nil, hy, s1, s2, s2]
theorem flatS_ne {l : List Str} (h : l ≠ []) : flatS l ≠ [] := by
  cases l with
  | nil => exact absurd rfl h
  | cons x l => simp [flatS]
theorem trees_all {k : Nat} (h1 : 1 ≤ k) (h2 : k ≤ 20) : (allL (LT k)).length = k := by
  have F := treeFacts h1 h2
  unfold allL
  rw [(sortE_perm _).length_eq, List.length_map, List.length_tail, F.len]
  rfl
theorem sortS_one (x : Str) : sortS [x] = [x] := by simp [sortS]
theorem trees_list {k i : Nat} (h1 : 1 ≤ k) (h2 : k ≤ 20) (hi : i < k) : listL (LT k) (flatS (nsT i) ++ [47]) = [100 :: digF 4 i] := by
  have F := treeFacts h1 h2
  unfold listL
  rw [if_neg (by simp), absL_slash _ (okL_take F.ok (by omega)), F.kids i hi, sortS_one]
theorem trees_leaf {k : Nat} (h1 : 1 ≤ k) (h2 : k ≤ 20) : listL (LT k) (flatS (nsT k)) = [] := by
  have F := treeFacts h1 h2
  unfold listL
  rw [if_neg (flatS_ne (nsT_ne h1)), absL_flat _ F.ok, F.leaf]
  simp [sortS]
theorem trees_look {k : Nat} (h1 : 1 ≤ k) (h2 : k ≤ 20) : lookL (LT k) (flatS (nsT k)) = ((absT (nsT k), false, [120]), true) := by
  have F := treeFacts h1 h2
  unfold lookL
  rw [if_neg (flatS_ne (nsT_ne h1)), absL_flat _ F.ok, F.find]
  rfl
theorem trees_no {k : Nat} (h1 : 1 ≤ k) (h2 : k ≤ 20) : lookL (LT k) (flatS (nsT k) ++ [47, 121]) = (([], false, []), false) := by
  have F := treeFacts h1 h2
  have hy : flatS (nsT k) ++ [47, 121] = flatS (nsT k ++ [[121]]) := by rw [flatS_append]; rfl
  unfold lookL
  rw [hy, if_neg (flatS_ne (by simp)), absL_flat _ (okL_snoc F.ok ok_y), F.no]
theorem nsT_len : ∀ k : Nat, k ≤ 20 → (flatS (nsT k)).length ≤ 100 := by decide

/-! ### VfsMany -/
def nmM (i : Nat) : Str := 102 :: digF 4 (1000 + i)
def esM (k : Nat) : List EntD := (List.range k).map fun i => (nmM i, false, digF 4 i)
def LM (k : Nat) : List Fent := rootL ++ (List.range k).map fun i => ([nmM i], false, digF 4 i)
theorem many_ok : (List.range 300).all (fun i => okNb (nmM i)) = true := by kernel_rfl
theorem many_lt1 : (List.range 299).all (fun i => decide (nmM i < nmM (i + 1))) = true := by kernel_rfl
theorem nmM_ok {i : Nat} (h : i < 300) : okN (nmM i) := okNb_ok (List.all_eq_true.1 many_ok i (List.mem_range.2 h))
theorem nmM_lt {i j : Nat} (h : i < j) (hj : j < 300) : nmM i < nmM j := by
  induction j with
  | zero => omega
  | succ j ih =>
    have h1 : nmM j < nmM (j + 1) := by simpa using List.all_eq_true.1 many_lt1 j (List.mem_range.2 (by omega))
    by_cases h2 : i = j
    · rw [h2]; exact h1
    · exact List.lt_trans (ih (by omega) (by omega)) h1
theorem nmM_ne {i j : Nat} (h : i ≠ j) (hi : i < 300) (hj : j < 300) : nmM i ≠ nmM j := by
  intro e
  rcases Nat.lt_or_gt_of_ne h with h1 | h1
  · have := nmM_lt h1 hj
    rw [e] at this
    exact List.lt_irrefl _ this
  · have := nmM_lt h1 hi
    rw [e] at this
    exact List.lt_irrefl _ this
theorem absL_one {x : Str} (h : okN x) : absL x = [x] := by
  unfold absL
  rw [spS_one x [] h.2.1, List.nil_append, List.foldl_cons, stepA_ok h]
  rfl
theorem LM_succ (n : Nat) : LM (n + 1) = LM n ++ [([nmM n], false, digF 4 n)] := by
  unfold LM
  rw [List.range_succ, List.map_append, List.append_assoc]
  rfl
theorem many_fold : ∀ n : Nat, n ≤ 300 → (esM n).foldl stepL rootL = LM n
  | 0, _ => rfl
  | n + 1, h => by
    have e : esM (n + 1) = esM n ++ [(nmM n, false, digF 4 n)] := by
      unfold esM
      rw [List.range_succ, List.map_append]
      rfl
    have hno : hasP (LM n) [nmM n] = false := by
      rw [Bool.eq_false_iff]
      intro h1
      obtain ⟨x, hx, hq⟩ := hasP_iff.1 h1
      unfold LM at hx
      rcases List.mem_append.1 hx with hx | hx
      · rw [List.mem_singleton.1 hx] at hq
        cases hq
      · obtain ⟨j, hj, rfl⟩ := List.mem_map.1 hx
        rw [List.mem_range] at hj
        exact nmM_ne (i := j) (j := n) (by omega) (by omega) (by omega) (by simpa using hq)
    rw [e, List.foldl_append, many_fold n (by omega), LM_succ, List.foldl_cons, List.foldl_nil]
    have hok := nmM_ok (i := n) (by omega)
    unfold stepL
    dsimp only
    rw [absL_one hok, if_neg (by rw [hno]; rintro (h1 | h1 | h1); exact hok.1 h1; cases h1; cases h1), show preOf [nmM n] = [] by simp [preOf, allPre]]
    simp [asDirs]
theorem many_fs {k : Nat} (h : k ≤ 300) : fsOf (esM k) = LM (min k 200) := by
  unfold fsOf
  have e : (esM k).take 200 = esM (min k 200) := by
    unfold esM
    rw [← List.map_take, List.take_range, Nat.min_comm]
  rw [e]
  exact many_fold _ (by omega)
theorem many_kids (n : Nat) : kids (LM n) [] = (List.range n).map nmM := by
  induction n with
  | zero => rfl
  | succ n ih =>
    rw [LM_succ, kids_append, ih, List.range_succ, List.map_append]
    congr 1
theorem many_list {n : Nat} (h : n ≤ 300) : listL (LM n) [47] = (List.range n).map nmM := by
  unfold listL
  rw [if_neg (by decide), show absL [47] = [] by decide, many_kids]
  refine (sortS_unique (List.Perm.refl _) ?_).symm
  rw [List.pairwise_map]
  refine (List.pairwise_lt_range (n := n)).imp_of_mem fun {a b} ha hb hlt => ?_
  rw [decide_eq_true_eq]
  exact List.le_of_lt (nmM_lt hlt (by rw [List.mem_range] at hb; omega))
theorem many_look {k i : Nat} (h : k ≤ 300) (hi : i < min k 200) : lookL (LM (min k 200)) (nmM i) = ((absT [nmM i], false, digF 4 i), true) := by
  have hok := nmM_ok (i := i) (by omega)
  have hL : FsOk (LM (min k 200)) := by rw [← many_fs h]; exact fsOf_ok _
  unfold lookL
  rw [if_neg hok.1, absL_one hok]
  have := findE_mem hL (e := ([nmM i], false, digF 4 i)) (List.mem_append_right _ (List.mem_map.2 ⟨i, List.mem_range.2 hi, rfl⟩))
  rw [this]
  rfl
end Go.Proofs.YtgmjkciinnjpbaaDoor.Sx
