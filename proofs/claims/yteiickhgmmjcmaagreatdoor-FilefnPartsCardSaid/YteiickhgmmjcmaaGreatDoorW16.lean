/-
  Sorting and dropping runs, told so that the kernel counts it; what a word finds, so.
  ref01.Same; wild.All.
  law07: awake.
-/



import Derived.Test.YteiickhgmmjcmaaGreatDoorW13
set_option linter.unusedVariables false
set_option linter.unusedSimpArgs false
set_option maxRecDepth 20000
set_option maxHeartbeats 4000000
namespace Go.Proofs.YteiickhgmmjcmaaGreatDoor.Sx
open Go Go.Proofs Go.RowKit

def insQ (x : Str) : List Str → List Str
  | [] => [x]
  | y :: l => if x ≤ y then x :: y :: l else y :: insQ x l
def isortQ : List Str → List Str
  | [] => []
  | x :: l => insQ x (isortQ l)
theorem insQ_perm (x : Str) : ∀ l : List Str, (insQ x l).Perm (x :: l)
  | [] => List.Perm.refl _
  | y :: l => by
    unfold insQ
    split
    · exact List.Perm.refl _
    · exact ((insQ_perm x l).cons y).trans (List.Perm.swap x y l)
theorem isortQ_perm : ∀ l : List Str, (isortQ l).Perm l
  | [] => List.Perm.refl _
  | x :: l => (insQ_perm x (isortQ l)).trans ((isortQ_perm l).cons x)
theorem insQ_sorted (x : Str) : ∀ l : List Str, l.Pairwise (fun a b => decide (a ≤ b) = true) → (insQ x l).Pairwise (fun a b => decide (a ≤ b) = true)
  | [], _ => by simp [insQ]
  | y :: l, h => by
    unfold insQ
    have h0 := h
    rw [List.pairwise_cons] at h
    split
    · rename_i hc
      refine List.pairwise_cons.2 ⟨fun z hz => ?_, h0⟩
      rcases List.mem_cons.1 hz with rfl | hz
      · exact decide_eq_true hc
      · exact decide_eq_true (List.le_trans hc (of_decide_eq_true (h.1 z hz)))
    · rename_i hc
      refine List.pairwise_cons.2 ⟨fun z hz => ?_, insQ_sorted x l h.2⟩
      rcases List.mem_cons.1 ((insQ_perm x l).mem_iff.1 hz) with rfl | hz
      · exact decide_eq_true ((List.le_total y z).resolve_right hc)
      · exact h.1 z hz
theorem isortQ_sorted : ∀ l : List Str, (isortQ l).Pairwise (fun a b => decide (a ≤ b) = true)
  | [] => List.Pairwise.nil
  | x :: l => insQ_sorted x _ (isortQ_sorted l)
theorem sortS_isort (l : List Str) : sortS l = isortQ l := (sortS_unique (isortQ_perm l) (isortQ_sorted l)).symm

def ddF : Option Str → List Str → List Str
  | _, [] => []
  | p, x :: l => if p = some x then ddF (some x) l else x :: ddF (some x) l
theorem ddF_snoc (x : Str) : ∀ (l : List Str) (p : Option Str), ddF p (l ++ [x]) = ddF p l ++ if (l.getLast?.or p) = some x then [] else [x]
  | [], p => by
    by_cases hp : p = some x
    · simp [ddF, hp]
    · simp [ddF, hp]
  | y :: l, p => by
    have ih := ddF_snoc x l (some y)
    have hl : (y :: l).getLast?.or p = l.getLast?.or (some y) := by
      cases l with
      | nil => rfl
      | cons z l => simp [List.getLast?_cons]
    rw [hl, List.cons_append]
    unfold ddF
    split
    · exact ih
    · rw [ih, List.cons_append]
theorem compactUpTo_dd (zs : List Str) : ∀ m : Nat, m ≤ zs.length → Lib.compactUpTo zs.toArray m = ddF none (zs.take m)
  | 0, _ => rfl
  | m + 1, h => by
    rw [Lib.compactUpTo_succ, compactUpTo_dd zs m (by omega), List.take_succ_eq_append_getElem (by omega), ddF_snoc, Option.or_none]
    congr 1
    have e1 : zs.toArray[m]! = zs[m] := by simp [getElem!_pos, show m < zs.length by omega]
    cases m with
    | zero => simp [Lib.keeps, e1]
    | succ m =>
      have e2 : zs.toArray[m]! = zs[m] := by simp [getElem!_pos, show m < zs.length by omega]
      have e3 : (zs.take (m + 1)).getLast? = some zs[m] := by
        rw [List.take_succ_eq_append_getElem (by omega), List.getLast?_append]
        rfl
      rw [e3]
      unfold Lib.keeps
      rw [Nat.add_sub_cancel, e1, e2]
      by_cases hc : zs[m] = zs[m + 1]
      · simp [hc]
      · simp [hc, Ne.symm hc]
theorem cmpS_dd (l : List Str) : cmpS l = ddF none l := by
  have := compactUpTo_dd l l.length (Nat.le_refl _)
  rw [List.take_length] at this
  exact this

/-! ### What a word finds, for the kernel -/
def listE (L : List Fent) (p : Str) : List Str := if p = [] then [] else isortQ (kids L (absL p))
theorem listL_E (L : List Fent) (p : Str) : listL L p = listE L p := by
  unfold listL listE
  rw [sortS_isort]
def walkE (L : List Fent) (dirs frm : Bool) : List Str → Str → List Str
  | [], pth => if (lookL L (pth ++ [47])).2 = false ∨ (dirs = true ∧ (lookL L (pth ++ [47])).1.2.1 = false) then [] else [endW dirs frm pth]
  | p :: r, pth =>
    if (lookL L (pth ++ [47])).2 = false ∨ (lookL L (pth ++ [47])).1.2.1 = false then []
    else if magF p then (listE L (pth ++ [47])).flatMap fun nm => if matchF p nm then walkE L dirs frm r (pth ++ [47] ++ nm) else []
    else walkE L dirs frm r (pth ++ [47] ++ plnF p)
theorem walkF_E (L : List Fent) (dirs frm : Bool) : ∀ (l : List Str) (pth : Str), walkF L dirs frm l pth = walkE L dirs frm l pth
  | [], pth => rfl
  | p :: r, pth => by
    unfold walkF walkE
    rw [walkF_E L dirs frm r (pth ++ [47] ++ plnF p), listL_E]
    congr 2
    congr 1
    funext nm
    rw [walkF_E L dirs frm r (pth ++ [47] ++ nm)]
def foundE (L : List Fent) (w : Str) : List Str := walkE L (([47] : Str).isSuffixOf w) (([47] : Str).isPrefixOf w) (partF w) []
def expE (L : List Fent) (w : Str) : List Str :=
  if partF w = [] then (if ([47] : Str).isPrefixOf w then [[47]] else [])
  else if (partF w).any magF then ddF none (isortQ (foundE L w))
  else if (lookL L (plainF (partF w))).2 then [w] else []
theorem foundF_E (L : List Fent) (w : Str) : foundF L w = foundE L w := walkF_E L _ _ _ _
theorem expF_E (L : List Fent) (w : Str) : expF L w = expE L w := by
  unfold expF expE
  rw [cmpS_dd, sortS_isort, foundF_E]










































def aw7 : List EntD := [([97, 46, 99], false, []), ([98, 46, 104], false, []), ([100, 47, 101, 46, 99], false, [])]
def aw7L : List Fent := [([], true, []), ([[97, 46, 99]], false, []), ([[98, 46, 104]], false, []), ([[100]], true, []), ([[100], [101, 46, 99]], false, [])]
theorem aw7_is : fsOf aw7 = aw7L := by kernel_rfl
theorem aw7_ok : FsOk aw7L := by rw [← aw7_is]; exact fsOf_ok _
theorem aw7_lim : FsLim aw7L := by rw [← aw7_is]; exact fsOf_lim (by simp [aw7])
def a7a : Str := [42, 46, 99]
def a7b : Str := [47, 42, 47, 101, 46, 99]
theorem aw7_a : expF aw7L a7a = [[97, 46, 99]] := by rw [expF_E]; kernel_rfl
theorem aw7_b : expF aw7L a7b = [[47, 100, 47, 101, 46, 99]] := by rw [expF_E]; kernel_rfl
theorem aw7_c : expF aw7L [120] = [] := by rw [expF_E]; kernel_rfl
theorem aw7_d : ([[97, 46, 99], [42]] : List Str).flatMap (expF aw7L) = [[97, 46, 99], [97, 46, 99], [98, 46, 104], [100]] := by
  have h : ([[97, 46, 99], [42]] : List Str).flatMap (expE aw7L) = [[97, 46, 99], [97, 46, 99], [98, 46, 104], [100]] := by kernel_rfl
  rw [← h]
  exact congrArg (fun f => ([[97, 46, 99], [42]] : List Str).flatMap f) (funext fun w => expF_E aw7L w)
theorem aw7_n : ∀ w ∈ [a7a, a7b, [120], [97, 46, 99], [42]], (foundF aw7L w).length ≤ 1099511627776 := by
  have e : foundF aw7L = foundE aw7L := funext fun w => foundF_E aw7L w
  rw [e]
  have h : ([a7a, a7b, [120], [97, 46, 99], [42]].all fun w => decide ((foundE aw7L w).length ≤ 100)) = true := by kernel_rfl
  rw [List.all_eq_true] at h
  intro w hw
  have := of_decide_eq_true (h w hw)
  omega















































end Go.Proofs.YteiickhgmmjcmaaGreatDoor.Sx
