/-
  Sorting and dropping runs, told so that the kernel counts it; what a word finds, so.
  ref01.Same; wild.All.
  law07: awake.
-/
import Derived.Test.YtbnejfgdojdbdaaDoorW13
set_option linter.unusedVariables false
set_option linter.unusedSimpArgs false
set_option maxRecDepth 20000
set_option maxHeartbeats 4000000
namespace Go.Proofs.YtbnejfgdojdbdaaDoor.Sx
open Go Go.Proofs Go.RowKit

def insQ (x : Str) : List Str → List Str
  | [] => [x]
  | y :: l => if x ≤ y then x :: y :: l else y :: insQ x l
def isortQ : List Str → List Str
  | [] => []
  | x :: l => insQ x (isortQ l)
theorem insQ_perm (x : Str) : ∀ l : List Str, (insQ x l).Perm (x :: l)
  | [] => List.Perm.refl _
  | y :: l => by
    unfold insQ
    split
    · exact List.Perm.refl _
    · exact ((insQ_perm x l).cons y).trans (List.Perm.swap x y l)
theorem isortQ_perm : ∀ l : List Str, (isortQ l).Perm l
  | [] => List.Perm.refl _
  | x :: l => (insQ_perm x (isortQ l)).trans ((isortQ_perm l).cons x)
theorem insQ_sorted (x : Str) : ∀ l : List Str, l.Pairwise (fun a b => decide (a ≤ b) = true) → (insQ x l).Pairwise (fun a b => decide (a ≤ b) = true)
  | [], _ => by simp [insQ]
  | y :: l, h => by
    unfold insQ
    have h0 := h
    rw [List.pairwise_cons] at h
    split
    · rename_i hc
      refine List.pairwise_cons.2 ⟨fun z hz => ?_, h0⟩
      rcases List.mem_cons.1 hz with rfl | hz
      · exact decide_eq_true hc
      · exact decide_eq_true (List.le_trans hc (of_decide_eq_true (h.1 z hz)))
    · rename_i hc
      refine List.pairwise_cons.2 ⟨fun z hz => ?_, insQ_sorted x l h.2⟩
      rcases List.mem_cons.1 ((insQ_perm x l).mem_iff.1 hz) with rfl | hz
      · exact decide_eq_true ((List.le_total y z).resolve_right hc)
      · exact h.1 z hz
theorem isortQ_sorted : ∀ l : List Str, (isortQ l).Pairwise (fun a b => decide (a ≤ b) = true)
  | [] => List.Pairwise.nil
  | x :: l => insQ_sorted x _ (isortQ_sorted l)
theorem sortS_isort (l : List Str) : sortS l = isortQ l := (sortS_unique (isortQ_perm l) (isortQ_sorted l)).symm

def ddF : Option Str → List Str → List Str
  | _, [] => []
  | p, x :: l => if p = some x then ddF (some x) l else x :: ddF (some x) l
theorem ddF_snoc (x : Str) : ∀ (l : List Str) (p : Option Str), ddF p (l ++ [x]) = ddF p l ++ if (l.getLast?.or p) = some x then [] else [x]
  | [], p => by
    by_cases hp : p = some x
    · simp [ddF, hp]
    · simp [ddF, hp]
  | y :: l, p => by
    have ih := ddF_snoc x l (some y)
    have hl : (y :: l).getLast?.or p = l.getLast?.or (some y) := by
      cases l with
      | nil => rfl
      | cons z l => simp [List.getLast?_cons]
    rw [hl, List.cons_append]
    unfold ddF
    split
    · exact ih
    · rw [ih, List.cons_append]
theorem compactUpTo_dd (zs : List Str) : ∀ m : Nat, m ≤ zs.length → Lib.compactUpTo zs.toArray m = ddF none (zs.take m)
  | 0, _ => rfl
  | m + 1, h => by
    rw [Lib.compactUpTo_succ, compactUpTo_dd zs m (by omega), List.take_succ_eq_append_getElem (by omega), ddF_snoc, Option.or_none]
    congr 1
    have e1 : zs.toArray[m]! = zs[m] := by simp [getElem!_pos, show m < zs.length by omega]
    cases m with
    | zero => simp [Lib.keeps, e1]
    | succ m =>
      have e2 : zs.toArray[m]! = zs[m] := by simp [getElem!_pos, show m < zs.length by omega]
      have e3 : (zs.take (m + 1)).getLast? = some zs[m] := by
        rw [List.take_succ_eq_append_getElem (by omega), List.getLast?_append]
        rfl
      rw [e3]
      unfold Lib.keeps
      rw [Nat.add_sub_cancel, e1, e2]
      by_cases hc : zs[m] = zs[m + 1]
      · simp [hc]
      · simp [hc, Ne.symm hc]
theorem cmpS_dd (l : List Str) : cmpS l = ddF none l := by
  have := compactUpTo_dd l l.length (Nat.le_refl _)
  rw [List.take_length] at this
  exact this

/-! ### What a word finds, for the kernel -/
def listE (L : List Fent) (p : Str) : List Str := if p = [] then [] else isortQ (kids L (absL p))
theorem listL_E (L : List Fent) (p : Str) : listL L p = listE L p := by
  unfold listL listE
  rw [sortS_isort]
def walkE (L : List Fent) (dirs frm : Bool) : List Str → Str → List Str
  | [], pth => if (lookL L (pth ++ [47])).2 = false ∨ (dirs = true ∧ (lookL L (pth ++ [47])).1.2.1 = false) then [] else [endW dirs frm pth]
  | p :: r, pth =>
    if (lookL L (pth ++ [47])).2 = false ∨ (lookL L (pth ++ [47])).1.2.1 = false then []
    else if magF p then (listE L (pth ++ [47])).flatMap fun nm => if matchF p nm then walkE L dirs frm r (pth ++ [47] ++ nm) else []
    else walkE L dirs frm r (pth ++ [47] ++ plnF p)
theorem walkF_E (L : List Fent) (dirs frm : Bool) : ∀ (l : List Str) (pth : Str), walkF L dirs frm l pth = walkE L dirs frm l pth
  | [], pth => rfl
  | p :: r, pth => by
    unfold walkF walkE
    rw [walkF_E L dirs frm r (pth ++ [47] ++ plnF p), listL_E]
    congr 2
    congr 1
    funext nm
    rw [walkF_E L dirs frm r (pth ++ [47] ++ nm)]
def foundE (L : List Fent) (w : Str) : List Str := walkE L (([47] : Str).isSuffixOf w) (([47] : Str).isPrefixOf w) (partF w) []
def expE (L : List Fent) (w : Str) : List Str :=
  if partF w = [] then (if ([47] : Str).isPrefixOf w then [[47]] else [])
  else if (partF w).any magF then ddF none (isortQ (foundE L w))
  else if (lookL L (plainF (partF w))).2 then [w] else []
theorem foundF_E (L : List Fent) (w : Str) : foundF L w = foundE L w := walkF_E L _ _ _ _
theorem expF_E (L : List Fent) (w : Str) : expF L w = expE L w := by
  unfold expF expE
  rw [cmpS_dd, sortS_isort, foundF_E]

theorem take_same {α : Type} {a b : List α} {i : Nat} (hl : a.length = b.length) (hi : i < a.length) (h : a.take i = b.take i) (he : a[i] = b[i]'(by omega)) : a.take (i + 1) = b.take (i + 1) := by
  rw [List.take_succ_eq_append_getElem hi, List.take_succ_eq_append_getElem (by omega), h, he]
theorem c_Same (a b : List Str) (ha : a.length ≤ 1099511627) : CallV Tryd.prog 9 [vL .str a, vL .str b] (vB (decide (a = b))) := by
  refine CallV.of Tryd.func9 (by kernel_rfl) rfl Tryd.ntmps9 (by simp) rfl fun cx hB => ?_
  refine Tr.seq ?_; refine Tr.region ?_; refine TrL.quiets 1 rfl (by exact True.intro) ?_; refine TrL.nil ?_; refine Tr.seq ?_; refine Tr.seq ?_; refine Tr.region ?_; refine TrL.quiets 5 rfl (by exact True.intro) ?_; refine TrL.nil ?_
  refine Tr.cond rfl (fun c1 => ?_) (fun c1 => ?_)
  · have hl : a.length ≠ b.length := by
      have : (a.length : Int) ≠ b.length := by simpa using c1
      omega
    refine Tr.seq ?_; refine Tr.region ?_; refine TrL.quiets 1 rfl (by exact True.intro) ?_; refine TrL.nil ?_; refine Tr.ret ?_
    refine retQ.of rfl ?_
    rw [decide_eq_false (fun h => hl (by rw [h]))]
  have hl : a.length = b.length := by
    have : (a.length : Int) = b.length := by simpa using c1
    omega
  refine Tr.skip ?_; refine Tr.seq ?_; refine Tr.seq ?_; refine Tr.region ?_; refine TrL.quiets 1 rfl (by exact True.intro) ?_; refine TrL.nil ?_; refine Tr.block ?_
  refine Tr.loop (fun i : Nat => ⟨[(0, [], vL .str a), (1, [], vL .str b), (5, [], vI i)], []⟩) (fun i => i ≤ a.length ∧ a.take i = b.take i) (fun i => a.length - i) 0 [0, 1, 5] 0 (fun i h => hB i h) rfl ⟨Nat.zero_le _, rfl⟩ fun i hi => ?_
  obtain ⟨hi, hs⟩ := hi
  refine Tr.seq ?_; refine Tr.seq ?_; refine Tr.region ?_; refine TrL.quiets 4 rfl (by exact True.intro) ?_; refine TrL.nil ?_
  refine Tr.cond rfl (fun c2 => ?_) (fun c2 => ?_)
  · have hi1 : i < a.length := by simpa using c2
    have n1 : nth (t := .str) a (i : Int) = a[i] := nth_get' (t := .str) _ _ hi1
    have n2 : nth (t := .str) b (i : Int) = b[i] := nth_get' (t := .str) _ _ (by omega)
    refine Tr.skip ?_; refine Tr.seq ?_; refine Tr.block ?_; refine Tr.seq ?_; refine Tr.draw (by kernel_rfl) (by kernel_rfl) ?_; refine TrD.quiets 9 rfl (by (simp only [allOf, impO, imp, inR, loOk, and_true]; omega)) ?_; refine TrD.nil ?_
    refine Tr.cond rfl (fun c3 => ?_) (fun c3 => ?_)
    · rw [n1, n2] at c3
      refine Tr.seq ?_; refine Tr.region ?_; refine TrL.quiets 1 rfl (by exact True.intro) ?_; refine TrL.nil ?_; refine Tr.ret ?_
      refine retQ.of rfl ?_
      rw [decide_eq_false]
      rintro rfl
      simp at c3
    · rw [n1, n2] at c3
      have he : a[i] = b[i]'(by omega) := by simpa using c3
      refine Tr.skip ?_; refine Tr.region ?_; refine TrL.quiets 3 rfl (by exact True.intro) ?_; refine TrL.nil ?_
      refine ⟨i + 1, ⟨hi1, take_same hl hi1 hs he⟩, by dsimp only; omega, ?_⟩
      refine Eq.trans (b := (⟨[(0, [], vL .str a), (1, [], vL .str b), (5, [], vI (IntKind.i64.wrap ((i : Int) + 1)))], []⟩ : St)) rfl ?_
      dsimp only
      rw [w64n (y := i + 1) (by omega) (by omega)]
  · have hi1 : i = a.length := by
      have : ¬ (i : Int) < a.length := by simpa using c2
      omega
    subst hi1
    rw [List.take_length, hl, List.take_length] at hs
    refine Tr.exit ?_; refine Tr.seq ?_; refine Tr.region ?_; refine TrL.quiets 1 rfl (by exact True.intro) ?_; refine TrL.nil ?_; refine Tr.ret ?_
    refine retQ.of rfl ?_
    rw [decide_eq_true hs]
theorem c_All {L : List Fent} (h : FsOk L) (hL : FsLim L) (ws : List Str) (hwl : ws.length ≤ 1099511627) (hw : ∀ w ∈ ws, w.length ≤ 1000) (hn : ∀ w ∈ ws, (foundF L w).length ≤ 1099511627776) (hs : (ws.flatMap (expF L)).length ≤ 1099511627776) :
    CallT Tryd.prog 29 [.ptr 0 0, vL .str ws] (lT L) (vL .str (ws.flatMap (expF L))) (lT L) := by
  refine CallT.of Tryd.func29 (by kernel_rfl) rfl Tryd.ntmps29 (by simp) (by simp) fun cx hB => ?_
  have hB4 : ∀ i, cx.B i = true → i < 4 := fun i h => Nat.lt_of_lt_of_le (hB i h) (show 3 ≤ 4 by decide)
  refine Tr.seq ?_; refine Tr.region ?_; refine TrL.quiets 1 rfl (by exact True.intro) ?_; refine TrL.nil ?_; refine Tr.seq ?_; refine Tr.region ?_; refine TrL.quiets 1 rfl (by exact True.intro) ?_; refine TrL.nil ?_; refine Tr.seq ?_; refine Tr.seq ?_; refine Tr.region ?_; refine TrL.quiets 3 rfl (by exact True.intro) ?_; refine TrL.nil ?_; refine Tr.block ?_
  refine Tr.nilRow 5 9 .str rfl ?_
  refine Tr.loop (fun i : Nat => ⟨[(0, [], .ptr 0 0), (5, [], .own 3), (8, [], vL .str ws), (9, [], vI ws.length), (10, [], vI i)], lT L ++ [.gs 9 .str ((ws.take i).flatMap (expF L))]⟩) (fun i => i ≤ ws.length) (fun i => ws.length - i) 0 [0, 5, 8, 9, 10] 4 hB4 rfl (Nat.zero_le _) fun i hi => ?_
  refine Tr.seq ?_; refine Tr.region ?_; refine TrL.quiets 1 rfl (by exact True.intro) ?_; refine TrL.nil ?_; refine Tr.seq ?_
  refine Tr.cond rfl (fun c1 => ?_) (fun c1 => ?_)
  · have hi1 : i < ws.length := by simpa using c1
    have hmem : ws[i] ∈ ws := List.getElem_mem hi1
    have hnth : nth (t := .str) ws (i : Int) = ws[i] := nth_get' (t := .str) _ _ hi1
    have hsum : (ws.take (i + 1)).flatMap (expF L) = (ws.take i).flatMap (expF L) ++ expF L ws[i] := by
      rw [List.take_succ_eq_append_getElem hi1, List.flatMap_append, List.flatMap_singleton]
    have hle := flatMap_take_le (expF L) ws (i + 1)
    rw [hsum, List.length_append] at hle
    refine Tr.skip ?_; refine Tr.seq ?_; refine Tr.block ?_; refine Tr.seq ?_; refine Tr.region ?_; refine TrL.quiets 3 rfl (by (simp only [allOf, impO, imp, inR, loOk, and_true]; omega)) ?_; refine TrL.nil ?_
    change Tr _ _ _ _ _ _
    refine Tr.is 7 (sv' := vS ws[i]) rfl (congrArg vS hnth) ?_
    refine Tr.region ?_; refine TrL.quiets 3 rfl (by exact True.intro) ?_
    refine TrL.callT [0, 1, 2] rfl rfl rfl rfl rfl (c_Expand h hL ws[i] (hw _ hmem) (hn _ hmem)) rfl rfl rfl ?_
    refine TrL.eff (effAppend_sound rfl) ?_ ?_
    · show ((ws.take i).flatMap (expF L)).length + (expF L ws[i]).length ≤ 1099511627776
      omega
    refine TrL.quiets 1 rfl (by exact True.intro) ?_; refine TrL.nil ?_; refine Tr.region ?_; refine TrL.quiets 2 rfl (by exact True.intro) ?_; refine TrL.nil ?_
    refine ⟨i + 1, hi1, by dsimp only; omega, ?_⟩
    refine Eq.trans (b := (⟨[(0, [], .ptr 0 0), (5, [], .own 3), (8, [], vL .str ws), (9, [], vI ws.length), (10, [], vI (IntKind.i64.wrap ((i : Int) + 1)))], lT L ++ [.gs 9 .str ((ws.take i).flatMap (expF L) ++ expF L ws[i])]⟩ : St)) rfl ?_
    dsimp only
    rw [hsum, w64n (y := i + 1) (by omega) (by omega)]
  · have hi1 : i = ws.length := by
      have : ¬ (i : Int) < ws.length := by simpa using c1
      omega
    subst hi1
    rw [List.take_length]
    refine Tr.exit ?_; refine Tr.seq ?_; refine Tr.region ?_; refine TrL.quiets 2 rfl (by exact True.intro) ?_; refine TrL.nil ?_; refine Tr.ret ?_
    refine retT.of rfl ?_ ?_
    · rfl
    · rfl

def aw7 : List EntD := [([97, 46, 99], false, []), ([98, 46, 104], false, []), ([100, 47, 101, 46, 99], false, [])]
def aw7L : List Fent := [([], true, []), ([[97, 46, 99]], false, []), ([[98, 46, 104]], false, []), ([[100]], true, []), ([[100], [101, 46, 99]], false, [])]
theorem aw7_is : fsOf aw7 = aw7L := by kernel_rfl
theorem aw7_ok : FsOk aw7L := by rw [← aw7_is]; exact fsOf_ok _
theorem aw7_lim : FsLim aw7L := by rw [← aw7_is]; exact fsOf_lim (by simp [aw7])
def a7a : Str := [42, 46, 99]
def a7b : Str := [47, 42, 47, 101, 46, 99]
theorem aw7_a : expF aw7L a7a = [[97, 46, 99]] := by rw [expF_E]; kernel_rfl
theorem aw7_b : expF aw7L a7b = [[47, 100, 47, 101, 46, 99]] := by rw [expF_E]; kernel_rfl
theorem aw7_c : expF aw7L [120] = [] := by rw [expF_E]; kernel_rfl
theorem aw7_d : ([[97, 46, 99], [42]] : List Str).flatMap (expF aw7L) = [[97, 46, 99], [97, 46, 99], [98, 46, 104], [100]] := by
  have h : ([[97, 46, 99], [42]] : List Str).flatMap (expE aw7L) = [[97, 46, 99], [97, 46, 99], [98, 46, 104], [100]] := by kernel_rfl
  rw [← h]
  exact congrArg (fun f => ([[97, 46, 99], [42]] : List Str).flatMap f) (funext fun w => expF_E aw7L w)
theorem aw7_n : ∀ w ∈ [a7a, a7b, [120], [97, 46, 99], [42]], (foundF aw7L w).length ≤ 1099511627776 := by
  have e : foundF aw7L = foundE aw7L := funext fun w => foundF_E aw7L w
  rw [e]
  have h : ([a7a, a7b, [120], [97, 46, 99], [42]].all fun w => decide ((foundE aw7L w).length ≤ 100)) = true := by kernel_rfl
  rw [List.all_eq_true] at h
  intro w hw
  have := of_decide_eq_true (h w hw)
  omega
theorem c_awake7 : CallV Tryd.prog 10 [] (vB true) := by
  refine CallV.of Tryd.func10 (by kernel_rfl) rfl Tryd.ntmps10 (by simp) rfl fun cx hB => ?_
  have hB3 : ∀ i, cx.B i = true → i < 3 := fun i h => by have := hB i h; omega
  refine Tr.seq ?_; refine Tr.region ?_; refine TrL.quiets 1 rfl (by exact True.intro) ?_; refine TrL.nil ?_; refine Tr.seq ?_; refine Tr.region ?_; refine TrL.quiets 3 rfl (by exact True.intro) ?_; refine TrL.eff (effLit_sound rfl) (by exact True.intro) ?_
  refine TrL.weak 5 rfl (fix_weak eTy aw7) ?_
  refine TrL.callT [] rfl rfl rfl rfl rfl (c_NewL aw7 (by decide) (by simp [aw7])) rfl rfl rfl ?_
  rw [aw7_is]
  refine TrL.quiets 1 rfl (by exact True.intro) ?_; refine TrL.nil ?_; refine Tr.seq ?_; refine Tr.region ?_; refine TrL.quiets 1 rfl (by exact True.intro) ?_
  refine TrL.callT [2, 0, 1] rfl rfl rfl rfl rfl (c_Expand aw7_ok aw7_lim a7a (by decide) (aw7_n _ (by simp))) rfl rfl rfl ?_
  rw [aw7_a]
  refine TrL.eff (effLit_sound rfl) (by exact True.intro) ?_
  refine TrL.weak 9 rfl (fix_weak .str [[97, 46, 99]]) ?_
  first | refine TrL.callV rfl rfl rfl rfl rfl (c_Same [[97, 46, 99]] [[97, 46, 99]] (by decide)) ?_ | refine TrD.callV rfl rfl rfl rfl rfl (c_Same [[97, 46, 99]] [[97, 46, 99]] (by decide)) rfl ?_
  refine TrL.keep [1, 10] 3 hB3 (st' := ⟨[(1, [], .ptr 2 0), (10, [], vB true)], nfT (dirsOf aw7L) (filesOf aw7L)⟩) rfl ?_
  refine TrL.quiets 2 rfl (by exact True.intro) ?_
  refine TrL.known 12 rfl rfl ?_
  refine TrL.want rfl rfl rfl ?_
  refine TrL.callT [2, 0, 1] rfl rfl rfl rfl rfl (c_Expand aw7_ok aw7_lim a7b (by decide) (aw7_n _ (by simp))) rfl rfl rfl ?_
  rw [aw7_b]
  refine TrL.want rfl rfl rfl ?_
  refine TrL.eff (effLit_sound rfl) (by exact True.intro) ?_
  refine TrL.weak 14 rfl (fix_weak .str [[47, 100, 47, 101, 46, 99]]) ?_
  refine TrL.want rfl rfl rfl ?_
  first | refine TrL.callV rfl rfl rfl rfl rfl (c_Same [[47, 100, 47, 101, 46, 99]] [[47, 100, 47, 101, 46, 99]] (by decide)) ?_ | refine TrD.callV rfl rfl rfl rfl rfl (c_Same [[47, 100, 47, 101, 46, 99]] [[47, 100, 47, 101, 46, 99]] (by decide)) rfl ?_
  refine TrL.keep [1, 11, 15] 3 hB3 (st' := ⟨[(1, [], .ptr 2 0), (11, [], vB true), (15, [], vB true)], nfT (dirsOf aw7L) (filesOf aw7L)⟩) rfl ?_
  refine TrL.quiets 3 rfl (by exact True.intro) ?_
  refine TrL.known 18 rfl rfl ?_
  refine TrL.keep [1, 17, 18] 3 hB3 (st' := ⟨[(1, [], .ptr 2 0), (17, [], vB true), (18, [], .ptr 2 0)], nfT (dirsOf aw7L) (filesOf aw7L)⟩) rfl ?_
  refine TrL.want rfl rfl rfl ?_
  refine TrL.callT [2, 0, 1] rfl rfl rfl rfl rfl (c_Expand aw7_ok aw7_lim [120] (by decide) (aw7_n _ (by simp))) rfl rfl rfl ?_
  rw [aw7_c]
  refine TrL.keep [1, 17, 19] 3 hB3 (st' := ⟨[(1, [], .ptr 2 0), (17, [], vB true), (19, [], vL .str [])], nfT (dirsOf aw7L) (filesOf aw7L)⟩) rfl ?_
  refine TrL.quiets 5 rfl (by exact True.intro) ?_
  refine TrL.known 24 rfl rfl ?_
  refine TrL.keep [1, 23, 24] 3 hB3 (st' := ⟨[(1, [], .ptr 2 0), (23, [], vB true), (24, [], .ptr 2 0)], nfT (dirsOf aw7L) (filesOf aw7L)⟩) rfl ?_
  refine TrL.want rfl rfl rfl ?_
  refine TrL.eff (effLit_sound rfl) (by exact True.intro) ?_
  refine TrL.weak 25 rfl (fix_weak .str [[97, 46, 99], [42]]) ?_
  refine TrL.want rfl rfl rfl ?_
  refine TrL.callT [2, 0, 1] rfl rfl rfl rfl rfl (c_All aw7_ok aw7_lim [[97, 46, 99], [42]] (by decide) (by decide) (fun w hw => aw7_n w (by simp only [List.mem_cons, List.not_mem_nil, or_false] at hw ⊢; exact .inr (.inr (.inr hw)))) (by rw [aw7_d]; decide)) rfl rfl rfl ?_
  rw [aw7_d]
  refine TrL.keep [1, 23, 26] 3 hB3 (st' := ⟨[(1, [], .ptr 2 0), (23, [], vB true), (26, [], vL .str [[97, 46, 99], [97, 46, 99], [98, 46, 104], [100]])], nfT (dirsOf aw7L) (filesOf aw7L)⟩) rfl ?_
  refine TrL.quiets 4 rfl (by exact True.intro) ?_; refine TrL.nil ?_; refine Tr.ret ?_
  refine retQ.of rfl ?_
  rfl
end Go.Proofs.YtbnejfgdojdbdaaDoor.Sx
