/-
  Look, List, All, plain.
-/
import Derived.Test.YtbnejfgdojdbdaaDoorV6
import Derived.Test.YtbnejfgdojdbdaaDoorV8
set_option linter.unusedVariables false
set_option linter.unusedSimpArgs false
namespace Go.Proofs.YtbnejfgdojdbdaaDoor.Sx
open Go Go.RowKit Go.Proofs

/-! ### Sorted lists -/
theorem leS_trans (a b c : Str) (h1 : decide (a ≤ b) = true) (h2 : decide (b ≤ c) = true) : decide (a ≤ c) = true := by
  rw [decide_eq_true_eq] at *
  exact List.le_trans h1 h2
theorem leS_total (a b : Str) : (decide (a ≤ b) || decide (b ≤ a)) = true := by
  rw [Bool.or_eq_true, decide_eq_true_eq, decide_eq_true_eq]
  exact List.le_total a b
theorem sortS_perm (l : List Str) : (sortS l).Perm l := List.mergeSort_perm l _
theorem sortS_sorted (l : List Str) : (sortS l).Pairwise (fun a b => decide (a ≤ b) = true) := List.pairwise_mergeSort leS_trans leS_total l
theorem sortS_unique {l m : List Str} (h : m.Perm l) (hs : m.Pairwise (fun a b => decide (a ≤ b) = true)) : m = sortS l :=
  List.Perm.eq_of_pairwise (le := fun a b => decide (a ≤ b) = true) (fun a b _ _ h1 h2 => List.le_antisymm (by simpa using h1) (by simpa using h2)) hs (sortS_sorted l) (h.trans (sortS_perm l).symm)
theorem sortS_of_perm {l m : List Str} (h : l.Perm m) : sortS l = sortS m := sortS_unique ((sortS_perm l).trans h) (sortS_sorted l)
abbrev sortE (l : List EntD) : List EntD := l.mergeSort fun a b => decide (a.1 ≤ b.1)
theorem sortE_perm (l : List EntD) : (sortE l).Perm l := List.mergeSort_perm l _
theorem sortE_sorted (l : List EntD) : (sortE l).Pairwise (fun a b => decide (a.1 ≤ b.1) = true) := List.pairwise_mergeSort (fun a b c => leS_trans a.1 b.1 c.1) (fun a b => leS_total a.1 b.1) l
theorem key_eq : ∀ {l : List EntD}, (l.map (·.1)).Nodup → ∀ a b, a ∈ l → b ∈ l → a.1 = b.1 → a = b
  | [], _, a, b, ha, _, _ => by cases ha
  | x :: l, h, a, b, ha, hb, e => by
    rw [List.map_cons, List.nodup_cons] at h
    rcases List.mem_cons.1 ha with h1 | h1 <;> rcases List.mem_cons.1 hb with h2 | h2
    · rw [h1, h2]
    · exact (h.1 (List.mem_map.2 ⟨b, h2, by rw [← e, h1]⟩)).elim
    · exact (h.1 (List.mem_map.2 ⟨a, h1, by rw [e, h2]⟩)).elim
    · exact key_eq h.2 a b h1 h2 e
theorem sortE_unique {l m : List EntD} (hn : (l.map (·.1)).Nodup) (h : m.Perm l) (hs : m.Pairwise (fun a b => decide (a.1 ≤ b.1) = true)) : m = sortE l :=
  List.Perm.eq_of_pairwise (le := fun a b => decide (a.1 ≤ b.1) = true) (fun a b ha hb h1 h2 => key_eq hn a b (h.mem_iff.1 ha) ((sortE_perm l).mem_iff.1 hb) (List.le_antisymm (by simpa using h1) (by simpa using h2))) hs (sortE_sorted l) (h.trans (sortE_perm l).symm)

/-! ### Look -/
def entOf (e : Fent) : EntD := (absT e.1, e.2.1, e.2.2)
def lookF (D : Dirs) (F : List (Str × Str)) (p : Str) : EntD × Bool :=
  if absP p = [] ∨ (dIdx D (absP p)).isSome = false ∧ (fGet F (absP p)).isSome = false then (([], false, []), false) else ((absP p, (dIdx D (absP p)).isSome, (fGet F (absP p)).getD []), true)
def findE (L : List Fent) (q : List Str) : Option Fent := L.find? (fun e => e.1 == q)
def lookL (L : List Fent) (p : Str) : EntD × Bool := if p = [] then (([], false, []), false) else match findE L (absL p) with | some e => (entOf e, true) | none => (([], false, []), false)
theorem fGet_mem : ∀ (F : List (Str × Str)) (k v : Str), (F.map (·.1)).Nodup → (k, v) ∈ F → fGet F k = some v
  | (k', v') :: F, k, v, hn, h => by
    rw [List.map_cons, List.nodup_cons] at hn
    rw [fGet]
    rcases List.mem_cons.1 h with h | h
    · obtain ⟨rfl, rfl⟩ := Prod.mk.inj h
      rw [if_pos rfl]
    · rw [if_neg (fun e => hn.1 (List.mem_map.2 ⟨_, h, e⟩)), fGet_mem F k v hn.2 h]
theorem paths_nodup {L : List Fent} (h : FsOk L) : (L.map fun e => absT e.1).Nodup := by
  have h1 := h.nodup
  have h2 := h.ok
  clear h
  induction L with
  | nil => simp
  | cons a L ih =>
    rw [List.map_cons, List.nodup_cons] at h1 ⊢
    refine ⟨fun hm => ?_, ih h1.2 (fun e he => h2 e (by simp [he]))⟩
    obtain ⟨b, hb, hab⟩ := List.mem_map.1 hm
    exact h1.1 (List.mem_map.2 ⟨b, hb, absT_inj (h2 b (by simp [hb])) (h2 a (by simp)) hab⟩)
theorem files_nodup {L : List Fent} (h : FsOk L) : ((filesOf L).map (·.1)).Nodup := by
  unfold filesOf
  rw [List.map_map]
  exact (paths_nodup h).sublist (List.filter_sublist.map _)
theorem findE_some {L : List Fent} {q : List Str} {e : Fent} (h : findE L q = some e) : e ∈ L ∧ e.1 = q :=
  ⟨List.mem_of_find?_eq_some h, by simpa using List.find?_some h⟩
theorem findE_mem {L : List Fent} (h : FsOk L) {e : Fent} (he : e ∈ L) : findE L e.1 = some e := by
  cases hf : findE L e.1 with
  | none =>
    have := List.find?_eq_none.1 hf e he
    simp at this
  | some e' =>
    obtain ⟨h1, h2⟩ := findE_some hf
    rw [nodup_eq h.nodup h1 he h2]
theorem findE_none {L : List Fent} {q : List Str} (h : findE L q = none) : hasP L q = false := by
  rw [Bool.eq_false_iff]
  intro h1
  obtain ⟨e, he, hq⟩ := hasP_iff.1 h1
  have := List.find?_eq_none.1 h e he
  simp [hq] at this
theorem lookF_L {L : List Fent} (h : FsOk L) (p : Str) : lookF (dirsOf L) (filesOf L) p = lookL L p := by
  unfold lookF lookL
  by_cases hp : p = []
  · subst hp
    rw [if_pos rfl, if_pos (.inl rfl)]
  have hap : absP p = absT (absL p) := by unfold absP; rw [if_neg hp]
  have hok := absL_ok p
  rw [if_neg hp, hap, dirs_has h hok, files_has h hok]
  cases hf : findE L (absL p) with
  | none =>
    have hn := findE_none hf
    have h1 : isD L (absL p) = false := by rw [Bool.eq_false_iff]; intro h1; rw [isD_has h1] at hn; cases hn
    have h2 : isF L (absL p) = false := by rw [Bool.eq_false_iff]; intro h1; rw [isF_has h1] at hn; cases hn
    rw [if_pos (.inr ⟨h1, h2⟩)]
  | some e =>
    obtain ⟨h1, h2⟩ := findE_some hf
    rw [← h2]
    unfold entOf
    cases hd : e.2.1 with
    | true =>
      have h3 : isD L e.1 = true := isD_iff.2 ⟨e, h1, rfl, hd⟩
      have h4 : isF L e.1 = false := by
        rw [Bool.eq_false_iff]; intro h4; rw [h.fd h4] at h3; cases h3
      have h5 : fGet (filesOf L) (absT e.1) = none := by
        rw [← Option.not_isSome_iff_eq_none, files_has h (h.ok e h1), h4]; decide
      rw [if_neg (by rw [h3]; rintro (h6 | h6); exact absT_ne _ h6; exact absurd h6.1 (by decide)), h3, h5]
      simp [hd, h.text e h1 hd]
    | false =>
      have h4 : isF L e.1 = true := isF_iff.2 ⟨e, h1, rfl, hd⟩
      have h3 := h.fd h4
      have h5 : fGet (filesOf L) (absT e.1) = some e.2.2 := fGet_mem _ _ _ (files_nodup h) (List.mem_map.2 ⟨e, List.mem_filter.2 ⟨h1, by simpa using hd⟩, rfl⟩)
      rw [if_neg (by rw [h4]; rintro (h6 | h6); exact absT_ne _ h6; exact absurd h6.2 (by decide)), h3, h5]
      simp [hd]

/-! ### List -/
def kidsAt (D : Dirs) (k : Str) : List Str := match dIdx D k with | some m => (D.getD m ([], [])).2 | none => []
def listL (L : List Fent) (p : Str) : List Str := if p = [] then [] else sortS (kids L (absL p))
theorem kidsAt_L {L : List Fent} (h : FsOk L) {q : List Str} (hq : okL q) : kidsAt (dirsOf L) (absT q) = kids L q := by
  unfold kidsAt
  have hd := dirs_has h hq
  cases hi : dIdx (dirsOf L) (absT q) with
  | none =>
    rw [hi] at hd
    symm
    show kids L q = []
    rw [List.eq_nil_iff_forall_not_mem]
    intro z hz
    obtain ⟨e, he, he1⟩ := mem_kids.1 hz
    have := h.par e he _ _ he1
    rw [this] at hd
    cases hd
  | some m =>
    obtain ⟨h1, h2⟩ := dIdx_lt _ _ _ hi
    rw [List.getElem?_eq_getElem h1] at h2
    have h3 : ((dirsOf L)[m]).1 = absT q := by simpa using h2
    show ((dirsOf L).getD m ([], [])).2 = kids L q
    rw [List.getD_eq_getElem?_getD, List.getElem?_eq_getElem h1, Option.getD_some]
    have hm : (dirsOf L)[m] ∈ dirsOf L := List.getElem_mem h1
    obtain ⟨e, he, hee⟩ := List.mem_map.1 hm
    rw [← hee] at h3 ⊢
    rw [absT_inj (h.ok e (List.mem_filter.1 he).1) hq h3]
theorem listF_L {L : List Fent} (h : FsOk L) (p : Str) : sortS (kidsAt (dirsOf L) (absP p)) = listL L p := by
  unfold listL
  by_cases hp : p = []
  · subst hp
    rw [if_pos rfl]
    have : kidsAt (dirsOf L) (absP []) = [] := by
      unfold kidsAt
      have : dIdx (dirsOf L) (absP []) = none := by
        rw [← Option.not_isSome_iff_eq_none, dIdx_some, Bool.not_eq_true, List.any_eq_false]
        intro x hx
        obtain ⟨e, he, rfl⟩ := List.mem_map.1 hx
        have := absT_ne e.1
        simp [absP, this]
      rw [this]
    rw [this]; simp [sortS]
  · rw [if_neg hp]
    have hap : absP p = absT (absL p) := by unfold absP; rw [if_neg hp]
    rw [hap, kidsAt_L h (absL_ok p)]

/-! ### All -/
def allK (D : Dirs) (F : List (Str × Str)) : List Str := sortS (D.map (·.1) ++ F.map (·.1))
def pickF (D : Dirs) (F : List (Str × Str)) (p : Str) : Option EntD := if (lookF D F p).2 = true ∧ p ≠ [47] then some (lookF D F p).1 else none
def allF (D : Dirs) (F : List (Str × Str)) : List EntD := (allK D F).filterMap (pickF D F)
def allL (L : List Fent) : List EntD := sortE (L.tail.map entOf)
theorem keys_perm (L : List Fent) : ((dirsOf L).map (·.1) ++ (filesOf L).map (·.1)).Perm (L.map fun e => absT e.1) := by
  unfold dirsOf filesOf
  rw [List.map_map, List.map_map]
  have := (List.filter_append_perm (fun e : Fent => e.2.1) L).map (fun e => absT e.1)
  rw [List.map_append] at this
  exact this
theorem pickF_mem {L : List Fent} (h : FsOk L) {e : Fent} (he : e ∈ L) : pickF (dirsOf L) (filesOf L) (absT e.1) = if e.1 = [] then none else some (entOf e) := by
  unfold pickF
  rw [lookF_L h]
  unfold lookL
  rw [if_neg (absT_ne _), absL_absT _ (h.ok e he), findE_mem h he]
  by_cases h0 : e.1 = []
  · rw [if_pos h0, h0, if_neg (by rintro ⟨_, h1⟩; exact h1 rfl)]
  · rw [if_neg h0, if_pos ⟨rfl, fun h1 => h0 (absT_inj (h.ok e he) (fun _ hz => by cases hz) (h1.trans rfl))⟩]
theorem allF_L {L : List Fent} (h : FsOk L) : allF (dirsOf L) (filesOf L) = allL L := by
  obtain ⟨rest, hr⟩ := h.root
  have hnd := h.nodup
  rw [hr, List.map_cons, List.nodup_cons] at hnd
  have hrest : ∀ e ∈ rest, e ∈ L ∧ e.1 ≠ [] := fun e he => ⟨by rw [hr]; exact List.mem_cons_of_mem _ he, fun h0 => hnd.1 (List.mem_map.2 ⟨e, he, h0⟩)⟩
  have hp : (allF (dirsOf L) (filesOf L)).Perm (L.tail.map entOf) := by
    have h1 : (allK (dirsOf L) (filesOf L)).Perm (L.map fun e => absT e.1) := (sortS_perm _).trans (keys_perm L)
    have h2 := h1.filterMap (pickF (dirsOf L) (filesOf L))
    refine h2.trans ?_
    have h3 : (L.map fun e => absT e.1).filterMap (pickF (dirsOf L) (filesOf L)) = L.tail.map entOf := by
      rw [List.filterMap_map]
      have : ∀ l : List Fent, (∀ e ∈ l, e ∈ L ∧ e.1 ≠ []) → l.filterMap (pickF (dirsOf L) (filesOf L) ∘ fun e => absT e.1) = l.map entOf := by
        intro l
        induction l with
        | nil => intro _; rfl
        | cons e l ih =>
          intro hl
          have h4 := hl e (by simp)
          rw [List.filterMap_cons, Function.comp_apply, pickF_mem h h4.1, if_neg h4.2, ih (fun x hx => hl x (by simp [hx]))]
          rfl
      have h5 : L.filterMap (pickF (dirsOf L) (filesOf L) ∘ fun e => absT e.1) = rest.filterMap (pickF (dirsOf L) (filesOf L) ∘ fun e => absT e.1) := by
        have hroot : pickF (dirsOf L) (filesOf L) (absT []) = none := by
          have := pickF_mem h (e := ([], true, [])) (by rw [hr]; exact List.mem_cons_self)
          rw [if_pos rfl] at this
          exact this
        have gen : ∀ f : Fent → Option EntD, f ([], true, []) = none → L.filterMap f = rest.filterMap f := fun f hf => by rw [hr, List.filterMap_cons, hf]
        exact gen _ hroot
      rw [h5, this rest hrest, hr]
      rfl
    rw [h3]
  have hn : ((L.tail.map entOf).map (·.1)).Nodup := by
    rw [List.map_map]
    have := paths_nodup h
    rw [hr] at this ⊢
    rw [List.map_cons, List.nodup_cons] at this
    exact this.2
  refine sortE_unique hn hp ?_
  unfold allF
  refine List.Pairwise.filterMap _ ?_ (List.Pairwise.and_mem.1 (sortS_sorted _))
  intro a a' hle b hb b' hb'
  have hk : ∀ x, x ∈ sortS ((dirsOf L).map (·.1) ++ (filesOf L).map (·.1)) → x ∈ L.map (fun e => absT e.1) := fun x hx => ((sortS_perm _).trans (keys_perm L)).mem_iff.1 hx
  have key : ∀ x y, pickF (dirsOf L) (filesOf L) x = some y → x ∈ L.map (fun e => absT e.1) → y.1 = x := by
    intro x y hx hm
    obtain ⟨e, he, rfl⟩ := List.mem_map.1 hm
    rw [pickF_mem h he] at hx
    split at hx
    · cases hx
    · obtain rfl := Option.some.inj hx; rfl
  rw [key a b hb (hk a hle.1), key a' b' hb' (hk a' hle.2.1)]
  exact hle.2.2
end Go.Proofs.YtbnejfgdojdbdaaDoor.Sx
