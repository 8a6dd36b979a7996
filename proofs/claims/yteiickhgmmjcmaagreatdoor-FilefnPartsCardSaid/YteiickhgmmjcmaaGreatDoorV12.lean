/-
  Look, List, All, plain.
  vfs: Look, List.
  vfs: All.
  vfs: way, where directories are made.
  vfs.New.
  New, Look, List, All: of what is there.
-/
import Derived.Test.YteiickhgmmjcmaaGreatDoorV6
import Derived.Test.YteiickhgmmjcmaaGreatDoorV8
import Derived.Test.YteiickhgmmjcmaaGreatDoorV3
import Derived.Test.YteiickhgmmjcmaaGreatDoorV4
set_option linter.unusedVariables false
set_option linter.unusedSimpArgs false
set_option maxRecDepth 20000
set_option maxHeartbeats 4000000
namespace Go.Proofs.YteiickhgmmjcmaaGreatDoor.Sx
open Go Go.Proofs Go.RowKit

abbrev sortE (l : List EntD) : List EntD := l.mergeSort fun a b => decide (a.1 ≤ b.1)
theorem sortE_perm (l : List EntD) : (sortE l).Perm l := List.mergeSort_perm l _
theorem sortE_sorted (l : List EntD) : (sortE l).Pairwise (fun a b => decide (a.1 ≤ b.1) = true) := List.pairwise_mergeSort (fun a b c => leS_trans a.1 b.1 c.1) (fun a b => leS_total a.1 b.1) l
theorem key_eq : ∀ {l : List EntD}, (l.map (·.1)).Nodup → ∀ a b, a ∈ l → b ∈ l → a.1 = b.1 → a = b
  | [], _, a, b, ha, _, _ => by cases ha
  | x :: l, h, a, b, ha, hb, e => by
    rw [List.map_cons, List.nodup_cons] at h
    rcases List.mem_cons.1 ha with h1 | h1 <;> rcases List.mem_cons.1 hb with h2 | h2
    · rw [h1, h2]
    · exact (h.1 (List.mem_map.2 ⟨b, h2, by rw [← e, h1]⟩)).elim
    · exact (h.1 (List.mem_map.2 ⟨a, h1, by rw [e, h2]⟩)).elim
    · exact key_eq h.2 a b h1 h2 e
theorem sortE_unique {l m : List EntD} (hn : (l.map (·.1)).Nodup) (h : m.Perm l) (hs : m.Pairwise (fun a b => decide (a.1 ≤ b.1) = true)) : m = sortE l :=
  List.Perm.eq_of_pairwise (le := fun a b => decide (a.1 ≤ b.1) = true) (fun a b ha hb h1 h2 => key_eq hn a b (h.mem_iff.1 ha) ((sortE_perm l).mem_iff.1 hb) (List.le_antisymm (by simpa using h1) (by simpa using h2))) hs (sortE_sorted l) (h.trans (sortE_perm l).symm)

/-! ### Look -/
def entOf (e : Fent) : EntD := (absT e.1, e.2.1, e.2.2)
def lookF (D : Dirs) (F : List (Str × Str)) (p : Str) : EntD × Bool :=
  if absP p = [] ∨ (dIdx D (absP p)).isSome = false ∧ (fGet F (absP p)).isSome = false then (([], false, []), false) else ((absP p, (dIdx D (absP p)).isSome, (fGet F (absP p)).getD []), true)
def findE (L : List Fent) (q : List Str) : Option Fent := L.find? (fun e => e.1 == q)
def lookL (L : List Fent) (p : Str) : EntD × Bool := if p = [] then (([], false, []), false) else match findE L (absL p) with | some e => (entOf e, true) | none => (([], false, []), false)
theorem fGet_mem : ∀ (F : List (Str × Str)) (k v : Str), (F.map (·.1)).Nodup → (k, v) ∈ F → fGet F k = some v
  | (k', v') :: F, k, v, hn, h => by
    rw [List.map_cons, List.nodup_cons] at hn
    rw [fGet]
    rcases List.mem_cons.1 h with h | h
    · obtain ⟨rfl, rfl⟩ := Prod.mk.inj h
      rw [if_pos rfl]
    · rw [if_neg (fun e => hn.1 (List.mem_map.2 ⟨_, h, e⟩)), fGet_mem F k v hn.2 h]
theorem paths_nodup {L : List Fent} (h : FsOk L) : (L.map fun e => absT e.1).Nodup := by
  have h1 := h.nodup
  have h2 := h.ok
  clear h
  induction L with
  | nil => simp
  | cons a L ih =>
    rw [List.map_cons, List.nodup_cons] at h1 ⊢
    refine ⟨fun hm => ?_, ih h1.2 (fun e he => h2 e (by simp [he]))⟩
    obtain ⟨b, hb, hab⟩ := List.mem_map.1 hm
    exact h1.1 (List.mem_map.2 ⟨b, hb, absT_inj (h2 b (by simp [hb])) (h2 a (by simp)) hab⟩)
theorem files_nodup {L : List Fent} (h : FsOk L) : ((filesOf L).map (·.1)).Nodup := by
  unfold filesOf
  rw [List.map_map]
  exact (paths_nodup h).sublist (List.filter_sublist.map _)
theorem findE_some {L : List Fent} {q : List Str} {e : Fent} (h : findE L q = some e) : e ∈ L ∧ e.1 = q :=
  ⟨List.mem_of_find?_eq_some h, by simpa using List.find?_some h⟩
theorem findE_mem {L : List Fent} (h : FsOk L) {e : Fent} (he : e ∈ L) : findE L e.1 = some e := by
  cases hf : findE L e.1 with
  | none =>
    have := List.find?_eq_none.1 hf e he
    simp at this
  | some e' =>
    obtain ⟨h1, h2⟩ := findE_some hf
    rw [nodup_eq h.nodup h1 he h2]
theorem findE_none {L : List Fent} {q : List Str} (h : findE L q = none) : hasP L q = false := by
  rw [Bool.eq_false_iff]
  intro h1
  obtain ⟨e, he, hq⟩ := hasP_iff.1 h1
  have := List.find?_eq_none.1 h e he
  simp [hq] at this
theorem lookF_L {L : List Fent} (h : FsOk L) (p : Str) : lookF (dirsOf L) (filesOf L) p = lookL L p := by
  unfold lookF lookL
  by_cases hp : p = []
  · subst hp
    rw [if_pos rfl, if_pos (.inl rfl)]
  have hap : absP p = absT (absL p) := by unfold absP; rw [if_neg hp]
  have hok := absL_ok p
  rw [if_neg hp, hap, dirs_has h hok, files_has h hok]
  cases hf : findE L (absL p) with
  | none =>
    have hn := findE_none hf
    have h1 : isD L (absL p) = false := by rw [Bool.eq_false_iff]; intro h1; rw [isD_has h1] at hn; cases hn
    have h2 : isF L (absL p) = false := by rw [Bool.eq_false_iff]; intro h1; rw [isF_has h1] at hn; cases hn
    rw [if_pos (.inr ⟨h1, h2⟩)]
  | some e =>
    obtain ⟨h1, h2⟩ := findE_some hf
    rw [← h2]
    unfold entOf
    cases hd : e.2.1 with
    | true =>
      have h3 : isD L e.1 = true := isD_iff.2 ⟨e, h1, rfl, hd⟩
      have h4 : isF L e.1 = false := by
        rw [Bool.eq_false_iff]; intro h4; rw [h.fd h4] at h3; cases h3
      have h5 : fGet (filesOf L) (absT e.1) = none := by
        rw [← Option.not_isSome_iff_eq_none, files_has h (h.ok e h1), h4]; decide
      rw [if_neg (by rw [h3]; rintro (h6 | h6); exact absT_ne _ h6; exact absurd h6.1 (by decide)), h3, h5]
      simp [hd, h.text e h1 hd]
    | false =>
      have h4 : isF L e.1 = true := isF_iff.2 ⟨e, h1, rfl, hd⟩
      have h3 := h.fd h4
      have h5 : fGet (filesOf L) (absT e.1) = some e.2.2 := fGet_mem _ _ _ (files_nodup h) (List.mem_map.2 ⟨e, List.mem_filter.2 ⟨h1, by simpa using hd⟩, rfl⟩)
      rw [if_neg (by rw [h4]; rintro (h6 | h6); exact absT_ne _ h6; exact absurd h6.2 (by decide)), h3, h5]
      simp [hd]

/-! ### List -/
def kidsAt (D : Dirs) (k : Str) : List Str := match dIdx D k with | some m => (D.getD m ([], [])).2 | none => []
def listL (L : List Fent) (p : Str) : List Str := if p = [] then [] else sortS (kids L (absL p))
theorem kidsAt_L {L : List Fent} (h : FsOk L) {q : List Str} (hq : okL q) : kidsAt (dirsOf L) (absT q) = kids L q := by
  unfold kidsAt
  have hd := dirs_has h hq
  cases hi : dIdx (dirsOf L) (absT q) with
  | none =>
    rw [hi] at hd
    symm
    show kids L q = []
    rw [List.eq_nil_iff_forall_not_mem]
    intro z hz
    obtain ⟨e, he, he1⟩ := mem_kids.1 hz
    have := h.par e he _ _ he1
    rw [this] at hd
    cases hd
  | some m =>
    obtain ⟨h1, h2⟩ := dIdx_lt _ _ _ hi
    rw [List.getElem?_eq_getElem h1] at h2
    have h3 : ((dirsOf L)[m]).1 = absT q := by simpa using h2
    show ((dirsOf L).getD m ([], [])).2 = kids L q
    rw [List.getD_eq_getElem?_getD, List.getElem?_eq_getElem h1, Option.getD_some]
    have hm : (dirsOf L)[m] ∈ dirsOf L := List.getElem_mem h1
    obtain ⟨e, he, hee⟩ := List.mem_map.1 hm
    rw [← hee] at h3 ⊢
    rw [absT_inj (h.ok e (List.mem_filter.1 he).1) hq h3]
theorem listF_L {L : List Fent} (h : FsOk L) (p : Str) : sortS (kidsAt (dirsOf L) (absP p)) = listL L p := by
  unfold listL
  by_cases hp : p = []
  · subst hp
    rw [if_pos rfl]
    have : kidsAt (dirsOf L) (absP []) = [] := by
      unfold kidsAt
      have : dIdx (dirsOf L) (absP []) = none := by
        rw [← Option.not_isSome_iff_eq_none, dIdx_some, Bool.not_eq_true, List.any_eq_false]
        intro x hx
        obtain ⟨e, he, rfl⟩ := List.mem_map.1 hx
        have := absT_ne e.1
        simp [absP, this]
      rw [this]
    rw [this]; simp [sortS]
  · rw [if_neg hp]
    have hap : absP p = absT (absL p) := by unfold absP; rw [if_neg hp]
    rw [hap, kidsAt_L h (absL_ok p)]

/-! ### All -/
def allK (D : Dirs) (F : List (Str × Str)) : List Str := sortS (D.map (·.1) ++ F.map (·.1))
def pickF (D : Dirs) (F : List (Str × Str)) (p : Str) : Option EntD := if (lookF D F p).2 = true ∧ p ≠ [47] then some (lookF D F p).1 else none
def allF (D : Dirs) (F : List (Str × Str)) : List EntD := (allK D F).filterMap (pickF D F)
def allL (L : List Fent) : List EntD := sortE (L.tail.map entOf)
theorem keys_perm (L : List Fent) : ((dirsOf L).map (·.1) ++ (filesOf L).map (·.1)).Perm (L.map fun e => absT e.1) := by
  unfold dirsOf filesOf
  rw [List.map_map, List.map_map]
  have := (List.filter_append_perm (fun e : Fent => e.2.1) L).map (fun e => absT e.1)
  rw [List.map_append] at this
  exact this
theorem pickF_mem {L : List Fent} (h : FsOk L) {e : Fent} (he : e ∈ L) : pickF (dirsOf L) (filesOf L) (absT e.1) = if e.1 = [] then none else some (entOf e) := by
  unfold pickF
  rw [lookF_L h]
  unfold lookL
  rw [if_neg (absT_ne _), absL_absT _ (h.ok e he), findE_mem h he]
  by_cases h0 : e.1 = []
  · rw [if_pos h0, h0, if_neg (by rintro ⟨_, h1⟩; exact h1 rfl)]
  · rw [if_neg h0, if_pos ⟨rfl, fun h1 => h0 (absT_inj (h.ok e he) (fun _ hz => by cases hz) (h1.trans rfl))⟩]
theorem allF_L {L : List Fent} (h : FsOk L) : allF (dirsOf L) (filesOf L) = allL L := by
  obtain ⟨rest, hr⟩ := h.root
  have hnd := h.nodup
  rw [hr, List.map_cons, List.nodup_cons] at hnd
  have hrest : ∀ e ∈ rest, e ∈ L ∧ e.1 ≠ [] := fun e he => ⟨by rw [hr]; exact List.mem_cons_of_mem _ he, fun h0 => hnd.1 (List.mem_map.2 ⟨e, he, h0⟩)⟩
  have hp : (allF (dirsOf L) (filesOf L)).Perm (L.tail.map entOf) := by
    have h1 : (allK (dirsOf L) (filesOf L)).Perm (L.map fun e => absT e.1) := (sortS_perm _).trans (keys_perm L)
    have h2 := h1.filterMap (pickF (dirsOf L) (filesOf L))
    refine h2.trans ?_
    have h3 : (L.map fun e => absT e.1).filterMap (pickF (dirsOf L) (filesOf L)) = L.tail.map entOf := by
      rw [List.filterMap_map]
      have : ∀ l : List Fent, (∀ e ∈ l, e ∈ L ∧ e.1 ≠ []) → l.filterMap (pickF (dirsOf L) (filesOf L) ∘ fun e => absT e.1) = l.map entOf := by
        intro l
        induction l with
        | nil => intro _; rfl
        | cons e l ih =>
          intro hl
          have h4 := hl e (by simp)
          rw [List.filterMap_cons, Function.comp_apply, pickF_mem h h4.1, if_neg h4.2, ih (fun x hx => hl x (by simp [hx]))]
          rfl
      have h5 : L.filterMap (pickF (dirsOf L) (filesOf L) ∘ fun e => absT e.1) = rest.filterMap (pickF (dirsOf L) (filesOf L) ∘ fun e => absT e.1) := by
        have hroot : pickF (dirsOf L) (filesOf L) (absT []) = none := by
          have := pickF_mem h (e := ([], true, [])) (by rw [hr]; exact List.mem_cons_self)
          rw [if_pos rfl] at this
          exact this
        have gen : ∀ f : Fent → Option EntD, f ([], true, []) = none → L.filterMap f = rest.filterMap f := fun f hf => by rw [hr, List.filterMap_cons, hf]
        exact gen _ hroot
      rw [h5, this rest hrest, hr]
      rfl
    rw [h3]
  have hn : ((L.tail.map entOf).map (·.1)).Nodup := by
    rw [List.map_map]
    have := paths_nodup h
    rw [hr] at this ⊢
    rw [List.map_cons, List.nodup_cons] at this
    exact this.2
  refine sortE_unique hn hp ?_
  unfold allF
  refine List.Pairwise.filterMap _ ?_ (List.Pairwise.and_mem.1 (sortS_sorted _))
  intro a a' hle b hb b' hb'
  have hk : ∀ x, x ∈ sortS ((dirsOf L).map (·.1) ++ (filesOf L).map (·.1)) → x ∈ L.map (fun e => absT e.1) := fun x hx => ((sortS_perm _).trans (keys_perm L)).mem_iff.1 hx
  have key : ∀ x y, pickF (dirsOf L) (filesOf L) x = some y → x ∈ L.map (fun e => absT e.1) → y.1 = x := by
    intro x y hx hm
    obtain ⟨e, he, rfl⟩ := List.mem_map.1 hm
    rw [pickF_mem h he] at hx
    split at hx
    · cases hx
    · obtain rfl := Option.some.inj hx; rfl
  rw [key a b hb (hk a hle.1), key a' b' hb' (hk a' hle.2.1)]
  exact hle.2.2

abbrev eTy : Ty := .st (.prod .str (.prod .bool .str))
abbrev entS (e : EntD) : SV := .agg [vS e.1, vB e.2.1, vS e.2.2]
theorem look_cond (x : Str) (a b : Bool) : (x == ({ data := #[] } : ByteArray).data.toList || !a && !b) = decide (x = [] ∨ a = false ∧ b = false) := by
  rw [Bool.eq_iff_iff]
  cases a <;> cases b <;> simp
theorem c_Look (D : Dirs) (F : List (Str × Str)) (p : Str) (hp : p.length ≤ 1099511627) : CallT Tryz.prog 59 [.ptr 0 0, vS p] (fsT D F) (.tup [entS (lookF D F p).1, vB (lookF D F p).2]) (fsT D F) := by
  refine CallT.of Tryz.func59 (by kernel_rfl) rfl Tryz.ntmps59 (by simp) (by simp) fun cx hB => ?_
  refine Tr.seq ?_; refine Tr.region ?_; refine TrL.eff (effBox_sound rfl) (by exact True.intro) ?_; refine TrL.quiets 1 rfl (by exact True.intro) ?_; refine TrL.nil ?_; refine Tr.seq ?_; refine Tr.region ?_; refine TrL.quiets 1 rfl (by exact True.intro) ?_
  first | refine TrL.callV rfl rfl rfl rfl rfl (c_path_Abs p hp) ?_ | refine TrD.callV rfl rfl rfl rfl rfl (c_path_Abs p hp) rfl ?_
  refine TrL.quiets 1 rfl (by exact True.intro) ?_; refine TrL.nil ?_; refine Tr.seq ?_; refine Tr.region ?_; refine TrL.quiets 2 rfl (by exact True.intro) ?_
  refine TrL.callT [0, 1, 2] rfl rfl rfl rfl rfl (c_is D F (absP p)) rfl rfl rfl ?_
  refine TrL.quiets 5 rfl (by exact True.intro) ?_; refine TrL.nil ?_; refine Tr.seq ?_; refine Tr.seq ?_; refine Tr.region ?_; refine TrL.quiets 10 rfl (by exact True.intro) ?_; refine TrL.nil ?_
  refine Tr.cond rfl (fun c1 => ?_) (fun c1 => ?_)
  · refine Tr.seq ?_; refine Tr.region ?_; refine TrL.quiets 1 rfl (by exact True.intro) ?_; refine TrL.eff (effStore_sound rfl) (by exact True.intro) ?_; refine TrL.quiets 1 rfl (by exact True.intro) ?_; refine TrL.nil ?_; refine Tr.ret ?_
    refine retT.of rfl ?_ ?_
    · have hl : lookF D F p = (([], false, []), false) := by
        unfold lookF
        rw [look_cond, decide_eq_true_eq] at c1
        rw [if_pos c1]
      rw [hl]
      rfl
    · rfl
  · refine Tr.skip ?_; refine Tr.seq ?_; refine Tr.region ?_; refine TrL.quiets 7 rfl (by exact True.intro) ?_
    refine TrL.eff (fmLook_sound z_str rfl rfl rfl u_files u_str rfl rfl rfl rfl) True.intro ?_
    refine TrL.quiets 1 rfl (by exact True.intro) ?_; refine TrL.eff (effStore_sound rfl) (by exact True.intro) ?_; refine TrL.quiets 1 rfl (by exact True.intro) ?_; refine TrL.nil ?_; refine Tr.ret ?_
    refine retT.of rfl ?_ ?_
    · have hl : lookF D F p = ((absP p, (dIdx D (absP p)).isSome, (fGet F (absP p)).getD []), true) := by
        unfold lookF
        rw [look_cond, decide_eq_false_iff_not] at c1
        rw [if_neg c1]
      rw [hl]
      rfl
    · rfl
theorem kidsAt_of {D : Dirs} {k : Str} {m : Nat} {q : Str × List Str} (h1 : dIdx D k = some m) (h2 : D[m]? = some q) : kidsAt D k = q.2 := by
  unfold kidsAt
  rw [h1]
  show (D.getD m ([], [])).2 = _
  rw [List.getD_eq_getElem?_getD, h2]
  rfl
def listI (D : Dirs) (k : Str) : Option (Nat × Array MapEntry × Nat) → Prop
  | none => dIdx D k = none
  | some (_, es, clk) => EsOk es clk (setVals (kidsAt D k))
def listS (D : Dirs) (F : List (Str × Str)) (l : List Str) : Option (Nat × Array MapEntry × Nat) → St
  | none => ⟨[(5, [], .arr 3), (14, [], .ptr 4 0)], fsT D F ++ [.ra 9 .str [], .res itN]⟩
  | some (bm, es, clk) => ⟨[(5, [], .arr 3), (14, [], .ptr 4 0)], [.box 48 [.mp 1, .mp 2], .res (pinR (dmRes D) bm es clk), .res (fmRes F), .ra 9 .str [], .res (itE bm es clk ((setVals l).map (·.1)))]⟩
theorem c_List (D : Dirs) (F : List (Str × Str)) (p : Str) (hp : p.length ≤ 1099511627) (hk : (kidsAt D (absP p)).length ≤ 1099511627) : CallT Tryz.prog 64 [.ptr 0 0, vS p] (fsT D F) (vL .str (sortS (kidsAt D (absP p)))) (fsT D F) := by
  refine CallT.of Tryz.func64 (by kernel_rfl) rfl Tryz.ntmps64 (by simp) (by simp) fun cx hB => ?_
  refine Tr.seq ?_; refine Tr.region ?_; refine TrL.quiets 1 rfl (by exact True.intro) ?_; refine TrL.nil ?_; refine Tr.seq ?_; refine Tr.region ?_; refine TrL.quiets 1 rfl (by exact True.intro) ?_; refine TrL.nil ?_
  change Tr _ _ _ _ _ _
  refine Tr.nilRowM 5 9 .str rfl ?_
  have hB5 : ∀ i, cx.B i = true → i < 5 := fun i h => Nat.lt_of_lt_of_le (hB i h) (show 3 ≤ 5 by decide)
  refine Tr.seq ?_
  refine Tr.join (α := Option (Nat × Array MapEntry × Nat)) (listS D F (kidsAt D (absP p))) (listI D (absP p)) [5, 14] 5 hB5 ?_ ?_
  · refine Tr.drawA 8 rfl (by kernel_rfl) ?_
    refine TrA.take 0 rfl rfl (by kernel_rfl) rfl (by exact True.intro) ?_; refine TrA.take 1 rfl rfl (by kernel_rfl) rfl (by exact True.intro) ?_; refine TrA.take 2 rfl rfl (by kernel_rfl) rfl (by exact True.intro) ?_; refine TrA.take 4 rfl rfl (by kernel_rfl) rfl (by exact True.intro) ?_; refine TrA.two 3 5 (by kernel_rfl) rfl rfl ?_ ?_
    · refine TrL.quiets 1 rfl (by exact True.intro) ?_; refine TrL.nil ?_; refine TrA.one 5 (by kernel_rfl) rfl ?_
      first | refine TrL.callV rfl rfl rfl rfl rfl (c_path_Abs p hp) ?_ | refine TrD.callV rfl rfl rfl rfl rfl (c_path_Abs p hp) rfl ?_
      refine TrL.nil ?_; refine TrA.one 6 (by kernel_rfl) rfl ?_
      refine TrL.dmGet z_dir rfl rfl rfl u_dirs u_str rfl rfl rfl rfl (fun h => ?_) (fun m q bm es clk h1 h2 h3 => ?_)
      · refine TrL.nil ?_; refine TrA.one 7 (by kernel_rfl) rfl ?_
        refine TrL.rangeN rfl rfl rfl u_names rfl rfl ?_
        refine TrL.nil ?_; refine TrA.done (by kernel_rfl) ?_
        exact ⟨none, h, rfl⟩
      · refine TrL.nil ?_; refine TrA.one 7 (by kernel_rfl) rfl ?_
        have hq := kidsAt_of h1 h2
        refine TrL.rangeP (i := 1) (R := dmRes D) h3 rfl rfl rfl u_names rfl rfl rfl ?_
        refine TrL.nil ?_; refine TrA.done (by kernel_rfl) ?_
        exact ⟨some (bm, es, clk), by rw [← hq] at h3; exact h3, by rw [hq]; rfl⟩
    · first | refine TrL.callV rfl rfl rfl rfl rfl (c_path_Abs p hp) ?_ | refine TrD.callV rfl rfl rfl rfl rfl (c_path_Abs p hp) rfl ?_
      refine TrL.nil ?_; refine TrA.one 3 (by kernel_rfl) rfl ?_; refine TrL.quiets 1 rfl (by exact True.intro) ?_; refine TrL.nil ?_; refine TrA.one 6 (by kernel_rfl) rfl ?_
      refine TrL.dmGet z_dir rfl rfl rfl u_dirs u_str rfl rfl rfl rfl (fun h => ?_) (fun m q bm es clk h1 h2 h3 => ?_)
      · refine TrL.nil ?_; refine TrA.one 7 (by kernel_rfl) rfl ?_
        refine TrL.rangeN rfl rfl rfl u_names rfl rfl ?_
        refine TrL.nil ?_; refine TrA.done (by kernel_rfl) ?_
        exact ⟨none, h, rfl⟩
      · refine TrL.nil ?_; refine TrA.one 7 (by kernel_rfl) rfl ?_
        have hq := kidsAt_of h1 h2
        refine TrL.rangeP (i := 1) (R := dmRes D) h3 rfl rfl rfl u_names rfl rfl rfl ?_
        refine TrL.nil ?_; refine TrA.done (by kernel_rfl) ?_
        exact ⟨some (bm, es, clk), by rw [← hq] at h3; exact h3, by rw [hq]; rfl⟩
  rintro (_ | ⟨bm, es, clk⟩) hI
  · have hk0 : kidsAt D (absP p) = [] := by
      have h : dIdx D (absP p) = none := hI
      unfold kidsAt
      rw [h]
    rw [hk0]
    refine Tr.block ?_
    refine Tr.loop (fun _ : Unit => ⟨[(5, [], .arr 3), (14, [], .ptr 4 0)], fsT D F ++ [.ra 9 .str [], .res itN]⟩) (fun _ => True) (fun _ => 0) () [5, 14] 5 hB5 rfl trivial fun _ _ => ?_
    refine Tr.seq ?_
    refine Tr.region ?_
    refine TrL.nextN rfl rfl rfl rfl rfl rfl ?_
    refine TrL.quiets 1 rfl (by exact True.intro) ?_; refine TrL.nil ?_; refine Tr.seq ?_
    refine Tr.cond rfl (fun c1 => ?_) (fun c1 => ?_)
    · cases c1
    · refine Tr.exit ?_; refine Tr.seq ?_; refine Tr.region ?_; refine TrL.quiets 1 rfl (by exact True.intro) ?_
      refine TrL.sortM 3 rfl rfl rfl rfl rfl rfl (by decide) ?_
      refine TrL.nil ?_; refine Tr.seq ?_; refine Tr.region ?_; refine TrL.quiets 2 rfl (by exact True.intro) ?_; refine TrL.nil ?_
      change Tr _ _ _ _ _ _
      refine Tr.freeze 3 rfl ?_
      refine Tr.ret ?_
      refine retT.of rfl ?_ ?_
      · rfl
      · rfl
  · have hes : EsOk es clk (setVals (kidsAt D (absP p))) := hI
    generalize kidsAt D (absP p) = K at hes hk
    have hsv : (setVals K).map (·.1) = K := by unfold setVals; rw [List.map_map]; exact List.map_id _
    refine Tr.block ?_
    refine Tr.loop (fun x : List Str × List Str => ⟨[(5, [], .arr 3), (14, [], .ptr 4 0)], [.box 48 [.mp 1, .mp 2], .res (pinR (dmRes D) bm es clk), .res (fmRes F), .ra 9 .str x.1, .res (itE bm es clk x.2)]⟩) (fun x => (x.1 ++ x.2).Perm K) (fun x => x.2.length) ([], K) [5, 14] 5 hB5 ?_ (List.Perm.refl _) ?_
    · show keep _ _ (listS D F K (some (bm, es, clk))) = _
      unfold listS
      rw [hsv]
      rfl
    rintro ⟨out, left⟩ hperm
    dsimp only at hperm
    refine Tr.seq ?_
    refine Tr.region ?_
    refine TrL.nextM 1 hes rfl rfl rfl rfl rfl rfl rfl (fun hl => ?_) (fun s rest hp => ?_)
    · refine TrL.quiets 1 rfl (by exact True.intro) ?_; refine TrL.nil ?_; refine Tr.seq ?_
      refine Tr.cond rfl (fun c1 => ?_) (fun c1 => ?_)
      · cases c1
      · subst hl
        rw [List.append_nil] at hperm
        have hol := hperm.length_eq
        refine Tr.exit ?_; refine Tr.seq ?_; refine Tr.region ?_; refine TrL.quiets 1 rfl (by exact True.intro) ?_
        refine TrL.sortM 3 rfl rfl rfl rfl rfl rfl (by dsimp only; omega) ?_
        refine TrL.nil ?_; refine Tr.seq ?_; refine Tr.region ?_; refine TrL.quiets 2 rfl (by exact True.intro) ?_; refine TrL.nil ?_
        change Tr _ _ _ _ _ _
        refine Tr.freeze 3 rfl ?_
        refine Tr.weakRes 1 rfl unpin ?_
        rw [← sortS_of_perm hperm]
        refine Tr.ret ?_
        refine retT.of rfl ?_ ?_
        · rfl
        · rfl
    · have hq : (out ++ [s] ++ rest).Perm K := by
        refine List.Perm.trans ?_ hperm
        rw [List.append_assoc]
        exact (List.Perm.append_left out hp).symm
      have hol := hq.length_eq
      simp only [List.length_append, List.length_singleton] at hol
      have hpl := hp.length_eq
      simp only [List.length_cons] at hpl
      refine TrL.quiets 1 rfl (by exact True.intro) ?_; refine TrL.nil ?_; refine Tr.seq ?_
      refine Tr.cond rfl (fun c1 => ?_) (fun c1 => ?_)
      · refine Tr.skip ?_; refine Tr.block ?_; refine Tr.seq ?_; refine Tr.region ?_
        refine TrL.entryM 1 hes rfl rfl rfl rfl rfl rfl rfl ?_
        refine TrL.quiets 2 rfl (by exact True.intro) ?_; refine TrL.nil ?_; refine Tr.region ?_; refine TrL.quiets 2 rfl (by exact True.intro) ?_; refine TrL.eff (effLit_sound rfl) (by exact True.intro) ?_; refine TrL.eff (effAppend_sound rfl) ?_ ?_
        · show out.length + 1 ≤ 1099511627776
          omega
        refine TrL.quiets 1 rfl (by exact True.intro) ?_; refine TrL.nil ?_
        refine ⟨(out ++ [s], rest), hq, by dsimp only; omega, ?_⟩
        rfl
      · cases c1





































































































































































theorem wayR_length (D : Dirs) (F : List (Str × Str)) : ∀ (l todo : List Str), wayR D F l = some todo → todo.length ≤ l.length
  | [], todo, h => by obtain rfl := Option.some.inj h; simp
  | x :: r, todo, h => by
    rw [wayR] at h
    split at h
    · cases h
    · split at h
      · obtain rfl := Option.some.inj h; simp
      · obtain ⟨t, ht, rfl⟩ := Option.map_eq_some_iff.1 h
        have := wayR_length D F r t ht
        simp; omega
abbrev wayX (D : Dirs) (F : List (Str × Str)) (todo l : List Str) : List Ent := wayT D F todo ++ [.box 36 [vL .str l]]
theorem c_way_true (D : Dirs) (F : List (Str × Str)) (l todo : List Str) (hl : okL l) (hlen : (absT l).length ≤ 1099511627) (hl0 : l ≠ []) (hroot : (dIdx D [47]).isSome = true) (hw : wayR D F l.reverse = some todo) (hll : l.length ≤ 1099511627)
    (hok : okDirs D todo.reverse) (hlong : ∀ d ∈ todo, d.length ≤ 1099511627) :
    CallT Tryz.prog 16 [.ptr 0 0, vS (absT l)] (fsT D F) (vB true) (fsT (mkDirs D todo.reverse) F) := by
  have htl := wayR_length D F _ _ hw
  rw [List.length_reverse] at htl
  refine CallT.ofRange Tryz.func16 (by kernel_rfl) rfl Tryz.ntmps16 (by simp) (by simp) fun cx R hB hds hR => ?_
  have hB3 : ∀ i, cx.B i = true → i < 3 := fun i h => isBoxAt_lt ((hB i).symm.trans h)
  have hB5 : ∀ i, cx.B i = true → i < 5 := fun i h => by have := hB3 i h; omega
  refine RW.seq ?_
  refine Tr.region ?_; refine TrL.eff (effBox_sound rfl) (by exact True.intro) ?_; refine TrL.quiets 1 rfl (by exact True.intro) ?_; refine TrL.nil ?_
  refine ⟨rfl, RW.seq ?_⟩
  refine Tr.region ?_; refine TrL.quiets 1 rfl (by exact True.intro) ?_; refine TrL.nil ?_
  refine ⟨rfl, RW.seq ?_⟩
  refine Tr.nilRow 5 9 .str rfl ?_
  refine Tr.block ?_
  refine Tr.loop (wayS D F) (fun x => x.1 ≠ [] ∧ okL x.1 ∧ x.1.length + x.2.length = l.length ∧ (absT x.1).length ≤ 1099511627 ∧ ∃ t, wayR D F x.1.reverse = some t ∧ todo = x.2 ++ t) (fun x => x.1.length) (l, []) [1, 2, 5] 5 hB5 rfl ⟨hl0, hl, by simp, hlen, _, hw, rfl⟩ fun x hx => ?_
  obtain ⟨ns, td⟩ := x
  obtain ⟨h1, h2, h3, h4, t, h5, h6⟩ := hx
  dsimp only at h1 h2 h3 h4 h5 h6
  obtain ⟨ms, x, rfl⟩ := snoc_of h1
  have k1 : okL ms := fun z hz => h2 z (by simp [hz])
  have k2 : okN x := h2 x (by simp)
  have k3 := absT_le ms x
  rw [wayR_snoc] at h5
  simp only [List.length_append, List.length_singleton] at h3
  refine Tr.block ?_; refine Tr.seq ?_; refine Tr.region ?_; refine TrL.quiets 1 rfl (by exact True.intro) ?_
  first | refine TrL.callV rfl rfl rfl rfl rfl (c_upA ms x k1 k2 h4) ?_ | refine TrD.callV rfl rfl rfl rfl rfl (c_upA ms x k1 k2 h4) rfl ?_
  refine TrL.quiets 4 rfl (by exact True.intro) ?_; refine TrL.nil ?_; refine Tr.seq ?_; refine Tr.region ?_; refine TrL.quiets 2 rfl (by exact True.intro) ?_
  refine TrL.callT [0, 1, 2] rfl rfl rfl rfl rfl (c_is D F (absT ms)) rfl rfl rfl ?_
  refine TrL.quiets 5 rfl (by exact True.intro) ?_; refine TrL.nil ?_; refine Tr.seq ?_; refine Tr.seq ?_; refine Tr.region ?_; refine TrL.quiets 1 rfl (by exact True.intro) ?_; refine TrL.nil ?_
  refine Tr.cond rfl (fun g1 => ?_) (fun g1 => ?_)
  · have g1' : (fGet F (absT ms)).isSome = true := g1
    rw [g1', if_pos rfl] at h5
    cases h5
  · have g1' : (fGet F (absT ms)).isSome = false := g1
    rw [g1', if_neg (by decide)] at h5
    refine Tr.skip ?_; refine Tr.seq ?_; refine Tr.seq ?_; refine Tr.region ?_; refine TrL.quiets 1 rfl (by exact True.intro) ?_; refine TrL.nil ?_
    refine Tr.cond rfl (fun g2 => ?_) (fun g2 => ?_)
    · have g2' : (dIdx D (absT ms)).isSome = true := g2
      rw [g2', if_pos rfl] at h5
      obtain rfl := Option.some.inj h5
      rw [List.append_nil] at h6
      subst h6
      refine Tr.exit ?_
      refine ⟨rfl, RW.seqR (RW.seq ?_)⟩
      refine Tr.region ?_; refine TrL.quiets 1 rfl (by exact True.intro) ?_
      refine TrL.callT [] rfl rfl rfl rfl rfl (c_Backward todo) rfl rfl rfl ?_
      refine TrL.nil ?_
      refine ⟨rfl, ?_⟩
      refine RW.keep [2, 28] 6 (fun i hi => by have := hB3 i hi; omega) (st' := ⟨[(2, [], .ptr 3 0), (28, [], .fn 51 [] [.ptr 5 0])], wayX D F todo todo⟩) rfl ?_
      refine RW.rangeT (X := Nat) (L' := fsT (mkDirs D todo.reverse) F) (fun i => i < todo.length) (fun i => vI ((todo.length : Int) - 1 - i)) (fun i => vS (todo.reverse.getD i [])) (fun i => wayX (mkDirs D (todo.reverse.take i)) F todo todo) (fun i => wayX (mkDirs D (todo.reverse.take (i + 1))) F todo todo) (wayX (mkDirs D todo.reverse) F todo todo)
        (fun i hi => by have h3 := hB3 i hi; rw [hB i] at hi; revert hi; match i, h3 with | 0, _ => exact fun _ => rfl | 1, _ => exact fun h => h | 2, _ => exact fun h => h) hB3 hds hR rfl Tryz.func51 (by kernel_rfl) rfl Tryz.ntmps51 rfl (by simp) rfl ?_ ?_ ?_
      · intro cx1 l1 hB1 hY
        have hB6 : ∀ i, cx1.B i = true → i < 6 := fun i hi => isBoxAt_lt ((hB1 i).symm.trans hi)
        refine Tr.seq ?_; refine Tr.region ?_; refine TrL.quiets 4 rfl (by exact True.intro) ?_; refine TrL.nil ?_; refine Tr.block ?_
        refine Tr.loop (fun i : Nat => ⟨[(0, [], .yv l1), (1, [], .ptr 5 0), (3, [], vI ((todo.length : Int) - 1 - i))], wayX (mkDirs D (todo.reverse.take i)) F todo todo⟩) (fun i => i ≤ todo.length) (fun i => todo.length - i) 0 [0, 1, 3] 6 hB6 ?_ (Nat.zero_le _) fun i hi => ?_
        · refine Eq.trans (b := (⟨[(0, [], .yv l1), (1, [], .ptr 5 0), (3, [], vI (IntKind.i64.wrap ((todo.length : Int) - 1)))], wayX D F todo todo⟩ : St)) rfl ?_
          rw [w64 (by omega) (by omega), show ((todo.length : Int) - 1 - ((0 : Nat) : Int)) = (todo.length : Int) - 1 by omega]
          rfl
        refine Tr.seq ?_; refine Tr.seq ?_; refine Tr.region ?_; refine TrL.quiets 2 rfl (by exact True.intro) ?_; refine TrL.nil ?_
        refine Tr.cond rfl (fun c1 => ?_) (fun c1 => ?_)
        · have hi1 : i < todo.length := by
            have : (todo.length : Int) - 1 - i ≥ 0 := by simpa using c1
            omega
          have hnth : nth (t := .str) todo ((todo.length : Int) - 1 - i) = todo.reverse.getD i [] := by
            have e1 : ((todo.length : Int) - 1 - i) = ((todo.length - 1 - i : Nat) : Int) := by omega
            rw [e1, nth_get' (t := .str) todo _ (by omega), List.getD_eq_getElem?_getD, List.getElem?_eq_getElem (by rw [List.length_reverse]; exact hi1), List.getElem_reverse]
            rfl
          refine Tr.skip ?_; refine Tr.seq ?_; refine Tr.block ?_; refine Tr.seq ?_
          refine Tr.regionI (TrLI.of 6 rfl ?_)
          refine TrL.quiets 6 rfl (by (simp only [allOf, impO, imp, inR, loOk, and_true]; omega)) ?_
          refine TrL.is 16 (sv' := vS (todo.reverse.getD i [])) rfl (congrArg vS hnth) ?_
          refine TrL.nil ?_
          refine ⟨rfl, ?_⟩
          refine TrLI.yield (isBoxAt (wayX D F todo todo)) (fun i hi => (hB1 i).trans hi) rfl rfl rfl rfl rfl rfl rfl (hY i hi1) ?_
          refine TrLI.all rfl ?_
          refine TrL.quiets 1 rfl (by exact True.intro) ?_; refine TrL.nil ?_
          refine ⟨rfl, ?_⟩
          change Tr _ _ _ _ _ _
          refine Tr.cond rfl (fun c3 => ?_) (fun c3 => ?_)
          · cases c3
          refine Tr.skip ?_; refine Tr.region ?_; refine TrL.quiets 3 rfl (by exact True.intro) ?_; refine TrL.nil ?_
          refine ⟨i + 1, hi1, by dsimp only; omega, ?_⟩
          refine Eq.trans (b := (⟨[(0, [], .yv l1), (1, [], .ptr 5 0), (3, [], vI (IntKind.i64.wrap ((todo.length : Int) - 1 - i - 1)))], wayX (mkDirs D (todo.reverse.take (i + 1))) F todo todo⟩ : St)) rfl ?_
          dsimp only
          rw [w64 (by omega) (by omega), show ((todo.length : Int) - 1 - ((i + 1 : Nat) : Int)) = (todo.length : Int) - 1 - i - 1 by omega]
        · have hi1 : i = todo.length := by
            have : ¬ ((todo.length : Int) - 1 - i ≥ 0) := by simpa using c1
            omega
          subst hi1
          refine Tr.exit ?_
          refine ⟨.inl rfl, ?_⟩
          rw [show todo.reverse.take todo.length = todo.reverse by rw [← List.length_reverse, List.take_length]]
          rfl
      · intro i hi cx2 l2 hB2 hd2
        have hir : i < todo.reverse.length := by rw [List.length_reverse]; exact hi
        obtain ⟨m, q1, q2, q3⟩ := okDirs_at todo.reverse D i hir hok
        have q4 : todo.reverse.getD i [] = todo.reverse[i] := by rw [List.getD_eq_getElem?_getD, List.getElem?_eq_getElem hir]; rfl
        rw [q3, q4]
        have q5 : (todo.reverse[i]).length ≤ 1099511627 := hlong _ (List.mem_reverse.1 (List.getElem_mem hir))
        refine TrI.region (TrLI.all rfl ?_)
        refine TrL.quiets 1 rfl (by exact True.intro) ?_; refine TrL.nil ?_
        refine ⟨rfl, rfl, fun cx3 hB3 hd3 => TrI.block (TrI.region (TrLI.all rfl ?_))⟩
        refine TrL.quiets 3 rfl (by exact True.intro) ?_
        refine TrL.callT [0, 1, 2] rfl rfl rfl rfl rfl (c_put (mkDirs D (todo.reverse.take i)) F todo.reverse[i] [] [] true m q5 q1 (fun _ => q2)) rfl rfl rfl ?_
        refine TrL.nil ?_
        exact ⟨rfl, rfl, rfl, rfl⟩
      · intro cx4 hB4
        refine Tr.seq ?_; refine Tr.region ?_; refine TrL.quiets 1 rfl (by exact True.intro) ?_; refine TrL.nil ?_; refine Tr.ret ?_
        refine retT.of rfl ?_ ?_
        · rfl
        · rfl
    · have g2' : (dIdx D (absT ms)).isSome = false := g2
      rw [g2', if_neg (by decide)] at h5
      obtain ⟨t', h7, rfl⟩ := Option.map_eq_some_iff.1 h5
      have k4 : ms ≠ [] := by
        rintro rfl
        rw [show absT [] = [47] from rfl, hroot] at g2'
        cases g2'
      refine Tr.skip ?_; refine Tr.region ?_; refine TrL.quiets 2 rfl (by exact True.intro) ?_; refine TrL.eff (effLit_sound rfl) (by exact True.intro) ?_; refine TrL.eff (effAppend_sound rfl) ?_ ?_
      · show td.length + 1 ≤ 1099511627776
        omega
      refine TrL.quiets 1 rfl (by exact True.intro) ?_; refine TrL.nil ?_
      refine ⟨(ms, td ++ [absT ms]), ⟨k4, k1, by simp only [List.length_append, List.length_singleton]; omega, by dsimp only; omega, t', h7, by rw [h6]; simp⟩, by simp, ?_⟩
      rfl

theorem pre_short : ∀ (r : List Str) (B : Nat), (absT r.reverse).length ≤ B → ∀ q ∈ allPre r, (absT q).length ≤ B
  | [], B, _, q, hq => by cases hq
  | x :: r, B, h, q, hq => by
    rw [allPre, List.mem_append, List.mem_singleton] at hq
    rcases hq with hq | rfl
    · have := absT_le r.reverse x
      rw [List.reverse_cons] at h
      exact pre_short r B (by omega) q hq
    · exact h
theorem putF_text (D : Dirs) (F : List (Str × Str)) (p t : Str) (b : Bool) (m : Nat) : putF D F p b t m = putF D F p b (if b then [] else t) m := by
  unfold putF
  cases b <;> simp
theorem absP_ne {s : Str} (h : s ≠ []) : absP s = absT (absL s) := by unfold absP; rw [if_neg h]
/-- One more, as the two maps have it. -/
theorem fs_step {L : List Fent} (h : FsOk L) (e : EntD) (he : e.1 ≠ []) (hno : hasP L (absL e.1) = false) :
    absL e.1 ≠ [] ∧
    ((preOf (absL e.1)).any (isF L) = true → wayR (dirsOf L) (filesOf L) (absL e.1).reverse = none ∧ stepL L e = L) ∧
    ((preOf (absL e.1)).any (isF L) = false → ∃ qs : List (List Str), wayR (dirsOf L) (filesOf L) (absL e.1).reverse = some (qs.reverse.map absT) ∧ okDirs (dirsOf L) (qs.map absT) ∧ (∀ q ∈ qs, q ∈ preOf (absL e.1)) ∧
      ∃ m, dIdx (mkDirs (dirsOf L) (qs.map absT)) (upF (absT (absL e.1))).1 = some m ∧ dIdx (mkDirs (dirsOf L) (qs.map absT)) (absT (absL e.1)) = none ∧
      putF (mkDirs (dirsOf L) (qs.map absT)) (filesOf L) (absT (absL e.1)) e.2.1 e.2.2 m = (dirsOf (stepL L e), filesOf (stepL L e)) ∧ FsOk (stepL L e)) := by
  have hns : absL e.1 ≠ [] := by
    intro h0
    rw [h0, isD_has (root_dir h)] at hno
    cases hno
  have hok := absL_ok e.1
  obtain ⟨ms, x, hq⟩ := snoc_of hns
  have hstep : stepL L e = if (preOf (absL e.1)).any (isF L) = true then L else L ++ asDirs ((preOf (absL e.1)).filter (fun q => !hasP L q)) ++ [(absL e.1, e.2.1, if e.2.1 then [] else e.2.2)] := by
    unfold stepL
    by_cases hb : (preOf (absL e.1)).any (isF L) = true
    · rw [if_pos (.inr (.inr hb)), if_pos hb]
    · rw [if_neg (by rw [hno]; rintro (h1 | h1 | h1); exact he h1; cases h1; exact hb h1), if_neg hb]
  rw [hstep]
  generalize absL e.1 = ns at *
  subst hq
  have hrev : (ms ++ [x]).reverse = x :: ms.reverse := by simp
  have hpre : preOf (ms ++ [x]) = allPre ms.reverse := by unfold preOf; rw [hrev]; rfl
  have hmr : okL ms.reverse := fun z hz => hok z (by rw [List.mem_reverse] at hz; simp [hz])
  have hw := wayR_is h ms.reverse x hmr
  rw [hpre, hrev]
  refine ⟨hns, fun hb => ⟨by rw [hw, if_pos hb], if_pos hb⟩, fun hb => ?_⟩
  obtain ⟨g1, g2⟩ := good_pre h ms.reverse hmr hb
  obtain ⟨g3, g4, g5, g6⟩ := fs_dirs _ h g1
  rw [List.reverse_reverse] at g2
  have hno2 : hasP (L ++ asDirs ((allPre ms.reverse).filter (fun q => !hasP L q))) (ms ++ [x]) = false := by
    rw [Bool.eq_false_iff]
    intro h1
    obtain ⟨e', he', hq⟩ := hasP_iff.1 h1
    rcases List.mem_append.1 he' with he' | he'
    · rw [hasP_iff.2 ⟨e', he', hq⟩] at hno; cases hno
    · obtain ⟨q, hq2, rfl⟩ := List.mem_map.1 he'
      have := allPre_len ms.reverse q (List.mem_filter.1 hq2).1
      have := congrArg List.length hq
      simp at this
      rw [List.length_reverse] at *
      omega
  obtain ⟨k1, m, k2, k3, k4, k5⟩ := fs_new g3 e.2.1 (if e.2.1 then [] else e.2.2) (fun z hz => hok z (by simp [hz])) (hok x (by simp)) hno2 g2 (fun hb => by rw [if_pos hb])
  refine ⟨(allPre ms.reverse).filter (fun q => !hasP L q), by rw [hw, if_neg (by rw [hb]; decide)], g4, fun q hq => (List.mem_filter.1 hq).1, m, by rw [g5]; exact k2, by rw [g5]; exact k3, ?_, ?_⟩
  · rw [if_neg (by rw [hb]; decide), g5, ← g6, putF_text]
    exact k5
  · rw [if_neg (by rw [hb]; decide)]
    exact k1

abbrev entTy : Ty := .st (.prod .str (.prod .bool .str))
abbrev nfT (D : Dirs) (F : List (Str × Str)) : List Ent := [.res (dmRes D), .res (fmRes F), .box 48 [.mp 0, .mp 1]]
theorem fsOf_ok (l : List EntD) : FsOk (fsOf l) := by
  unfold fsOf
  have key : ∀ (l : List EntD) (L : List Fent), FsOk L → FsOk (l.foldl stepL L) := by
    intro l
    induction l with
    | nil => exact fun L h => h
    | cons e l ih =>
      intro L h
      refine ih _ ?_
      by_cases he : e.1 = []
      · unfold stepL; rw [if_pos (.inl he)]; exact h
      · cases hh : hasP L (absL e.1) with
        | true => unfold stepL; rw [if_pos (.inr (.inl hh))]; exact h
        | false =>
          obtain ⟨_, h1, h2⟩ := fs_step h e he hh
          cases hb : (preOf (absL e.1)).any (isF L) with
          | true => rw [(h1 hb).2]; exact h
          | false => obtain ⟨qs, _, _, _, m, _, _, _, h3⟩ := h2 hb; exact h3
  exact key _ _ fs_init
theorem absT_big (s : Str) (h : s.length ≤ 500000000) : (absT (absL s)).length ≤ 1099511627 := by
  have h1 := absT_length (absL s)
  have h2 := absL_bound s
  omega
theorem skip_is {L : List Fent} (h : FsOk L) (p : Str) : (absP p == [] || (dIdx (dirsOf L) (absP p)).isSome || (fGet (filesOf L) (absP p)).isSome) = decide (p = [] ∨ hasP L (absL p) = true) := by
  by_cases hp : p = []
  · subst hp
    simp [absP]
  · have h1 : (absT (absL p) == []) = false := by simpa using absT_ne (absL p)
    rw [absP_ne hp, dirs_has h (absL_ok p), files_has h (absL_ok p), h1, Bool.false_or, Bool.eq_iff_iff, decide_eq_true_eq, Bool.or_eq_true]
    constructor
    · rintro (h2 | h2)
      · exact .inr (isD_has h2)
      · exact .inr (isF_has h2)
    · rintro (h2 | h2)
      · exact absurd h2 hp
      · exact (has_or h2).symm
def newS (es : List EntD) (L : List Fent) (i : Nat) : St := ⟨[(3, [], .ptr 2 0), (19, [], vL entTy es), (20, [], vI es.length), (21, [], vI i)], nfT (dirsOf L) (filesOf L)⟩
theorem c_New (l : List EntD) (hl : l.length ≤ 1099511627) (hs : ∀ e ∈ l, e.1.length ≤ 500000000) : CallT Tryz.prog 6 [vL entTy l] [] (.ptr 2 0) (nfT (dirsOf (fsOf l)) (filesOf (fsOf l))) := by
  refine CallT.of Tryz.func6 (by kernel_rfl) rfl Tryz.ntmps6 (by simp) (by simp) fun cx hB => ?_
  refine Tr.seq ?_; refine Tr.region ?_; refine TrL.quiets 1 rfl (by exact True.intro) ?_; refine TrL.nil ?_; refine Tr.seq ?_; refine Tr.region ?_
  refine TrL.eff (newMap_sound (dmRes []) dm_starts rfl rfl rfl rfl) True.intro ?_
  refine TrL.dmNew rfl rfl rfl rfl (.inr rfl) rfl u_dirs u_str rfl rfl rfl rfl rfl ?_
  refine TrL.quiets 1 rfl (by exact True.intro) ?_
  refine TrL.eff (newMap_sound (fmRes []) fm_starts rfl rfl rfl rfl) True.intro ?_
  refine TrL.quiets 1 rfl (by exact True.intro) ?_; refine TrL.eff (effBox_sound rfl) (by exact True.intro) ?_; refine TrL.quiets 1 rfl (by exact True.intro) ?_; refine TrL.nil ?_; refine Tr.seq ?_; refine Tr.seq ?_; refine Tr.region ?_; refine TrL.quiets 7 rfl (by (simp only [allOf, impO, imp, inR, loOk, and_true]; omega)) ?_; refine TrL.nil ?_; refine Tr.block ?_
  have hB3 : ∀ i, cx.B i = true → i < 3 := fun i h => absurd (hB i h) (Nat.not_lt_zero _)
  refine Tr.loop (fun i : Nat => newS (l.take 200) (((l.take 200).take i).foldl stepL [([], true, [])]) i) (fun i => i ≤ (l.take 200).length) (fun i => (l.take 200).length - i) 0 [3, 19, 20, 21] 3 hB3 ?_ (Nat.zero_le _) fun i hi => ?_
  · refine Eq.trans (b := (⟨[(3, [], .ptr 2 0), (19, [], vL entTy (cut l none (some (min (l.length : Int) 200)))), (20, [], vI (cut l none (some (min (l.length : Int) 200))).length), (21, [], vI 0)], nfT [([47], [])] []⟩ : St)) rfl ?_
    have e : cut l none (some (min (l.length : Int) 200)) = l.take 200 := by
      simp only [cut]
      rw [List.take_eq_take_iff]
      omega
    rw [e]
    rfl
  have hlong : (l.take 200).length ≤ 200 := by rw [List.length_take]; omega
  refine Tr.seq ?_; refine Tr.region ?_; refine TrL.quiets 1 rfl (by exact True.intro) ?_; refine TrL.nil ?_; refine Tr.seq ?_
  refine Tr.cond rfl (fun c1 => ?_) (fun c1 => ?_)
  · have hi1 : i < (l.take 200).length := by simpa using c1
    have hnth : nth (t := entTy) (l.take 200) (i : Int) = (l.take 200)[i] := nth_get' (t := entTy) _ _ hi1
    have hlE : ((l.take 200)[i]).1.length ≤ 500000000 := hs _ (List.mem_of_mem_take (List.getElem_mem hi1))
    have hL : FsOk (((l.take 200).take i).foldl stepL [([], true, [])]) := by
      have := fsOf_ok ((l.take 200).take i)
      unfold fsOf at this
      rwa [List.take_take, Nat.min_eq_right (by omega)] at this
    have hnext : ((l.take 200).take (i + 1)).foldl stepL [([], true, [])] = stepL (((l.take 200).take i).foldl stepL [([], true, [])]) (l.take 200)[i] := by
      rw [List.take_succ_eq_append_getElem hi1, List.foldl_append]
      rfl
    refine Tr.skip ?_; refine Tr.seq ?_; refine Tr.block ?_; refine Tr.seq ?_; refine Tr.region ?_; refine TrL.quiets 2 rfl (by (simp only [allOf, impO, imp, inR, loOk, and_true]; omega)) ?_
    refine TrL.is 24 (sv' := .agg [vS (l.take 200)[i].1, vB (l.take 200)[i].2.1, vS (l.take 200)[i].2.2]) rfl (congrArg (fun e : EntD => SV.agg [vS e.1, vB e.2.1, vS e.2.2]) hnth) ?_
    generalize (l.take 200)[i] = e at hlE hnext
    generalize hM : ((l.take 200).take i).foldl stepL [([], true, [])] = M at hL hnext
    have habs := absT_big e.1 hlE
    refine TrL.eff (effBox_sound rfl) (by exact True.intro) ?_; refine TrL.eff (effStore_sound rfl) (by exact True.intro) ?_; refine TrL.nil ?_; refine Tr.seq ?_; refine Tr.region ?_; refine TrL.quiets 2 rfl (by exact True.intro) ?_
    first | refine TrL.callV rfl rfl rfl rfl rfl (c_path_Abs e.1 (by omega)) ?_ | refine TrD.callV rfl rfl rfl rfl rfl (c_path_Abs e.1 (by omega)) rfl ?_
    refine TrL.quiets 1 rfl (by exact True.intro) ?_; refine TrL.nil ?_; refine Tr.seq ?_; refine Tr.seq ?_; refine Tr.region ?_; refine TrL.quiets 2 rfl (by exact True.intro) ?_
    refine TrL.callT [2, 0, 1] rfl rfl rfl rfl rfl (c_is (dirsOf M) (filesOf M) (absP e.1)) rfl rfl rfl ?_
    refine TrL.quiets 5 rfl (by exact True.intro) ?_; refine TrL.nil ?_; refine Tr.seq ?_; refine Tr.region ?_; refine TrL.quiets 11 rfl (by exact True.intro) ?_
    have hsk := skip_is hL e.1
    by_cases hskip : e.1 = [] ∨ hasP M (absL e.1) = true
    · refine TrL.is 42 (sv' := vB true) rfl (by rw [show ({ data := #[] } : ByteArray).data.toList = ([] : Str) from rfl, hsk, decide_eq_true hskip]) ?_
      refine TrL.pass (vB false) rfl rfl rfl rfl rfl (by decide) (by decide) rfl ?_
      refine TrL.quiets 2 rfl (by exact True.intro) ?_; refine TrL.nil ?_
      refine Tr.cond rfl (fun c2 => ?_) (fun c2 => ?_)
      · refine Tr.exit ?_; refine Tr.region ?_; refine TrL.quiets 2 rfl (by exact True.intro) ?_; refine TrL.nil ?_
        refine ⟨i + 1, hi1, by dsimp only; omega, ?_⟩
        refine Eq.trans (b := (⟨[(3, [], .ptr 2 0), (19, [], vL entTy (l.take 200)), (20, [], vI (l.take 200).length), (21, [], vI (IntKind.i64.wrap ((i : Int) + 1)))], nfT (dirsOf M) (filesOf M)⟩ : St)) rfl ?_
        dsimp only
        rw [hnext, show stepL M e = M by unfold stepL; rw [if_pos (by rcases hskip with h | h; exact .inl h; exact .inr (.inl h))], w64 (by omega) (by omega)]
        rfl
      · simp at c2
    · refine TrL.is 42 (sv' := vB false) rfl (by rw [show ({ data := #[] } : ByteArray).data.toList = ([] : Str) from rfl, hsk, decide_eq_false hskip]) ?_
      rw [not_or, Bool.not_eq_true] at hskip
      obtain ⟨hne, hno⟩ := hskip
      obtain ⟨hns, hblock, hfree⟩ := fs_step hL e hne hno
      have hroot : (dIdx (dirsOf M) [47]).isSome = true := (dirs_has hL (q := []) (fun _ hz => by cases hz)).trans (root_dir hL)
      have hll : (absL e.1).length ≤ 1099511627 := by have := absL_bound e.1; omega
      refine TrL.known 43 rfl rfl ?_
      refine TrL.known 44 rfl rfl ?_
      refine TrL.want rfl rfl rfl ?_
      refine TrL.is 44 (sv' := vS (absT (absL e.1))) rfl (by rw [absP_ne hne]) ?_
      cases hb : (preOf (absL e.1)).any (isF M) with
      | true =>
        obtain ⟨g1, g2⟩ := hblock hb
        refine TrL.callT [2, 0, 1] rfl rfl rfl rfl rfl (c_way_false (dirsOf M) (filesOf M) (absL e.1) (absL_ok e.1) habs hns hroot g1 hll) rfl rfl rfl ?_
        refine TrL.quiets 2 rfl (by exact True.intro) ?_; refine TrL.nil ?_
        refine Tr.cond rfl (fun c2 => ?_) (fun c2 => ?_)
        · refine Tr.exit ?_; refine Tr.region ?_; refine TrL.quiets 2 rfl (by exact True.intro) ?_; refine TrL.nil ?_
          refine ⟨i + 1, hi1, by dsimp only; omega, ?_⟩
          refine Eq.trans (b := (⟨[(3, [], .ptr 2 0), (19, [], vL entTy (l.take 200)), (20, [], vI (l.take 200).length), (21, [], vI (IntKind.i64.wrap ((i : Int) + 1)))], nfT (dirsOf M) (filesOf M)⟩ : St)) rfl ?_
          dsimp only
          rw [hnext, g2, w64 (by omega) (by omega)]
          rfl
        · simp at c2
      | false =>
        obtain ⟨qs, g1, g2, g3, m, g4, g5, g6, g7⟩ := hfree hb
        have hlq : ∀ d ∈ qs.reverse.map absT, d.length ≤ 1099511627 := by
          intro d hd
          obtain ⟨q, hq, rfl⟩ := List.mem_map.1 hd
          have hq2 := g3 q (List.mem_reverse.1 hq)
          obtain ⟨ms, x, hms⟩ := snoc_of hns
          have e1 : preOf (absL e.1) = allPre ms.reverse := by unfold preOf; rw [hms]; simp
          rw [e1] at hq2
          refine pre_short ms.reverse 1099511627 ?_ q hq2
          rw [List.reverse_reverse]
          have := absT_le ms x
          rw [← hms] at this
          omega
        have hrr : (qs.reverse.map absT).reverse = qs.map absT := by rw [← List.map_reverse, List.reverse_reverse]
        have hway := c_way_true (dirsOf M) (filesOf M) (absL e.1) (qs.reverse.map absT) (absL_ok e.1) habs hns hroot g1 hll (by rw [hrr]; exact g2) hlq
        rw [hrr] at hway
        refine TrL.callT [2, 0, 1] rfl rfl rfl rfl rfl hway rfl rfl rfl ?_
        refine TrL.quiets 2 rfl (by exact True.intro) ?_; refine TrL.nil ?_
        refine Tr.cond rfl (fun c2 => ?_) (fun c2 => ?_)
        · simp at c2
        · have hB4 : ∀ i, cx.B i = true → i < 4 := fun i h => absurd (hB i h) (Nat.not_lt_zero _)
          refine Tr.keep [3, 5, 6, 19, 20, 21] 4 hB4 (st' := ⟨[(3, [], .ptr 2 0), (5, [], .ptr 3 0), (6, [], vS (absP e.1)), (19, [], vL entTy (l.take 200)), (20, [], vI (l.take 200).length), (21, [], vI i)], nfT (mkDirs (dirsOf M) (qs.map absT)) (filesOf M) ++ [.box 43 [vS e.1, vB e.2.1, vS e.2.2]]⟩) rfl ?_
          refine Tr.skip ?_; refine Tr.region ?_; refine TrL.quiets 3 rfl (by exact True.intro) ?_
          have hput := c_put (mkDirs (dirsOf M) (qs.map absT)) (filesOf M) (absT (absL e.1)) e.1 e.2.2 e.2.1 m habs g4 (fun _ => g5)
          rw [g6, ← absP_ne hne] at hput
          refine TrL.callT [2, 0, 1] rfl rfl rfl rfl rfl hput rfl rfl rfl ?_
          refine TrL.nil ?_; refine Tr.region ?_; refine TrL.quiets 2 rfl (by exact True.intro) ?_; refine TrL.nil ?_
          refine ⟨i + 1, hi1, by dsimp only; omega, ?_⟩
          refine Eq.trans (b := (⟨[(3, [], .ptr 2 0), (19, [], vL entTy (l.take 200)), (20, [], vI (l.take 200).length), (21, [], vI (IntKind.i64.wrap ((i : Int) + 1)))], nfT (dirsOf (stepL M e)) (filesOf (stepL M e))⟩ : St)) rfl ?_
          dsimp only
          rw [hnext, w64 (by omega) (by omega)]
          rfl
  · have hi1 : i = (l.take 200).length := by
      have : ¬ (i : Int) < (l.take 200).length := by simpa using c1
      omega
    subst hi1
    rw [List.take_length]
    refine Tr.exit ?_; refine Tr.seq ?_; refine Tr.region ?_; refine TrL.quiets 2 rfl (by exact True.intro) ?_; refine TrL.nil ?_; refine Tr.ret ?_
    refine retT.of rfl ?_ ?_
    · rfl
    · rfl

def FsLim (L : List Fent) : Prop := L.length ≤ 1000000 ∧ ∀ e ∈ L, (absT e.1).length ≤ 1000000
theorem allPre_count : ∀ r : List Str, (allPre r).length = r.length
  | [] => rfl
  | x :: r => by rw [allPre, List.length_append, allPre_count r]; rfl
theorem preOf_count (ns : List Str) : (preOf ns).length ≤ ns.length := by
  unfold preOf
  rw [allPre_count, List.length_tail, List.length_reverse]
  omega
theorem preOf_short {ns : List Str} {B : Nat} (h : (absT ns).length ≤ B) : ∀ q ∈ preOf ns, (absT q).length ≤ B := by
  unfold preOf
  intro q hq
  by_cases h0 : ns = []
  · subst h0; cases hq
  obtain ⟨ms, x, rfl⟩ := snoc_of h0
  have e : (ms ++ [x]).reverse.tail = ms.reverse := by simp
  rw [e] at hq
  refine pre_short ms.reverse B ?_ q hq
  rw [List.reverse_reverse]
  have := absT_le ms x
  omega
theorem step_lim {L : List Fent} {e : EntD} {N : Nat} (he : e.1.length ≤ 1000) (h : L.length ≤ N ∧ ∀ e ∈ L, (absT e.1).length ≤ 1000000) : (stepL L e).length ≤ N + 1002 ∧ ∀ x ∈ stepL L e, (absT x.1).length ≤ 1000000 := by
  have h1 := absL_bound e.1
  have h2 := absT_length (absL e.1)
  have h3 := preOf_count (absL e.1)
  have hq := preOf_short (ns := absL e.1) (B := 1000000) (by omega)
  unfold stepL
  split
  · exact ⟨by omega, h.2⟩
  · constructor
    · simp only [List.length_append, asDirs, List.length_map, List.length_singleton]
      have := List.length_filter_le (fun q => !hasP L q) (preOf (absL e.1))
      omega
    · intro x hx
      rcases List.mem_append.1 hx with hx | hx
      · rcases List.mem_append.1 hx with hx | hx
        · exact h.2 x hx
        · obtain ⟨q, hq2, rfl⟩ := List.mem_map.1 hx
          exact hq q (List.mem_filter.1 hq2).1
      · rw [List.mem_singleton.1 hx]
        dsimp only
        omega
theorem fold_lim : ∀ (l : List EntD) (L : List Fent) (N : Nat), (∀ e ∈ l, e.1.length ≤ 1000) → (L.length ≤ N ∧ ∀ e ∈ L, (absT e.1).length ≤ 1000000) → (l.foldl stepL L).length ≤ N + 1002 * l.length ∧ ∀ x ∈ l.foldl stepL L, (absT x.1).length ≤ 1000000
  | [], L, N, _, h => by simpa using h
  | e :: l, L, N, hl, h => by
    have h1 := step_lim (hl e (by simp)) h
    have h2 := fold_lim l (stepL L e) (N + 1002) (fun x hx => hl x (by simp [hx])) h1
    rw [List.foldl_cons]
    refine ⟨?_, h2.2⟩
    have := h2.1
    rw [List.length_cons]
    omega
theorem fsOf_lim {l : List EntD} (h : ∀ e ∈ l, e.1.length ≤ 1000) : FsLim (fsOf l) := by
  have h1 := fold_lim (l.take 200) [([], true, [])] 1 (fun e he => h e (List.mem_of_mem_take he)) ⟨by simp, by simp [absT]⟩
  refine ⟨?_, h1.2⟩
  have := h1.1
  have h3 : (l.take 200).length ≤ 200 := by rw [List.length_take]; omega
  unfold fsOf
  omega

abbrev lT (L : List Fent) : List Ent := fsT (dirsOf L) (filesOf L)
theorem c_LookL {L : List Fent} (h : FsOk L) (p : Str) (hp : p.length ≤ 1099511627) : CallT Tryz.prog 59 [.ptr 0 0, vS p] (lT L) (.tup [entS (lookL L p).1, vB (lookL L p).2]) (lT L) := by
  have := c_Look (dirsOf L) (filesOf L) p hp
  rwa [lookF_L h] at this
theorem kids_len (L : List Fent) (q : List Str) : (kids L q).length ≤ L.length := List.length_filterMap_le _ _
theorem c_ListL {L : List Fent} (h : FsOk L) (hL : FsLim L) (p : Str) (hp : p.length ≤ 1099511627) : CallT Tryz.prog 64 [.ptr 0 0, vS p] (lT L) (vL .str (listL L p)) (lT L) := by
  have h1 := listF_L h p
  have h2 : (kidsAt (dirsOf L) (absP p)).length ≤ 1099511627 := by
    have h3 := congrArg List.length h1
    rw [(sortS_perm _).length_eq] at h3
    rw [h3]
    unfold listL
    split
    · simp
    · rw [(sortS_perm _).length_eq]
      have := kids_len L (absL p)
      have := hL.1
      omega
  have := c_List (dirsOf L) (filesOf L) p hp h2
  rwa [h1] at this

























theorem c_NewL (l : List EntD) (hl : l.length ≤ 1099511627) (hs : ∀ e ∈ l, e.1.length ≤ 1000) : CallT Tryz.prog 6 [vL eTy l] [] (.ptr 2 0) (nfT (dirsOf (fsOf l)) (filesOf (fsOf l))) := c_New l hl (fun e he => by have := hs e he; omega)
end Go.Proofs.YteiickhgmmjcmaaGreatDoor.Sx
