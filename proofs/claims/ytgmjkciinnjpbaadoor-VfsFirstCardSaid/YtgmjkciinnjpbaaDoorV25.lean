/-
  ref06: List, All.
  ref06: All.
-/
import Derived.Test.YtgmjkciinnjpbaaDoorV23
import Derived.Test.YtgmjkciinnjpbaaDoorV18
set_option linter.unusedVariables false
set_option linter.unusedSimpArgs false
set_option maxRecDepth 20000
set_option maxHeartbeats 4000000
namespace Go.Proofs.YtgmjkciinnjpbaaDoor.Sx
open Go Go.Proofs Go.RowKit

theorem kidOf_some {d : List Str} {e : Fent} {x : Str} (h : kidOf d e = some x) : e.1 = d ++ [x] := by
  have : x ∈ kids [e] d := by
    unfold kids
    rw [List.mem_filterMap]
    exact ⟨e, List.mem_singleton.2 rfl, h⟩
  obtain ⟨e', he', hq⟩ := mem_kids.1 this
  rw [List.mem_singleton.1 he'] at hq
  exact hq
theorem kids_nodup {L : List Fent} (h : FsOk L) (d : List Str) : (kids L d).Nodup := by
  have h1 := h.nodup
  unfold List.Nodup at h1
  rw [List.pairwise_map] at h1
  unfold kids
  refine List.Pairwise.filterMap _ ?_ h1
  rintro a a' hne b hb b' hb' rfl
  exact hne (by rw [kidOf_some hb, kidOf_some hb'])
theorem kids_none {L : List Fent} (h : FsOk L) {q : List Str} (hd : isD L q = false) : kids L q = [] := by
  rw [List.eq_nil_iff_forall_not_mem]
  intro z hz
  obtain ⟨e, he, hq⟩ := mem_kids.1 hz
  have := h.par e he _ _ hq
  rw [hd] at this
  cases this
theorem list_nil {L : List Fent} (h : FsOk L) {p : Str} (hd : (lookL L p).2 = false ∨ (lookL L p).1.2.1 = false) : listL L p = [] := by
  unfold listL
  by_cases hp : p = []
  · rw [if_pos hp]
  rw [if_neg hp]
  have hk : isD L (absL p) = false := by
    rw [Bool.eq_false_iff]
    intro h1
    obtain ⟨e, he, hq, hde⟩ := isD_iff.1 h1
    have hlk : lookL L p = (entOf e, true) := by
      unfold lookL
      rw [if_neg hp, ← hq, findE_mem h he]
    rw [hlk] at hd
    rcases hd with hd | hd
    · cases hd
    · simp [entOf, hde] at hd
  rw [kids_none h hk]
  simp [sortS]
theorem look_path {L : List Fent} {p : Str} (h : (lookL L p).2 = true) : p ≠ [] ∧ (lookL L p).1.1 = absT (absL p) := by
  unfold lookL at h ⊢
  by_cases hp : p = []
  · rw [if_pos hp] at h; cases h
  rw [if_neg hp] at h ⊢
  refine ⟨hp, ?_⟩
  cases hf : findE L (absL p) with
  | none => rw [hf] at h; cases h
  | some e => rw [← (findE_some hf).2]; rfl
theorem c_refList {L : List Fent} (h : FsOk L) (hlim : FsLim L) (p : Str) (hp : p.length ≤ 500000) :
    CallT Tryd.prog 15 [.ptr 0 0, vS p] (rT (L.map entOf)) (vL .str (listL L p)) (rT (L.map entOf)) := by
  obtain ⟨hL, hpl⟩ := hlim
  have hEl : (L.map entOf).length ≤ 1000000 := by rw [List.length_map]; exact hL
  refine CallT.of Tryd.func15 (by kernel_rfl) rfl Tryd.ntmps15 (by simp) (by simp) fun cx hB => ?_
  have hB4 : ∀ i, cx.B i = true → i < 4 := fun i h => Nat.lt_of_lt_of_le (hB i h) (show 2 ≤ 4 by decide)
  refine Tr.seq ?_; refine Tr.region ?_; refine TrL.quiets 1 rfl (by exact True.intro) ?_; refine TrL.nil ?_; refine Tr.seq ?_; refine Tr.region ?_; refine TrL.quiets 2 rfl (by exact True.intro) ?_
  refine TrL.callT [0, 1] rfl rfl rfl rfl rfl (c_refLook h p hp hL) rfl rfl rfl ?_
  refine TrL.quiets 3 rfl (by exact True.intro) ?_; refine TrL.eff (effBox_sound rfl) (by exact True.intro) ?_; refine TrL.eff (effStore_sound rfl) (by exact True.intro) ?_; refine TrL.quiets 1 rfl (by exact True.intro) ?_; refine TrL.nil ?_
  change Tr _ _ _ _ _ _
  refine Tr.keep [0, 5, 6] 3 (fun i h => Nat.lt_of_lt_of_le (hB i h) (show 2 ≤ 3 by decide)) (st' := ⟨[(0, [], .ptr 0 0), (5, [], .ptr 2 0), (6, [], vB (lookL L p).2)], rT (L.map entOf) ++ [.box 30 [vS (lookL L p).1.1, vB (lookL L p).1.2.1, vS (lookL L p).1.2.2]]⟩) rfl ?_
  refine Tr.seq ?_; refine Tr.seq ?_; refine Tr.region ?_; refine TrL.quiets 7 rfl (by exact True.intro) ?_; refine TrL.nil ?_
  refine Tr.cond rfl (fun c1 => ?_) (fun c1 => ?_)
  · have hn : listL L p = [] := by
      refine list_nil h ?_
      cases h1 : (lookL L p).2 with
      | false => exact .inl rfl
      | true =>
        rw [h1] at c1
        exact .inr (by simpa using c1)
    rw [hn]
    refine Tr.seq ?_; refine Tr.region ?_; refine TrL.quiets 1 rfl (by exact True.intro) ?_; refine TrL.nil ?_
    change Tr _ _ _ _ _ _
    refine Tr.weak 4 rfl (nil_weak .str) ?_
    refine Tr.ret ?_
    refine retT.of rfl ?_ ?_
    · rfl
    · rfl
  have hok : (lookL L p).2 = true := by
    cases h1 : (lookL L p).2 with
    | true => rfl
    | false => rw [h1] at c1; simp at c1
  obtain ⟨hp0, hpath⟩ := look_path hok
  rw [hpath]
  obtain ⟨rest, hr⟩ := h.root
  have hL1 : 1 ≤ L.length := by rw [hr]; simp
  have hns := absL_ok p
  refine Tr.skip ?_; refine Tr.seq ?_; refine Tr.region ?_; refine TrL.quiets 1 rfl (by exact True.intro) ?_; refine TrL.nil ?_
  change Tr _ _ _ _ _ _
  refine Tr.nilRow 7 9 .str rfl ?_
  refine Tr.seq ?_; refine Tr.seq ?_; refine Tr.region ?_; refine TrL.quiets 1 rfl (by exact True.intro) ?_; refine TrL.nil ?_; refine Tr.block ?_
  refine Tr.loop (fun i : Nat => ⟨[(0, [], .ptr 0 0), (5, [], .ptr 2 0), (7, [], .own 3), (8, [], vI i)], rT (L.map entOf) ++ [.box 30 [vS (absT (absL p)), vB (lookL L p).1.2.1, vS (lookL L p).1.2.2], .gs 9 .str (kids (L.take i) (absL p))]⟩) (fun i => 1 ≤ i ∧ i ≤ L.length) (fun i => L.length - i) 1 [0, 5, 7, 8] 4 hB4 ?_ ⟨Nat.le_refl _, hL1⟩ fun i hi => ?_
  · rw [show kids (L.take 1) (absL p) = [] by rw [hr]; simp [kids, kidOf]]
    rfl
  obtain ⟨hi0, hi⟩ := hi
  refine Tr.seq ?_; refine Tr.seq ?_; refine Tr.region ?_; refine TrL.quiets 7 rfl (by exact True.intro) ?_; refine TrL.nil ?_
  refine Tr.cond rfl (fun c2 => ?_) (fun c2 => ?_)
  · have hi1 : i < L.length := by
      have : (i : Int) < ((L.map entOf).length : Int) := by simpa using c2
      rw [List.length_map] at this
      omega
    have hmem : L[i] ∈ L := List.getElem_mem hi1
    have hnth : nth (t := eTy) (L.map entOf) (i : Int) = entOf L[i] := by
      rw [nth_get' (t := eTy) _ _ (by rw [List.length_map]; exact hi1), List.getElem_map]
    have hne : (L[i]).1 ≠ [] := by
      intro h0
      have h1 : L[0]? = some ([], true, []) := by rw [hr]; rfl
      have h2 := h.nodup
      unfold List.Nodup at h2
      rw [List.pairwise_map] at h2
      have h3 := List.pairwise_iff_getElem.1 h2 0 i (by omega) hi1 (by omega)
      apply h3
      rw [h0]
      have h4 := List.getElem?_eq_getElem (l := L) (i := 0) (by omega)
      rw [h1] at h4
      rw [← Option.some.inj h4]
    have hokn := h.ok _ hmem
    have hlen := hpl _ hmem
    have hkids : kids (L.take (i + 1)) (absL p) = kids (L.take i) (absL p) ++ (match kidOf (absL p) L[i] with | some x => [x] | none => []) := by
      rw [List.take_succ_eq_append_getElem hi1, kids_append]
      congr 1
      unfold kids
      rw [List.filterMap_cons]
      cases kidOf (absL p) L[i] <;> rfl
    have hkl : (kids (L.take i) (absL p)).length ≤ 1000000 := by
      have := kids_len (L.take i) (absL p)
      rw [List.length_take] at this
      omega
    have hE : entOf L[i] = (absT (L[i]).1, (L[i]).2.1, (L[i]).2.2) := rfl
    generalize L[i] = e at hnth hne hokn hlen hkids hE
    obtain ⟨q, qd, qt⟩ := e
    dsimp only at hne hokn hlen hE
    obtain ⟨ms, x, rfl⟩ := snoc_of hne
    have hmsok : okL ms := fun z hz => hokn z (by simp [hz])
    have hxok : okN x := hokn x (by simp)
    have hq : absT (ms ++ [x]) = flatS ms ++ 47 :: x := by
      rw [absT_flat (by simp), flatS_snoc]
      simp
    have hdrop : (flatS ms ++ 47 :: x).drop (cutS (flatS ms ++ 47 :: x)) = x := by
      rw [cutS_behind _ _ hxok.2.1, List.drop_append, List.drop_of_length_le (by omega)]
      simp
    have hql : (flatS ms ++ 47 :: x).length = (flatS ms).length + 1 + x.length := by
      rw [List.length_append, List.length_cons]
      omega
    rw [hq] at hlen
    have hkid : kidOf (absL p) (ms ++ [x], qd, qt) = if ms = absL p then some x else none := by
      unfold kidOf
      by_cases hm : ms = absL p
      · rw [if_pos hm, if_pos ⟨by simp, by simpa using hm⟩]
        simp
      · rw [if_neg hm, if_neg (fun hc => hm (by simpa using hc.2))]
    refine Tr.skip ?_; refine Tr.seq ?_; refine Tr.block ?_; refine Tr.seq ?_; refine Tr.region ?_; refine TrL.quiets 9 rfl (by (simp [allOf, impO, imp, inR, loOk] <;> omega)) ?_; refine TrL.nil ?_; refine Tr.seq ?_; refine Tr.region ?_; refine TrL.quiets 1 rfl (by exact True.intro) ?_
    refine TrL.is 9 (sv' := vS (flatS ms ++ 47 :: x)) rfl (by rw [hnth, hE, hq]) ?_
    refine TrL.is 42 (sv' := vS (flatS ms ++ 47 :: x)) rfl (by rw [hnth, hE, hq]) ?_
    first | refine TrL.callV rfl rfl rfl rfl rfl (c_Notdir (flatS ms ++ 47 :: x) (by omega)) ?_ | refine TrD.callV rfl rfl rfl rfl rfl (c_Notdir (flatS ms ++ 47 :: x) (by omega)) rfl ?_
    rw [hdrop]
    have ew : IntKind.i64.wrap (IntKind.i64.wrap (((flatS ms ++ 47 :: x).length : Int) - (x.length : Int)) - 1) = ((flatS ms).length : Int) := by
      rw [hql, w64 (x := (((flatS ms).length + 1 + x.length : Nat) : Int) - (x.length : Int)) (by omega) (by omega), w64 (by omega) (by omega)]
      omega
    have hcut : cut (flatS ms ++ 47 :: x) none (some ((flatS ms).length : Int)) = flatS ms := by
      simp only [cut, Int.toNat_natCast]
      rw [List.take_append_of_le_length (Nat.le_refl _), List.take_length]
    refine TrL.quiets 1 rfl (by exact True.intro) ?_; refine TrL.nil ?_; refine Tr.seq ?_; refine Tr.region ?_; refine TrL.quiets 9 rfl (by (simp only [allOf, impO, imp, inR, loOk, and_true]; omega)) ?_; refine TrL.nil ?_; refine Tr.seq ?_; refine Tr.seq ?_; refine Tr.region ?_; refine TrL.quiets 2 rfl (by exact True.intro) ?_; refine TrL.nil ?_
    refine Tr.cond rfl (fun c3 => ?_) (fun c3 => ?_)
    · have hms0 : ms = [] := by
        rw [ew, hcut] at c3
        have : flatS ms = [] := by simpa using c3
        cases ms with
        | nil => rfl
        | cons a b => simp [flatS] at this
      have hams : absT ms = [47] := by rw [hms0]; rfl
      refine Tr.region ?_; refine TrL.quiets 1 rfl (by exact True.intro) ?_; refine TrL.nil ?_; refine Tr.seq ?_; refine Tr.region ?_; refine TrL.quiets 4 rfl (by exact True.intro) ?_; refine TrL.nil ?_
      refine Tr.cond rfl (fun c4 => ?_) (fun c4 => ?_)
      · have hm : ms = absL p := absT_inj hmsok hns (by rw [hams]; simpa using c4)
        rw [hkid, if_pos hm] at hkids
        refine Tr.region ?_; refine TrL.quiets 2 rfl (by exact True.intro) ?_; refine TrL.eff (effLit_sound rfl) (by exact True.intro) ?_; refine TrL.eff (effAppend_sound rfl) ?_ ?_
        · show (kids (L.take i) (absL p)).length + 1 ≤ 1099511627776
          omega
        refine TrL.quiets 1 rfl (by exact True.intro) ?_; refine TrL.nil ?_; refine Tr.region ?_; refine TrL.quiets 3 rfl (by exact True.intro) ?_; refine TrL.nil ?_
        refine ⟨i + 1, ⟨by omega, hi1⟩, by dsimp only; omega, ?_⟩
        refine Eq.trans (b := (⟨[(0, [], .ptr 0 0), (5, [], .ptr 2 0), (7, [], .own 3), (8, [], vI (IntKind.i64.wrap ((i : Int) + 1)))], rT (L.map entOf) ++ [.box 30 [vS (absT (absL p)), vB (lookL L p).1.2.1, vS (lookL L p).1.2.2], .gs 9 .str (kids (L.take i) (absL p) ++ [x])]⟩ : St)) rfl ?_
        dsimp only
        rw [hkids, w64n (y := i + 1) (by omega) (by omega)]
      · have hm : ms ≠ absL p := fun e => by
          rw [← e, hams] at c4
          simp at c4
        rw [hkid, if_neg hm] at hkids
        refine Tr.skip ?_; refine Tr.region ?_; refine TrL.quiets 3 rfl (by exact True.intro) ?_; refine TrL.nil ?_
        refine ⟨i + 1, ⟨by omega, hi1⟩, by dsimp only; omega, ?_⟩
        refine Eq.trans (b := (⟨[(0, [], .ptr 0 0), (5, [], .ptr 2 0), (7, [], .own 3), (8, [], vI (IntKind.i64.wrap ((i : Int) + 1)))], rT (L.map entOf) ++ [.box 30 [vS (absT (absL p)), vB (lookL L p).1.2.1, vS (lookL L p).1.2.2], .gs 9 .str (kids (L.take i) (absL p))]⟩ : St)) rfl ?_
        dsimp only
        rw [hkids, w64n (y := i + 1) (by omega) (by omega), List.append_nil]
    · have hms0 : ms ≠ [] := by
        rintro rfl
        rw [ew, hcut] at c3
        simp [flatS] at c3
      have hams := absT_flat hms0
      refine Tr.skip ?_; refine Tr.seq ?_; refine Tr.region ?_; refine TrL.quiets 4 rfl (by exact True.intro) ?_; refine TrL.nil ?_
      refine Tr.cond rfl (fun c4 => ?_) (fun c4 => ?_)
      · have hm : ms = absL p := absT_inj hmsok hns (by rw [hams]; rw [ew, hcut] at c4; simpa using c4)
        rw [hkid, if_pos hm] at hkids
        refine Tr.region ?_; refine TrL.quiets 2 rfl (by exact True.intro) ?_; refine TrL.eff (effLit_sound rfl) (by exact True.intro) ?_; refine TrL.eff (effAppend_sound rfl) ?_ ?_
        · show (kids (L.take i) (absL p)).length + 1 ≤ 1099511627776
          omega
        refine TrL.quiets 1 rfl (by exact True.intro) ?_; refine TrL.nil ?_; refine Tr.region ?_; refine TrL.quiets 3 rfl (by exact True.intro) ?_; refine TrL.nil ?_
        refine ⟨i + 1, ⟨by omega, hi1⟩, by dsimp only; omega, ?_⟩
        refine Eq.trans (b := (⟨[(0, [], .ptr 0 0), (5, [], .ptr 2 0), (7, [], .own 3), (8, [], vI (IntKind.i64.wrap ((i : Int) + 1)))], rT (L.map entOf) ++ [.box 30 [vS (absT (absL p)), vB (lookL L p).1.2.1, vS (lookL L p).1.2.2], .gs 9 .str (kids (L.take i) (absL p) ++ [x])]⟩ : St)) rfl ?_
        dsimp only
        rw [hkids, w64n (y := i + 1) (by omega) (by omega)]
      · have hm : ms ≠ absL p := fun e => by
          rw [ew, hcut, ← e, hams] at c4
          simp at c4
        rw [hkid, if_neg hm] at hkids
        refine Tr.skip ?_; refine Tr.region ?_; refine TrL.quiets 3 rfl (by exact True.intro) ?_; refine TrL.nil ?_
        refine ⟨i + 1, ⟨by omega, hi1⟩, by dsimp only; omega, ?_⟩
        refine Eq.trans (b := (⟨[(0, [], .ptr 0 0), (5, [], .ptr 2 0), (7, [], .own 3), (8, [], vI (IntKind.i64.wrap ((i : Int) + 1)))], rT (L.map entOf) ++ [.box 30 [vS (absT (absL p)), vB (lookL L p).1.2.1, vS (lookL L p).1.2.2], .gs 9 .str (kids (L.take i) (absL p))]⟩ : St)) rfl ?_
        dsimp only
        rw [hkids, w64n (y := i + 1) (by omega) (by omega), List.append_nil]
  · have hi1 : i = L.length := by
      have : ¬ (i : Int) < ((L.map entOf).length : Int) := by simpa using c2
      rw [List.length_map] at this
      omega
    subst hi1
    rw [List.take_length]
    have hkl := kids_len L (absL p)
    refine Tr.exit ?_; refine Tr.seq ?_; refine Tr.region ?_; refine TrL.quiets 1 rfl (by exact True.intro) ?_
    first | refine TrL.callV rfl rfl rfl rfl rfl (c_refSort (kids L (absL p)) (by omega)) ?_ | refine TrD.callV rfl rfl rfl rfl rfl (c_refSort (kids L (absL p)) (by omega)) rfl ?_
    rw [usort_nodup (kids_nodup h _)]
    refine TrL.quiets 1 rfl (by exact True.intro) ?_; refine TrL.nil ?_; refine Tr.ret ?_
    refine retT.of rfl ?_ ?_
    · unfold listL
      rw [if_neg hp0]
    · rfl

/-- A variable that holds a row, told as the list. -/
theorem SRel.read {cx : Cx} {n : Nat} {env : Env} {tab : List Ent} {a : Act} {w : World} (d : Nat) {sv : SV} (hl : look env d = some ([], sv)) (h : SRel cx n ⟨env, tab⟩ a w) : SRel cx n ⟨(d, [], res tab sv) :: env, tab⟩ a w := by
  obtain ⟨σ, ρ, hw, he, hn, hd⟩ : ∃ σ ρ, WR cx σ ρ tab w ∧ EnvA σ ρ env a ∧ a.tmps.size = n ∧ a.defers = cx.ds := h
  refine ⟨σ, ρ, hw, ?_, hn, hd⟩
  intro s ch v hl'
  simp only [look] at hl'
  split at hl'
  · rename_i hs
    simp only [beq_iff_eq] at hs
    subst hs
    obtain ⟨rfl, rfl⟩ : [] = ch ∧ res tab sv = v := by simpa using hl'
    have h1 := he d [] _ hl
    refine ⟨fun hf => ?_, h1.2⟩
    obtain ⟨v, hv, hdv⟩ := h1.1 hf
    exact ⟨v, hv, res_den hw hdv⟩
  · exact he s ch v hl'
theorem TrL.read {P : Program} {cx : Cx} {n : Nat} {env : Env} {tab : List Ent} {Q : Post} {ops : Array Oper} {c : List Oper} (d : Nat) {sv sv' : SV} (hl : look env d = some ([], sv)) (e : res tab sv = sv') (h : TrL P cx n ops c ⟨(d, [], sv') :: env, tab⟩ Q) : TrL P cx n ops c ⟨env, tab⟩ Q :=
  TrL.of h fun a w hs => e ▸ hs.read d hl
def namesL (L : List Fent) : List Str := L.tail.map fun e => absT e.1
theorem tail_facts {L : List Fent} (h : FsOk L) : (namesL L).Nodup ∧ ((L.tail.map entOf).map (·.1)).Nodup ∧ ∀ e ∈ L.tail, e ∈ L := by
  obtain ⟨rest, hr⟩ := h.root
  have h1 := paths_nodup h
  rw [hr, List.map_cons, List.nodup_cons] at h1
  refine ⟨?_, ?_, fun e he => List.mem_of_mem_tail he⟩
  · unfold namesL
    rw [hr]
    exact h1.2
  · rw [List.map_map, hr]
    exact h1.2
theorem look_name {L : List Fent} (h : FsOk L) {e : Fent} (he : e ∈ L) : (lookL L (absT e.1)).1 = entOf e := by
  unfold lookL
  rw [if_neg (absT_ne _), absL_absT _ (h.ok e he), findE_mem h he]
theorem allL_names {L : List Fent} (h : FsOk L) : (sortS (namesL L)).map (fun n => (lookL L n).1) = allL L := by
  obtain ⟨h1, h2, h3⟩ := tail_facts h
  unfold allL
  refine sortE_unique h2 ?_ ?_
  · refine ((sortS_perm (namesL L)).map _).trans ?_
    unfold namesL
    rw [List.map_map]
    have : ∀ l : List Fent, (∀ e ∈ l, e ∈ L) → l.map ((fun n => (lookL L n).1) ∘ fun e => absT e.1) = l.map entOf := fun l hl => List.map_congr_left fun e he => look_name h (hl e he)
    rw [this _ h3]
  · rw [List.pairwise_map]
    refine (List.Pairwise.and_mem.1 (sortS_sorted (namesL L))).imp ?_
    intro a b hab
    have key : ∀ n, n ∈ sortS (namesL L) → ((lookL L n).1).1 = n := by
      intro n hn
      obtain ⟨e, he, rfl⟩ := List.mem_map.1 ((sortS_perm _).mem_iff.1 hn)
      rw [look_name h (h3 e he)]
      rfl
    rw [key a hab.1, key b hab.2.1]
    exact hab.2.2
theorem c_refAll {L : List Fent} (h : FsOk L) (hlim : FsLim L) : CallT Tryd.prog 18 [.ptr 0 0] (rT (L.map entOf)) (vL eTy (allL L)) (rT (L.map entOf)) := by
  obtain ⟨hL, hpl⟩ := hlim
  have hEl : (L.map entOf).length ≤ 1000000 := by rw [List.length_map]; exact hL
  obtain ⟨rest, hr⟩ := h.root
  have hL1 : 1 ≤ L.length := by rw [hr]; simp
  refine CallT.of Tryd.func18 (by kernel_rfl) rfl Tryd.ntmps18 (by simp) (by simp) fun cx hB => ?_
  have hB3 : ∀ i, cx.B i = true → i < 3 := fun i h => Nat.lt_of_lt_of_le (hB i h) (show 2 ≤ 3 by decide)
  refine Tr.seq ?_; refine Tr.region ?_; refine TrL.quiets 1 rfl (by exact True.intro) ?_; refine TrL.nil ?_; refine Tr.seq ?_; refine Tr.region ?_; refine TrL.quiets 1 rfl (by exact True.intro) ?_; refine TrL.nil ?_
  change Tr _ _ _ _ _ _
  refine Tr.nilRow 3 9 .str rfl ?_
  refine Tr.seq ?_; refine Tr.seq ?_; refine Tr.region ?_; refine TrL.quiets 1 rfl (by exact True.intro) ?_; refine TrL.nil ?_; refine Tr.block ?_
  refine Tr.loop (fun i : Nat => ⟨[(0, [], .ptr 0 0), (3, [], .own 2), (4, [], vI i)], rT (L.map entOf) ++ [.gs 9 .str (namesL (L.take i))]⟩) (fun i => 1 ≤ i ∧ i ≤ L.length) (fun i => L.length - i) 1 [0, 3, 4] 3 hB3 ?_ ⟨Nat.le_refl _, hL1⟩ fun i hi => ?_
  · rw [show namesL (L.take 1) = [] by rw [hr]; rfl]
    rfl
  obtain ⟨hi0, hi⟩ := hi
  refine Tr.seq ?_; refine Tr.seq ?_; refine Tr.region ?_; refine TrL.quiets 7 rfl (by exact True.intro) ?_; refine TrL.nil ?_
  refine Tr.cond rfl (fun c2 => ?_) (fun c2 => ?_)
  · have hi1 : i < L.length := by
      have : (i : Int) < ((L.map entOf).length : Int) := by simpa using c2
      rw [List.length_map] at this
      omega
    have hnth : nth (t := eTy) (L.map entOf) (i : Int) = entOf L[i] := by
      rw [nth_get' (t := eTy) _ _ (by rw [List.length_map]; exact hi1), List.getElem_map]
    have hst : namesL (L.take (i + 1)) = namesL (L.take i) ++ [absT (L[i]).1] := by
      unfold namesL
      rw [List.take_succ_eq_append_getElem hi1, List.tail_append_of_ne_nil (by intro e; have := congrArg List.length e; rw [List.length_take, List.length_nil] at this; omega), List.map_append]
      rfl
    have hnl : (namesL (L.take i)).length ≤ 1000000 := by
      unfold namesL
      rw [List.length_map, List.length_tail, List.length_take]
      omega
    refine Tr.skip ?_; refine Tr.seq ?_; refine Tr.block ?_; refine Tr.region ?_; refine TrL.quiets 9 rfl (by (simp [allOf, impO, imp, inR, loOk] <;> omega)) ?_; refine TrL.eff (effLit_sound rfl) (by exact True.intro) ?_; refine TrL.eff (effAppend_sound rfl) ?_ ?_
    · show (namesL (L.take i)).length + 1 ≤ 1099511627776
      omega
    refine TrL.quiets 1 rfl (by exact True.intro) ?_; refine TrL.nil ?_; refine Tr.region ?_; refine TrL.quiets 3 rfl (by exact True.intro) ?_; refine TrL.nil ?_
    refine ⟨i + 1, ⟨by omega, hi1⟩, by dsimp only; omega, ?_⟩
    refine Eq.trans (b := (⟨[(0, [], .ptr 0 0), (3, [], .own 2), (4, [], vI (IntKind.i64.wrap ((i : Int) + 1)))], rT (L.map entOf) ++ [.gs 9 .str (namesL (L.take i) ++ [(nth (t := eTy) (L.map entOf) (i : Int)).1])]⟩ : St)) rfl ?_
    dsimp only
    rw [hst, w64n (y := i + 1) (by omega) (by omega), hnth]
    rfl
  have hi1 : i = L.length := by
    have : ¬ (i : Int) < ((L.map entOf).length : Int) := by simpa using c2
    rw [List.length_map] at this
    omega
  subst hi1
  rw [List.take_length]
  obtain ⟨t1, t2, t3⟩ := tail_facts h
  have hnl : (namesL L).length ≤ 1000000 := by
    unfold namesL
    rw [List.length_map, List.length_tail]
    omega
  refine Tr.exit ?_; refine Tr.seq ?_; refine Tr.region ?_; refine TrL.quiets 1 rfl (by exact True.intro) ?_
  first | refine TrL.callV rfl rfl rfl rfl rfl (c_refSort (namesL L) (by omega)) ?_ | refine TrD.callV rfl rfl rfl rfl rfl (c_refSort (namesL L) (by omega)) rfl ?_
  rw [usort_nodup t1]
  have hall := allL_names h
  have hSl : (sortS (namesL L)).length ≤ 1000000 := by rw [(sortS_perm _).length_eq]; exact hnl
  have hSm : ∀ n ∈ sortS (namesL L), ∃ e ∈ L, n = absT e.1 := by
    intro n hn
    obtain ⟨e, he, rfl⟩ := List.mem_map.1 ((sortS_perm _).mem_iff.1 hn)
    exact ⟨e, t3 e he, rfl⟩
  generalize sortS (namesL L) = S at hall hSl hSm
  rw [← hall]
  refine TrL.quiets 1 rfl (by exact True.intro) ?_; refine TrL.nil ?_; refine Tr.seq ?_; refine Tr.region ?_; refine TrL.quiets 1 rfl (by exact True.intro) ?_; refine TrL.nil ?_
  change Tr _ _ _ _ _ _
  refine Tr.nilRow 5 30 eTy rfl ?_
  have hB4 : ∀ i, cx.B i = true → i < 4 := fun i h => Nat.lt_of_lt_of_le (hB i h) (show 2 ≤ 4 by decide)
  refine Tr.seq ?_; refine Tr.seq ?_; refine Tr.region ?_; refine TrL.quiets 1 rfl (by exact True.intro) ?_; refine TrL.nil ?_; refine Tr.block ?_
  refine Tr.loop (fun i : Nat => ⟨[(0, [], .ptr 0 0), (3, [], vL .str S), (5, [], .own 3), (6, [], vI i)], rT (L.map entOf) ++ [.gs 9 .str (namesL L), .gs 30 eTy ((S.take i).map fun n => (lookL L n).1)]⟩) (fun i => i ≤ S.length) (fun i => S.length - i) 0 [0, 3, 5, 6] 4 hB4 rfl (Nat.zero_le _) fun i hi => ?_
  refine Tr.seq ?_; refine Tr.seq ?_; refine Tr.region ?_; refine TrL.quiets 4 rfl (by exact True.intro) ?_; refine TrL.nil ?_
  refine Tr.cond rfl (fun c3 => ?_) (fun c3 => ?_)
  · have hi1 : i < S.length := by simpa using c3
    have hnth : nth (t := .str) S (i : Int) = S[i] := nth_get' (t := .str) _ _ hi1
    obtain ⟨e, he, hSe⟩ := hSm _ (List.getElem_mem hi1)
    have hst : (S.take (i + 1)).map (fun n => (lookL L n).1) = (S.take i).map (fun n => (lookL L n).1) ++ [entOf e] := by
      rw [List.take_succ_eq_append_getElem hi1, List.map_append, List.map_singleton, hSe, look_name h he]
    rw [hSe] at hnth
    obtain ⟨k, hk, hk1, hk2⟩ := posYes h.ok (h.ok e he) (hasP_iff.2 ⟨e, he, rfl⟩)
    have hke : L[k] = e := nodup_eq h.nodup (List.getElem_mem hk) he hk2
    have hkn : nth (t := eTy) (L.map entOf) (k : Int) = entOf e := by
      rw [nth_get' (t := eTy) _ _ (by rw [List.length_map]; exact hk), List.getElem_map, hke]
    have hkl : k < (L.map entOf).length := by rw [List.length_map]; exact hk
    have hol : ((S.take i).map fun n => (lookL L n).1).length ≤ 1000000 := by
      rw [List.length_map, List.length_take]
      omega
    refine Tr.skip ?_; refine Tr.seq ?_; refine Tr.block ?_
    refine Tr.drawA 16 rfl (by kernel_rfl) ?_
    refine TrA.take 0 rfl rfl (by kernel_rfl) rfl (by exact True.intro) ?_; refine TrA.take 1 rfl rfl (by kernel_rfl) rfl (by exact True.intro) ?_; refine TrA.take 2 rfl rfl (by kernel_rfl) rfl (by exact True.intro) ?_; refine TrA.take 3 rfl rfl (by kernel_rfl) rfl (by exact True.intro) ?_; refine TrA.take 5 rfl rfl (by kernel_rfl) rfl (by exact True.intro) ?_; refine TrA.take 6 rfl rfl (by kernel_rfl) rfl (by exact True.intro) ?_; refine TrA.take 7 rfl rfl (by kernel_rfl) rfl (by exact True.intro) ?_; refine TrA.take 8 rfl rfl (by kernel_rfl) rfl (by (simp only [holds, impO, imp, inR]; omega)) ?_; refine TrA.two 4 9 (by kernel_rfl) rfl rfl ?_ ?_
    · refine TrL.quiets 1 rfl (by exact True.intro) ?_; refine TrL.nil ?_; refine TrA.one 9 (by kernel_rfl) rfl ?_; refine TrL.quiets 1 rfl (by exact True.intro) ?_; refine TrL.nil ?_; refine TrA.one 10 (by kernel_rfl) rfl ?_
      refine TrL.read 39 (sv' := vL eTy (L.map entOf)) rfl rfl ?_
      refine TrL.is 44 (sv' := vS (absT e.1)) rfl (congrArg vS hnth) ?_
      refine TrL.callT [0, 1] rfl rfl rfl rfl rfl (c_find (L.map entOf) (absT e.1) (by omega)) rfl rfl rfl ?_
      rw [hk1]
      refine TrL.nil ?_; refine TrA.take 11 rfl rfl (by kernel_rfl) rfl (by (simp only [holds, impO, imp, inR]; omega)) ?_; refine TrA.one 12 (by kernel_rfl) rfl ?_; refine TrL.quiets 1 rfl (by exact True.intro) ?_; refine TrL.nil ?_; refine TrA.one 13 (by kernel_rfl) rfl ?_; refine TrL.eff (effLit_sound rfl) (by exact True.intro) ?_; refine TrL.nil ?_; refine TrA.one 14 (by kernel_rfl) rfl ?_; refine TrL.eff (effAppend_sound rfl) ?_ ?_
      · show ((S.take i).map fun n => (lookL L n).1).length + 1 ≤ 1099511627776
        omega
      refine TrL.nil ?_; refine TrA.take 15 rfl rfl (by kernel_rfl) rfl (by exact True.intro) ?_; refine TrA.done (by kernel_rfl) ?_; refine Tr.region ?_; refine TrL.quiets 3 rfl (by exact True.intro) ?_; refine TrL.nil ?_
      refine ⟨i + 1, hi1, by dsimp only; omega, ?_⟩
      refine Eq.trans (b := (⟨[(0, [], .ptr 0 0), (3, [], vL .str S), (5, [], .own 3), (6, [], vI (IntKind.i64.wrap ((i : Int) + 1)))], rT (L.map entOf) ++ [.gs 9 .str (namesL L), .gs 30 eTy ((S.take i).map (fun n => (lookL L n).1) ++ [nth (t := eTy) (L.map entOf) (k : Int)])]⟩ : St)) rfl ?_
      dsimp only
      rw [hst, w64n (y := i + 1) (by omega) (by omega), hkn]
    · refine TrL.quiets 1 rfl (by exact True.intro) ?_; refine TrL.nil ?_; refine TrA.two 4 10 (by kernel_rfl) rfl rfl ?_ ?_
      · refine TrL.quiets 1 rfl (by exact True.intro) ?_; refine TrL.nil ?_; refine TrA.one 10 (by kernel_rfl) rfl ?_
        refine TrL.read 39 (sv' := vL eTy (L.map entOf)) rfl rfl ?_
        refine TrL.is 44 (sv' := vS (absT e.1)) rfl (congrArg vS hnth) ?_
        refine TrL.callT [0, 1] rfl rfl rfl rfl rfl (c_find (L.map entOf) (absT e.1) (by omega)) rfl rfl rfl ?_
        rw [hk1]
        refine TrL.nil ?_; refine TrA.take 11 rfl rfl (by kernel_rfl) rfl (by (simp only [holds, impO, imp, inR]; omega)) ?_; refine TrA.one 12 (by kernel_rfl) rfl ?_; refine TrL.quiets 1 rfl (by exact True.intro) ?_; refine TrL.nil ?_; refine TrA.one 13 (by kernel_rfl) rfl ?_; refine TrL.eff (effLit_sound rfl) (by exact True.intro) ?_; refine TrL.nil ?_; refine TrA.one 14 (by kernel_rfl) rfl ?_; refine TrL.eff (effAppend_sound rfl) ?_ ?_
        · show ((S.take i).map fun n => (lookL L n).1).length + 1 ≤ 1099511627776
          omega
        refine TrL.nil ?_; refine TrA.take 15 rfl rfl (by kernel_rfl) rfl (by exact True.intro) ?_; refine TrA.done (by kernel_rfl) ?_; refine Tr.region ?_; refine TrL.quiets 3 rfl (by exact True.intro) ?_; refine TrL.nil ?_
        refine ⟨i + 1, hi1, by dsimp only; omega, ?_⟩
        refine Eq.trans (b := (⟨[(0, [], .ptr 0 0), (3, [], vL .str S), (5, [], .own 3), (6, [], vI (IntKind.i64.wrap ((i : Int) + 1)))], rT (L.map entOf) ++ [.gs 9 .str (namesL L), .gs 30 eTy ((S.take i).map (fun n => (lookL L n).1) ++ [nth (t := eTy) (L.map entOf) (k : Int)])]⟩ : St)) rfl ?_
        dsimp only
        rw [hst, w64n (y := i + 1) (by omega) (by omega), hkn]
      · refine TrL.is 44 (sv' := vS (absT e.1)) rfl (congrArg vS hnth) ?_
        refine TrL.callT [0, 1] rfl rfl rfl rfl rfl (c_find (L.map entOf) (absT e.1) (by omega)) rfl rfl rfl ?_
        rw [hk1]
        refine TrL.nil ?_; refine TrA.one 4 (by kernel_rfl) rfl ?_; refine TrL.quiets 1 rfl (by exact True.intro) ?_; refine TrL.nil ?_; refine TrA.take 11 rfl rfl (by kernel_rfl) rfl (by (simp only [holds, impO, imp, inR]; omega)) ?_; refine TrA.one 12 (by kernel_rfl) rfl ?_; refine TrL.quiets 1 rfl (by exact True.intro) ?_; refine TrL.nil ?_; refine TrA.one 13 (by kernel_rfl) rfl ?_; refine TrL.eff (effLit_sound rfl) (by exact True.intro) ?_; refine TrL.nil ?_; refine TrA.one 14 (by kernel_rfl) rfl ?_; refine TrL.eff (effAppend_sound rfl) ?_ ?_
        · show ((S.take i).map fun n => (lookL L n).1).length + 1 ≤ 1099511627776
          omega
        refine TrL.nil ?_; refine TrA.take 15 rfl rfl (by kernel_rfl) rfl (by exact True.intro) ?_; refine TrA.done (by kernel_rfl) ?_; refine Tr.region ?_; refine TrL.quiets 3 rfl (by exact True.intro) ?_; refine TrL.nil ?_
        refine ⟨i + 1, hi1, by dsimp only; omega, ?_⟩
        refine Eq.trans (b := (⟨[(0, [], .ptr 0 0), (3, [], vL .str S), (5, [], .own 3), (6, [], vI (IntKind.i64.wrap ((i : Int) + 1)))], rT (L.map entOf) ++ [.gs 9 .str (namesL L), .gs 30 eTy ((S.take i).map (fun n => (lookL L n).1) ++ [nth (t := eTy) (L.map entOf) (k : Int)])]⟩ : St)) rfl ?_
        dsimp only
        rw [hst, w64n (y := i + 1) (by omega) (by omega), hkn]
  · have hi1 : i = S.length := by
      have : ¬ (i : Int) < S.length := by simpa using c3
      omega
    subst hi1
    rw [List.take_length]
    refine Tr.exit ?_; refine Tr.seq ?_; refine Tr.region ?_; refine TrL.quiets 2 rfl (by exact True.intro) ?_; refine TrL.nil ?_; refine Tr.ret ?_
    refine retT.of rfl ?_ ?_
    · rfl
    · rfl
end Go.Proofs.YtgmjkciinnjpbaaDoor.Sx
