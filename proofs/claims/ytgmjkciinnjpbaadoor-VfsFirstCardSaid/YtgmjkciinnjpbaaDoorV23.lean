/-
  ref01: Same; ref06: Same, find.
  ref06: put.
  ref06: New, Look.
-/
import Derived.Test.YtgmjkciinnjpbaaDoorV20
import Derived.Test.YtgmjkciinnjpbaaDoorV9
import Derived.Test.YtgmjkciinnjpbaaDoorV12
import Derived.Test.YtgmjkciinnjpbaaDoorM7
set_option linter.unusedVariables false
set_option linter.unusedSimpArgs false
set_option maxRecDepth 20000
set_option maxHeartbeats 4000000
namespace Go.Proofs.YtgmjkciinnjpbaaDoor.Sx
open Go Go.Proofs Go.RowKit

theorem take_same {α : Type} {a b : List α} {i : Nat} (hl : a.length = b.length) (hi : i < a.length) (h : a.take i = b.take i) (he : a[i] = b[i]'(by omega)) : a.take (i + 1) = b.take (i + 1) := by
  rw [List.take_succ_eq_append_getElem hi, List.take_succ_eq_append_getElem (by omega), h, he]
theorem c_Same (a b : List Str) (ha : a.length ≤ 1099511627) : CallV Tryd.prog 13 [vL .str a, vL .str b] (vB (decide (a = b))) := by
  refine CallV.of Tryd.func13 (by kernel_rfl) rfl Tryd.ntmps13 (by simp) rfl fun cx hB => ?_
  refine Tr.seq ?_; refine Tr.region ?_; refine TrL.quiets 1 rfl (by exact True.intro) ?_; refine TrL.nil ?_; refine Tr.seq ?_; refine Tr.seq ?_; refine Tr.region ?_; refine TrL.quiets 5 rfl (by exact True.intro) ?_; refine TrL.nil ?_
  refine Tr.cond rfl (fun c1 => ?_) (fun c1 => ?_)
  · have hl : a.length ≠ b.length := by
      have : (a.length : Int) ≠ b.length := by simpa using c1
      omega
    refine Tr.seq ?_; refine Tr.region ?_; refine TrL.quiets 1 rfl (by exact True.intro) ?_; refine TrL.nil ?_; refine Tr.ret ?_
    refine retQ.of rfl ?_
    rw [decide_eq_false (fun h => hl (by rw [h]))]
  have hl : a.length = b.length := by
    have : (a.length : Int) = b.length := by simpa using c1
    omega
  refine Tr.skip ?_; refine Tr.seq ?_; refine Tr.seq ?_; refine Tr.region ?_; refine TrL.quiets 1 rfl (by exact True.intro) ?_; refine TrL.nil ?_; refine Tr.block ?_
  refine Tr.loop (fun i : Nat => ⟨[(0, [], vL .str a), (1, [], vL .str b), (5, [], vI i)], []⟩) (fun i => i ≤ a.length ∧ a.take i = b.take i) (fun i => a.length - i) 0 [0, 1, 5] 0 (fun i h => hB i h) rfl ⟨Nat.zero_le _, rfl⟩ fun i hi => ?_
  obtain ⟨hi, hs⟩ := hi
  refine Tr.seq ?_; refine Tr.seq ?_; refine Tr.region ?_; refine TrL.quiets 4 rfl (by exact True.intro) ?_; refine TrL.nil ?_
  refine Tr.cond rfl (fun c2 => ?_) (fun c2 => ?_)
  · have hi1 : i < a.length := by simpa using c2
    have n1 : nth (t := .str) a (i : Int) = a[i] := nth_get' (t := .str) _ _ hi1
    have n2 : nth (t := .str) b (i : Int) = b[i] := nth_get' (t := .str) _ _ (by omega)
    refine Tr.skip ?_; refine Tr.seq ?_; refine Tr.block ?_; refine Tr.seq ?_; refine Tr.draw (by kernel_rfl) (by kernel_rfl) ?_; refine TrD.quiets 9 rfl (by (simp only [allOf, impO, imp, inR, loOk, and_true]; omega)) ?_; refine TrD.nil ?_
    refine Tr.cond rfl (fun c3 => ?_) (fun c3 => ?_)
    · rw [n1, n2] at c3
      refine Tr.seq ?_; refine Tr.region ?_; refine TrL.quiets 1 rfl (by exact True.intro) ?_; refine TrL.nil ?_; refine Tr.ret ?_
      refine retQ.of rfl ?_
      rw [decide_eq_false]
      rintro rfl
      simp at c3
    · rw [n1, n2] at c3
      have he : a[i] = b[i]'(by omega) := by simpa using c3
      refine Tr.skip ?_; refine Tr.region ?_; refine TrL.quiets 3 rfl (by exact True.intro) ?_; refine TrL.nil ?_
      refine ⟨i + 1, ⟨hi1, take_same hl hi1 hs he⟩, by dsimp only; omega, ?_⟩
      refine Eq.trans (b := (⟨[(0, [], vL .str a), (1, [], vL .str b), (5, [], vI (IntKind.i64.wrap ((i : Int) + 1)))], []⟩ : St)) rfl ?_
      dsimp only
      rw [w64n (y := i + 1) (by omega) (by omega)]
  · have hi1 : i = a.length := by
      have : ¬ (i : Int) < a.length := by simpa using c2
      omega
    subst hi1
    rw [List.take_length, hl, List.take_length] at hs
    refine Tr.exit ?_; refine Tr.seq ?_; refine Tr.region ?_; refine TrL.quiets 1 rfl (by exact True.intro) ?_; refine TrL.nil ?_; refine Tr.ret ?_
    refine retQ.of rfl ?_
    rw [decide_eq_true hs]
theorem c_Same6 (a b : List EntD) (ha : a.length ≤ 1099511627) : CallV Tryd.prog 16 [vL eTy a, vL eTy b] (vB (decide (a = b))) := by
  refine CallV.of Tryd.func16 (by kernel_rfl) rfl Tryd.ntmps16 (by simp) rfl fun cx hB => ?_
  refine Tr.seq ?_; refine Tr.region ?_; refine TrL.quiets 1 rfl (by exact True.intro) ?_; refine TrL.nil ?_; refine Tr.seq ?_; refine Tr.seq ?_; refine Tr.region ?_; refine TrL.quiets 5 rfl (by exact True.intro) ?_; refine TrL.nil ?_
  refine Tr.cond rfl (fun c1 => ?_) (fun c1 => ?_)
  · have hl : a.length ≠ b.length := by
      have : (a.length : Int) ≠ b.length := by simpa using c1
      omega
    refine Tr.seq ?_; refine Tr.region ?_; refine TrL.quiets 1 rfl (by exact True.intro) ?_; refine TrL.nil ?_; refine Tr.ret ?_
    refine retQ.of rfl ?_
    rw [decide_eq_false (fun h => hl (by rw [h]))]
  have hl : a.length = b.length := by
    have : (a.length : Int) = b.length := by simpa using c1
    omega
  refine Tr.skip ?_; refine Tr.seq ?_; refine Tr.seq ?_; refine Tr.region ?_; refine TrL.quiets 1 rfl (by exact True.intro) ?_; refine TrL.nil ?_; refine Tr.block ?_
  refine Tr.loop (fun i : Nat => ⟨[(0, [], vL eTy a), (1, [], vL eTy b), (5, [], vI i)], []⟩) (fun i => i ≤ a.length ∧ a.take i = b.take i) (fun i => a.length - i) 0 [0, 1, 5] 0 (fun i h => hB i h) rfl ⟨Nat.zero_le _, rfl⟩ fun i hi => ?_
  obtain ⟨hi, hs⟩ := hi
  refine Tr.seq ?_; refine Tr.seq ?_; refine Tr.region ?_; refine TrL.quiets 4 rfl (by exact True.intro) ?_; refine TrL.nil ?_
  refine Tr.cond rfl (fun c2 => ?_) (fun c2 => ?_)
  · have hi1 : i < a.length := by simpa using c2
    have n1 : nth (t := eTy) a (i : Int) = a[i] := nth_get' (t := eTy) _ _ hi1
    have n2 : nth (t := eTy) b (i : Int) = b[i] := nth_get' (t := eTy) _ _ (by omega)
    refine Tr.skip ?_; refine Tr.seq ?_; refine Tr.block ?_; refine Tr.seq ?_; refine Tr.draw (by kernel_rfl) (by kernel_rfl) ?_; refine TrD.quiets 37 rfl (by (simp only [allOf, impO, imp, inR, loOk, and_true]; omega)) ?_; refine TrD.nil ?_
    refine Tr.cond rfl (fun c3 => ?_) (fun c3 => ?_)
    · rw [n1, n2] at c3
      refine Tr.seq ?_; refine Tr.region ?_; refine TrL.quiets 1 rfl (by exact True.intro) ?_; refine TrL.nil ?_; refine Tr.ret ?_
      refine retQ.of rfl ?_
      rw [decide_eq_false]
      rintro rfl
      simp at c3
    · rw [n1, n2] at c3
      have he : a[i] = b[i]'(by omega) := by
        simp only [Bool.or_eq_false_iff, bne_eq_false_iff_eq] at c3
        exact Prod.ext (by simpa using c3.1.1) (Prod.ext (by simpa using c3.1.2) (by simpa using c3.2))
      refine Tr.skip ?_; refine Tr.region ?_; refine TrL.quiets 3 rfl (by exact True.intro) ?_; refine TrL.nil ?_
      refine ⟨i + 1, ⟨hi1, take_same hl hi1 hs he⟩, by dsimp only; omega, ?_⟩
      refine Eq.trans (b := (⟨[(0, [], vL eTy a), (1, [], vL eTy b), (5, [], vI (IntKind.i64.wrap ((i : Int) + 1)))], []⟩ : St)) rfl ?_
      dsimp only
      rw [w64n (y := i + 1) (by omega) (by omega)]
  · have hi1 : i = a.length := by
      have : ¬ (i : Int) < a.length := by simpa using c2
      omega
    subst hi1
    rw [List.take_length, hl, List.take_length] at hs
    refine Tr.exit ?_; refine Tr.seq ?_; refine Tr.region ?_; refine TrL.quiets 1 rfl (by exact True.intro) ?_; refine TrL.nil ?_; refine Tr.ret ?_
    refine retQ.of rfl ?_
    rw [decide_eq_true hs]

/-! ### find -/
abbrev rT (E : List EntD) : List Ent := [.box 57 [.own 1], .gs 30 eTy E]
def posE (E : List EntD) (p : Str) : Option Nat := E.findIdx? (fun e => e.1 == p)
def posI (E : List EntD) (p : Str) : Int := match posE E p with | some k => (k : Int) | none => -1
theorem c_find (E : List EntD) (p : Str) (hE : E.length ≤ 1099511627) : CallT Tryd.prog 28 [.ptr 0 0, vS p] (rT E) (vI (posI E p)) (rT E) := by
  refine CallT.of Tryd.func28 (by kernel_rfl) rfl Tryd.ntmps28 (by simp) (by simp) fun cx hB => ?_
  refine Tr.seq ?_; refine Tr.region ?_; refine TrL.quiets 1 rfl (by exact True.intro) ?_; refine TrL.nil ?_; refine Tr.seq ?_; refine Tr.seq ?_; refine Tr.region ?_; refine TrL.quiets 1 rfl (by exact True.intro) ?_; refine TrL.nil ?_; refine Tr.block ?_
  refine Tr.loop (fun i : Nat => ⟨[(0, [], .ptr 0 0), (1, [], vS p), (5, [], vI i)], rT E⟩) (fun i => i ≤ E.length ∧ ∀ (j : Nat) (h : j < E.length), j < i → (E[j]).1 ≠ p) (fun i => E.length - i) 0 [0, 1, 5] 2 (fun i h => hB i h) rfl ⟨Nat.zero_le _, fun j h hj => absurd hj (Nat.not_lt_zero _)⟩ fun i hi => ?_
  obtain ⟨hi, hs⟩ := hi
  refine Tr.seq ?_; refine Tr.seq ?_; refine Tr.region ?_; refine TrL.quiets 7 rfl (by exact True.intro) ?_; refine TrL.nil ?_
  refine Tr.cond rfl (fun c2 => ?_) (fun c2 => ?_)
  · have hi1 : i < E.length := by simpa using c2
    have n1 : nth (t := eTy) E (i : Int) = E[i] := nth_get' (t := eTy) _ _ hi1
    refine Tr.skip ?_; refine Tr.seq ?_; refine Tr.block ?_; refine Tr.seq ?_; refine Tr.region ?_; refine TrL.quiets 10 rfl (by (simp only [allOf, impO, imp, inR, loOk, and_true]; omega)) ?_; refine TrL.nil ?_
    refine Tr.cond rfl (fun c3 => ?_) (fun c3 => ?_)
    · rw [n1] at c3
      have he : (E[i]).1 = p := by simpa using c3
      have hp : posI E p = (i : Int) := by
        unfold posI posE
        rw [List.findIdx?_eq_some_iff_getElem.2 ⟨hi1, by simpa using he, fun j hj => by simpa using hs j (by omega) hj⟩]
      refine Tr.seq ?_; refine Tr.region ?_; refine TrL.quiets 2 rfl (by exact True.intro) ?_; refine TrL.nil ?_; refine Tr.ret ?_
      refine retT.of rfl ?_ ?_
      · rw [hp]
      · rfl
    · rw [n1] at c3
      have he : (E[i]).1 ≠ p := by simpa using c3
      refine Tr.skip ?_; refine Tr.region ?_; refine TrL.quiets 3 rfl (by exact True.intro) ?_; refine TrL.nil ?_
      refine ⟨i + 1, ⟨hi1, fun j h hj => ?_⟩, by dsimp only; omega, ?_⟩
      · by_cases hji : j = i
        · subst hji; exact he
        · exact hs j h (by omega)
      · refine Eq.trans (b := (⟨[(0, [], .ptr 0 0), (1, [], vS p), (5, [], vI (IntKind.i64.wrap ((i : Int) + 1)))], rT E⟩ : St)) rfl ?_
        dsimp only
        rw [w64n (y := i + 1) (by omega) (by omega)]
  · have hi1 : i = E.length := by
      have : ¬ (i : Int) < E.length := by simpa using c2
      omega
    subst hi1
    have hp : posI E p = -1 := by
      unfold posI posE
      rw [List.findIdx?_eq_none_iff.2 fun x hx => by
        obtain ⟨j, hj, rfl⟩ := List.mem_iff_getElem.1 hx
        simpa using hs j hj hj]
    refine Tr.exit ?_; refine Tr.seq ?_; refine Tr.region ?_; refine TrL.quiets 1 rfl (by exact True.intro) ?_; refine TrL.nil ?_; refine Tr.ret ?_
    refine retT.of rfl ?_ ?_
    · rw [hp]
    · rfl

theorem allPre_eq : ∀ (n : Nat) (ms : List Str), ms.length = n → allPre ms.reverse = (List.range n).map fun j => ms.take (j + 1)
  | 0, ms, h => by
    obtain rfl := List.eq_nil_of_length_eq_zero h
    rfl
  | n + 1, ms, h => by
    obtain ⟨ns, x, rfl⟩ := snoc_of (l := ms) (by rintro rfl; cases h)
    have hn : ns.length = n := by simpa using h
    rw [List.reverse_append, List.reverse_singleton, List.singleton_append, allPre, allPre_eq n ns hn, List.range_succ, List.map_append, List.map_singleton]
    congr 1
    · refine List.map_congr_left fun j hj => ?_
      rw [List.mem_range] at hj
      rw [List.take_append_of_le_length (by omega)]
    · rw [List.reverse_cons, List.reverse_reverse, List.take_of_length_le (by simp [hn])]
def wayPre (ms : List Str) (i : Nat) : List (List Str) := (List.range i).map fun j => ms.take (j + 1)
theorem preOf_way (ms : List Str) (x : Str) : preOf (ms ++ [x]) = wayPre ms ms.length := by
  unfold preOf
  rw [List.reverse_append, List.reverse_singleton, List.singleton_append, List.tail_cons, allPre_eq _ ms rfl]
  rfl
theorem wayPre_succ (ms : List Str) (i : Nat) : wayPre ms (i + 1) = wayPre ms i ++ [ms.take (i + 1)] := by
  unfold wayPre
  rw [List.range_succ, List.map_append, List.map_singleton]
def wayL (L : List Fent) (ms : List Str) (i : Nat) : List Fent := L ++ asDirs ((wayPre ms i).filter (fun q => !hasP L q))
theorem wayL_has (L : List Fent) (ms : List Str) (i : Nat) (hi : i < ms.length) : hasP (wayL L ms i) (ms.take (i + 1)) = hasP L (ms.take (i + 1)) := by
  rw [Bool.eq_iff_iff]
  constructor
  · intro h
    obtain ⟨e, he, hq⟩ := hasP_iff.1 h
    unfold wayL at he
    rcases List.mem_append.1 he with he | he
    · exact hasP_iff.2 ⟨e, he, hq⟩
    · exfalso
      obtain ⟨q, hq2, rfl⟩ := List.mem_map.1 he
      obtain ⟨j, hj, rfl⟩ := List.mem_map.1 (List.mem_filter.1 hq2).1
      rw [List.mem_range] at hj
      have := congrArg List.length hq
      simp only [List.length_take] at this
      omega
  · intro h
    obtain ⟨e, he, hq⟩ := hasP_iff.1 h
    exact hasP_iff.2 ⟨e, List.mem_append_left _ he, hq⟩
theorem wayL_succ (L : List Fent) (ms : List Str) (i : Nat) : wayL L ms (i + 1) = wayL L ms i ++ (if hasP L (ms.take (i + 1)) = true then [] else [(ms.take (i + 1), true, [])]) := by
  unfold wayL
  rw [wayPre_succ, List.filter_append, asDirs, asDirs, List.map_append, List.append_assoc]
  congr 2
  cases h : hasP L (ms.take (i + 1)) <;> simp [h]
theorem wayL_ok {L : List Fent} (h : ∀ e ∈ L, okL e.1) {ms : List Str} (hm : okL ms) (i : Nat) : ∀ e ∈ wayL L ms i, okL e.1 := by
  intro e he
  unfold wayL at he
  rcases List.mem_append.1 he with he | he
  · exact h e he
  · obtain ⟨q, hq, rfl⟩ := List.mem_map.1 he
    obtain ⟨j, hj, rfl⟩ := List.mem_map.1 (List.mem_filter.1 hq).1
    exact fun z hz => hm z (List.mem_of_mem_take hz)
theorem wayL_len (L : List Fent) (ms : List Str) (i : Nat) : (wayL L ms i).length ≤ L.length + i := by
  unfold wayL
  rw [List.length_append, asDirs, List.length_map]
  have := List.length_filter_le (fun q => !hasP L q) (wayPre ms i)
  have h2 : (wayPre ms i).length = i := by simp [wayPre]
  omega
theorem posYes {M : List Fent} (hok : ∀ e ∈ M, okL e.1) {q : List Str} (hq : okL q) (h : hasP M q = true) : ∃ k, ∃ hk : k < M.length, posI (M.map entOf) (absT q) = (k : Int) ∧ (M[k]).1 = q := by
  cases hp : posE (M.map entOf) (absT q) with
  | none =>
    exfalso
    unfold posE at hp
    rw [List.findIdx?_eq_none_iff] at hp
    obtain ⟨e, he, hq2⟩ := hasP_iff.1 h
    have := hp (entOf e) (List.mem_map.2 ⟨e, he, rfl⟩)
    rw [hq2.symm] at this
    simp [entOf] at this
  | some k =>
    have hp2 := hp
    unfold posE at hp
    obtain ⟨h1, h2, _⟩ := List.findIdx?_eq_some_iff_getElem.1 hp
    have h3 : k < M.length := by simpa using h1
    refine ⟨k, h3, by unfold posI; rw [hp2], ?_⟩
    have h4 : absT (M[k]).1 = absT q := by simpa [entOf] using h2
    exact absT_inj (hok _ (List.getElem_mem h3)) hq h4
theorem posNo {M : List Fent} (hok : ∀ e ∈ M, okL e.1) {q : List Str} (hq : okL q) (h : hasP M q = false) : posI (M.map entOf) (absT q) = -1 := by
  cases hp : posE (M.map entOf) (absT q) with
  | none => unfold posI; rw [hp]
  | some k =>
    exfalso
    unfold posE at hp
    obtain ⟨h1, h2, _⟩ := List.findIdx?_eq_some_iff_getElem.1 hp
    have h3 : k < M.length := by simpa using h1
    have h4 : absT (M[k]).1 = absT q := by simpa [entOf] using h2
    rw [hasP_iff.2 ⟨M[k], List.getElem_mem h3, absT_inj (hok _ (List.getElem_mem h3)) hq h4⟩] at h
    cases h
theorem partsF_absT {ns : List Str} (h : okL ns) : partsF (absT ns) = ns := by
  have hf : ns.filter (fun x => x ≠ []) = ns := by
    rw [List.filter_eq_self]
    intro x hx
    simpa using (h x hx).1
  unfold partsF
  by_cases h0 : ns = []
  · subst h0; decide
  · rw [absT_flat h0]
    have := spS_flat ns [] [] (by simp) h
    rw [List.nil_append] at this
    rw [this, List.append_nil, List.filter_cons_of_neg (by simp), hf]
theorem c_refPut {L : List Fent} (h : FsOk L) (p t : Str) (d : Bool) (hp : p.length ≤ 1000) (hL : L.length ≤ 1000000) :
    CallT Tryd.prog 27 [.ptr 0 0, entS (p, d, t)] (rT (L.map entOf)) (.tup []) (rT ((stepL L (p, d, t)).map entOf)) := by
  have hEl : (L.map entOf).length ≤ 1000000 := by rw [List.length_map]; exact hL
  have hns := absL_ok p
  refine CallT.of Tryd.func27 (by kernel_rfl) rfl Tryd.ntmps27 (by simp) (by simp) fun cx hB => ?_
  have hB3 : ∀ i, cx.B i = true → i < 3 := fun i h => Nat.lt_of_lt_of_le (hB i h) (show 2 ≤ 3 by decide)
  refine Tr.seq ?_; refine Tr.region ?_; refine TrL.eff (effBox_sound rfl) (by exact True.intro) ?_; refine TrL.nil ?_; refine Tr.seq ?_; refine Tr.region ?_; refine TrL.quiets 2 rfl (by exact True.intro) ?_
  first | refine TrL.callV rfl rfl rfl rfl rfl (c_refAbs p (by omega)) ?_ | refine TrD.callV rfl rfl rfl rfl rfl (c_refAbs p (by omega)) rfl ?_
  refine TrL.quiets 1 rfl (by exact True.intro) ?_; refine TrL.eff (effStore_sound rfl) (by exact True.intro) ?_; refine TrL.nil ?_; refine Tr.seq ?_; refine Tr.seq ?_; refine Tr.region ?_; refine TrL.quiets 7 rfl (by exact True.intro) ?_
  by_cases hp0 : p = []
  · refine TrL.is 16 (sv' := vB true) rfl (by rw [hp0]; rfl) ?_
    refine TrL.pass (vI 0) rfl rfl rfl rfl rfl (by decide) (by decide) rfl ?_
    refine TrL.quiets 2 rfl (by exact True.intro) ?_; refine TrL.nil ?_
    refine Tr.cond rfl (fun c1 => ?_) (fun c1 => ?_)
    · rw [show stepL L (p, d, t) = L by unfold stepL; rw [if_pos (.inl hp0)]]
      refine Tr.ret ?_
      refine retT.of rfl ?_ ?_
      · rfl
      · rfl
    · simp at c1
  have hap : absP p = absT (absL p) := absP_ne hp0
  have hal := absL_bound p
  have hatl := absT_length (absL p)
  rw [hap]
  have htne : (absT (absL p) == ({ data := #[] } : ByteArray).data.toList) = false := by simpa using absT_ne (absL p)
  refine TrL.is 16 (sv' := vB false) rfl (congrArg vB htne) ?_
  refine TrL.known 17 rfl rfl ?_
  refine TrL.known 19 rfl rfl ?_
  refine TrL.want rfl rfl rfl ?_
  refine TrL.callT [0, 1] rfl rfl rfl rfl rfl (c_find (L.map entOf) (absT (absL p)) (by omega)) rfl rfl rfl ?_
  cases hhas : hasP L (absL p) with
  | true =>
    obtain ⟨k, hk, hk1, hk2⟩ := posYes h.ok hns hhas
    rw [hk1]
    refine TrL.quiets 2 rfl (by exact True.intro) ?_; refine TrL.nil ?_
    refine Tr.cond rfl (fun c1 => ?_) (fun c1 => ?_)
    · rw [show stepL L (p, d, t) = L by unfold stepL; rw [if_pos (.inr (.inl hhas))]]
      refine Tr.ret ?_
      refine retT.of rfl ?_ ?_
      · rfl
      · rfl
    · simp at c1
  | false =>
  rw [posNo h.ok hns hhas]
  have hns0 : absL p ≠ [] := by
    intro h0
    rw [h0, isD_has (root_dir h)] at hhas
    cases hhas
  obtain ⟨ms, x, hmx⟩ := snoc_of hns0
  have hmsok : okL ms := fun z hz => hns z (by rw [hmx]; simp [hz])
  have hms : ms.length + 1 = (absL p).length := by rw [hmx]; simp
  have htk : ∀ i, i < ms.length → (absL p).take (i + 1) = ms.take (i + 1) := fun i hi => by rw [hmx, List.take_append_of_le_length (by omega)]
  have htk0 : ∀ i, i ≤ ms.length → (absL p).take i = ms.take i := fun i hi => by rw [hmx, List.take_append_of_le_length (by omega)]
  have hfl : (flatS (absL p)).length ≤ 10000 := by rw [absT_flat hns0] at hatl; omega
  have hwl : ∀ i, (flatS (ms.take i)).length ≤ 10000 := fun i => by
    have h1 := flatS_take_le ms i
    have h2 : (flatS ms).length ≤ (flatS (absL p)).length := by rw [hmx, flatS_append, List.length_append]; omega
    omega
  have hstep : stepL L (p, d, t) = if (preOf (absL p)).any (isF L) = true then L else wayL L ms ms.length ++ [(absL p, d, if d then [] else t)] := by
    unfold stepL
    dsimp only
    by_cases hb : (preOf (absL p)).any (isF L) = true
    · rw [if_pos (.inr (.inr hb)), if_pos hb]
    · rw [if_neg (by rw [hhas]; rintro (h1 | h1 | h1); exact hp0 h1; cases h1; exact hb h1), if_neg hb]
      unfold wayL
      rw [← preOf_way ms x, ← hmx]
  rw [hstep]
  have hpre : preOf (absL p) = wayPre ms ms.length := by rw [hmx]; exact preOf_way ms x
  refine TrL.quiets 2 rfl (by exact True.intro) ?_; refine TrL.nil ?_
  refine Tr.cond rfl (fun c1 => ?_) (fun c1 => ?_)
  · simp at c1
  refine Tr.keep [0, 3] 3 hB3 (st' := ⟨[(0, [], .ptr 0 0), (3, [], .ptr 2 0)], rT (L.map entOf) ++ [.box 30 [vS (absT (absL p)), vB d, vS t]]⟩) rfl ?_
  refine Tr.skip ?_; refine Tr.seq ?_; refine Tr.region ?_; refine TrL.quiets 2 rfl (by exact True.intro) ?_
  first | refine TrL.callV rfl rfl rfl rfl rfl (c_Parts (absT (absL p)) (by omega)) ?_ | refine TrD.callV rfl rfl rfl rfl rfl (c_Parts (absT (absL p)) (by omega)) rfl ?_
  rw [partsF_absT hns]
  refine TrL.quiets 1 rfl (by exact True.intro) ?_; refine TrL.nil ?_; refine Tr.seq ?_; refine Tr.region ?_; refine TrL.quiets 1 rfl (by exact True.intro) ?_; refine TrL.nil ?_; refine Tr.seq ?_; refine Tr.seq ?_; refine Tr.region ?_; refine TrL.quiets 1 rfl (by exact True.intro) ?_; refine TrL.nil ?_; refine Tr.block ?_
  refine Tr.loop (fun i : Nat => ⟨[(0, [], .ptr 0 0), (3, [], .ptr 2 0), (4, [], vL .str (absL p)), (5, [], vS (flatS (ms.take i))), (6, [], vI i)], rT (L.map entOf) ++ [.box 30 [vS (absT (absL p)), vB d, vS t]]⟩)
    (fun i => i ≤ ms.length ∧ (wayPre ms i).any (isF L) = false) (fun i => ms.length - i) 0 [0, 3, 4, 5, 6] 3 hB3 rfl ⟨Nat.zero_le _, rfl⟩ fun i hi => ?_
  obtain ⟨hi, hna⟩ := hi
  refine Tr.seq ?_; refine Tr.seq ?_; refine Tr.region ?_; refine TrL.quiets 5 rfl (by exact True.intro) ?_; refine TrL.nil ?_
  refine Tr.cond rfl (fun c2 => ?_) (fun c2 => ?_)
  · have hi1 : i < ms.length := by
      have : IntKind.i64.wrap ((i : Int) + 1) < ((absL p).length : Int) := by simpa using c2
      rw [w64 (by omega) (by omega)] at this
      omega
    have hnth : nth (t := .str) (absL p) (i : Int) = ms[i] := by
      rw [nth_get' (t := .str) _ _ (by omega)]
      simp only [hmx, List.getElem_append_left hi1]
    have hne : ms.take (i + 1) ≠ [] := by
      intro e
      have := congrArg List.length e
      rw [List.length_take, List.length_nil] at this
      omega
    have hfs : flatS (ms.take i) ++ [47] ++ ms[i] = absT (ms.take (i + 1)) := by
      rw [absT_flat hne, List.take_succ_eq_append_getElem hi1, flatS_snoc]
    have hel : (ms[i]).length ≤ 10000 := by
      have := hwl (i + 1)
      rw [List.take_succ_eq_append_getElem hi1, flatS_snoc] at this
      simp only [List.length_append] at this
      omega
    have hwi := hwl i
    have hqok : okL (ms.take (i + 1)) := fun z hz => hmsok z (List.mem_of_mem_take hz)
    refine Tr.skip ?_; refine Tr.seq ?_; refine Tr.block ?_; refine Tr.seq ?_; refine Tr.region ?_; refine TrL.quiets 8 rfl ?_ ?_
    · rw [hnth, show ({ data := #[47] } : ByteArray).data.toList = ([47] : Str) from rfl]
      simp only [allOf, impO, imp, inR, and_true, List.length_append, List.length_singleton]
      omega
    refine TrL.is 5 (sv' := vS (absT (ms.take (i + 1)))) rfl (by rw [hnth, ← hfs]) ?_
    refine TrL.nil ?_; refine Tr.seq ?_; refine Tr.region ?_; refine TrL.quiets 2 rfl (by exact True.intro) ?_
    refine TrL.callT [0, 1] rfl rfl rfl rfl rfl (c_find (L.map entOf) (absT (ms.take (i + 1))) (by omega)) rfl rfl rfl ?_
    cases hh : hasP L (ms.take (i + 1)) with
    | false =>
      rw [posNo h.ok hqok hh]
      have hf : isF L (ms.take (i + 1)) = false := by
        rw [Bool.eq_false_iff]; intro h1; rw [isF_has h1] at hh; cases hh
      refine TrL.quiets 1 rfl (by exact True.intro) ?_; refine TrL.nil ?_; refine Tr.seq ?_; refine Tr.region ?_; refine TrL.quiets 13 rfl (by (simp (disch := omega) only [allOf, impO, imp, inR, loOk, and_true, w64, List.length_set, List.length_cons, List.length_nil, Option.getD_none, Option.getD_some, Ty.D, true_and, decide_eq_true_eq, decide_eq_false_iff_not, Bool.and_eq_true, Bool.or_eq_false_iff]; omega)) ?_; refine TrL.nil ?_
      refine Tr.cond rfl (fun c3 => ?_) (fun c3 => ?_)
      · simp at c3
      refine Tr.skip ?_; refine Tr.region ?_; refine TrL.quiets 3 rfl (by exact True.intro) ?_; refine TrL.nil ?_
      refine ⟨i + 1, ⟨hi1, by rw [wayPre_succ, List.any_append, hna]; simp [hf]⟩, by dsimp only; omega, ?_⟩
      refine Eq.trans (b := (⟨[(0, [], .ptr 0 0), (3, [], .ptr 2 0), (4, [], vL .str (absL p)), (5, [], vS (absT (ms.take (i + 1)))), (6, [], vI (IntKind.i64.wrap ((i : Int) + 1)))], rT (L.map entOf) ++ [.box 30 [vS (absT (absL p)), vB d, vS t]]⟩ : St)) rfl ?_
      dsimp only
      rw [w64n (y := i + 1) (by omega) (by omega), absT_flat hne]
    | true =>
      obtain ⟨k, hk, hk1, hk2⟩ := posYes h.ok hqok hh
      rw [hk1]
      have hkn : nth (t := eTy) (L.map entOf) (k : Int) = entOf L[k] := by
        rw [nth_get' (t := eTy) _ _ (by rw [List.length_map]; exact hk), List.getElem_map]
      have hkl : k < (L.map entOf).length := by rw [List.length_map]; exact hk
      refine TrL.quiets 1 rfl (by exact True.intro) ?_; refine TrL.nil ?_; refine Tr.seq ?_; refine Tr.region ?_; refine TrL.quiets 13 rfl (by (simp only [allOf, impO, imp, inR, loOk, and_true]; omega)) ?_; refine TrL.nil ?_
      refine Tr.cond rfl (fun c3 => ?_) (fun c3 => ?_)
      · have hdir : (L[k]).2.1 = false := by
          rw [hkn] at c3
          simpa [entOf] using c3
        have hany : (preOf (absL p)).any (isF L) = true := by
          rw [List.any_eq_true]
          refine ⟨ms.take (i + 1), ?_, isF_iff.2 ⟨L[k], List.getElem_mem hk, hk2, hdir⟩⟩
          rw [hpre]
          exact List.mem_map.2 ⟨i, List.mem_range.2 hi1, rfl⟩
        rw [if_pos hany]
        refine Tr.ret ?_
        refine retT.of rfl ?_ ?_
        · rfl
        · rfl
      · have hdir : (L[k]).2.1 = true := by
          rw [hkn] at c3
          simpa [entOf] using c3
        have hf : isF L (ms.take (i + 1)) = false := by
          rw [Bool.eq_false_iff]
          intro h1
          have h2 := h.fd h1
          rw [isD_iff.2 ⟨L[k], List.getElem_mem hk, hk2, hdir⟩] at h2
          cases h2
        refine Tr.skip ?_; refine Tr.region ?_; refine TrL.quiets 3 rfl (by exact True.intro) ?_; refine TrL.nil ?_
        refine ⟨i + 1, ⟨hi1, by rw [wayPre_succ, List.any_append, hna]; simp [hf]⟩, by dsimp only; omega, ?_⟩
        refine Eq.trans (b := (⟨[(0, [], .ptr 0 0), (3, [], .ptr 2 0), (4, [], vL .str (absL p)), (5, [], vS (absT (ms.take (i + 1)))), (6, [], vI (IntKind.i64.wrap ((i : Int) + 1)))], rT (L.map entOf) ++ [.box 30 [vS (absT (absL p)), vB d, vS t]]⟩ : St)) rfl ?_
        dsimp only
        rw [w64n (y := i + 1) (by omega) (by omega), absT_flat hne]
  have hi1 : i = ms.length := by
    have : ¬ IntKind.i64.wrap ((i : Int) + 1) < ((absL p).length : Int) := by simpa using c2
    rw [w64 (by omega) (by omega)] at this
    omega
  subst hi1
  rw [if_neg (by rw [hpre, hna]; decide)]
  refine Tr.exit ?_; refine Tr.seq ?_; refine Tr.region ?_; refine TrL.quiets 1 rfl (by exact True.intro) ?_; refine TrL.nil ?_; refine Tr.seq ?_; refine Tr.seq ?_; refine Tr.region ?_; refine TrL.quiets 1 rfl (by exact True.intro) ?_; refine TrL.nil ?_; refine Tr.block ?_
  refine Tr.loop (fun i : Nat => ⟨[(0, [], .ptr 0 0), (3, [], .ptr 2 0), (4, [], vL .str (absL p)), (5, [], vS (flatS (ms.take i))), (8, [], vI i)], rT ((wayL L ms i).map entOf) ++ [.box 30 [vS (absT (absL p)), vB d, vS t]]⟩)
    (fun i => i ≤ ms.length) (fun i => ms.length - i) 0 [0, 3, 4, 5, 8] 3 hB3 ?_ (Nat.zero_le _) fun i hi => ?_
  · rw [show wayL L ms 0 = L by simp [wayL, wayPre, asDirs]]
    rfl
  refine Tr.seq ?_; refine Tr.seq ?_; refine Tr.region ?_; refine TrL.quiets 5 rfl (by exact True.intro) ?_; refine TrL.nil ?_
  refine Tr.cond rfl (fun c3 => ?_) (fun c3 => ?_)
  · have hi1 : i < ms.length := by
      have : IntKind.i64.wrap ((i : Int) + 1) < ((absL p).length : Int) := by simpa using c3
      rw [w64 (by omega) (by omega)] at this
      omega
    have hnth : nth (t := .str) (absL p) (i : Int) = ms[i] := by
      rw [nth_get' (t := .str) _ _ (by omega)]
      simp only [hmx, List.getElem_append_left hi1]
    have hne : ms.take (i + 1) ≠ [] := by
      intro e
      have := congrArg List.length e
      rw [List.length_take, List.length_nil] at this
      omega
    have hfs : flatS (ms.take i) ++ [47] ++ ms[i] = absT (ms.take (i + 1)) := by
      rw [absT_flat hne, List.take_succ_eq_append_getElem hi1, flatS_snoc]
    have hel : (ms[i]).length ≤ 10000 := by
      have := hwl (i + 1)
      rw [List.take_succ_eq_append_getElem hi1, flatS_snoc] at this
      simp only [List.length_append] at this
      omega
    have hwi := hwl i
    have hqok : okL (ms.take (i + 1)) := fun z hz => hmsok z (List.mem_of_mem_take hz)
    have hML := wayL_len L ms i
    have hMl : ((wayL L ms i).map entOf).length ≤ 1100000 := by rw [List.length_map]; omega
    have hMok := wayL_ok h.ok hmsok i
    have hMh := wayL_has L ms i hi1
    have hMs := wayL_succ L ms i
    refine Tr.skip ?_; refine Tr.seq ?_; refine Tr.block ?_; refine Tr.seq ?_; refine Tr.region ?_; refine TrL.quiets 8 rfl ?_ ?_
    · rw [hnth, show ({ data := #[47] } : ByteArray).data.toList = ([47] : Str) from rfl]
      simp only [allOf, impO, imp, inR, and_true, List.length_append, List.length_singleton]
      omega
    refine TrL.is 5 (sv' := vS (absT (ms.take (i + 1)))) rfl (by rw [hnth, ← hfs]) ?_
    refine TrL.nil ?_; refine Tr.seq ?_; refine Tr.region ?_; refine TrL.quiets 2 rfl (by exact True.intro) ?_
    refine TrL.callT [0, 1] rfl rfl rfl rfl rfl (c_find ((wayL L ms i).map entOf) (absT (ms.take (i + 1))) (by omega)) rfl rfl rfl ?_
    cases hh : hasP L (ms.take (i + 1)) with
    | true =>
      rw [hh] at hMh hMs
      obtain ⟨k, hk, hk1, hk2⟩ := posYes hMok hqok hMh
      rw [hk1]
      refine TrL.quiets 1 rfl (by exact True.intro) ?_; refine TrL.nil ?_
      refine Tr.cond rfl (fun c4 => ?_) (fun c4 => ?_)
      · simp at c4
        omega
      refine Tr.skip ?_; refine Tr.region ?_; refine TrL.quiets 3 rfl (by exact True.intro) ?_; refine TrL.nil ?_
      refine ⟨i + 1, hi1, by dsimp only; omega, ?_⟩
      refine Eq.trans (b := (⟨[(0, [], .ptr 0 0), (3, [], .ptr 2 0), (4, [], vL .str (absL p)), (5, [], vS (absT (ms.take (i + 1)))), (8, [], vI (IntKind.i64.wrap ((i : Int) + 1)))], rT ((wayL L ms i).map entOf) ++ [.box 30 [vS (absT (absL p)), vB d, vS t]]⟩ : St)) rfl ?_
      dsimp only
      rw [w64n (y := i + 1) (by omega) (by omega), absT_flat hne, hMs, if_pos rfl, List.append_nil]
    | false =>
      rw [hh] at hMh hMs
      rw [posNo hMok hqok hMh]
      refine TrL.quiets 1 rfl (by exact True.intro) ?_; refine TrL.nil ?_
      refine Tr.cond rfl (fun c4 => ?_) (fun c4 => ?_)
      · refine Tr.region ?_; refine TrL.quiets 7 rfl (by exact True.intro) ?_; refine TrL.eff (effLit_sound rfl) (by exact True.intro) ?_; refine TrL.eff (effAppend_sound rfl) ?_ ?_
        · show ((wayL L ms i).map entOf).length + 1 ≤ 1099511627776
          omega
        refine TrL.quiets 2 rfl (by exact True.intro) ?_; refine TrL.eff (effStore_sound rfl) (by exact True.intro) ?_; refine TrL.nil ?_; refine Tr.region ?_; refine TrL.quiets 3 rfl (by exact True.intro) ?_; refine TrL.nil ?_
        refine ⟨i + 1, hi1, by dsimp only; omega, ?_⟩
        refine Eq.trans (b := (⟨[(0, [], .ptr 0 0), (3, [], .ptr 2 0), (4, [], vL .str (absL p)), (5, [], vS (absT (ms.take (i + 1)))), (8, [], vI (IntKind.i64.wrap ((i : Int) + 1)))], rT ((wayL L ms i).map entOf ++ [(absT (ms.take (i + 1)), true, [])]) ++ [.box 30 [vS (absT (absL p)), vB d, vS t]]⟩ : St)) rfl ?_
        dsimp only
        rw [w64n (y := i + 1) (by omega) (by omega), ← absT_flat hne, hMs, if_neg (by decide), List.map_append]
        rfl
      · simp at c4
  have hi1 : i = ms.length := by
    have : ¬ IntKind.i64.wrap ((i : Int) + 1) < ((absL p).length : Int) := by simpa using c3
    rw [w64 (by omega) (by omega)] at this
    omega
  subst hi1
  refine Tr.exit ?_; refine Tr.seq ?_; refine Tr.seq ?_; refine Tr.region ?_; refine TrL.quiets 2 rfl (by exact True.intro) ?_; refine TrL.nil ?_
  have hMl : ((wayL L ms ms.length).map entOf).length ≤ 1100000 := by
    have := wayL_len L ms ms.length
    rw [List.length_map]
    omega
  refine Tr.cond rfl (fun c4 => ?_) (fun c4 => ?_)
  · have hd : d = true := c4
    subst hd
    refine Tr.region ?_; refine TrL.quiets 1 rfl (by exact True.intro) ?_; refine TrL.eff (effStore_sound rfl) (by exact True.intro) ?_; refine TrL.nil ?_
    refine Tr.keep [0, 3] 3 hB3 (st' := ⟨[(0, [], .ptr 0 0), (3, [], .ptr 2 0)], rT ((wayL L ms ms.length).map entOf) ++ [.box 30 [vS (absT (absL p)), vB true, vS []]]⟩) rfl ?_
    rw [List.map_append]
    refine Tr.drawA 11 rfl (by kernel_rfl) ?_
    refine TrA.take 0 rfl rfl (by kernel_rfl) rfl (by exact True.intro) ?_; refine TrA.take 1 rfl rfl (by kernel_rfl) rfl (by exact True.intro) ?_; refine TrA.take 2 rfl rfl (by kernel_rfl) rfl (by exact True.intro) ?_; refine TrA.take 3 rfl rfl (by kernel_rfl) rfl (by exact True.intro) ?_; refine TrA.two 4 5 (by kernel_rfl) rfl rfl ?_ ?_
    · refine TrL.quiets 1 rfl (by exact True.intro) ?_; refine TrL.nil ?_; refine TrA.one 5 (by kernel_rfl) rfl ?_; refine TrL.quiets 1 rfl (by exact True.intro) ?_; refine TrL.nil ?_; refine TrA.one 6 (by kernel_rfl) rfl ?_; refine TrL.eff (effLit_sound rfl) (by exact True.intro) ?_; refine TrL.nil ?_; refine TrA.one 7 (by kernel_rfl) rfl ?_; refine TrL.eff (effAppend_sound rfl) ?_ ?_
      · show ((wayL L ms ms.length).map entOf).length + 1 ≤ 1099511627776
        omega
      refine TrL.nil ?_; refine TrA.take 8 rfl rfl (by kernel_rfl) rfl (by exact True.intro) ?_; refine TrA.take 9 rfl rfl (by kernel_rfl) rfl (by exact True.intro) ?_; refine TrA.one 10 (by kernel_rfl) rfl ?_; refine TrL.eff (effStore_sound rfl) (by exact True.intro) ?_; refine TrL.nil ?_; refine TrA.done (by kernel_rfl) ?_
      refine retT.fall rfl ?_ ?_
      · rfl
      · rfl
    · refine TrL.quiets 1 rfl (by exact True.intro) ?_; refine TrL.nil ?_; refine TrA.two 4 6 (by kernel_rfl) rfl rfl ?_ ?_
      · refine TrL.quiets 1 rfl (by exact True.intro) ?_; refine TrL.nil ?_; refine TrA.one 6 (by kernel_rfl) rfl ?_; refine TrL.eff (effLit_sound rfl) (by exact True.intro) ?_; refine TrL.nil ?_; refine TrA.one 7 (by kernel_rfl) rfl ?_; refine TrL.eff (effAppend_sound rfl) ?_ ?_
        · show ((wayL L ms ms.length).map entOf).length + 1 ≤ 1099511627776
          omega
        refine TrL.nil ?_; refine TrA.take 8 rfl rfl (by kernel_rfl) rfl (by exact True.intro) ?_; refine TrA.take 9 rfl rfl (by kernel_rfl) rfl (by exact True.intro) ?_; refine TrA.one 10 (by kernel_rfl) rfl ?_; refine TrL.eff (effStore_sound rfl) (by exact True.intro) ?_; refine TrL.nil ?_; refine TrA.done (by kernel_rfl) ?_
        refine retT.fall rfl ?_ ?_
        · rfl
        · rfl
      · refine TrL.eff (effLit_sound rfl) (by exact True.intro) ?_; refine TrL.nil ?_; refine TrA.one 4 (by kernel_rfl) rfl ?_; refine TrL.quiets 1 rfl (by exact True.intro) ?_; refine TrL.nil ?_; refine TrA.one 7 (by kernel_rfl) rfl ?_; refine TrL.eff (effAppend_sound rfl) ?_ ?_
        · show ((wayL L ms ms.length).map entOf).length + 1 ≤ 1099511627776
          omega
        refine TrL.nil ?_; refine TrA.take 8 rfl rfl (by kernel_rfl) rfl (by exact True.intro) ?_; refine TrA.take 9 rfl rfl (by kernel_rfl) rfl (by exact True.intro) ?_; refine TrA.one 10 (by kernel_rfl) rfl ?_; refine TrL.eff (effStore_sound rfl) (by exact True.intro) ?_; refine TrL.nil ?_; refine TrA.done (by kernel_rfl) ?_
        refine retT.fall rfl ?_ ?_
        · rfl
        · rfl
  · have hd : d = false := c4
    subst hd
    refine Tr.skip ?_
    refine Tr.keep [0, 3] 3 hB3 (st' := ⟨[(0, [], .ptr 0 0), (3, [], .ptr 2 0)], rT ((wayL L ms ms.length).map entOf) ++ [.box 30 [vS (absT (absL p)), vB false, vS t]]⟩) rfl ?_
    rw [List.map_append]
    refine Tr.drawA 11 rfl (by kernel_rfl) ?_
    refine TrA.take 0 rfl rfl (by kernel_rfl) rfl (by exact True.intro) ?_; refine TrA.take 1 rfl rfl (by kernel_rfl) rfl (by exact True.intro) ?_; refine TrA.take 2 rfl rfl (by kernel_rfl) rfl (by exact True.intro) ?_; refine TrA.take 3 rfl rfl (by kernel_rfl) rfl (by exact True.intro) ?_; refine TrA.two 4 5 (by kernel_rfl) rfl rfl ?_ ?_
    · refine TrL.quiets 1 rfl (by exact True.intro) ?_; refine TrL.nil ?_; refine TrA.one 5 (by kernel_rfl) rfl ?_; refine TrL.quiets 1 rfl (by exact True.intro) ?_; refine TrL.nil ?_; refine TrA.one 6 (by kernel_rfl) rfl ?_; refine TrL.eff (effLit_sound rfl) (by exact True.intro) ?_; refine TrL.nil ?_; refine TrA.one 7 (by kernel_rfl) rfl ?_; refine TrL.eff (effAppend_sound rfl) ?_ ?_
      · show ((wayL L ms ms.length).map entOf).length + 1 ≤ 1099511627776
        omega
      refine TrL.nil ?_; refine TrA.take 8 rfl rfl (by kernel_rfl) rfl (by exact True.intro) ?_; refine TrA.take 9 rfl rfl (by kernel_rfl) rfl (by exact True.intro) ?_; refine TrA.one 10 (by kernel_rfl) rfl ?_; refine TrL.eff (effStore_sound rfl) (by exact True.intro) ?_; refine TrL.nil ?_; refine TrA.done (by kernel_rfl) ?_
      refine retT.fall rfl ?_ ?_
      · rfl
      · rfl
    · refine TrL.quiets 1 rfl (by exact True.intro) ?_; refine TrL.nil ?_; refine TrA.two 4 6 (by kernel_rfl) rfl rfl ?_ ?_
      · refine TrL.quiets 1 rfl (by exact True.intro) ?_; refine TrL.nil ?_; refine TrA.one 6 (by kernel_rfl) rfl ?_; refine TrL.eff (effLit_sound rfl) (by exact True.intro) ?_; refine TrL.nil ?_; refine TrA.one 7 (by kernel_rfl) rfl ?_; refine TrL.eff (effAppend_sound rfl) ?_ ?_
        · show ((wayL L ms ms.length).map entOf).length + 1 ≤ 1099511627776
          omega
        refine TrL.nil ?_; refine TrA.take 8 rfl rfl (by kernel_rfl) rfl (by exact True.intro) ?_; refine TrA.take 9 rfl rfl (by kernel_rfl) rfl (by exact True.intro) ?_; refine TrA.one 10 (by kernel_rfl) rfl ?_; refine TrL.eff (effStore_sound rfl) (by exact True.intro) ?_; refine TrL.nil ?_; refine TrA.done (by kernel_rfl) ?_
        refine retT.fall rfl ?_ ?_
        · rfl
        · rfl
      · refine TrL.eff (effLit_sound rfl) (by exact True.intro) ?_; refine TrL.nil ?_; refine TrA.one 4 (by kernel_rfl) rfl ?_; refine TrL.quiets 1 rfl (by exact True.intro) ?_; refine TrL.nil ?_; refine TrA.one 7 (by kernel_rfl) rfl ?_; refine TrL.eff (effAppend_sound rfl) ?_ ?_
        · show ((wayL L ms ms.length).map entOf).length + 1 ≤ 1099511627776
          omega
        refine TrL.nil ?_; refine TrA.take 8 rfl rfl (by kernel_rfl) rfl (by exact True.intro) ?_; refine TrA.take 9 rfl rfl (by kernel_rfl) rfl (by exact True.intro) ?_; refine TrA.one 10 (by kernel_rfl) rfl ?_; refine TrL.eff (effStore_sound rfl) (by exact True.intro) ?_; refine TrL.nil ?_; refine TrA.done (by kernel_rfl) ?_
        refine retT.fall rfl ?_ ?_
        · rfl
        · rfl

abbrev rN (E : List EntD) : List Ent := [.gs 30 eTy E, .box 57 [.own 0]]
theorem c_refNew (l : List EntD) (hl : l.length ≤ 1099511627) (hs : ∀ e ∈ l, e.1.length ≤ 1000) : CallT Tryd.prog 10 [vL eTy l] [] (.ptr 1 0) (rN ((fsOf l).map entOf)) := by
  refine CallT.of Tryd.func10 (by kernel_rfl) rfl Tryd.ntmps10 (by simp) (by simp) fun cx hB => ?_
  refine Tr.seq ?_; refine Tr.region ?_; refine TrL.quiets 1 rfl (by exact True.intro) ?_; refine TrL.nil ?_
  change Tr _ _ _ _ _ _
  refine Tr.seq ?_
  refine Tr.region ?_
  refine TrL.quiets 1 rfl True.intro ?_
  refine TrL.eff (effLitOwn_sound rfl) True.intro ?_
  refine TrL.quiets 1 rfl (by exact True.intro) ?_; refine TrL.eff (effBox_sound rfl) (by exact True.intro) ?_; refine TrL.quiets 1 rfl (by exact True.intro) ?_; refine TrL.nil ?_; refine Tr.seq ?_; refine Tr.seq ?_; refine Tr.region ?_; refine TrL.quiets 1 rfl (by exact True.intro) ?_; refine TrL.nil ?_; refine Tr.block ?_
  have hB2 : ∀ i, cx.B i = true → i < 2 := fun i h => absurd (hB i h) (Nat.not_lt_zero _)
  refine Tr.loop (fun i : Nat => ⟨[(0, [], vL eTy l), (3, [], .ptr 1 0), (4, [], vI i)], rN (((l.take i).foldl stepL [([], true, [])]).map entOf)⟩) (fun i => i ≤ l.length ∧ i ≤ 200) (fun i => 200 - i) 0 [0, 3, 4] 2 hB2 ?_ ⟨Nat.zero_le _, Nat.zero_le _⟩ fun i hi => ?_
  · rfl
  obtain ⟨hi, hi2⟩ := hi
  refine Tr.seq ?_; refine Tr.seq ?_; refine Tr.region ?_; refine TrL.quiets 8 rfl (by exact True.intro) ?_; refine TrL.nil ?_
  refine Tr.cond rfl (fun c1 => ?_) (fun c1 => ?_)
  · have hi1 : i < l.length ∧ i < 200 := by
      simp only [Bool.and_eq_true, decide_eq_true_eq] at c1
      omega
    have hnth : nth (t := eTy) l (i : Int) = l[i]'hi1.1 := nth_get' (t := eTy) _ _ hi1.1
    have hlE : (l[i]'hi1.1).1.length ≤ 1000 := hs _ (List.getElem_mem hi1.1)
    have hL : FsOk ((l.take i).foldl stepL [([], true, [])]) := by
      have := fsOf_ok (l.take i)
      unfold fsOf at this
      rwa [List.take_take, Nat.min_eq_right (by omega)] at this
    have hnext : (l.take (i + 1)).foldl stepL [([], true, [])] = stepL ((l.take i).foldl stepL [([], true, [])]) (l[i]'hi1.1) := by
      rw [List.take_succ_eq_append_getElem hi1.1, List.foldl_append]
      rfl
    have hlim := (fold_lim (l.take i) [([], true, [])] 1 (fun e he => hs e (List.mem_of_mem_take he)) ⟨by simp, by simp [absT]⟩).1
    rw [List.length_take] at hlim
    have hlen : ((l.take i).foldl stepL [([], true, [])]).length ≤ 1000000 := by omega
    refine Tr.skip ?_; refine Tr.seq ?_; refine Tr.block ?_; refine Tr.region ?_; refine TrL.quiets 5 rfl (by (simp only [allOf, impO, imp, inR, loOk, and_true]; omega)) ?_
    refine TrL.is 23 (sv' := entS (l[i]'hi1.1)) rfl (congrArg (fun e : EntD => entS e) hnth) ?_
    generalize l[i]'hi1.1 = e at hlE hnext
    generalize (l.take i).foldl stepL [([], true, [])] = M at hL hnext hlen
    obtain ⟨p, d, t⟩ := e
    refine TrL.callT [1, 0] rfl rfl rfl rfl rfl (c_refPut hL p t d hlE hlen) rfl rfl rfl ?_
    refine TrL.nil ?_; refine Tr.region ?_; refine TrL.quiets 3 rfl (by exact True.intro) ?_; refine TrL.nil ?_
    refine ⟨i + 1, ⟨hi1.1, hi1.2⟩, by dsimp only; omega, ?_⟩
    refine Eq.trans (b := (⟨[(0, [], vL eTy l), (3, [], .ptr 1 0), (4, [], vI (IntKind.i64.wrap ((i : Int) + 1)))], rN ((stepL M (p, d, t)).map entOf)⟩ : St)) rfl ?_
    dsimp only
    rw [hnext, w64n (y := i + 1) (by omega) (by omega)]
  · have hi1 : i = l.length ∨ i = 200 := by
      simp only [Bool.and_eq_false_iff, decide_eq_false_iff_not] at c1
      omega
    have hfs : fsOf l = (l.take i).foldl stepL [([], true, [])] := by
      unfold fsOf
      congr 1
      rw [List.take_eq_take_iff]
      omega
    rw [hfs]
    refine Tr.exit ?_; refine Tr.seq ?_; refine Tr.region ?_; refine TrL.quiets 2 rfl (by exact True.intro) ?_; refine TrL.nil ?_; refine Tr.ret ?_
    refine retT.of rfl ?_ ?_
    · rfl
    · rfl
theorem posEmpty (L : List Fent) : posI (L.map entOf) [] = -1 := by
  unfold posI posE
  rw [List.findIdx?_eq_none_iff.2 fun x hx => ?_]
  obtain ⟨e, he, rfl⟩ := List.mem_map.1 hx
  simpa [entOf] using absT_ne e.1
theorem c_refLook {L : List Fent} (h : FsOk L) (p : Str) (hp : p.length ≤ 500000) (hL : L.length ≤ 1000000) :
    CallT Tryd.prog 12 [.ptr 0 0, vS p] (rT (L.map entOf)) (.tup [entS (lookL L p).1, vB (lookL L p).2]) (rT (L.map entOf)) := by
  have hEl : (L.map entOf).length ≤ 1000000 := by rw [List.length_map]; exact hL
  refine CallT.of Tryd.func12 (by kernel_rfl) rfl Tryd.ntmps12 (by simp) (by simp) fun cx hB => ?_
  refine Tr.seq ?_; refine Tr.region ?_; refine TrL.eff (effBox_sound rfl) (by exact True.intro) ?_; refine TrL.quiets 1 rfl (by exact True.intro) ?_; refine TrL.nil ?_; refine Tr.seq ?_; refine Tr.region ?_; refine TrL.quiets 2 rfl (by exact True.intro) ?_
  first | refine TrL.callV rfl rfl rfl rfl rfl (c_refAbs p (by omega)) ?_ | refine TrD.callV rfl rfl rfl rfl rfl (c_refAbs p (by omega)) rfl ?_
  refine TrL.callT [0, 1] rfl rfl rfl rfl rfl (c_find (L.map entOf) (absP p) (by omega)) rfl rfl rfl ?_
  by_cases hp0 : p = []
  · subst hp0
    rw [show absP [] = [] from rfl, posEmpty, show lookL L [] = (([], false, []), false) from rfl]
    refine TrL.quiets 1 rfl (by exact True.intro) ?_; refine TrL.nil ?_; refine Tr.seq ?_; refine Tr.seq ?_; refine Tr.region ?_; refine TrL.quiets 6 rfl (by exact True.intro) ?_; refine TrL.nil ?_
    refine Tr.cond rfl (fun c1 => ?_) (fun c1 => ?_)
    · refine Tr.seq ?_; refine Tr.region ?_; refine TrL.quiets 1 rfl (by exact True.intro) ?_; refine TrL.eff (effStore_sound rfl) (by exact True.intro) ?_; refine TrL.quiets 1 rfl (by exact True.intro) ?_; refine TrL.nil ?_; refine Tr.ret ?_
      refine retT.of rfl ?_ ?_
      · rfl
      · rfl
    · simp at c1
  rw [absP_ne hp0]
  have hns := absL_ok p
  cases hhas : hasP L (absL p) with
  | false =>
    have hlk : lookL L p = (([], false, []), false) := by
      unfold lookL
      rw [if_neg hp0]
      cases hf : findE L (absL p) with
      | none => rfl
      | some e =>
        obtain ⟨h1, h2⟩ := findE_some hf
        rw [hasP_iff.2 ⟨e, h1, h2⟩] at hhas
        cases hhas
    rw [posNo h.ok hns hhas, hlk]
    refine TrL.quiets 1 rfl (by exact True.intro) ?_; refine TrL.nil ?_; refine Tr.seq ?_; refine Tr.seq ?_; refine Tr.region ?_; refine TrL.quiets 6 rfl (by exact True.intro) ?_; refine TrL.nil ?_
    refine Tr.cond rfl (fun c1 => ?_) (fun c1 => ?_)
    · refine Tr.seq ?_; refine Tr.region ?_; refine TrL.quiets 1 rfl (by exact True.intro) ?_; refine TrL.eff (effStore_sound rfl) (by exact True.intro) ?_; refine TrL.quiets 1 rfl (by exact True.intro) ?_; refine TrL.nil ?_; refine Tr.ret ?_
      refine retT.of rfl ?_ ?_
      · rfl
      · rfl
    · simp at c1
  | true =>
    obtain ⟨k, hk, hk1, hk2⟩ := posYes h.ok hns hhas
    have hkn : nth (t := eTy) (L.map entOf) (k : Int) = entOf L[k] := by
      rw [nth_get' (t := eTy) _ _ (by rw [List.length_map]; exact hk), List.getElem_map]
    have hkl : k < (L.map entOf).length := by rw [List.length_map]; exact hk
    have hlk : lookL L p = (entOf L[k], true) := by
      unfold lookL
      rw [if_neg hp0, ← hk2, findE_mem h (List.getElem_mem hk)]
    rw [hk1, hlk]
    refine TrL.quiets 1 rfl (by exact True.intro) ?_; refine TrL.nil ?_; refine Tr.seq ?_; refine Tr.seq ?_; refine Tr.region ?_; refine TrL.quiets 6 rfl (by exact True.intro) ?_; refine TrL.nil ?_
    refine Tr.cond rfl (fun c1 => ?_) (fun c1 => ?_)
    · exfalso
      simp [hp0] at c1
      omega
    refine Tr.skip ?_; refine Tr.seq ?_; refine Tr.region ?_; refine TrL.quiets 7 rfl (by (simp only [allOf, impO, imp, inR, loOk, and_true]; omega)) ?_; refine TrL.eff (effStore_sound rfl) (by exact True.intro) ?_; refine TrL.quiets 1 rfl (by exact True.intro) ?_; refine TrL.nil ?_; refine Tr.ret ?_
    refine retT.of rfl ?_ ?_
    · rw [← hkn]
      rfl
    · rfl
end Go.Proofs.YtgmjkciinnjpbaaDoor.Sx
