/-
  strings.ReplaceAll, strings.Contains; slices.Clone as a row of the call's own; slices.Compact in place; sorting and dropping runs as the kernel counts them.
  lists: Each, at, Pairs, Slice, Sort.
  lists: keep, Filter; pattern.Replace.
  A map from strings to values that are told one by one: laid, put, looked up.
  pattern.Replace; the functions of texts.
-/
import Derived.Test.YtcclfjddakonoaaGreatDoorF33
import Derived.Test.YtcclfjddakonoaaGreatDoorSxX
import Derived.Test.YtcclfjddakonoaaGreatDoorV8
import Derived.Test.YtcclfjddakonoaaGreatDoorG26
import Derived.Test.YtcclfjddakonoaaGreatDoorM4
import Derived.Test.YtcclfjddakonoaaGreatDoorF16
set_option linter.unusedVariables false
set_option linter.unusedSimpArgs false
set_option maxRecDepth 20000
set_option maxHeartbeats 4000000
namespace Go.Proofs.YtcclfjddakonoaaGreatDoor.Sx
open Go Go.Proofs Go.RowKit

theorem size_mk3 (l : Str) : (⟨l.toArray⟩ : ByteArray).size = l.length := rfl
theorem c_ReplaceAll (s old new : Str) (hs : s.length < 4294967281) (ho : 1 ≤ old.length) (hl : s.length + Lib.countB ⟨s.toArray⟩ ⟨old.toArray⟩ * new.length ≤ 140737488355328) :
    CallV Tryz.prog 45 [vS s, vS old, vS new] (vS (Lib.replaceAll s old new)) := by
  refine ⟨Go.Proofs.enters_of Tryz.func45 (by kernel_rfl) rfl, fun cx σ ρ w vs hw hd => ?_⟩
  simp only [SV.denL, SV.den] at hd
  obtain ⟨v1, r1, rfl, h1, v2, r2, rfl, h2, v3, r3, rfl, h3, rfl⟩ := hd
  simp only [Den, List.cons.injEq, and_true] at h1 h2 h3
  subst h1 h2 h3
  obtain ⟨m, hm⟩ := hw.glob
  have hcell := hw.sub _ _ hm
  refine (Tryz.strings_ReplaceAll ⟨s.toArray⟩ ⟨old.toArray⟩ ⟨new.toArray⟩ m w hs hcell ho hl).mono ?_
  rintro e w' ⟨rfl, hB⟩
  refine ⟨_, σ, rfl, Mem.le_refl _, hw.below (Mem.le_refl _) (fun a v ha => (hB.cell (sub_lt hw.sub ha)).trans (hw.sub a v ha)) hB (fun a v ha => .inl ⟨v, ha⟩), ?_⟩
  simp only [SV.den, Den]
  rfl
theorem c_Contains (s sub : Str) (hs : s.length < 4294967281) : CallV Tryz.prog 50 [vS s, vS sub] (vB (Lib.contains s sub)) := by
  refine ⟨Go.Proofs.enters_of Tryz.func50 (by kernel_rfl) rfl, fun cx σ ρ w vs hw hd => ?_⟩
  simp only [SV.denL, SV.den] at hd
  obtain ⟨v1, r1, rfl, h1, v2, r2, rfl, h2, rfl⟩ := hd
  simp only [Den, List.cons.injEq, and_true] at h1 h2
  subst h1 h2
  obtain ⟨m, hm⟩ := hw.glob
  have hcell := hw.sub _ _ hm
  refine (Tryz.strings_Contains ⟨s.toArray⟩ ⟨sub.toArray⟩ m w hs hcell).mono ?_
  rintro e w' ⟨rfl, rfl⟩
  refine ⟨_, σ, rfl, Mem.le_refl _, hw, ?_⟩
  simp only [SV.den, Den]
/-- A copy: a row that the call owns. -/
theorem c_CloneM (l : List Str) (hl : l.length ≤ 1099511627776) : CallT Tryz.prog 68 [vL .str l] [] (.arr 0) [.ra 9 .str l] := by
  refine ⟨Go.Proofs.enters_of Tryz.func68 (by kernel_rfl) rfl, by simp, fun cx σ ρ w vs hw hB hd => ?_⟩
  simp only [SV.denL, SV.den] at hd
  obtain ⟨v1, r1, rfl, ⟨A, n, c, hv, hnn, hc, hm, hcells⟩, rfl⟩ := hd
  simp only [List.cons.injEq, and_true] at hv
  subst hv
  have key : ∀ (v' : Value) (w' : World), w'.ownsRow w.heap.size 9 1 v' n (l.map strV) → Below w.heap.size w w' →
      ∃ v τ ρ', Ending.returned v' = .returned v ∧ σ.le τ ∧ WR cx τ ρ' [.ra 9 .str l] w' ∧ SV.den τ ρ' (.arr 0) v := by
    intro v' w' ho hb
    have hg : ∀ g, v'.ownBlock = some g → w.heap.size ≤ g := by
      intro g hg
      rcases ho.2 with ⟨rfl, _⟩ | ⟨g', cap, cur, rfl, h1, _⟩
      · cases hg
      · exact (Option.some.inj hg) ▸ h1
    obtain ⟨L, hL, hLb⟩ : ∃ L : Loc, L.sl = v' ∧ ∀ g, v'.ownBlock = some g → g = L.blk := by
      rcases ho.2 with ⟨rfl, _⟩ | ⟨g', cap, cur, rfl, h1, _⟩
      · exact ⟨⟨0, none, 0, 0, []⟩, rfl, fun g hg => by cases hg⟩
      · exact ⟨⟨g', some ⟨g', 0, none⟩, n, cap, []⟩, rfl, fun g hg => (Option.some.inj hg).symm⟩
    have hnew := hw.newEnt (τ := σ) (w' := w') (e := .ra 9 .str l) (L := L)
      (Mem.le_refl σ) (fun a v ha => (hb.cell (sub_lt hw.sub ha)).trans (hw.sub a v ha)) hb.block (fun a v ha => .inl ⟨v, ha⟩) ?_ (fun b hb => ?_) hb.os hb.tape hb.output hb.size
    · exact ⟨v', σ, _, rfl, Mem.le_refl _, hnew, by simp only [SV.den]; rw [show (0 : Nat) = ([] : List Ent).length from rfl, upd_same, hL]⟩
    · refine ⟨_, rows_of_str σ _, ?_, fun g hg => ?_, fun a v ha => ?_⟩
      · rw [upd_same, hL]
        refine ⟨by simp [Ty.cells], ?_⟩
        rcases ho.2 with ⟨h1, h2⟩ | ⟨g', cap, cur, h1, h2, h3, h4, h5, h6, h7⟩
        · exact .inl ⟨h1, by omega⟩
        · rw [← hnn]
          exact .inr ⟨g', cap, cur, h1, Nat.zero_le _, h3, h4, h5, h6, h7⟩
      · rw [upd_same, hL] at hg
        rw [upd_same]
        exact hLb g hg
      · rw [upd_same, hL]
        intro he
        have h1 := hg _ he
        have h2 := sub_lt hw.sub ha
        omega
    · simp only [Ent.at_, upd_same, hL] at hb
      exact hg b hb
  by_cases h0 : 0 < n
  · obtain ⟨ad, rfl, hcl⟩ := hcells h0
    have hcell : ∀ (j : Nat) x, l[j]? = some x → w.cell? (ad.add j) = some (strV x) := by
      intro j x hx
      obtain ⟨cx', h1, h2⟩ := hcl j x hx
      rw [Den] at h1
      have := h2 0 (strV x) (by rw [h1]; rfl)
      simp only [Ty.cells, Nat.mul_one, Nat.add_zero] at this
      exact hw.sub _ _ this
    have hl0 : 0 < l.length := by omega
    have hc0 := hcell 0 l[0] (List.getElem?_eq_getElem hl0)
    rw [Addr.add_zero'] at hc0
    have hsp := spot_none hc0
    obtain ⟨bk, o, sp⟩ := ad
    simp only at hsp
    subst hsp
    refine (Tryz.slices_Clone_string bk o n c (l.map fun s => ⟨s.toArray⟩) w (by rw [List.length_map]; omega) (by omega) fun j hj => ?_).mono ?_
    · rw [List.length_map] at hj
      have := hcell j l[j] (List.getElem?_eq_getElem hj)
      rw [add_lit] at this
      rw [this, List.getD_eq_getElem?_getD, List.getElem?_map, List.getElem?_eq_getElem hj]
      rfl
    · rintro e w' ⟨v', rfl, ho, _, hB'⟩
      refine key v' w' ?_ hB'
      rw [List.take_of_length_le (by rw [List.length_map]; omega), List.map_map] at ho
      exact ho
  · have hl0 : l = [] := List.eq_nil_of_length_eq_zero (by omega)
    have hn0 : n = 0 := by omega
    subst hl0 hn0
    cases A with
    | none =>
      refine (Tryz.slices_Clone_string_nil 0 c w).mono ?_
      rintro e w' ⟨rfl, rfl⟩
      exact key _ _ ⟨rfl, .inl ⟨rfl, rfl⟩⟩ (Below.refl _ _)
    | some a =>
      refine (Tryz.slices_Clone_string_zero a c w).mono ?_
      rintro e w' ⟨v', rfl, ho, _, hB'⟩
      exact key v' w' ho hB'
abbrev cmpS (l : List Str) : List Str := Lib.compact l
def cmpL (l : List Str) : List Str := cmpS l ++ List.replicate (l.length - (cmpS l).length) []
theorem cmpL_length (l : List Str) : (cmpL l).length = l.length := by
  have : (cmpS l).length ≤ l.length := Lib.compact_length_le l
  unfold cmpL
  simp only [List.length_append, List.length_replicate]
  omega
theorem compact_runs {cx : Cx} {σ : Mem} {ρ : Rho} {tab : List Ent} {w : World} {i : Nat} (l : List Str) (hlen : l.length ≤ 1099511627776) (hw : WR cx σ ρ tab w) (hi : tab[i]? = some (.ra 9 .str l)) :
    Calls Tryz.prog 70 #[(ρ i).sl] w fun e w' => e = .returned (.slice (ρ i).ad (cmpS l).length (ρ i).c) ∧ WR cx σ ρ (tab.set i (.ra 9 .str (cmpL l))) w' := by
  have hent := hw.ent i _ hi
  obtain ⟨xs, q1, q2, q3, q4⟩ := hent
  obtain rfl := rows_str q1
  by_cases hl : l = []
  · subst hl
    have hsl : ∃ p cap, (ρ i).sl = .slice p 0 cap := by
      rcases q2.2 with ⟨h, _⟩ | ⟨g, cap, cur, h, _⟩
      · exact ⟨_, _, h⟩
      · exact ⟨_, _, h⟩
    obtain ⟨p, cap, hp⟩ := hsl
    have hp' : (ρ i).ad = p ∧ (ρ i).n = 0 ∧ (ρ i).c = cap := by simpa [Loc.sl] using hp
    rw [hp]
    refine (Tryz.slices_Compact_string_empty p cap w).mono ?_
    rintro e w' ⟨rfl, rfl⟩
    refine ⟨by rw [hp'.1, hp'.2.2]; rfl, ?_⟩
    rw [show cmpL [] = [] from rfl]
    obtain ⟨hlt, he⟩ := List.getElem?_eq_some_iff.1 hi
    rw [← he, List.set_getElem_self]
    exact hw
  rcases q2.2 with ⟨_, h⟩ | ⟨g, cap, cur, hsl, _, hg, hnc, hcm, hcs, htake⟩
  · exact absurd (List.eq_nil_of_length_eq_zero h) hl
  have hgk := q3 g (by rw [hsl]; rfl)
  have hgs : g < w.heap.size := (Array.getElem?_eq_some_iff.1 hg).1
  simp only [Ty.cells, Nat.mul_one] at hcs htake
  have hcur : ∀ j, j < l.length → cur[j]? = some (strV (l.toArray[j]!)) := by
    intro j hj
    have h1 : (cur.toList.take l.length)[j]? = (l.map strV)[j]? := by rw [htake]
    rw [List.getElem?_take, if_pos hj, Array.getElem?_toList, List.getElem?_map, List.getElem?_eq_getElem hj] at h1
    rw [h1]
    simp [hj]
  have hH : Sort.Holds encStr w g 0 l.toArray := by
    intro j hj
    have hj' : j < l.length := by simpa using hj
    refine ⟨?_, ?_⟩
    · unfold World.cell?
      rw [hg, Nat.zero_add]
      exact hcur j hj'
    · unfold World.frozen?
      rw [hg]
      simp
  have hp' : (ρ i).ad = some ⟨g, 0, none⟩ ∧ (ρ i).n = l.length ∧ (ρ i).c = cap := by simpa [Loc.sl] using hsl
  rw [hsl]
  refine (Tryz.slices_Compact_string g 0 cap l w hH (by omega) (by omega)).mono ?_
  rintro e w' ⟨rfl, n, rfl⟩
  have hperm : (cmpL l).length = l.length := cmpL_length l
  change _ = Ending.returned (.slice (ρ i).ad (cmpS l).length (ρ i).c) ∧ WR cx σ ρ _ (Sort.putRow encStr (Sort.ahead w n) g 0 (cmpL l).toArray)
  have hh : ∀ b, b < w.heap.size → b ≠ g → (Sort.putRow encStr (Sort.ahead w n) g 0 (cmpL l).toArray).heap[b]? = w.heap[b]? := by
    intro b hb hne
    simp [Sort.putRow, Sort.mapBlock, Array.getElem?_modify, Ne.symm hne]
  have hgn : (Sort.putRow encStr (Sort.ahead w n) g 0 (cmpL l).toArray).heap[g]? = some (.cells (Sort.putCells encStr 0 (cmpL l).toArray cur) 9 (0, 0)) := by
    simp [Sort.putRow, Sort.mapBlock, Array.getElem?_modify, hg, Sort.onCells]
  have hob : (ρ i).sl.ownBlock = some g := by rw [hsl]; rfl
  have hq4 : ∀ a u, σ a = some u → a.block ≠ g := by
    intro a u ha heq
    exact q4 a u ha (by rw [hob, heq])
  have := hw.step (k := i) (e' := .ra 9 .str (cmpL l)) (w' := Sort.putRow encStr (Sort.ahead w n) g 0 (cmpL l).toArray) (τ := σ) (ρ' := ρ) (fun _ => true) hi (Mem.le_refl σ)
    (fun a u ha => by rw [World.cell?_of_block (w := w) (hh _ (sub_lt hw.sub ha) (hq4 a u ha))]; exact hw.sub a u ha) (fun _ _ => rfl) (fun _ _ => rfl) (fun b hb hne => hh b hb (fun e => hne (by simp only [Ent.at_]; rw [hob, e]))) (fun a u ha => .inl ⟨u, ha⟩) (fun h => by cases h)
    ⟨_, rows_of_str σ _, ?_, q3, q4⟩ (fun b hb => .inl hb) rfl rfl rfl (by simp)
  · rw [cleanT_true] at this
    refine ⟨?_, this⟩
    rw [hp'.1, hp'.2.2]
  · rw [hsl]
    refine ⟨by simp [Ty.cells], .inr ⟨g, cap, _, by rw [hperm], Nat.zero_le _, hgn, by rw [hperm]; exact hnc, hcm, ?_, ?_⟩⟩
    · simp [Sort.putCells, hcs, Ty.cells]
    · simp only [Ty.cells, Nat.mul_one]
      apply List.ext_getElem?
      intro j
      rw [List.getElem?_take, List.getElem?_map]
      by_cases hj : j < (cmpL l).length
      · rw [if_pos hj, Array.getElem?_toList, List.getElem?_eq_getElem hj]
        simp only [Sort.putCells, Array.getElem?_mapIdx]
        rw [hcur j (by omega)]
        have hj2 : j < l.length := by omega
        simp [hj, hj2]
        rfl
      · rw [if_neg hj, List.getElem?_eq_none (by omega)]
        rfl
theorem c_Compact (l : List Str) (hl : l.length ≤ 1099511627776) : CallT Tryz.prog 70 [.arr 0] [.ra 9 .str l] (.sub 0 (cmpS l).length) [.ra 9 .str (cmpL l)] := by
  refine ⟨Go.Proofs.enters_of Tryz.func70 (by kernel_rfl) rfl, by simp, fun cx σ ρ w vs hw hB hd => ?_⟩
  simp only [SV.denL, SV.den] at hd
  obtain ⟨v1, r1, rfl, h1, rfl⟩ := hd
  subst h1
  refine (compact_runs (i := 0) l hl hw rfl).mono ?_
  rintro e w' ⟨rfl, hw'⟩
  exact ⟨_, σ, ρ, rfl, Mem.le_refl _, hw', by simp only [SV.den]⟩

def insQ (x : Str) : List Str → List Str
  | [] => [x]
  | y :: l => if x ≤ y then x :: y :: l else y :: insQ x l
def isortQ : List Str → List Str
  | [] => []
  | x :: l => insQ x (isortQ l)
theorem insQ_perm (x : Str) : ∀ l : List Str, (insQ x l).Perm (x :: l)
  | [] => List.Perm.refl _
  | y :: l => by
    unfold insQ
    split
    · exact List.Perm.refl _
    · exact ((insQ_perm x l).cons y).trans (List.Perm.swap x y l)
theorem isortQ_perm : ∀ l : List Str, (isortQ l).Perm l
  | [] => List.Perm.refl _
  | x :: l => (insQ_perm x (isortQ l)).trans ((isortQ_perm l).cons x)
theorem insQ_sorted (x : Str) : ∀ l : List Str, l.Pairwise (fun a b => decide (a ≤ b) = true) → (insQ x l).Pairwise (fun a b => decide (a ≤ b) = true)
  | [], _ => by simp [insQ]
  | y :: l, h => by
    unfold insQ
    have h0 := h
    rw [List.pairwise_cons] at h
    split
    · rename_i hc
      refine List.pairwise_cons.2 ⟨fun z hz => ?_, h0⟩
      rcases List.mem_cons.1 hz with rfl | hz
      · exact decide_eq_true hc
      · exact decide_eq_true (List.le_trans hc (of_decide_eq_true (h.1 z hz)))
    · rename_i hc
      refine List.pairwise_cons.2 ⟨fun z hz => ?_, insQ_sorted x l h.2⟩
      rcases List.mem_cons.1 ((insQ_perm x l).mem_iff.1 hz) with rfl | hz
      · exact decide_eq_true ((List.le_total y z).resolve_right hc)
      · exact h.1 z hz
theorem isortQ_sorted : ∀ l : List Str, (isortQ l).Pairwise (fun a b => decide (a ≤ b) = true)
  | [] => List.Pairwise.nil
  | x :: l => insQ_sorted x _ (isortQ_sorted l)
theorem sortS_isort (l : List Str) : sortS l = isortQ l := (sortS_unique (isortQ_perm l) (isortQ_sorted l)).symm

def ddF : Option Str → List Str → List Str
  | _, [] => []
  | p, x :: l => if p = some x then ddF (some x) l else x :: ddF (some x) l
theorem ddF_snoc (x : Str) : ∀ (l : List Str) (p : Option Str), ddF p (l ++ [x]) = ddF p l ++ if (l.getLast?.or p) = some x then [] else [x]
  | [], p => by
    by_cases hp : p = some x
    · simp [ddF, hp]
    · simp [ddF, hp]
  | y :: l, p => by
    have ih := ddF_snoc x l (some y)
    have hl : (y :: l).getLast?.or p = l.getLast?.or (some y) := by
      cases l with
      | nil => rfl
      | cons z l => simp [List.getLast?_cons]
    rw [hl, List.cons_append]
    unfold ddF
    split
    · exact ih
    · rw [ih, List.cons_append]
theorem compactUpTo_dd (zs : List Str) : ∀ m : Nat, m ≤ zs.length → Lib.compactUpTo zs.toArray m = ddF none (zs.take m)
  | 0, _ => rfl
  | m + 1, h => by
    rw [Lib.compactUpTo_succ, compactUpTo_dd zs m (by omega), List.take_succ_eq_append_getElem (by omega), ddF_snoc, Option.or_none]
    congr 1
    have e1 : zs.toArray[m]! = zs[m] := by simp [getElem!_pos, show m < zs.length by omega]
    cases m with
    | zero => simp [Lib.keeps, e1]
    | succ m =>
      have e2 : zs.toArray[m]! = zs[m] := by simp [getElem!_pos, show m < zs.length by omega]
      have e3 : (zs.take (m + 1)).getLast? = some zs[m] := by
        rw [List.take_succ_eq_append_getElem (by omega), List.getLast?_append]
        rfl
      rw [e3]
      unfold Lib.keeps
      rw [Nat.add_sub_cancel, e1, e2]
      by_cases hc : zs[m] = zs[m + 1]
      · simp [hc]
      · simp [hc, Ne.symm hc]
theorem cmpS_dd (l : List Str) : cmpS l = ddF none l := by
  have := compactUpTo_dd l l.length (Nat.le_refl _)
  rw [List.take_length] at this
  exact this


def eachF (l : List Str) (b e : Str) : List Str := l.map fun w => b ++ w ++ e
theorem eachF_take (l : List Str) (b e : Str) (i : Nat) (h : i < l.length) : eachF (l.take (i + 1)) b e = eachF (l.take i) b e ++ [b ++ l[i] ++ e] := by
  unfold eachF
  rw [List.take_succ_eq_append_getElem h, List.map_append]
  rfl
theorem c_Each (l : List Str) (b e : Str) (hl : l.length ≤ 1099511627) (hb : b.length ≤ 1099511627) (he : e.length ≤ 1099511627) (hx : ∀ x ∈ l, x.length ≤ 1099511627) : CallV Tryz.prog 55 [vL .str l, vS b, vS e] (vL .str (eachF l b e)) := by
  refine CallV.of Tryz.func55 (by kernel_rfl) rfl Tryz.ntmps55 (by simp) rfl fun cx hB => ?_
  have hB1 : ∀ i, cx.B i = true → i < 1 := fun i h => by have := hB i h; omega
  refine Tr.seq ?_; refine Tr.region ?_; refine TrL.quiets 1 rfl (by exact True.intro) ?_; refine TrL.nil ?_; refine Tr.seq ?_; refine Tr.region ?_; refine TrL.quiets 1 rfl (by exact True.intro) ?_; refine TrL.nil ?_; refine Tr.seq ?_; refine Tr.seq ?_; refine Tr.region ?_; refine TrL.quiets 3 rfl (by exact True.intro) ?_; refine TrL.nil ?_; refine Tr.block ?_
  refine Tr.nilRow 7 9 .str rfl ?_
  refine Tr.loop (fun i : Nat => ⟨[(1, [], vS b), (2, [], vS e), (7, [], .own 0), (10, [], vL .str l), (11, [], vI l.length), (12, [], vI i)], [.gs 9 .str (eachF (l.take i) b e)]⟩) (fun i => i ≤ l.length) (fun i => l.length - i) 0 [1, 2, 7, 10, 11, 12] 1 hB1 rfl (Nat.zero_le _) fun i hi => ?_
  refine Tr.seq ?_; refine Tr.region ?_; refine TrL.quiets 1 rfl (by exact True.intro) ?_; refine TrL.nil ?_; refine Tr.seq ?_
  refine Tr.cond rfl (fun c1 => ?_) (fun c1 => ?_)
  · have hi1 : i < l.length := by simpa using c1
    have hmem : l[i] ∈ l := List.getElem_mem hi1
    have hxi := hx _ hmem
    have hnth : nth (t := .str) l (i : Int) = l[i] := nth_get' (t := .str) _ _ hi1
    have hel : (eachF (l.take i) b e).length = i := by simp [eachF]; omega
    refine Tr.skip ?_; refine Tr.seq ?_; refine Tr.block ?_; refine Tr.seq ?_; refine Tr.region ?_; refine TrL.quiets 3 rfl (by (simp only [allOf, impO, imp, inR, loOk, and_true]; omega)) ?_; refine TrL.nil ?_
    change Tr _ _ _ _ _ _
    refine Tr.is 9 (sv' := vS l[i]) rfl (congrArg vS hnth) ?_
    refine Tr.keep [1, 2, 7, 9, 10, 11, 12] 1 hB1 (st' := ⟨[(1, [], vS b), (2, [], vS e), (7, [], .own 0), (9, [], vS l[i]), (10, [], vL .str l), (11, [], vI l.length), (12, [], vI i)], [.gs 9 .str (eachF (l.take i) b e)]⟩) rfl ?_
    refine Tr.region ?_; refine TrL.quiets 6 rfl (by (simp (disch := omega) only [allOf, impO, imp, inR, loOk, and_true, w64, List.length_set, List.length_cons, List.length_nil, cut, List.length_take, List.length_drop, List.length_append, Int.toNat_natCast, Option.getD_none, Option.getD_some, Ty.D, true_and, decide_eq_true_eq, decide_eq_false_iff_not, Bool.and_eq_true, Bool.or_eq_false_iff]; omega)) ?_; refine TrL.eff (effLit_sound rfl) (by exact True.intro) ?_; refine TrL.eff (effAppend_sound rfl) ?_ ?_
    · show (eachF (l.take i) b e).length + 1 ≤ 1099511627776
      omega
    refine TrL.quiets 1 rfl (by exact True.intro) ?_; refine TrL.nil ?_; refine Tr.region ?_; refine TrL.quiets 2 rfl (by exact True.intro) ?_; refine TrL.nil ?_
    refine ⟨i + 1, hi1, by dsimp only; omega, ?_⟩
    refine Eq.trans (b := (⟨[(1, [], vS b), (2, [], vS e), (7, [], .own 0), (10, [], vL .str l), (11, [], vI l.length), (12, [], vI (IntKind.i64.wrap ((i : Int) + 1)))], [.gs 9 .str (eachF (l.take i) b e ++ [b ++ l[i] ++ e])]⟩ : St)) rfl ?_
    dsimp only
    rw [eachF_take l b e i hi1, w64n (y := i + 1) (by omega) (by omega)]
  · have hi1 : i = l.length := by
      have : ¬ (i : Int) < l.length := by simpa using c1
      omega
    subst hi1
    rw [List.take_length]
    refine Tr.exit ?_; refine Tr.seq ?_; refine Tr.region ?_; refine TrL.quiets 2 rfl (by exact True.intro) ?_; refine TrL.nil ?_; refine Tr.ret ?_
    refine retQ.of rfl ?_
    rfl
theorem c_at (l : List Str) (i : Nat) (hi : i ≤ 1099511627) (hl : l.length ≤ 1099511627) : CallV Tryz.prog 74 [vL .str l, vI i] (vS (l.getD i [])) := by
  refine CallV.of Tryz.func74 (by kernel_rfl) rfl Tryz.ntmps74 (by simp) rfl fun cx hB => ?_
  refine Tr.seq ?_; refine Tr.region ?_; refine TrL.quiets 1 rfl (by exact True.intro) ?_; refine TrL.nil ?_; refine Tr.seq ?_; refine Tr.seq ?_; refine Tr.region ?_; refine TrL.quiets 4 rfl (by exact True.intro) ?_; refine TrL.nil ?_
  refine Tr.cond rfl (fun c1 => ?_) (fun c1 => ?_)
  · have hi1 : i < l.length := by simpa using c1
    have hnth : nth (t := .str) l (i : Int) = l[i] := nth_get' (t := .str) _ _ hi1
    refine Tr.seq ?_; refine Tr.region ?_; refine TrL.quiets 5 rfl (by (simp only [allOf, impO, imp, inR, loOk, and_true]; omega)) ?_; refine TrL.nil ?_; refine Tr.ret ?_
    refine retQ.of rfl ?_
    rw [hnth, List.getD_eq_getElem?_getD, List.getElem?_eq_getElem hi1]
    rfl
  · have hi1 : l.length ≤ i := by
      have : ¬ (i : Int) < l.length := by simpa using c1
      omega
    refine Tr.skip ?_; refine Tr.seq ?_; refine Tr.region ?_; refine TrL.quiets 1 rfl (by exact True.intro) ?_; refine TrL.nil ?_; refine Tr.ret ?_
    refine retQ.of rfl ?_
    rw [List.getD_eq_getElem?_getD, List.getElem?_eq_none hi1]
    rfl
def pairF (a b : List Str) (i : Nat) : Str := a.getD i [] ++ b.getD i []
def pairsF (a b : List Str) : List Str := (List.range (max a.length b.length)).map (pairF a b)
theorem c_Pairs (a b : List Str) (ha : a.length ≤ 1099511627) (hb : b.length ≤ 1099511627) (hxa : ∀ x ∈ a, x.length ≤ 1099511627) (hxb : ∀ x ∈ b, x.length ≤ 1099511627) : CallV Tryz.prog 56 [vL .str a, vL .str b] (vL .str (pairsF a b)) := by
  have hgd : ∀ (l : List Str) (i : Nat), (∀ x ∈ l, x.length ≤ 1099511627) → (l.getD i []).length ≤ 1099511627 := by
    intro l i h
    rw [List.getD_eq_getElem?_getD]
    cases hg : l[i]? with
    | none => simp
    | some x => exact h x (List.mem_of_getElem? hg)
  refine CallV.of Tryz.func56 (by kernel_rfl) rfl Tryz.ntmps56 (by simp) rfl fun cx hB => ?_
  have hB1 : ∀ i, cx.B i = true → i < 1 := fun i h => by have := hB i h; omega
  refine Tr.seq ?_; refine Tr.region ?_; refine TrL.quiets 1 rfl (by exact True.intro) ?_; refine TrL.nil ?_; refine Tr.seq ?_; refine Tr.region ?_; refine TrL.quiets 1 rfl (by exact True.intro) ?_; refine TrL.nil ?_; refine Tr.seq ?_; refine Tr.seq ?_; refine Tr.region ?_; refine TrL.quiets 6 rfl (by exact True.intro) ?_; refine TrL.nil ?_
  change Tr _ _ _ _ _ _
  generalize hm : max a.length b.length = m
  refine Tr.is 11 (sv' := vI m) rfl (congrArg vI (by omega)) ?_
  refine Tr.nilRow 5 9 .str rfl ?_
  refine Tr.block ?_
  refine Tr.loop (fun i : Nat => ⟨[(0, [], vL .str a), (1, [], vL .str b), (5, [], .own 0), (11, [], vI m), (12, [], vI i)], [.gs 9 .str ((List.range i).map (pairF a b))]⟩) (fun i => i ≤ m) (fun i => m - i) 0 [0, 1, 5, 11, 12] 1 hB1 rfl (Nat.zero_le _) fun i hi => ?_
  refine Tr.seq ?_; refine Tr.region ?_; refine TrL.quiets 1 rfl (by exact True.intro) ?_; refine TrL.nil ?_; refine Tr.seq ?_
  refine Tr.cond rfl (fun c1 => ?_) (fun c1 => ?_)
  · have hi1 : i < m := by simpa using c1
    have h1 := hgd a i hxa
    have h2 := hgd b i hxb
    refine Tr.skip ?_; refine Tr.seq ?_; refine Tr.block ?_; refine Tr.seq ?_; refine Tr.region ?_; refine TrL.quiets 2 rfl (by exact True.intro) ?_; refine TrL.nil ?_; refine Tr.region ?_; refine TrL.quiets 3 rfl (by exact True.intro) ?_
    first | refine TrL.callV rfl rfl rfl rfl rfl (c_at a i (by omega) ha) ?_ | refine TrD.callV rfl rfl rfl rfl rfl (c_at a i (by omega) ha) rfl ?_
    refine TrL.quiets 2 rfl (by exact True.intro) ?_
    first | refine TrL.callV rfl rfl rfl rfl rfl (c_at b i (by omega) hb) ?_ | refine TrD.callV rfl rfl rfl rfl rfl (c_at b i (by omega) hb) rfl ?_
    refine TrL.quiets 1 rfl (by (simp only [allOf, impO, imp, inR, loOk, and_true]; omega)) ?_; refine TrL.eff (effLit_sound rfl) (by exact True.intro) ?_; refine TrL.eff (effAppend_sound rfl) ?_ ?_
    · show ((List.range i).map (pairF a b)).length + 1 ≤ 1099511627776
      rw [List.length_map, List.length_range]
      omega
    refine TrL.quiets 1 rfl (by exact True.intro) ?_; refine TrL.nil ?_; refine Tr.region ?_; refine TrL.quiets 2 rfl (by exact True.intro) ?_; refine TrL.nil ?_
    refine ⟨i + 1, hi1, by dsimp only; omega, ?_⟩
    refine Eq.trans (b := (⟨[(0, [], vL .str a), (1, [], vL .str b), (5, [], .own 0), (11, [], vI m), (12, [], vI (IntKind.i64.wrap ((i : Int) + 1)))], [.gs 9 .str ((List.range i).map (pairF a b) ++ [pairF a b i])]⟩ : St)) rfl ?_
    dsimp only
    rw [List.range_succ, List.map_append, w64n (y := i + 1) (by omega) (by omega)]
    rfl
  · have hi1 : i = m := by
      have : ¬ (i : Int) < m := by simpa using c1
      omega
    subst hi1
    refine Tr.exit ?_; refine Tr.seq ?_; refine Tr.region ?_; refine TrL.quiets 2 rfl (by exact True.intro) ?_; refine TrL.nil ?_; refine Tr.ret ?_
    refine retQ.of rfl ?_
    unfold pairsF
    rw [hm]
def sliceF (l : List Str) (f t : Int) : List Str := if max f 1 > min t l.length then [] else (l.drop (max f 1 - 1).toNat).take (min t l.length - (max f 1 - 1)).toNat
theorem c_Slice (l : List Str) (f t : Int) (hf : -1099511627776 ≤ f ∧ f ≤ 1099511627776) (ht : -1099511627776 ≤ t ∧ t ≤ 1099511627776) (hl : l.length ≤ 1099511627776) : CallV Tryz.prog 54 [vL .str l, vI f, vI t] (vL .str (sliceF l f t)) := by
  refine CallV.of Tryz.func54 (by kernel_rfl) rfl Tryz.ntmps54 (by simp) rfl fun cx hB => ?_
  have hB1 : ∀ i, cx.B i = true → i < 1 := fun i h => by have := hB i h; omega
  have h1 : 1 ≤ max f 1 := by omega
  have h2 : min t l.length ≤ l.length := by omega
  have hs0 : sliceF l f t = if max f 1 > min t l.length then [] else (l.drop (max f 1 - 1).toNat).take (min t l.length - (max f 1 - 1)).toNat := rfl
  rw [hs0]
  have h3 : max f 1 ≤ 1099511627776 := by omega
  have h4 : -1099511627776 ≤ min t l.length := by omega
  clear hs0
  refine Tr.seq ?_; refine Tr.region ?_; refine TrL.quiets 1 rfl (by exact True.intro) ?_; refine TrL.nil ?_; refine Tr.seq ?_; refine Tr.region ?_; refine TrL.quiets 8 rfl (by exact True.intro) ?_; refine TrL.nil ?_
  change Tr _ _ _ _ _ _
  generalize max f 1 = a at h1 h3
  generalize min t (l.length : Int) = b at h2 h4
  refine Tr.keep [0, 1, 2] 0 hB (st' := ⟨[(0, [], vL .str l), (1, [], vI a), (2, [], vI b)], []⟩) rfl ?_
  refine Tr.seq ?_; refine Tr.seq ?_; refine Tr.region ?_; refine TrL.quiets 3 rfl (by exact True.intro) ?_; refine TrL.nil ?_
  refine Tr.cond rfl (fun c1 => ?_) (fun c1 => ?_)
  · have hc : a > b := by simpa using c1
    rw [if_pos hc]
    refine Tr.seq ?_; refine Tr.region ?_; refine TrL.quiets 1 rfl (by exact True.intro) ?_; refine TrL.nil ?_
    change Tr _ _ _ _ _ _
    refine Tr.weak 6 rfl (nil_weak .str) ?_
    refine Tr.ret ?_
    refine retQ.of rfl ?_
    rfl
  · have hc : ¬ a > b := by simpa using c1
    have hw : IntKind.i64.wrap (a - 1) = a - 1 := w64 (by omega) (by omega)
    rw [if_neg hc]
    refine Tr.skip ?_; refine Tr.seq ?_; refine Tr.region ?_; refine TrL.quiets 5 rfl (by (simp (disch := omega) only [allOf, impO, imp, inR, loOk, and_true, w64, List.length_set, List.length_cons, List.length_nil, Option.getD_none, Option.getD_some, Ty.D, true_and, decide_eq_true_eq, decide_eq_false_iff_not, Bool.and_eq_true, Bool.or_eq_false_iff]; omega)) ?_
    have he : cut l (some (IntKind.i64.wrap (a - 1))) (some b) = (l.drop (a - 1).toNat).take (b - (a - 1)).toNat := by
      rw [hw]
      simp only [cut]
      first | rfl | (rw [List.drop_take]; congr 1; omega)
    rw [he]
    have hle : ((l.drop (a - 1).toNat).take (b - (a - 1)).toNat).length ≤ 1099511627776 := by
      rw [List.length_take, List.length_drop]
      omega
    generalize (l.drop (a - 1).toNat).take (b - (a - 1)).toNat = M at hle
    refine TrL.callT [] rfl rfl rfl rfl rfl (c_CloneM M hle) rfl rfl rfl ?_
    refine TrL.quiets 1 rfl (by exact True.intro) ?_; refine TrL.nil ?_
    change Tr _ _ _ _ _ _
    refine Tr.keep [6] 1 hB1 (st' := ⟨[(6, [], .arr 0)], [.ra 9 .str M]⟩) rfl ?_
    refine Tr.freeze 0 rfl ?_
    refine Tr.ret ?_
    refine retQ.of rfl ?_
    rfl
def sortF (l : List Str) : List Str := cmpS (sortS l)
theorem c_lSort (l : List Str) (hl : l.length ≤ 1099511627776) : CallV Tryz.prog 52 [vL .str l] (vL .str (sortF l)) := by
  refine CallV.of Tryz.func52 (by kernel_rfl) rfl Tryz.ntmps52 (by simp) rfl fun cx hB => ?_
  have hB1 : ∀ i, cx.B i = true → i < 1 := fun i h => by have := hB i h; omega
  refine Tr.seq ?_; refine Tr.region ?_; refine TrL.quiets 1 rfl (by exact True.intro) ?_; refine TrL.nil ?_; refine Tr.seq ?_; refine Tr.region ?_; refine TrL.quiets 1 rfl (by exact True.intro) ?_
  refine TrL.callT [] rfl rfl rfl rfl rfl (c_CloneM l hl) rfl rfl rfl ?_
  refine TrL.quiets 1 rfl (by exact True.intro) ?_; refine TrL.nil ?_
  change Tr _ _ _ _ _ _
  refine Tr.keep [3] 1 hB1 (st' := ⟨[(3, [], .arr 0)], [.ra 9 .str l]⟩) rfl ?_
  refine Tr.seq ?_; refine Tr.region ?_; refine TrL.quiets 1 rfl (by exact True.intro) ?_
  refine TrL.sortM 0 rfl rfl rfl rfl rfl rfl hl ?_
  refine TrL.nil ?_; refine Tr.seq ?_; refine Tr.region ?_; refine TrL.quiets 1 rfl (by exact True.intro) ?_
  have hsl : (sortS l).length = l.length := (sortS_perm l).length_eq
  refine TrL.callT [0] rfl rfl rfl rfl rfl (c_Compact (sortS l) (by omega)) rfl rfl rfl ?_
  refine TrL.quiets 1 rfl (by exact True.intro) ?_; refine TrL.nil ?_
  change Tr _ _ _ _ _ _
  have hcl : (cmpS (sortS l)).length ≤ (cmpL (sortS l)).length := by
    rw [cmpL_length]
    exact Lib.compact_length_le _
  refine Tr.shortVar 0 (cmpS (sortS l)).length 2 rfl rfl hcl ?_
  refine Tr.freeze 0 rfl ?_
  refine Tr.ret ?_
  refine retQ.of rfl ?_
  exact congrArg (vL .str) List.take_left

abbrev pTy : Ty := .st (.prod .bool (.prod .str .str))
def idxQ {α : Type} (p : α → Bool) : List α → Int → Int
  | [], _ => -1
  | x :: r, i => if p x then i else idxQ p r (i + 1)
theorem idxQ_any {α : Type} (p : α → Bool) : ∀ (l : List α) (i : Int), 0 ≤ i → decide (0 ≤ idxQ p l i) = l.any p
  | [], i, _ => rfl
  | x :: r, i, h => by
    rw [idxQ, List.any_cons]
    cases hx : p x
    · simp only [Bool.false_eq_true, if_false, Bool.false_or]
      exact idxQ_any p r (i + 1) (by omega)
    · simp [h]
def okPat (p : PatD) : Prop := p.2.1.length + p.2.2.length ≤ 1099511627776
abbrev wBox (w : Str) : List Ent := [.box 9 [vS w]]
theorem c_filter11 (p : PatD) (w : Str) (hp : okPat p) (hw : w.length ≤ 1099511627776) : CallT Tryz.prog 67 [.agg (svs pTy p), .ptr 0 0] (wBox w) (vB (matchF p w).2) (wBox w) := by
  refine CallT.of Tryz.func67 (by kernel_rfl) rfl Tryz.ntmps67 (by simp) (by simp) fun cx hB => ?_
  have hB2 : ∀ i, cx.B i = true → i < 2 := fun i h => Nat.lt_of_lt_of_le (hB i h) (show 1 ≤ 2 by decide)
  refine Tr.seq ?_; refine Tr.region ?_; refine TrL.eff (effBox_sound rfl) (by exact True.intro) ?_; refine TrL.quiets 1 rfl (by exact True.intro) ?_; refine TrL.nil ?_; refine Tr.seq ?_; refine Tr.region ?_; refine TrL.quiets 2 rfl (by exact True.intro) ?_
  first | refine TrL.callV rfl rfl rfl rfl rfl (c_Match p w hp hw) ?_ | refine TrD.callV rfl rfl rfl rfl rfl (c_Match p w hp hw) rfl ?_
  refine TrL.quiets 5 rfl (by exact True.intro) ?_; refine TrL.nil ?_; refine Tr.seq ?_; refine Tr.region ?_; refine TrL.quiets 2 rfl (by exact True.intro) ?_; refine TrL.nil ?_; refine Tr.ret ?_
  exact retT.of rfl rfl rfl
theorem c_indexPat (w : Str) (hw : w.length ≤ 1099511627776) (l : List PatD) (hl : l.length ≤ 1099511627776) (hp : ∀ p ∈ l, okPat p) :
    CallT Tryz.prog 83 [vL pTy l, .fn 67 [] [.ptr 0 0]] (wBox w) (vI (idxQ (fun p => (matchF p w).2) l 0)) (wBox w) := by
  refine CallT.of Tryz.func83 (by kernel_rfl) rfl Tryz.ntmps83 (by simp) (by simp) fun cx hB => ?_
  have hB1 : ∀ i, cx.B i = true → i < 1 := hB
  refine Tr.seq ?_; refine Tr.region ?_; refine TrL.quiets 1 rfl (by exact True.intro) ?_; refine TrL.nil ?_; refine Tr.seq ?_; refine Tr.seq ?_; refine Tr.region ?_; refine TrL.quiets 3 rfl (by exact True.intro) ?_; refine TrL.nil ?_; refine Tr.block ?_
  refine Tr.loop (fun (i : Nat) => ⟨[(0, [], vL pTy l), (1, [], .fn 67 [] [.ptr 0 0]), (7, [], vI l.length), (8, [], vI i)], wBox w⟩) (fun i => i ≤ l.length ∧ idxQ (fun p => (matchF p w).2) l 0 = idxQ (fun p => (matchF p w).2) (l.drop i) i) (fun i => l.length - i) 0 [0, 1, 7, 8] 1 hB1 rfl ⟨Nat.zero_le _, rfl⟩ fun i hi => ?_
  obtain ⟨hi, hI⟩ := hi
  refine Tr.seq ?_; refine Tr.region ?_; refine TrL.quiets 1 rfl (by exact True.intro) ?_; refine TrL.nil ?_; refine Tr.seq ?_
  refine Tr.cond rfl (fun h1 => ?_) (fun h1 => ?_)
  · simp only [decide_eq_true_eq] at h1
    have hi1 : i < l.length := by omega
    rw [List.drop_eq_getElem_cons hi1, idxQ] at hI
    have hn : nth (t := pTy) l (i : Int) = l[i] := nth_get' (t := pTy) l i hi1
    have hpi := hp _ (List.getElem_mem hi1)
    rw [← hn] at hpi
    refine Tr.skip ?_; refine Tr.seq ?_; refine Tr.block ?_; refine Tr.seq ?_; refine Tr.region ?_; refine TrL.quiets 2 rfl (by exact True.intro) ?_; refine TrL.nil ?_; refine Tr.seq ?_; refine Tr.region ?_; refine TrL.quiets 5 rfl (by (simp only [allOf, impO, imp, inR, loOk, and_true]; omega)) ?_
    refine TrL.callT [0] rfl rfl rfl rfl rfl (c_filter11 (nth (t := pTy) l (i : Int)) w hpi hw) rfl rfl rfl ?_
    rw [hn]
    refine TrL.nil ?_
    refine Tr.cond rfl (fun h2 => ?_) (fun h2 => ?_)
    · have h2' : (matchF l[i] w).2 = true := h2
      rw [if_pos h2'] at hI
      refine Tr.seq ?_; refine Tr.region ?_; refine TrL.quiets 2 rfl (by exact True.intro) ?_; refine TrL.nil ?_; refine Tr.ret ?_
      rw [hI]
      exact retT.of rfl rfl rfl
    · have h2' : (matchF l[i] w).2 = false := h2
      rw [h2'] at hI
      refine Tr.skip ?_; refine Tr.region ?_; refine TrL.quiets 2 rfl (by exact True.intro) ?_; refine TrL.nil ?_
      refine ⟨i + 1, ⟨hi1, by rw [hI]; simp⟩, by dsimp only; omega, ?_⟩
      refine Eq.trans (b := (⟨[(0, [], vL pTy l), (1, [], .fn 67 [] [.ptr 0 0]), (7, [], vI l.length), (8, [], vI (IntKind.i64.wrap ((i : Int) + 1)))], wBox w⟩ : St)) rfl ?_
      dsimp only
      rw [w64n (y := i + 1) (by omega) (by omega)]
  · simp only [decide_eq_false_iff_not] at h1
    rw [List.drop_eq_nil_of_le (by omega)] at hI
    refine Tr.exit ?_; refine Tr.seq ?_; refine Tr.region ?_; refine TrL.quiets 1 rfl (by exact True.intro) ?_; refine TrL.nil ?_; refine Tr.ret ?_
    rw [hI]
    exact retT.of rfl rfl rfl
theorem c_containsPat (w : Str) (hw : w.length ≤ 1099511627776) (l : List PatD) (hl : l.length ≤ 1099511627776) (hp : ∀ p ∈ l, okPat p) :
    CallT Tryz.prog 66 [vL pTy l, .fn 67 [] [.ptr 0 0]] (wBox w) (vB (l.any fun p => (matchF p w).2)) (wBox w) := by
  refine CallT.of Tryz.func66 (by kernel_rfl) rfl Tryz.ntmps66 (by simp) (by simp) fun cx hB => ?_
  refine Tr.seq ?_; refine Tr.region ?_; refine TrL.quiets 1 rfl (by exact True.intro) ?_; refine TrL.nil ?_; refine Tr.seq ?_; refine Tr.region ?_; refine TrL.quiets 2 rfl (by exact True.intro) ?_
  refine TrL.callT [0] rfl rfl rfl rfl rfl (c_indexPat w hw l hl hp) rfl rfl rfl ?_
  refine TrL.quiets 2 rfl (by exact True.intro) ?_; refine TrL.nil ?_; refine Tr.ret ?_
  exact retT.of rfl (congrArg vB (idxQ_any (fun p => (matchF p w).2) l 0 (Int.le_refl _))) rfl
abbrev filT (all : List PatD) (out : Bool) : List Ent := [.box 4 [vB out], .box 79 [.own 2], .gs 75 pTy all]
def soF (all : List PatD) (out : Bool) (w : Str) : Bool := (all.any fun p => (matchF p w).2) != out
theorem c_filter1 (all : List PatD) (out : Bool) (w : Str) (hw : w.length ≤ 1099511627776) (hl : all.length ≤ 1099511627776) (hp : ∀ p ∈ all, okPat p) :
    CallT Tryz.prog 65 [vS w, .ptr 1 0, .ptr 0 0] (filT all out) (vB (soF all out w)) (filT all out) := by
  refine CallT.of Tryz.func65 (by kernel_rfl) rfl Tryz.ntmps65 (by simp) (by simp) fun cx hB => ?_
  have hB3 : ∀ i, cx.B i = true → i < 3 := hB
  refine Tr.seq ?_; refine Tr.region ?_; refine TrL.eff (effBox_sound rfl) (by exact True.intro) ?_; refine TrL.quiets 1 rfl (by exact True.intro) ?_; refine TrL.nil ?_; refine Tr.seq ?_; refine Tr.region ?_; refine TrL.quiets 2 rfl (by exact True.intro) ?_
  refine TrL.callT [3] rfl rfl rfl rfl rfl (c_containsPat w hw all hl hp) rfl rfl rfl ?_
  refine TrL.quiets 1 rfl (by exact True.intro) ?_; refine TrL.nil ?_; refine Tr.seq ?_; refine Tr.region ?_; refine TrL.quiets 4 rfl (by exact True.intro) ?_; refine TrL.nil ?_; refine Tr.ret ?_
  exact retT.of rfl rfl rfl
theorem c_keep (all : List PatD) (out : Bool) (l : List Str) (hl : l.length ≤ 1099511627) (hw : ∀ w ∈ l, w.length ≤ 1099511627776) (hal : all.length ≤ 1099511627776) (hp : ∀ p ∈ all, okPat p) :
    CallT Tryz.prog 64 [vL .str l, .fn 65 [] [.ptr 1 0, .ptr 0 0]] (filT all out) (vL .str (l.filter (soF all out))) (filT all out) := by
  refine CallT.of Tryz.func64 (by kernel_rfl) rfl Tryz.ntmps64 (by simp) (by simp) fun cx hB => ?_
  have hB4 : ∀ i, cx.B i = true → i < 4 := fun i h => Nat.lt_of_lt_of_le (hB i h) (show 3 ≤ 4 by decide)
  refine Tr.seq ?_; refine Tr.region ?_; refine TrL.quiets 1 rfl (by exact True.intro) ?_; refine TrL.nil ?_; refine Tr.seq ?_; refine Tr.region ?_; refine TrL.quiets 1 rfl (by exact True.intro) ?_; refine TrL.nil ?_; refine Tr.seq ?_; refine Tr.seq ?_; refine Tr.region ?_; refine TrL.quiets 3 rfl (by exact True.intro) ?_; refine TrL.nil ?_; refine Tr.block ?_
  refine Tr.nilRow 5 9 .str rfl ?_
  refine Tr.loop (fun i : Nat => ⟨[(1, [], .fn 65 [] [.ptr 1 0, .ptr 0 0]), (5, [], .own 3), (8, [], vL .str l), (9, [], vI l.length), (10, [], vI i)], filT all out ++ [.gs 9 .str ((l.take i).filter (soF all out))]⟩) (fun i => i ≤ l.length) (fun i => l.length - i) 0 [1, 5, 8, 9, 10] 4 hB4 rfl (Nat.zero_le _) fun i hi => ?_
  refine Tr.seq ?_; refine Tr.region ?_; refine TrL.quiets 1 rfl (by exact True.intro) ?_; refine TrL.nil ?_; refine Tr.seq ?_
  refine Tr.cond rfl (fun c1 => ?_) (fun c1 => ?_)
  · have hi1 : i < l.length := by simpa using c1
    have hnth : nth (t := .str) l (i : Int) = l[i] := nth_get' (t := .str) _ _ hi1
    have hwi := hw _ (List.getElem_mem hi1)
    have hfl : ((l.take i).filter (soF all out)).length ≤ i := by
      have h1 := List.length_filter_le (soF all out) (l.take i)
      rw [List.length_take] at h1
      omega
    have hfs : (l.take (i + 1)).filter (soF all out) = (l.take i).filter (soF all out) ++ if soF all out l[i] then [l[i]] else [] := by
      rw [List.take_succ_eq_append_getElem hi1, List.filter_append]
      congr 1
      cases h : soF all out l[i] <;> simp [h]
    refine Tr.skip ?_; refine Tr.seq ?_; refine Tr.block ?_; refine Tr.seq ?_; refine Tr.region ?_; refine TrL.quiets 3 rfl (by (simp only [allOf, impO, imp, inR, loOk, and_true]; omega)) ?_; refine TrL.nil ?_
    change Tr _ _ _ _ _ _
    refine Tr.is 7 (sv' := vS l[i]) rfl (congrArg vS hnth) ?_
    refine Tr.keep [1, 5, 7, 8, 9, 10] 4 hB4 (st' := ⟨[(1, [], .fn 65 [] [.ptr 1 0, .ptr 0 0]), (5, [], .own 3), (7, [], vS l[i]), (8, [], vL .str l), (9, [], vI l.length), (10, [], vI i)], filT all out ++ [.gs 9 .str ((l.take i).filter (soF all out))]⟩) rfl ?_
    refine Tr.seq ?_; refine Tr.region ?_; refine TrL.quiets 2 rfl (by exact True.intro) ?_
    refine TrL.callT [0, 1, 2] rfl rfl rfl rfl rfl (c_filter1 all out l[i] hwi hal hp) rfl rfl rfl ?_
    refine TrL.nil ?_
    refine Tr.cond rfl (fun c2 => ?_) (fun c2 => ?_)
    · have c2' : soF all out l[i] = true := c2
      rw [if_pos c2'] at hfs
      refine Tr.region ?_; refine TrL.quiets 2 rfl (by exact True.intro) ?_; refine TrL.eff (effLit_sound rfl) (by exact True.intro) ?_; refine TrL.eff (effAppend_sound rfl) ?_ ?_
      · show ((l.take i).filter (soF all out)).length + 1 ≤ 1099511627776
        omega
      refine TrL.quiets 1 rfl (by exact True.intro) ?_; refine TrL.nil ?_; refine Tr.region ?_; refine TrL.quiets 2 rfl (by exact True.intro) ?_; refine TrL.nil ?_
      refine ⟨i + 1, hi1, by dsimp only; omega, ?_⟩
      refine Eq.trans (b := (⟨[(1, [], .fn 65 [] [.ptr 1 0, .ptr 0 0]), (5, [], .own 3), (8, [], vL .str l), (9, [], vI l.length), (10, [], vI (IntKind.i64.wrap ((i : Int) + 1)))], filT all out ++ [.gs 9 .str ((l.take i).filter (soF all out) ++ [l[i]])]⟩ : St)) rfl ?_
      dsimp only
      rw [hfs, w64n (y := i + 1) (by omega) (by omega)]
    · have c2' : soF all out l[i] = false := c2
      rw [c2', if_neg (by decide), List.append_nil] at hfs
      refine Tr.skip ?_; refine Tr.region ?_; refine TrL.quiets 2 rfl (by exact True.intro) ?_; refine TrL.nil ?_
      refine ⟨i + 1, hi1, by dsimp only; omega, ?_⟩
      refine Eq.trans (b := (⟨[(1, [], .fn 65 [] [.ptr 1 0, .ptr 0 0]), (5, [], .own 3), (8, [], vL .str l), (9, [], vI l.length), (10, [], vI (IntKind.i64.wrap ((i : Int) + 1)))], filT all out ++ [.gs 9 .str ((l.take i).filter (soF all out))]⟩ : St)) rfl ?_
      dsimp only
      rw [hfs, w64n (y := i + 1) (by omega) (by omega)]
  · have hi1 : i = l.length := by
      have : ¬ (i : Int) < l.length := by simpa using c1
      omega
    subst hi1
    rw [List.take_length]
    refine Tr.exit ?_; refine Tr.seq ?_; refine Tr.region ?_; refine TrL.quiets 2 rfl (by exact True.intro) ?_; refine TrL.nil ?_; refine Tr.ret ?_
    exact retT.of rfl rfl rfl
def filterF (ps l : List Str) (out : Bool) : List Str := l.filter (soF (ps.map patF) out)
theorem ofR_lenT : ∀ (r t : Str) (b : Nat), (ofR t b r).2.1.length + (ofR t b r).2.2.length ≤ t.length + r.length
  | [], t, b => Nat.le_refl _
  | c :: r, t, b => by
    rw [ofR]
    split
    · have := ofR_lenT r (t ++ [c]) (b + 1)
      simp only [List.length_append, List.length_cons, List.length_nil] at this ⊢
      omega
    · split
      · split
        · simp only [List.length_take, List.length_cons]
          omega
        · have := ofR_lenT r (t.take (t.length - b + b / 2) ++ [c]) 0
          simp only [List.length_append, List.length_take, List.length_cons, List.length_nil] at this ⊢
          omega
      · have := ofR_lenT r (t ++ [c]) 0
        simp only [List.length_append, List.length_cons, List.length_nil] at this ⊢
        omega
theorem patF_lenT (s : Str) : (patF s).2.1.length + (patF s).2.2.length ≤ s.length := by
  have := ofR_lenT s [] 0
  simpa [patF] using this
theorem c_Filter (ps l : List Str) (out : Bool) (hps : ps.length ≤ 1099511627) (hpx : ∀ p ∈ ps, p.length ≤ 1099511627) (hl : l.length ≤ 1099511627) (hw : ∀ w ∈ l, w.length ≤ 1099511627776) :
    CallV Tryz.prog 51 [vL .str ps, vL .str l, vB out] (vL .str (filterF ps l out)) := by
  refine CallV.of Tryz.func51 (by kernel_rfl) rfl Tryz.ntmps51 (by simp) rfl fun cx hB => ?_
  have hB3 : ∀ i, cx.B i = true → i < 3 := fun i h => Nat.lt_of_lt_of_le (hB i h) (by decide)
  refine Tr.seq ?_; refine Tr.region ?_; refine TrL.eff (effBox_sound rfl) (by exact True.intro) ?_; refine TrL.quiets 1 rfl (by exact True.intro) ?_; refine TrL.nil ?_; refine Tr.seq ?_; refine Tr.region ?_; refine TrL.eff (effBox_sound rfl) (by exact True.intro) ?_; refine TrL.nil ?_; refine Tr.seq ?_; refine Tr.seq ?_; refine Tr.region ?_; refine TrL.quiets 3 rfl (by exact True.intro) ?_; refine TrL.nil ?_
  change Tr _ _ _ _ _ _
  refine Tr.keep [0, 1, 5, 7, 10, 11, 12] 2 (fun i h => Nat.lt_of_lt_of_le (hB i h) (by decide)) (st' := ⟨[(0, [], vL .str ps), (1, [], vL .str l), (5, [], .ptr 0 0), (7, [], .ptr 1 0), (10, [], vL .str ps), (11, [], vI ps.length), (12, [], vI 0)], [.box 4 [vB out], .box 79 [.nils]]⟩) rfl ?_
  refine Tr.nilBox 1 0 75 pTy rfl rfl ?_
  refine Tr.block ?_
  refine Tr.loop (fun i : Nat => ⟨[(1, [], vL .str l), (5, [], .ptr 0 0), (7, [], .ptr 1 0), (10, [], vL .str ps), (11, [], vI ps.length), (12, [], vI i)], filT ((ps.take i).map patF) out⟩) (fun i => i ≤ ps.length) (fun i => ps.length - i) 0 [1, 5, 7, 10, 11, 12] 3 hB3 rfl (Nat.zero_le _) fun i hi => ?_
  refine Tr.seq ?_; refine Tr.region ?_; refine TrL.quiets 1 rfl (by exact True.intro) ?_; refine TrL.nil ?_; refine Tr.seq ?_
  refine Tr.cond rfl (fun c1 => ?_) (fun c1 => ?_)
  · have hi1 : i < ps.length := by simpa using c1
    have hnth : nth (t := .str) ps (i : Int) = ps[i] := nth_get' (t := .str) _ _ hi1
    have hpi := hpx _ (List.getElem_mem hi1)
    have hml : ((ps.take i).map patF).length = i := by rw [List.length_map, List.length_take]; omega
    have hms : (ps.take (i + 1)).map patF = (ps.take i).map patF ++ [patF ps[i]] := by
      rw [List.take_succ_eq_append_getElem hi1, List.map_append]
      rfl
    refine Tr.skip ?_; refine Tr.seq ?_; refine Tr.block ?_; refine Tr.seq ?_; refine Tr.region ?_; refine TrL.quiets 3 rfl (by (simp only [allOf, impO, imp, inR, loOk, and_true]; omega)) ?_; refine TrL.nil ?_
    change Tr _ _ _ _ _ _
    refine Tr.is 9 (sv' := vS ps[i]) rfl (congrArg vS hnth) ?_
    refine Tr.keep [1, 5, 7, 9, 10, 11, 12] 3 hB3 (st' := ⟨[(1, [], vL .str l), (5, [], .ptr 0 0), (7, [], .ptr 1 0), (9, [], vS ps[i]), (10, [], vL .str ps), (11, [], vI ps.length), (12, [], vI i)], filT ((ps.take i).map patF) out⟩) rfl ?_
    generalize hmm : (ps.take i).map patF = M at hml hms
    generalize hpp : ps[i] = p at hpi hms
    have hof := c_patOf p (by omega)
    have hob : M.length + 1 ≤ 1099511627776 := by omega
    refine Tr.drawA 6 rfl (by kernel_rfl) ?_
    refine TrA.take 1 rfl rfl (by kernel_rfl) rfl (by exact True.intro) ?_; refine TrA.two 0 2 (by kernel_rfl) rfl rfl ?_ ?_
    · refine TrL.quiets 1 rfl (by exact True.intro) ?_; refine TrL.nil ?_; refine TrA.one 2 (by kernel_rfl) rfl ?_
      first | refine TrL.callV rfl rfl rfl rfl rfl hof ?_ | refine TrD.callV rfl rfl rfl rfl rfl hof rfl ?_
      refine TrL.nil ?_; refine TrA.one 3 (by kernel_rfl) rfl ?_; refine TrL.eff (effLit_sound rfl) (by exact True.intro) ?_; refine TrL.nil ?_; refine TrA.one 4 (by kernel_rfl) rfl ?_; refine TrL.eff (effAppend_sound rfl) (by assumption) ?_; refine TrL.nil ?_; refine TrA.one 5 (by kernel_rfl) rfl ?_; refine TrL.eff (effStore_sound rfl) (by exact True.intro) ?_; refine TrL.nil ?_; refine TrA.done (by kernel_rfl) ?_; refine Tr.region ?_; refine TrL.quiets 2 rfl (by exact True.intro) ?_; refine TrL.nil ?_
      refine ⟨i + 1, hi1, by dsimp only; omega, ?_⟩
      refine Eq.trans (b := (⟨[(1, [], vL .str l), (5, [], .ptr 0 0), (7, [], .ptr 1 0), (10, [], vL .str ps), (11, [], vI ps.length), (12, [], vI (IntKind.i64.wrap ((i : Int) + 1)))], filT (M ++ [patF p]) out⟩ : St)) rfl ?_
      dsimp only
      rw [← hms, w64n (y := i + 1) (by omega) (by omega)]
    · first | refine TrL.callV rfl rfl rfl rfl rfl hof ?_ | refine TrD.callV rfl rfl rfl rfl rfl hof rfl ?_
      refine TrL.nil ?_; refine TrA.two 0 3 (by kernel_rfl) rfl rfl ?_ ?_
      · refine TrL.quiets 1 rfl (by exact True.intro) ?_; refine TrL.nil ?_; refine TrA.one 3 (by kernel_rfl) rfl ?_; refine TrL.eff (effLit_sound rfl) (by exact True.intro) ?_; refine TrL.nil ?_; refine TrA.one 4 (by kernel_rfl) rfl ?_; refine TrL.eff (effAppend_sound rfl) (by assumption) ?_; refine TrL.nil ?_; refine TrA.one 5 (by kernel_rfl) rfl ?_; refine TrL.eff (effStore_sound rfl) (by exact True.intro) ?_; refine TrL.nil ?_; refine TrA.done (by kernel_rfl) ?_; refine Tr.region ?_; refine TrL.quiets 2 rfl (by exact True.intro) ?_; refine TrL.nil ?_
        refine ⟨i + 1, hi1, by dsimp only; omega, ?_⟩
        refine Eq.trans (b := (⟨[(1, [], vL .str l), (5, [], .ptr 0 0), (7, [], .ptr 1 0), (10, [], vL .str ps), (11, [], vI ps.length), (12, [], vI (IntKind.i64.wrap ((i : Int) + 1)))], filT (M ++ [patF p]) out⟩ : St)) rfl ?_
        dsimp only
        rw [← hms, w64n (y := i + 1) (by omega) (by omega)]
      · refine TrL.eff (effLit_sound rfl) (by exact True.intro) ?_; refine TrL.nil ?_; refine TrA.one 0 (by kernel_rfl) rfl ?_; refine TrL.quiets 1 rfl (by exact True.intro) ?_; refine TrL.nil ?_; refine TrA.one 4 (by kernel_rfl) rfl ?_; refine TrL.eff (effAppend_sound rfl) (by assumption) ?_; refine TrL.nil ?_; refine TrA.one 5 (by kernel_rfl) rfl ?_; refine TrL.eff (effStore_sound rfl) (by exact True.intro) ?_; refine TrL.nil ?_; refine TrA.done (by kernel_rfl) ?_; refine Tr.region ?_; refine TrL.quiets 2 rfl (by exact True.intro) ?_; refine TrL.nil ?_
        refine ⟨i + 1, hi1, by dsimp only; omega, ?_⟩
        refine Eq.trans (b := (⟨[(1, [], vL .str l), (5, [], .ptr 0 0), (7, [], .ptr 1 0), (10, [], vL .str ps), (11, [], vI ps.length), (12, [], vI (IntKind.i64.wrap ((i : Int) + 1)))], filT (M ++ [patF p]) out⟩ : St)) rfl ?_
        dsimp only
        rw [← hms, w64n (y := i + 1) (by omega) (by omega)]
  have hi1 : i = ps.length := by
    have : ¬ (i : Int) < ps.length := by simpa using c1
    omega
  subst hi1
  rw [List.take_length]
  have hkp : ∀ p ∈ ps.map patF, okPat p := by
    intro p hp
    obtain ⟨q, hq, rfl⟩ := List.mem_map.1 hp
    have h1 := patF_lenT q
    have h2 := hpx q hq
    unfold okPat
    omega
  refine Tr.exit ?_; refine Tr.seq ?_; refine Tr.region ?_; refine TrL.quiets 2 rfl (by exact True.intro) ?_
  refine TrL.callT [0, 1, 2] rfl rfl rfl rfl rfl (c_keep (ps.map patF) out l hl hw (by rw [List.length_map]; omega) hkp) rfl rfl rfl ?_
  refine TrL.quiets 1 rfl (by exact True.intro) ?_; refine TrL.nil ?_; refine Tr.ret ?_
  refine retQ.of rfl ?_
  rfl
open Go.ChangeMaps (setBlock)

def cmRes (F : List (Str × Value)) : Res where
  rel w L := L.sub = [] ∧ ∃ es clock, MapAt w L.blk es clock F
  keep w w' L h hb := by
    obtain ⟨h1, es, c, h2⟩ := h
    exact ⟨h1, es, c, h2.keep (hb _ (.inl rfl))⟩
  data w L h b hb := by
    obtain ⟨h1, es, c, h2⟩ := h
    rcases hb with rfl | hb
    · exact ⟨_, h2.at_, rfl⟩
    · rw [h1] at hb; cases hb
theorem cm_starts : Starts (cmRes []) := fun w b h => ⟨rfl, _, _, mapAt_empty h⟩
/-- What a symbolic value that holds no place stands for. -/
def Lit (s : SV) (v : Value) : Prop := ∀ σ ρ, SV.den σ ρ s v ∧ ∀ u, SV.den σ ρ s u → u = v
theorem lit_int (k : IntKind) (x : Int) : Lit (.val (.int k) x) (.int k x) := fun σ ρ => ⟨by simp only [SV.den, Den], fun u h => by simpa only [SV.den, Den, List.cons.injEq, and_true] using h⟩
theorem lit_fn (f : FuncId) : Lit (.fn f [] []) (.func (.func f) #[] #[]) := fun σ ρ => ⟨by simp only [SV.den, SV.denL]; exact ⟨[], [], rfl, rfl, rfl⟩, fun u h => by
  simp only [SV.den, SV.denL] at h
  obtain ⟨vs, us, rfl, rfl, rfl⟩ := h
  rfl⟩
theorem lit_nilf : Lit .nilf .nilFunc := fun σ ρ => ⟨by simp only [SV.den], fun u h => by simpa only [SV.den] using h⟩
theorem lit_two {a b : SV} {x y : Value} (ha : Lit a x) (hb : Lit b y) : Lit (.agg [a, b]) (.agg #[x, y]) := fun σ ρ => ⟨by
  simp only [SV.den, SV.denL]
  exact ⟨[x, y], rfl, x, [y], rfl, (ha σ ρ).1, y, [], rfl, (hb σ ρ).1, rfl⟩, fun u h => by
  simp only [SV.den, SV.denL] at h
  obtain ⟨vs, rfl, u1, r, rfl, h1, u2, r2, rfl, h2, rfl⟩ := h
  rw [(ha σ ρ).2 u1 h1, (hb σ ρ).2 u2 h2]⟩
theorem cmPut_sound {P : Program} {n : Nat} {env : Env} {tab : List Ent} {o : Oper} {t kt et i : Nat} {x kx vx : Operand} {F : List (Str × Value)} {k : Str} {s : SV} {v : Value} (hlit : Lit s v)
    (hg : o.guard = none) (ho : o.op = .mapUpdate t x kx vx ∨ o.op = .insert t x kx vx) (hdst : o.dst = none) (ht : P.underlying t = some (.map kt et)) (hk : P.underlying kt = some .string)
    (hx : opnd env [] x = some (.mp i)) (hkx : opnd env [] kx = some (.val .str k)) (hvx : opnd env [] vx = some s) (hi : tab[i]? = some (.res (cmRes F))) :
    Eff P n o ⟨env, tab⟩ ⟨env, tab.set i (.res (cmRes (putKey F k v)))⟩ none := by
  refine ⟨hg, fun cx a w _ hs => ?_⟩
  obtain ⟨σ, ρ, hw, he, hn, hdf⟩ : ∃ σ ρ, WR cx σ ρ tab w ∧ EnvA σ ρ env a ∧ a.tmps.size = n ∧ a.defers = cx.ds := hs
  have h1 := opnd_den he.env (fun p hp => by cases hp) hx
  have h2 := opnd_den he.env (fun p hp => by cases hp) hkx
  have h5 := opnd_den he.env (fun p hp => by cases hp) hvx
  simp only [SV.den, Den] at h1 h2
  have h2' : a.eval kx = strV k := by simpa using h2
  have h5' : a.eval vx = v := (hlit σ ρ).2 _ h5
  obtain ⟨h3, es, c, h4⟩ := hw.ent i _ hi
  obtain ⟨es', c', hrun, h6⟩ := run_update_str (P := P) ht hk h4 k v
  have hw' := hw.resStep (R' := cmRes (putKey F k v)) (S := []) hi (w' := setBlock w (ρ i).blk (.map es' c')) (fun b _ hb => setBlock_other fun e => hb (.inl e.symm)) ⟨by rw [subOf_same], es', c', by rw [subOf_blk]; exact h6⟩ (fun b hb => by cases hb) rfl rfl rfl (by simp [setBlock])
  refine ⟨.skip, setBlock w (ρ i).blk (.map es' c'), ?_, .inr ⟨rfl, σ, subOf ρ i [], hw', ?_, by rw [put_size]; exact hn, by rw [put_defers]; exact hdf⟩⟩
  · rcases ho with ho | ho <;> simp only [execOp, ho, h1, h2', h5'] <;> simp [hrun]
  · rw [hdst]
    exact he.sub i []
/-- A look-up that answers whether it is there: what it finds is told. -/
theorem cmLook_sound {P : Program} {n : Nat} {env : Env} {tab : List Ent} {o : Oper} {t kt et d i : Nat} {x kx : Operand} {F : List (Str × Value)} {k : Str} {zv v : Value} {s : SV} {b : Bool}
    (hz : ∀ w, (zeroValue et).run P w = .ok zv w) (hans : lookV F k zv true = .tuple #[v, .bool b]) (hlit : Lit s v)
    (hg : o.guard = none) (ho : o.op = .lookup t x kx true) (hdst : o.dst = some d) (ht : P.underlying t = some (.map kt et)) (hk : P.underlying kt = some .string)
    (hd : (decide (d < n) && okPut env d) = true) (hx : opnd env [] x = some (.mp i)) (hkx : opnd env [] kx = some (.val .str k)) (hi : tab[i]? = some (.res (cmRes F))) :
    Eff P n o ⟨env, tab⟩ ⟨put env d [] (.tup [s, .val .bool b]), tab⟩ none := by
  simp only [Bool.and_eq_true, decide_eq_true_eq] at hd
  refine ⟨hg, fun cx a w _ hs => ?_⟩
  obtain ⟨σ, ρ, hw, he, hn, hdf⟩ : ∃ σ ρ, WR cx σ ρ tab w ∧ EnvA σ ρ env a ∧ a.tmps.size = n ∧ a.defers = cx.ds := hs
  have h1 := opnd_den he.env (fun p hp => by cases hp) hx
  have h2 := opnd_den he.env (fun p hp => by cases hp) hkx
  simp only [SV.den, Den] at h1 h2
  have h2' : a.eval kx = strV k := by simpa using h2
  obtain ⟨h3, es, c, h4⟩ := hw.ent i _ hi
  have hrun := run_lookup_str (w := w) ht hk h4.at_ h4.ents (hz w) k true
  rw [hans] at hrun
  refine ⟨.value (.tuple #[v, .bool b]), w, ?_, .inl ⟨_, rfl, σ, ρ, hw, ?_, by rw [put_size]; exact hn, by rw [put_defers]; exact hdf⟩⟩
  · simp only [execOp, ho, h1, h2']
    simp [hrun]
  · rw [hdst]
    refine he.put hd.2 (by rw [hn]; exact hd.1) rfl (fun _ => ?_) (fun h => absurd (fun p hp => by cases hp) h)
    simp only [SV.den, SV.denL, Den]
    exact ⟨_, rfl, _, _, rfl, (hlit σ ρ).1, _, _, rfl, rfl, rfl⟩

def replF (f t w : Str) : Str × Bool := if (matchF (patF f) w).2 = false then (w, false) else if (patF f).1 then (putF (patF t) (matchF (patF f) w).1, true) else (t, true)
theorem matchF_len (p : PatD) (w : Str) : (matchF p w).1.length ≤ w.length := by
  unfold matchF
  split
  · simp
  · split
    · simp
    · rw [List.length_drop, List.length_take]
      omega
theorem c_Replace (f t w : Str) (hf : f.length ≤ 1099511627) (ht : t.length ≤ 1099511627) (hw : w.length ≤ 1099511627) : CallV Tryz.prog 47 [vS f, vS t, vS w] (.tup [vS (replF f t w).1, vB (replF f t w).2]) := by
  have hpf := patF_lenT f
  have hpt := patF_lenT t
  have hml := matchF_len (patF f) w
  refine CallV.of Tryz.func47 (by kernel_rfl) rfl Tryz.ntmps47 (by simp) rfl fun cx hB => ?_
  refine Tr.seq ?_; refine Tr.region ?_; refine TrL.quiets 2 rfl (by exact True.intro) ?_; refine TrL.nil ?_; refine Tr.seq ?_; refine Tr.region ?_; refine TrL.quiets 1 rfl (by exact True.intro) ?_
  first | refine TrL.callV rfl rfl rfl rfl rfl (c_patOf f (by omega)) ?_ | refine TrD.callV rfl rfl rfl rfl rfl (c_patOf f (by omega)) rfl ?_
  refine TrL.eff (effBox_sound rfl) (by exact True.intro) ?_; refine TrL.eff (effStore_sound rfl) (by exact True.intro) ?_; refine TrL.nil ?_
  change Tr _ _ _ _ _ _
  refine Tr.keep [1, 2, 8] 1 (fun i h => Nat.lt_of_lt_of_le (hB i h) (by decide)) (st' := ⟨[(1, [], vS t), (2, [], vS w), (8, [], .ptr 0 0)], [patBox (patF f)]⟩) rfl ?_
  have hof := c_patOf t (by omega)
  refine Tr.seq ?_; refine Tr.draw (by kernel_rfl) (by kernel_rfl) ?_; refine TrD.quiets 3 rfl (by exact True.intro) ?_
  first | refine TrL.callV rfl rfl rfl rfl rfl hof ?_ | refine TrD.callV rfl rfl rfl rfl rfl hof rfl ?_
  refine TrD.quiets 3 rfl (by exact True.intro) ?_; refine TrD.nil ?_
  change Tr _ _ _ _ _ _
  refine Tr.keep [1, 2, 8, 9, 10] 1 (fun i h => Nat.lt_of_lt_of_le (hB i h) (by decide)) (st' := ⟨[(1, [], vS t), (2, [], vS w), (8, [], .ptr 0 0), (9, [], .fn 61 [patSV (patF f)] []), (10, [], .fn 62 [patSV (patF t)] [])], [patBox (patF f)]⟩) rfl ?_
  refine Tr.seq ?_; refine Tr.region ?_; refine TrL.quiets 2 rfl (by exact True.intro) ?_
  first | refine TrL.callV rfl rfl rfl rfl rfl (c_Match (patF f) w (by omega) (by omega)) ?_ | refine TrD.callV rfl rfl rfl rfl rfl (c_Match (patF f) w (by omega) (by omega)) rfl ?_
  refine TrL.quiets 5 rfl (by exact True.intro) ?_; refine TrL.nil ?_; refine Tr.seq ?_; refine Tr.block ?_; refine Tr.seq ?_; refine Tr.region ?_; refine TrL.quiets 3 rfl (by exact True.intro) ?_; refine TrL.nil ?_
  refine Tr.cond rfl (fun c1 => ?_) (fun c1 => ?_)
  · have c1' : (matchF (patF f) w).2 = false := by simpa using c1
    refine Tr.seq ?_; refine Tr.region ?_; refine TrL.quiets 3 rfl (by exact True.intro) ?_; refine TrL.nil ?_; refine Tr.ret ?_
    refine retQ.of rfl ?_
    unfold replF
    rw [if_pos c1']
  have c1' : ¬ (matchF (patF f) w).2 = false := by simpa using c1
  refine Tr.seq ?_; refine Tr.region ?_; refine TrL.quiets 3 rfl (by exact True.intro) ?_; refine TrL.nil ?_
  refine Tr.cond rfl (fun c2 => ?_) (fun c2 => ?_)
  · have c2' : (patF f).1 = true := c2
    refine Tr.seq ?_; refine Tr.region ?_; refine TrL.quiets 2 rfl (by exact True.intro) ?_
    first | refine TrL.callV rfl rfl rfl rfl rfl (c_Put (patF t) (matchF (patF f) w).1 (by omega)) ?_ | refine TrD.callV rfl rfl rfl rfl rfl (c_Put (patF t) (matchF (patF f) w).1 (by omega)) rfl ?_
    refine TrL.quiets 2 rfl (by exact True.intro) ?_; refine TrL.nil ?_; refine Tr.ret ?_
    refine retQ.of rfl ?_
    unfold replF
    rw [if_neg c1', if_pos c2']
  · have c2' : ¬ (patF f).1 = true := by
      have : (patF f).1 = false := c2
      rw [this]
      decide
    refine Tr.skip ?_; refine Tr.seq ?_; refine Tr.region ?_; refine TrL.quiets 3 rfl (by exact True.intro) ?_; refine TrL.nil ?_; refine Tr.ret ?_
    refine retQ.of rfl ?_
    unfold replF
    rw [if_neg c1', if_neg c2']
end Go.Proofs.YtcclfjddakonoaaGreatDoor.Sx
