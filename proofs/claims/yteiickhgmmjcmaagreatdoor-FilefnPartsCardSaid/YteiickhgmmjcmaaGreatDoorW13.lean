/-
  strings.HasSuffix, TrimPrefix; slices.Compact of texts: a row that the call owns; wild.parts.
  wild.Expand's walk.
  wild.Expand's walk: all of it.
  wild.Expand.
-/
import Derived.Test.YteiickhgmmjcmaaGreatDoorW9
import Derived.Test.YteiickhgmmjcmaaGreatDoorV12
set_option linter.unusedVariables false
set_option linter.unusedSimpArgs false
set_option maxRecDepth 20000
set_option maxHeartbeats 4000000
namespace Go.Proofs.YteiickhgmmjcmaaGreatDoor.Sx
open Go Go.Proofs Go.RowKit

def trimW (s p : Str) : Str := if p.isPrefixOf s then s.drop p.length else s
theorem c_TrimPre (s p : Str) : CallV Tryz.prog 62 [vS s, vS p] (vS (trimW s p)) :=
  CallV.of_same (Go.Proofs.enters_of Tryz.func62 (by kernel_rfl) rfl) rfl rfl fun w => Tryz.strings_TrimPrefix ⟨s.toArray⟩ ⟨p.toArray⟩ w
theorem c_HasSuf (s p : Str) (hs : s.length ≤ 9223372036854775807) : CallV Tryz.prog 56 [vS s, vS p] (vB (p.isSuffixOf s)) :=
  CallV.of_same (Go.Proofs.enters_of Tryz.func56 (by kernel_rfl) rfl) rfl rfl fun w => Tryz.strings_HasSuffix ⟨s.toArray⟩ ⟨p.toArray⟩ w (by rw [size_mk]; exact hs)

abbrev cmpS (l : List Str) : List Str := Lib.compact l
def cmpL (l : List Str) : List Str := cmpS l ++ List.replicate (l.length - (cmpS l).length) []
theorem cmpL_length (l : List Str) : (cmpL l).length = l.length := by
  have : (cmpS l).length ≤ l.length := Lib.compact_length_le l
  unfold cmpL
  simp only [List.length_append, List.length_replicate]
  omega
theorem compact_runs {cx : Cx} {σ : Mem} {ρ : Rho} {tab : List Ent} {w : World} {i : Nat} (l : List Str) (hlen : l.length ≤ 1099511627776) (hw : WR cx σ ρ tab w) (hi : tab[i]? = some (.ra 9 .str l)) :
    Calls Tryz.prog 67 #[(ρ i).sl] w fun e w' => e = .returned (.slice (ρ i).ad (cmpS l).length (ρ i).c) ∧ WR cx σ ρ (tab.set i (.ra 9 .str (cmpL l))) w' := by
  have hent := hw.ent i _ hi
  obtain ⟨xs, q1, q2, q3, q4⟩ := hent
  obtain rfl := rows_str q1
  by_cases hl : l = []
  · subst hl
    have hsl : ∃ p cap, (ρ i).sl = .slice p 0 cap := by
      rcases q2.2 with ⟨h, _⟩ | ⟨g, cap, cur, h, _⟩
      · exact ⟨_, _, h⟩
      · exact ⟨_, _, h⟩
    obtain ⟨p, cap, hp⟩ := hsl
    have hp' : (ρ i).ad = p ∧ (ρ i).n = 0 ∧ (ρ i).c = cap := by simpa [Loc.sl] using hp
    rw [hp]
    refine (Tryz.slices_Compact_string_empty p cap w).mono ?_
    rintro e w' ⟨rfl, rfl⟩
    refine ⟨by rw [hp'.1, hp'.2.2]; rfl, ?_⟩
    rw [show cmpL [] = [] from rfl]
    obtain ⟨hlt, he⟩ := List.getElem?_eq_some_iff.1 hi
    rw [← he, List.set_getElem_self]
    exact hw
  rcases q2.2 with ⟨_, h⟩ | ⟨g, cap, cur, hsl, _, hg, hnc, hcm, hcs, htake⟩
  · exact absurd (List.eq_nil_of_length_eq_zero h) hl
  have hgk := q3 g (by rw [hsl]; rfl)
  have hgs : g < w.heap.size := (Array.getElem?_eq_some_iff.1 hg).1
  simp only [Ty.cells, Nat.mul_one] at hcs htake
  have hcur : ∀ j, j < l.length → cur[j]? = some (strV (l.toArray[j]!)) := by
    intro j hj
    have h1 : (cur.toList.take l.length)[j]? = (l.map strV)[j]? := by rw [htake]
    rw [List.getElem?_take, if_pos hj, Array.getElem?_toList, List.getElem?_map, List.getElem?_eq_getElem hj] at h1
    rw [h1]
    simp [hj]
  have hH : Sort.Holds encStr w g 0 l.toArray := by
    intro j hj
    have hj' : j < l.length := by simpa using hj
    refine ⟨?_, ?_⟩
    · unfold World.cell?
      rw [hg, Nat.zero_add]
      exact hcur j hj'
    · unfold World.frozen?
      rw [hg]
      simp
  have hp' : (ρ i).ad = some ⟨g, 0, none⟩ ∧ (ρ i).n = l.length ∧ (ρ i).c = cap := by simpa [Loc.sl] using hsl
  rw [hsl]
  refine (Tryz.slices_Compact_string g 0 cap l w hH (by omega) (by omega)).mono ?_
  rintro e w' ⟨rfl, n, rfl⟩
  have hperm : (cmpL l).length = l.length := cmpL_length l
  change _ = Ending.returned (.slice (ρ i).ad (cmpS l).length (ρ i).c) ∧ WR cx σ ρ _ (Sort.putRow encStr (Sort.ahead w n) g 0 (cmpL l).toArray)
  have hh : ∀ b, b < w.heap.size → b ≠ g → (Sort.putRow encStr (Sort.ahead w n) g 0 (cmpL l).toArray).heap[b]? = w.heap[b]? := by
    intro b hb hne
    simp [Sort.putRow, Sort.mapBlock, Array.getElem?_modify, Ne.symm hne]
  have hgn : (Sort.putRow encStr (Sort.ahead w n) g 0 (cmpL l).toArray).heap[g]? = some (.cells (Sort.putCells encStr 0 (cmpL l).toArray cur) 9 (0, 0)) := by
    simp [Sort.putRow, Sort.mapBlock, Array.getElem?_modify, hg, Sort.onCells]
  have hob : (ρ i).sl.ownBlock = some g := by rw [hsl]; rfl
  have hq4 : ∀ a u, σ a = some u → a.block ≠ g := by
    intro a u ha heq
    exact q4 a u ha (by rw [hob, heq])
  have := hw.step (k := i) (e' := .ra 9 .str (cmpL l)) (w' := Sort.putRow encStr (Sort.ahead w n) g 0 (cmpL l).toArray) (τ := σ) (ρ' := ρ) (fun _ => true) hi (Mem.le_refl σ)
    (fun a u ha => by rw [World.cell?_of_block (w := w) (hh _ (sub_lt hw.sub ha) (hq4 a u ha))]; exact hw.sub a u ha) (fun _ _ => rfl) (fun _ _ => rfl) (fun b hb hne => hh b hb (fun e => hne (by simp only [Ent.at_]; rw [hob, e]))) (fun a u ha => .inl ⟨u, ha⟩) (fun h => by cases h)
    ⟨_, rows_of_str σ _, ?_, q3, q4⟩ (fun b hb => .inl hb) rfl rfl rfl (by simp)
  · rw [cleanT_true] at this
    refine ⟨?_, this⟩
    rw [hp'.1, hp'.2.2]
  · rw [hsl]
    refine ⟨by simp [Ty.cells], .inr ⟨g, cap, _, by rw [hperm], Nat.zero_le _, hgn, by rw [hperm]; exact hnc, hcm, ?_, ?_⟩⟩
    · simp [Sort.putCells, hcs, Ty.cells]
    · simp only [Ty.cells, Nat.mul_one]
      apply List.ext_getElem?
      intro j
      rw [List.getElem?_take, List.getElem?_map]
      by_cases hj : j < (cmpL l).length
      · rw [if_pos hj, Array.getElem?_toList, List.getElem?_eq_getElem hj]
        simp only [Sort.putCells, Array.getElem?_mapIdx]
        rw [hcur j (by omega)]
        have hj2 : j < l.length := by omega
        simp [hj, hj2]
        rfl
      · rw [if_neg hj, List.getElem?_eq_none (by omega)]
        rfl
theorem c_Compact (l : List Str) (hl : l.length ≤ 1099511627776) : CallT Tryz.prog 67 [.arr 0] [.ra 9 .str l] (.sub 0 (cmpS l).length) [.ra 9 .str (cmpL l)] := by
  refine ⟨Go.Proofs.enters_of Tryz.func67 (by kernel_rfl) rfl, by simp, fun cx σ ρ w vs hw hB hd => ?_⟩
  simp only [SV.denL, SV.den] at hd
  obtain ⟨v1, r1, rfl, h1, rfl⟩ := hd
  subst h1
  refine (compact_runs (i := 0) l hl hw rfl).mono ?_
  rintro e w' ⟨rfl, hw'⟩
  exact ⟨_, σ, ρ, rfl, Mem.le_refl _, hw', by simp only [SV.den]⟩

def partF (s : Str) : List Str := neF (spS [] s)
theorem sumL_mem {x : Str} : ∀ {l : List Str}, x ∈ l → x.length ≤ sumL l
  | y :: l, h => by
    rcases List.mem_cons.1 h with rfl | h
    · simp only [sumL, List.map_cons, List.sum_cons]; omega
    · have := sumL_mem h
      simp only [sumL, List.map_cons, List.sum_cons] at this ⊢; omega
theorem spS_each (s : Str) : ∀ x ∈ spS [] s, x.length ≤ s.length := by
  intro x hx
  have h1 := sumL_mem hx
  have h2 := spS_sum s []
  simp only [List.length_nil] at h2
  omega
theorem c_parts (s : Str) (hs : s.length ≤ 1099511626) : CallV Tryz.prog 54 [vS s] (vL .str (partF s)) := by
  refine CallV.of Tryz.func54 (by kernel_rfl) rfl Tryz.ntmps54 (by simp) rfl fun cx hB => ?_
  refine Tr.seq ?_; refine Tr.region ?_; refine TrL.quiets 1 rfl (by exact True.intro) ?_; refine TrL.nil ?_; refine Tr.seq ?_; refine Tr.region ?_; refine TrL.quiets 1 rfl (by exact True.intro) ?_
  refine TrL.callT [] rfl rfl rfl rfl rfl (c_SplitM s (by omega)) rfl rfl rfl ?_
  have hle := spS_le s
  refine TrL.callT [0] rfl rfl rfl rfl rfl (c_DeleteEmpty (spS [] s) (by omega) (fun x hx => by have := spS_each s x hx; omega)) rfl rfl rfl ?_
  refine TrL.quiets 1 rfl (by exact True.intro) ?_; refine TrL.nil ?_
  change Tr _ _ _ _ _ _
  have hle2 : (neF (spS [] s)).length ≤ (delL (spS [] s)).length := by
    rw [List.length_append]
    omega
  refine Tr.shortVar 0 (neF (spS [] s)).length 2 rfl rfl hle2 ?_
  refine Tr.freeze 0 rfl ?_
  refine Tr.ret ?_
  refine retQ.of rfl ?_
  exact congrArg (vL .str) List.take_left

def endW (dirs frm : Bool) (pth : Str) : Str := if frm then (if dirs then pth ++ [47] else pth) else trimW (if dirs then pth ++ [47] else pth) [47]
def walkF (L : List Fent) (dirs frm : Bool) : List Str → Str → List Str
  | [], pth => if (lookL L (pth ++ [47])).2 = false ∨ (dirs = true ∧ (lookL L (pth ++ [47])).1.2.1 = false) then [] else [endW dirs frm pth]
  | p :: r, pth =>
    if (lookL L (pth ++ [47])).2 = false ∨ (lookL L (pth ++ [47])).1.2.1 = false then []
    else if magF p then (listL L (pth ++ [47])).flatMap fun nm => if matchF p nm then walkF L dirs frm r (pth ++ [47] ++ nm) else []
    else walkF L dirs frm r (pth ++ [47] ++ plnF p)
abbrev wkT (L : List Fent) (dirs frm : Bool) (out : List Str) : List Ent :=
  [.box 48 [.mp 1, .mp 2], .res (dmRes (dirsOf L)), .res (fmRes (filesOf L)), .box 25 [.ptr 0 0], .box 4 [vB frm], .box 4 [vB dirs], .box 36 [.arr 8], .box 100 [.fn 61 [] [.ptr 3 0, .ptr 5 0, .ptr 4 0, .ptr 6 0, .ptr 7 0]], .ra 9 .str out]
theorem c_walkN {L : List Fent} (h : FsOk L) (hL : FsLim L) (dirs frm : Bool) (pth : Str) (out : List Str) (h1 : pth.length + ([] : List Str).length * 1000001 ≤ 1099511620) (h3 : out.length + (walkF L dirs frm [] pth).length ≤ 1099511627776) :
    CallT Tryz.prog 61 [vS pth, vL .str [], .ptr 3 0, .ptr 5 0, .ptr 4 0, .ptr 6 0, .ptr 7 0] (wkT L dirs frm out) (.tup []) (wkT L dirs frm (out ++ walkF L dirs frm [] pth)) := by
  have hw : walkF L dirs frm [] pth = if (lookL L (pth ++ [47])).2 = false ∨ (dirs = true ∧ (lookL L (pth ++ [47])).1.2.1 = false) then [] else [endW dirs frm pth] := rfl
  refine CallT.of Tryz.func61 (by kernel_rfl) rfl Tryz.ntmps61 (by simp) (by simp) fun cx hB => ?_
  have hB10 : ∀ i, cx.B i = true → i < 10 := fun i h => Nat.lt_of_lt_of_le (hB i h) (show 9 ≤ 10 by decide)
  refine Tr.seq ?_; refine Tr.region ?_; refine TrL.quiets 3 rfl (by (simp (disch := omega) only [allOf, impO, imp, inR, loOk, and_true, w64, List.length_set, List.length_cons, List.length_nil, Option.getD_none, Option.getD_some, Ty.D, true_and, decide_eq_true_eq, decide_eq_false_iff_not, Bool.and_eq_true, Bool.or_eq_false_iff]; omega)) ?_
  refine TrL.callT [0, 1, 2] rfl rfl rfl rfl rfl (c_LookL h (pth ++ [47]) (by simp only [List.length_append, List.length_singleton, List.length_nil] at h1 ⊢; omega)) rfl rfl rfl ?_
  refine TrL.quiets 3 rfl (by exact True.intro) ?_; refine TrL.eff (effBox_sound rfl) (by exact True.intro) ?_; refine TrL.eff (effStore_sound rfl) (by exact True.intro) ?_; refine TrL.quiets 1 rfl (by exact True.intro) ?_; refine TrL.nil ?_; refine Tr.seq ?_; refine Tr.block ?_; refine Tr.seq ?_; refine Tr.region ?_; refine TrL.quiets 16 rfl (by exact True.intro) ?_; refine TrL.nil ?_
  refine Tr.cond rfl (fun c1 => ?_) (fun c1 => ?_)
  · have hc : (lookL L (pth ++ [47])).2 = false ∨ (dirs = true ∧ (lookL L (pth ++ [47])).1.2.1 = false) := by
      cases h1 : (lookL L (pth ++ [47])).2 <;> cases h2 : dirs <;> cases h3 : (lookL L (pth ++ [47])).1.2.1 <;> simp_all
    rw [if_pos hc] at hw
    rw [hw, List.append_nil]
    refine Tr.ret ?_
    refine retT.of rfl ?_ ?_
    · rfl
    · rfl
  · have hc : ¬ ((lookL L (pth ++ [47])).2 = false ∨ (dirs = true ∧ (lookL L (pth ++ [47])).1.2.1 = false)) := by
      cases h1 : (lookL L (pth ++ [47])).2 <;> cases h2 : dirs <;> cases h3 : (lookL L (pth ++ [47])).1.2.1 <;> simp_all
    rw [if_neg hc] at hw
    rw [hw] at h3 ⊢
    simp only [List.length_singleton] at h3
    refine Tr.keep [0, 1, 2, 3, 4, 5, 6, 9] 10 hB10 (st' := ⟨[(0, [], vS pth), (1, [], vL .str []), (2, [], .ptr 3 0), (3, [], .ptr 5 0), (4, [], .ptr 4 0), (5, [], .ptr 6 0), (6, [], .ptr 7 0), (9, [], .ptr 9 0)], wkT L dirs frm out ++ [.box 43 [vS (lookL L (pth ++ [47])).1.1, vB (lookL L (pth ++ [47])).1.2.1, vS (lookL L (pth ++ [47])).1.2.2]]⟩) rfl ?_
    refine Tr.seq ?_; refine Tr.region ?_; refine TrL.quiets 4 rfl (by exact True.intro) ?_; refine TrL.nil ?_
    refine Tr.cond rfl (fun c2 => ?_) (fun c2 => ?_)
    · refine Tr.seq ?_; refine Tr.seq ?_; refine Tr.region ?_; refine TrL.quiets 1 rfl (by exact True.intro) ?_; refine TrL.nil ?_
      have hB9 : ∀ i, cx.B i = true → i < 9 := hB
      refine Tr.joinN (fun _ : Unit => ⟨[(0, [], vS (if dirs then pth ++ [47] else pth)), (4, [], .ptr 4 0), (5, [], .ptr 6 0)], wkT L dirs frm out⟩) (fun _ => True) [0, 4, 5] 9 hB9 ?_ fun _ _ => ?_
      · refine Tr.cond rfl (fun c3 => ?_) (fun c3 => ?_)
        · have e3 : dirs = true := c3
          subst e3
          refine Tr.region ?_; refine TrL.quiets 3 rfl (by (simp (disch := omega) only [allOf, impO, imp, inR, loOk, and_true, w64, List.length_set, List.length_cons, List.length_nil, Option.getD_none, Option.getD_some, Ty.D, true_and, decide_eq_true_eq, decide_eq_false_iff_not, Bool.and_eq_true, Bool.or_eq_false_iff]; omega)) ?_; refine TrL.nil ?_
          exact ⟨(), trivial, rfl⟩
        · have e3 : dirs = false := c3
          subst e3
          refine Tr.skip ?_
          exact ⟨(), trivial, rfl⟩
      refine Tr.seq ?_; refine Tr.seq ?_; refine Tr.region ?_; refine TrL.quiets 2 rfl (by exact True.intro) ?_; refine TrL.nil ?_
      refine Tr.joinN (fun _ : Unit => ⟨[(0, [], vS (endW dirs frm pth)), (5, [], .ptr 6 0)], wkT L dirs frm out⟩) (fun _ => True) [0, 5] 9 hB9 ?_ fun _ _ => ?_
      · refine Tr.cond rfl (fun c3 => ?_) (fun c3 => ?_)
        · have e3 : frm = false := by simpa using c3
          subst e3
          refine Tr.region ?_; refine TrL.quiets 1 rfl (by exact True.intro) ?_
          first | refine TrL.callV rfl rfl rfl rfl rfl (c_TrimPre (if dirs then pth ++ [47] else pth) [47]) ?_ | refine TrD.callV rfl rfl rfl rfl rfl (c_TrimPre (if dirs then pth ++ [47] else pth) [47]) rfl ?_
          refine TrL.quiets 1 rfl (by exact True.intro) ?_; refine TrL.nil ?_
          exact ⟨(), trivial, rfl⟩
        · have e3 : frm = true := by simpa using c3
          subst e3
          refine Tr.skip ?_
          exact ⟨(), trivial, rfl⟩
      refine Tr.seq ?_; refine Tr.region ?_; refine TrL.quiets 2 rfl (by exact True.intro) ?_; refine TrL.eff (effLit_sound rfl) (by exact True.intro) ?_; refine TrL.eff (effAppend_sound rfl) (by assumption) ?_; refine TrL.eff (effStore_sound rfl) (by exact True.intro) ?_; refine TrL.nil ?_; refine Tr.ret ?_
      refine retT.of rfl ?_ ?_
      · rfl
      · rfl
    · simp at c2

theorem unitF_two (p : Str) : (unitF p).2 ≤ 2 := by
  unfold unitF
  split <;> simp
theorem plnGo_le : ∀ (f : Nat) (p : Str), (plnGo f p).length ≤ p.length
  | 0, p => by simp [plnGo]
  | f + 1, p => by
    rw [plnGo]
    split
    · simp
    · rename_i h
      have h1 := plnGo_le f (p.drop (unitF p).2)
      obtain ⟨u1, u2, u3⟩ := unitF_pos p
      have u4 := u3 h
      rw [List.length_drop] at h1
      rw [List.length_cons]
      omega
theorem plnF_le (p : Str) : (plnF p).length ≤ p.length := plnGo_le _ _
theorem absT_mem {x : Str} {ns : List Str} (h : x ∈ ns) : x.length ≤ (absT ns).length := by
  have h0 : ns ≠ [] := fun e => by rw [e] at h; cases h
  rw [absT_flat h0]
  obtain ⟨a, b, rfl⟩ := List.append_of_mem h
  rw [flatS_append, List.length_append]
  simp only [flatS, List.flatMap_cons, List.length_append, List.length_cons]
  omega
theorem kids_each {L : List Fent} (hL : FsLim L) (q : List Str) : ∀ x ∈ kids L q, x.length ≤ 1000000 := by
  intro x hx
  obtain ⟨e, he, hk⟩ := List.mem_filterMap.1 hx
  unfold kidOf at hk
  split at hk
  · have h1 := List.mem_of_getLast? hk
    have h2 := absT_mem h1
    have h3 := hL.2 e he
    omega
  · cases hk
theorem listL_each {L : List Fent} (hL : FsLim L) (q : Str) : ∀ x ∈ listL L q, x.length ≤ 1000000 := by
  intro x hx
  unfold listL at hx
  split at hx
  · cases hx
  · exact kids_each hL _ x ((sortS_perm _).mem_iff.1 hx)
theorem listL_count {L : List Fent} (hL : FsLim L) (q : Str) : (listL L q).length ≤ 1000000 := by
  unfold listL
  split
  · simp
  · rw [(sortS_perm _).length_eq]
    have := kids_len L (absL q)
    have := hL.1
    omega
theorem flatMap_take_le {α β : Type} (g : α → List β) (l : List α) (i : Nat) : ((l.take i).flatMap g).length ≤ (l.flatMap g).length := by
  conv => rhs; rw [← List.take_append_drop i l, List.flatMap_append, List.length_append]
  omega
theorem c_walk {L : List Fent} (h : FsOk L) (hL : FsLim L) (dirs frm : Bool) : ∀ (l : List Str) (pth : Str) (out : List Str), pth.length + l.length * 1000001 ≤ 1099511620 → (∀ x ∈ l, x.length ≤ 1000000) → out.length + (walkF L dirs frm l pth).length ≤ 1099511627776 →
    CallT Tryz.prog 61 [vS pth, vL .str l, .ptr 3 0, .ptr 5 0, .ptr 4 0, .ptr 6 0, .ptr 7 0] (wkT L dirs frm out) (.tup []) (wkT L dirs frm (out ++ walkF L dirs frm l pth)) := by
  intro l
  induction l with
  | nil => exact fun pth out h1 _ h3 => c_walkN h hL dirs frm pth out h1 h3
  | cons p r ih =>
    intro pth out h1 h2 h3
    have hw : walkF L dirs frm (p :: r) pth = if (lookL L (pth ++ [47])).2 = false ∨ (lookL L (pth ++ [47])).1.2.1 = false then []
        else if magF p then (listL L (pth ++ [47])).flatMap fun nm => if matchF p nm then walkF L dirs frm r (pth ++ [47] ++ nm) else []
        else walkF L dirs frm r (pth ++ [47] ++ plnF p) := rfl
    have hp := h2 p (by simp)
    rw [List.length_cons] at h1
    have hlen : ((p :: r).length : Int) = (r.length : Int) + 1 := by simp
    have hnth : nth (t := .str) (p :: r) 0 = p := rfl
    refine CallT.of Tryz.func61 (by kernel_rfl) rfl Tryz.ntmps61 (by simp) (by simp) fun cx hB => ?_
    have hB10 : ∀ i, cx.B i = true → i < 10 := fun i h => Nat.lt_of_lt_of_le (hB i h) (show 9 ≤ 10 by decide)
    have hB9 : ∀ i, cx.B i = true → i < 9 := hB
    refine Tr.seq ?_; refine Tr.region ?_; refine TrL.quiets 3 rfl (by (simp (disch := omega) only [allOf, impO, imp, inR, loOk, and_true, w64, List.length_set, List.length_cons, List.length_nil, Option.getD_none, Option.getD_some, Ty.D, true_and, decide_eq_true_eq, decide_eq_false_iff_not, Bool.and_eq_true, Bool.or_eq_false_iff]; omega)) ?_
    refine TrL.callT [0, 1, 2] rfl rfl rfl rfl rfl (c_LookL h (pth ++ [47]) (by simp only [List.length_append, List.length_singleton] at h1 ⊢; omega)) rfl rfl rfl ?_
    refine TrL.quiets 3 rfl (by exact True.intro) ?_; refine TrL.eff (effBox_sound rfl) (by exact True.intro) ?_; refine TrL.eff (effStore_sound rfl) (by exact True.intro) ?_; refine TrL.quiets 1 rfl (by exact True.intro) ?_; refine TrL.nil ?_; refine Tr.seq ?_; refine Tr.block ?_; refine Tr.seq ?_; refine Tr.region ?_; refine TrL.quiets 16 rfl (by exact True.intro) ?_; refine TrL.nil ?_
    refine Tr.cond rfl (fun c1 => ?_) (fun c1 => ?_)
    · have hc : (lookL L (pth ++ [47])).2 = false := by
        have : ¬ ((r.length : Int) + 1 = 0) := by omega
        cases h1 : (lookL L (pth ++ [47])).2 <;> simp_all
      rw [if_pos (.inl hc)] at hw
      rw [hw, List.append_nil]
      refine Tr.ret ?_
      refine retT.of rfl ?_ ?_
      · rfl
      · rfl
    have hc : (lookL L (pth ++ [47])).2 = true := by
      cases h1 : (lookL L (pth ++ [47])).2 <;> simp_all
    refine Tr.keep [0, 1, 2, 3, 4, 5, 6, 9] 10 hB10 (st' := ⟨[(0, [], vS pth), (1, [], vL .str (p :: r)), (2, [], .ptr 3 0), (3, [], .ptr 5 0), (4, [], .ptr 4 0), (5, [], .ptr 6 0), (6, [], .ptr 7 0), (9, [], .ptr 9 0)], wkT L dirs frm out ++ [.box 43 [vS (lookL L (pth ++ [47])).1.1, vB (lookL L (pth ++ [47])).1.2.1, vS (lookL L (pth ++ [47])).1.2.2]]⟩) rfl ?_
    refine Tr.seq ?_; refine Tr.region ?_; refine TrL.quiets 4 rfl (by exact True.intro) ?_; refine TrL.nil ?_
    refine Tr.cond rfl (fun c2 => ?_) (fun c2 => ?_)
    · simp at c2
      omega
    refine Tr.seq ?_; refine Tr.region ?_; refine TrL.quiets 4 rfl (by exact True.intro) ?_; refine TrL.nil ?_
    refine Tr.cond rfl (fun c3 => ?_) (fun c3 => ?_)
    · have hd : (lookL L (pth ++ [47])).1.2.1 = false := by simpa using c3
      rw [if_pos (.inr hd)] at hw
      rw [hw, List.append_nil]
      refine Tr.ret ?_
      refine retT.of rfl ?_ ?_
      · rfl
      · rfl
    have hd : (lookL L (pth ++ [47])).1.2.1 = true := by simpa using c3
    rw [if_neg (by rw [hc, hd]; simp)] at hw
    refine Tr.keep [0, 1, 2, 5, 6] 9 hB9 (st' := ⟨[(0, [], vS pth), (1, [], vL .str (p :: r)), (2, [], .ptr 3 0), (5, [], .ptr 6 0), (6, [], .ptr 7 0)], wkT L dirs frm out⟩) rfl ?_
    refine Tr.seq ?_; refine Tr.region ?_; refine TrL.quiets 3 rfl (by (simp only [allOf, impO, imp, inR, loOk, and_true]; omega)) ?_
    first | refine TrL.callV rfl rfl rfl rfl rfl (c_Magic (nth (t := .str) (p :: r) 0) (by rw [hnth]; omega)) ?_ | refine TrD.callV rfl rfl rfl rfl rfl (c_Magic (nth (t := .str) (p :: r) 0) (by rw [hnth]; omega)) rfl ?_
    refine TrL.quiets 2 rfl (by exact True.intro) ?_; refine TrL.nil ?_
    rw [hnth]
    refine Tr.cond rfl (fun c4 => ?_) (fun c4 => ?_)
    · have hm : magF p = false := by simpa using c4
      rw [hm] at hw
      rw [if_neg (by decide)] at hw
      refine Tr.seq ?_
      refine Tr.drawA 11 rfl (by kernel_rfl) ?_
      refine TrA.take 1 rfl rfl (by kernel_rfl) rfl (by exact True.intro) ?_; refine TrA.take 2 rfl rfl (by kernel_rfl) rfl ?_ ?_
      · simp only [holds, impO, imp, List.length_append, List.length_singleton]
        show ((pth.length + 1 : Nat) : Int) ≤ 9223372036854775807
        omega
      have hpl : (plnF p).length ≤ p.length := plnF_le p
      have hcp := c_Plain (nth (t := .str) (p :: r) 0) (by rw [hnth]; omega)
      have hih := ih (pth ++ [47] ++ plnF p) out (by simp only [List.length_append, List.length_singleton]; omega) (fun x hx => h2 x (by simp [hx])) (by rw [hw] at h3; exact h3)
      refine TrA.take 3 rfl rfl (by kernel_rfl) rfl (by exact True.intro) ?_; refine TrA.take 4 rfl rfl (by kernel_rfl) rfl (by (simp only [holds, impO, imp, inR]; omega)) ?_; refine TrA.take 8 rfl rfl (by kernel_rfl) rfl (by exact True.intro) ?_; refine TrA.take 9 rfl rfl (by kernel_rfl) rfl (by (simp (disch := omega) only [holds, impO, imp, loOk, w64, Option.getD_none, Option.getD_some, and_true, true_and]; omega)) ?_; refine TrA.two 0 5 (by kernel_rfl) rfl rfl ?_ ?_
      · refine TrL.quiets 1 rfl (by exact True.intro) ?_; refine TrL.nil ?_; refine TrA.one 5 (by kernel_rfl) rfl ?_; refine TrL.quiets 1 rfl (by exact True.intro) ?_; refine TrL.nil ?_; refine TrA.one 6 (by kernel_rfl) rfl ?_
        first | refine TrL.callV rfl rfl rfl rfl rfl hcp ?_ | refine TrD.callV rfl rfl rfl rfl rfl hcp rfl ?_
        refine TrL.nil ?_; refine TrA.take 7 rfl rfl (by kernel_rfl) rfl ?_ ?_
        · rw [hnth]
          simp only [holds, impO, imp, List.length_append, List.length_singleton]
          show ((pth.length + 1 + (plnF p).length : Nat) : Int) ≤ 9223372036854775807
          omega
        refine TrA.one 10 (by kernel_rfl) rfl ?_
        refine TrL.callT [0, 1, 2, 3, 4, 5, 6, 7, 8] rfl rfl rfl rfl rfl hih rfl rfl rfl ?_
        rw [hw]
        refine TrL.nil ?_; refine TrA.done (by kernel_rfl) ?_; refine Tr.ret ?_
        refine retT.of rfl ?_ ?_
        · rfl
        · rfl
      · refine TrL.quiets 1 rfl (by exact True.intro) ?_; refine TrL.nil ?_; refine TrA.two 0 6 (by kernel_rfl) rfl rfl ?_ ?_
        · refine TrL.quiets 1 rfl (by exact True.intro) ?_; refine TrL.nil ?_; refine TrA.one 6 (by kernel_rfl) rfl ?_
          first | refine TrL.callV rfl rfl rfl rfl rfl hcp ?_ | refine TrD.callV rfl rfl rfl rfl rfl hcp rfl ?_
          refine TrL.nil ?_; refine TrA.take 7 rfl rfl (by kernel_rfl) rfl ?_ ?_
          · rw [hnth]
            simp only [holds, impO, imp, List.length_append, List.length_singleton]
            show ((pth.length + 1 + (plnF p).length : Nat) : Int) ≤ 9223372036854775807
            omega
          refine TrA.one 10 (by kernel_rfl) rfl ?_
          refine TrL.callT [0, 1, 2, 3, 4, 5, 6, 7, 8] rfl rfl rfl rfl rfl hih rfl rfl rfl ?_
          rw [hw]
          refine TrL.nil ?_; refine TrA.done (by kernel_rfl) ?_; refine Tr.ret ?_
          refine retT.of rfl ?_ ?_
          · rfl
          · rfl
        · first | refine TrL.callV rfl rfl rfl rfl rfl hcp ?_ | refine TrD.callV rfl rfl rfl rfl rfl hcp rfl ?_
          refine TrL.nil ?_; refine TrA.take 7 rfl rfl (by kernel_rfl) rfl ?_ ?_
          · rw [hnth]
            simp only [holds, impO, imp, List.length_append, List.length_singleton]
            show ((pth.length + 1 + (plnF p).length : Nat) : Int) ≤ 9223372036854775807
            omega
          refine TrA.one 0 (by kernel_rfl) rfl ?_; refine TrL.quiets 1 rfl (by exact True.intro) ?_; refine TrL.nil ?_; refine TrA.one 10 (by kernel_rfl) rfl ?_
          refine TrL.callT [0, 1, 2, 3, 4, 5, 6, 7, 8] rfl rfl rfl rfl rfl hih rfl rfl rfl ?_
          rw [hw]
          refine TrL.nil ?_; refine TrA.done (by kernel_rfl) ?_; refine Tr.ret ?_
          refine retT.of rfl ?_ ?_
          · rfl
          · rfl
    have hm : magF p = true := by simpa using c4
    rw [hm] at hw
    rw [if_pos rfl] at hw
    generalize hg : (fun nm => if matchF p nm then walkF L dirs frm r (pth ++ [47] ++ nm) else []) = g at hw
    have hgx : ∀ nm, g nm = if matchF p nm then walkF L dirs frm r (pth ++ [47] ++ nm) else [] := fun nm => by rw [← hg]
    have hnl := listL_count hL (pth ++ [47])
    have hnx := listL_each hL (pth ++ [47])
    refine Tr.skip ?_; refine Tr.seq ?_; refine Tr.region ?_; refine TrL.quiets 3 rfl (by (simp (disch := omega) only [allOf, impO, imp, inR, loOk, and_true, w64, List.length_set, List.length_cons, List.length_nil, Option.getD_none, Option.getD_some, Ty.D, true_and, decide_eq_true_eq, decide_eq_false_iff_not, Bool.and_eq_true, Bool.or_eq_false_iff]; omega)) ?_
    refine TrL.callT [0, 1, 2] rfl rfl rfl rfl rfl (c_ListL h hL (pth ++ [47]) (by simp only [List.length_append, List.length_singleton]; omega)) rfl rfl rfl ?_
    refine TrL.quiets 2 rfl (by exact True.intro) ?_; refine TrL.nil ?_; refine Tr.block ?_
    generalize listL L (pth ++ [47]) = ns at hw hnl hnx
    rw [hw] at h3 ⊢
    refine Tr.loop (fun i : Nat => ⟨[(0, [], vS pth), (1, [], vL .str (p :: r)), (6, [], .ptr 7 0), (75, [], vL .str ns), (76, [], vI ns.length), (77, [], vI i)], wkT L dirs frm (out ++ (ns.take i).flatMap g)⟩) (fun i => i ≤ ns.length) (fun i => ns.length - i) 0 [0, 1, 6, 75, 76, 77] 9 hB9 ?_ (Nat.zero_le _) fun i hi => ?_
    · simp only [List.take_zero, List.flatMap_nil, List.append_nil]
      rfl
    refine Tr.seq ?_; refine Tr.region ?_; refine TrL.quiets 1 rfl (by exact True.intro) ?_; refine TrL.nil ?_; refine Tr.seq ?_
    refine Tr.cond rfl (fun c5 => ?_) (fun c5 => ?_)
    · have hi1 : i < ns.length := by simpa using c5
      have hni : nth (t := .str) ns (i : Int) = ns[i] := nth_get' (t := .str) _ _ hi1
      have hxi := hnx _ (List.getElem_mem hi1)
      have hst : (ns.take (i + 1)).flatMap g = (ns.take i).flatMap g ++ g ns[i] := by
        rw [List.take_succ_eq_append_getElem hi1, List.flatMap_append]
        simp
      refine Tr.skip ?_; refine Tr.seq ?_; refine Tr.block ?_; refine Tr.seq ?_; refine Tr.region ?_; refine TrL.quiets 3 rfl (by (simp only [allOf, impO, imp, inR, loOk, and_true]; omega)) ?_; refine TrL.nil ?_; refine Tr.seq ?_; refine Tr.region ?_; refine TrL.quiets 4 rfl (by (simp only [allOf, impO, imp, inR, loOk, and_true]; omega)) ?_
      first | refine TrL.callV rfl rfl rfl rfl rfl (c_Match (nth (t := .str) (p :: r) 0) (nth (t := .str) ns (i : Int)) (by rw [hnth]; omega) (by rw [hni]; omega)) ?_ | refine TrD.callV rfl rfl rfl rfl rfl (c_Match (nth (t := .str) (p :: r) 0) (nth (t := .str) ns (i : Int)) (by rw [hnth]; omega) (by rw [hni]; omega)) rfl ?_
      refine TrL.nil ?_
      refine Tr.cond rfl (fun c6 => ?_) (fun c6 => ?_)
      · have hmt : matchF p ns[i] = true := by rw [← hni]; exact c6
        refine Tr.drawA 8 rfl (by kernel_rfl) ?_
        have hfl := flatMap_take_le g ns (i + 1)
        rw [hst, List.length_append] at hfl
        have hgi : g ns[i] = walkF L dirs frm r (pth ++ [47] ++ ns[i]) := by rw [hgx, hmt, if_pos rfl]
        rw [hgi] at hfl hst
        have hih := ih (pth ++ [47] ++ nth (t := .str) ns (i : Int)) (out ++ (ns.take i).flatMap g) (by rw [hni]; simp only [List.length_append, List.length_singleton]; omega) (fun x hx => h2 x (by simp [hx])) (by rw [hni, List.length_append]; omega)
        refine TrA.take 1 rfl rfl (by kernel_rfl) rfl (by exact True.intro) ?_; refine TrA.take 2 rfl rfl (by kernel_rfl) rfl ?_ ?_
        · simp only [holds, impO, imp, List.length_append, List.length_singleton]
          show ((pth.length + 1 : Nat) : Int) ≤ 9223372036854775807
          omega
        refine TrA.take 3 rfl rfl (by kernel_rfl) rfl (by exact True.intro) ?_; refine TrA.take 4 rfl rfl (by kernel_rfl) rfl ?_ ?_
        · rw [hni]
          simp only [holds, impO, imp, List.length_append, List.length_singleton]
          show ((pth.length + 1 + ns[i].length : Nat) : Int) ≤ 9223372036854775807
          omega
        refine TrA.take 5 rfl rfl (by kernel_rfl) rfl (by exact True.intro) ?_; refine TrA.take 6 rfl rfl (by kernel_rfl) rfl (by (simp (disch := omega) only [holds, impO, imp, loOk, w64, Option.getD_none, Option.getD_some, and_true, true_and]; omega)) ?_; refine TrA.one 0 (by kernel_rfl) rfl ?_; refine TrL.quiets 1 rfl (by exact True.intro) ?_; refine TrL.nil ?_; refine TrA.one 7 (by kernel_rfl) rfl ?_
        refine TrL.callT [0, 1, 2, 3, 4, 5, 6, 7, 8] rfl rfl rfl rfl rfl hih rfl rfl rfl ?_
        refine TrL.nil ?_; refine TrA.done (by kernel_rfl) ?_; refine Tr.region ?_; refine TrL.quiets 2 rfl (by exact True.intro) ?_; refine TrL.nil ?_
        refine ⟨i + 1, hi1, by dsimp only; omega, ?_⟩
        refine Eq.trans (b := (⟨[(0, [], vS pth), (1, [], vL .str (p :: r)), (6, [], .ptr 7 0), (75, [], vL .str ns), (76, [], vI ns.length), (77, [], vI (IntKind.i64.wrap ((i : Int) + 1)))], wkT L dirs frm (out ++ (ns.take i).flatMap g ++ walkF L dirs frm r (pth ++ [47] ++ nth (t := .str) ns (i : Int)))⟩ : St)) rfl ?_
        dsimp only
        rw [hst, hni, List.append_assoc, w64n (y := i + 1) (by omega) (by omega)]
      · have hmt : matchF p ns[i] = false := by rw [← hni]; exact c6
        refine Tr.skip ?_; refine Tr.region ?_; refine TrL.quiets 2 rfl (by exact True.intro) ?_; refine TrL.nil ?_
        refine ⟨i + 1, hi1, by dsimp only; omega, ?_⟩
        refine Eq.trans (b := (⟨[(0, [], vS pth), (1, [], vL .str (p :: r)), (6, [], .ptr 7 0), (75, [], vL .str ns), (76, [], vI ns.length), (77, [], vI (IntKind.i64.wrap ((i : Int) + 1)))], wkT L dirs frm (out ++ (ns.take i).flatMap g)⟩ : St)) rfl ?_
        dsimp only
        rw [hst, hgx, hmt, if_neg (by decide), List.append_nil, w64n (y := i + 1) (by omega) (by omega)]
    · have hi1 : i = ns.length := by
        have : ¬ (i : Int) < ns.length := by simpa using c5
        omega
      subst hi1
      rw [List.take_length]
      refine Tr.exit ?_
      refine retT.fall rfl ?_ ?_
      · rfl
      · rfl

def foundF (L : List Fent) (w : Str) : List Str := walkF L (([47] : Str).isSuffixOf w) (([47] : Str).isPrefixOf w) (partF w) []
def expF (L : List Fent) (w : Str) : List Str :=
  if partF w = [] then (if ([47] : Str).isPrefixOf w then [[47]] else [])
  else if (partF w).any magF then cmpS (sortS (foundF L w))
  else if (lookL L (plainF (partF w))).2 then [w] else []
theorem partF_each (w : Str) : ∀ x ∈ partF w, x.length ≤ w.length := fun x hx => spS_each w x (List.mem_filter.1 hx).1
theorem partF_count (w : Str) : (partF w).length ≤ w.length + 1 := Nat.le_trans (List.length_filter_le _ _) (spS_le w)
theorem neF_sum : ∀ l : List Str, sumL (neF l) = sumL l
  | [] => rfl
  | x :: l => by
    have ih := neF_sum l
    unfold neF at ih ⊢
    by_cases h : x = []
    · rw [List.filter_cons_of_neg (by simpa using h), ih, h]
      simp [sumL]
    · rw [List.filter_cons_of_pos (by simpa using h)]
      simp only [sumL, List.map_cons, List.sum_cons] at ih ⊢
      omega
theorem plainF_le : ∀ l : List Str, (plainF l).length ≤ sumL l + l.length
  | [] => by simp [plainF]
  | x :: l => by
    have ih := plainF_le l
    have h1 := plnF_le x
    unfold plainF at ih ⊢
    simp only [List.flatMap_cons, List.length_append, List.length_cons, sumL, List.map_cons, List.sum_cons] at ih ⊢
    omega
theorem partF_plain (w : Str) : (plainF (partF w)).length ≤ 2 * w.length + 1 := by
  have h1 := plainF_le (partF w)
  have h2 := partF_count w
  have h3 : sumL (partF w) ≤ w.length := by
    unfold partF
    rw [neF_sum]
    have := spS_sum w []
    simp only [List.length_nil] at this
    omega
  omega
theorem c_Expand {L : List Fent} (h : FsOk L) (hL : FsLim L) (w : Str) (hw : w.length ≤ 1000) (hn : (foundF L w).length ≤ 1099511627776) :
    CallT Tryz.prog 39 [.ptr 0 0, vS w] (lT L) (vL .str (expF L w)) (lT L) := by
  have hpc := partF_count w
  have hpx := partF_each w
  have hpp := partF_plain w
  refine CallT.of Tryz.func39 (by kernel_rfl) rfl Tryz.ntmps39 (by simp) (by simp) fun cx hB => ?_
  have hB3 : ∀ i, cx.B i = true → i < 3 := hB
  refine Tr.seq ?_; refine Tr.region ?_; refine TrL.eff (effBox_sound rfl) (by exact True.intro) ?_; refine TrL.quiets 1 rfl (by exact True.intro) ?_; refine TrL.nil ?_; refine Tr.seq ?_; refine Tr.region ?_; refine TrL.quiets 1 rfl (by exact True.intro) ?_
  first | refine TrL.callV rfl rfl rfl rfl rfl (c_parts w (by omega)) ?_ | refine TrD.callV rfl rfl rfl rfl rfl (c_parts w (by omega)) rfl ?_
  refine TrL.quiets 1 rfl (by exact True.intro) ?_; refine TrL.nil ?_; refine Tr.seq ?_; refine Tr.region ?_; refine TrL.quiets 1 rfl (by exact True.intro) ?_
  first | refine TrL.callV rfl rfl rfl rfl rfl (c_HasPre w [47]) ?_ | refine TrD.callV rfl rfl rfl rfl rfl (c_HasPre w [47]) rfl ?_
  refine TrL.quiets 1 rfl (by exact True.intro) ?_
  first | refine TrL.callV rfl rfl rfl rfl rfl (c_HasSuf w [47] (by omega)) ?_ | refine TrD.callV rfl rfl rfl rfl rfl (c_HasSuf w [47] (by omega)) rfl ?_
  refine TrL.eff (effBox_sound rfl) (by exact True.intro) ?_; refine TrL.eff (effBox_sound rfl) (by exact True.intro) ?_; refine TrL.eff (effStore_sound rfl) (by exact True.intro) ?_; refine TrL.eff (effStore_sound rfl) (by exact True.intro) ?_; refine TrL.nil ?_; refine Tr.seq ?_; refine Tr.block ?_; refine Tr.seq ?_; refine Tr.region ?_; refine TrL.quiets 7 rfl (by exact True.intro) ?_; refine TrL.nil ?_
  generalize hfr : ([47] : Str).isPrefixOf w = frm
  generalize hdi : ([47] : Str).isSuffixOf w = dirs
  have hB6 : ∀ i, cx.B i = true → i < 6 := fun i h => Nat.lt_of_lt_of_le (hB i h) (show 3 ≤ 6 by decide)
  refine Tr.keep [1, 2, 5, 6, 7, 18] 6 hB6 (st' := ⟨[(1, [], vS w), (2, [], .ptr 3 0), (5, [], vL .str (partF w)), (6, [], .ptr 4 0), (7, [], .ptr 5 0), (18, [], vB (((partF w).length : Int) == 0 && frm))], lT L ++ [.box 25 [.ptr 0 0], .box 4 [vB frm], .box 4 [vB dirs]]⟩) rfl ?_
  refine Tr.cond rfl (fun c1 => ?_) (fun c1 => ?_)
  · have hc : partF w = [] ∧ frm = true := by
      simp only [Bool.and_eq_true, beq_iff_eq] at c1
      exact ⟨List.eq_nil_of_length_eq_zero (by omega), c1.2⟩
    have he : expF L w = [[47]] := by
      unfold expF
      rw [if_pos hc.1, hfr, hc.2]
      rfl
    rw [he]
    refine Tr.seq ?_; refine Tr.region ?_; refine TrL.eff (effLit_sound rfl) (by exact True.intro) ?_; refine TrL.quiets 1 rfl (by exact True.intro) ?_; refine TrL.nil ?_
    change Tr _ _ _ _ _ _
    refine Tr.weak 4 rfl (fix_weak .str [[47]]) ?_
    refine Tr.ret ?_
    refine retT.of rfl ?_ ?_
    · rfl
    · rfl
  have hc : ¬ (partF w = [] ∧ frm = true) := by
    rintro ⟨a, b⟩
    rw [a, b] at c1
    simp at c1
  refine Tr.seq ?_; refine Tr.region ?_; refine TrL.quiets 4 rfl (by exact True.intro) ?_; refine TrL.nil ?_
  refine Tr.cond rfl (fun c2 => ?_) (fun c2 => ?_)
  · have hl : partF w = [] := List.eq_nil_of_length_eq_zero (by simpa using c2)
    have hf : frm = false := by
      cases frm with
      | false => rfl
      | true => exact absurd ⟨hl, rfl⟩ hc
    have he : expF L w = [] := by
      unfold expF
      rw [if_pos hl, hfr, hf]
      rfl
    rw [he]
    refine Tr.seq ?_; refine Tr.region ?_; refine TrL.quiets 1 rfl (by exact True.intro) ?_; refine TrL.nil ?_
    change Tr _ _ _ _ _ _
    refine Tr.weak 4 rfl (nil_weak .str) ?_
    refine Tr.ret ?_
    refine retT.of rfl ?_ ?_
    · rfl
    · rfl
  have hl : partF w ≠ [] := by
    intro a
    rw [a] at c2
    simp at c2
  refine Tr.seq ?_; refine Tr.region ?_; refine TrL.quiets 1 rfl (by exact True.intro) ?_
  first | refine TrL.callV rfl rfl rfl rfl rfl (c_ContainsFunc 58 magF 1099511627776 (fun x hx => c_Magic x hx) (partF w) (by omega) (fun x hx => by have := hpx x hx; omega)) ?_ | refine TrD.callV rfl rfl rfl rfl rfl (c_ContainsFunc 58 magF 1099511627776 (fun x hx => c_Magic x hx) (partF w) (by omega) (fun x hx => by have := hpx x hx; omega)) rfl ?_
  refine TrL.quiets 2 rfl (by exact True.intro) ?_; refine TrL.nil ?_
  refine Tr.cond rfl (fun c3 => ?_) (fun c3 => ?_)
  · have hm : (partF w).any magF = false := by simpa using c3
    have he : expF L w = if (lookL L (plainF (partF w))).2 then [w] else [] := by
      unfold expF
      rw [if_neg hl, hm]
      rfl
    rw [he]
    have hcp := c_plain (partF w) (by omega) (fun x hx => by have := hpx x hx; omega) (by omega)
    have hlk := c_LookL h (plainF (partF w)) (by omega)
    refine Tr.seq ?_; refine Tr.seq ?_
    refine Tr.joinN (fun _ : Unit => ⟨[(1, [], vS w), (9, [], vB (lookL L (plainF (partF w))).2)], lT L⟩) (fun _ => True) [1, 9] 3 hB3 ?_ fun _ _ => ?_
    · refine Tr.drawA 10 rfl (by kernel_rfl) ?_
      refine TrA.take 1 rfl rfl (by kernel_rfl) rfl (by exact True.intro) ?_; refine TrA.three 0 2 7 (by kernel_rfl) rfl rfl rfl ?_ ?_ ?_
      · refine TrL.quiets 1 rfl (by exact True.intro) ?_; refine TrL.nil ?_; refine TrA.two 2 7 (by kernel_rfl) rfl rfl ?_ ?_
        · first | refine TrL.callV rfl rfl rfl rfl rfl hcp ?_ | refine TrD.callV rfl rfl rfl rfl rfl hcp rfl ?_
          refine TrL.nil ?_; refine TrA.two 3 7 (by kernel_rfl) rfl rfl ?_ ?_
          · refine TrL.callT [0, 1, 2] rfl rfl rfl rfl rfl hlk rfl rfl rfl ?_
            refine TrL.nil ?_; refine TrA.take 4 rfl rfl (by kernel_rfl) rfl (by exact True.intro) ?_; refine TrA.take 5 rfl rfl (by kernel_rfl) rfl (by exact True.intro) ?_; refine TrA.take 6 rfl rfl (by kernel_rfl) rfl (by exact True.intro) ?_; refine TrA.one 7 (by kernel_rfl) rfl ?_; refine TrL.eff (effBox_sound rfl) (by exact True.intro) ?_; refine TrL.nil ?_; refine TrA.one 8 (by kernel_rfl) rfl ?_; refine TrL.eff (effStore_sound rfl) (by exact True.intro) ?_; refine TrL.nil ?_; refine TrA.take 9 rfl rfl (by kernel_rfl) rfl (by exact True.intro) ?_; refine TrA.done (by kernel_rfl) ?_
            exact ⟨(), trivial, rfl⟩
          · refine TrL.eff (effBox_sound rfl) (by exact True.intro) ?_; refine TrL.nil ?_; refine TrA.one 3 (by kernel_rfl) rfl ?_
            refine TrL.callT [0, 1, 2] rfl rfl rfl rfl rfl hlk rfl rfl rfl ?_
            refine TrL.nil ?_; refine TrA.take 4 rfl rfl (by kernel_rfl) rfl (by exact True.intro) ?_; refine TrA.take 5 rfl rfl (by kernel_rfl) rfl (by exact True.intro) ?_; refine TrA.take 6 rfl rfl (by kernel_rfl) rfl (by exact True.intro) ?_; refine TrA.one 8 (by kernel_rfl) rfl ?_; refine TrL.eff (effStore_sound rfl) (by exact True.intro) ?_; refine TrL.nil ?_; refine TrA.take 9 rfl rfl (by kernel_rfl) rfl (by exact True.intro) ?_; refine TrA.done (by kernel_rfl) ?_
            exact ⟨(), trivial, rfl⟩
        · refine TrL.eff (effBox_sound rfl) (by exact True.intro) ?_; refine TrL.nil ?_; refine TrA.one 2 (by kernel_rfl) rfl ?_
          first | refine TrL.callV rfl rfl rfl rfl rfl hcp ?_ | refine TrD.callV rfl rfl rfl rfl rfl hcp rfl ?_
          refine TrL.nil ?_; refine TrA.one 3 (by kernel_rfl) rfl ?_
          refine TrL.callT [0, 1, 2] rfl rfl rfl rfl rfl hlk rfl rfl rfl ?_
          refine TrL.nil ?_; refine TrA.take 4 rfl rfl (by kernel_rfl) rfl (by exact True.intro) ?_; refine TrA.take 5 rfl rfl (by kernel_rfl) rfl (by exact True.intro) ?_; refine TrA.take 6 rfl rfl (by kernel_rfl) rfl (by exact True.intro) ?_; refine TrA.one 8 (by kernel_rfl) rfl ?_; refine TrL.eff (effStore_sound rfl) (by exact True.intro) ?_; refine TrL.nil ?_; refine TrA.take 9 rfl rfl (by kernel_rfl) rfl (by exact True.intro) ?_; refine TrA.done (by kernel_rfl) ?_
          exact ⟨(), trivial, rfl⟩
      · first | refine TrL.callV rfl rfl rfl rfl rfl hcp ?_ | refine TrD.callV rfl rfl rfl rfl rfl hcp rfl ?_
        refine TrL.nil ?_; refine TrA.two 0 7 (by kernel_rfl) rfl rfl ?_ ?_
        · refine TrL.quiets 1 rfl (by exact True.intro) ?_; refine TrL.nil ?_; refine TrA.two 3 7 (by kernel_rfl) rfl rfl ?_ ?_
          · refine TrL.callT [0, 1, 2] rfl rfl rfl rfl rfl hlk rfl rfl rfl ?_
            refine TrL.nil ?_; refine TrA.take 4 rfl rfl (by kernel_rfl) rfl (by exact True.intro) ?_; refine TrA.take 5 rfl rfl (by kernel_rfl) rfl (by exact True.intro) ?_; refine TrA.take 6 rfl rfl (by kernel_rfl) rfl (by exact True.intro) ?_; refine TrA.one 7 (by kernel_rfl) rfl ?_; refine TrL.eff (effBox_sound rfl) (by exact True.intro) ?_; refine TrL.nil ?_; refine TrA.one 8 (by kernel_rfl) rfl ?_; refine TrL.eff (effStore_sound rfl) (by exact True.intro) ?_; refine TrL.nil ?_; refine TrA.take 9 rfl rfl (by kernel_rfl) rfl (by exact True.intro) ?_; refine TrA.done (by kernel_rfl) ?_
            exact ⟨(), trivial, rfl⟩
          · refine TrL.eff (effBox_sound rfl) (by exact True.intro) ?_; refine TrL.nil ?_; refine TrA.one 3 (by kernel_rfl) rfl ?_
            refine TrL.callT [0, 1, 2] rfl rfl rfl rfl rfl hlk rfl rfl rfl ?_
            refine TrL.nil ?_; refine TrA.take 4 rfl rfl (by kernel_rfl) rfl (by exact True.intro) ?_; refine TrA.take 5 rfl rfl (by kernel_rfl) rfl (by exact True.intro) ?_; refine TrA.take 6 rfl rfl (by kernel_rfl) rfl (by exact True.intro) ?_; refine TrA.one 8 (by kernel_rfl) rfl ?_; refine TrL.eff (effStore_sound rfl) (by exact True.intro) ?_; refine TrL.nil ?_; refine TrA.take 9 rfl rfl (by kernel_rfl) rfl (by exact True.intro) ?_; refine TrA.done (by kernel_rfl) ?_
            exact ⟨(), trivial, rfl⟩
        · refine TrL.eff (effBox_sound rfl) (by exact True.intro) ?_; refine TrL.nil ?_; refine TrA.one 0 (by kernel_rfl) rfl ?_; refine TrL.quiets 1 rfl (by exact True.intro) ?_; refine TrL.nil ?_; refine TrA.one 3 (by kernel_rfl) rfl ?_
          refine TrL.callT [0, 1, 2] rfl rfl rfl rfl rfl hlk rfl rfl rfl ?_
          refine TrL.nil ?_; refine TrA.take 4 rfl rfl (by kernel_rfl) rfl (by exact True.intro) ?_; refine TrA.take 5 rfl rfl (by kernel_rfl) rfl (by exact True.intro) ?_; refine TrA.take 6 rfl rfl (by kernel_rfl) rfl (by exact True.intro) ?_; refine TrA.one 8 (by kernel_rfl) rfl ?_; refine TrL.eff (effStore_sound rfl) (by exact True.intro) ?_; refine TrL.nil ?_; refine TrA.take 9 rfl rfl (by kernel_rfl) rfl (by exact True.intro) ?_; refine TrA.done (by kernel_rfl) ?_
          exact ⟨(), trivial, rfl⟩
      · refine TrL.eff (effBox_sound rfl) (by exact True.intro) ?_; refine TrL.nil ?_; refine TrA.two 0 2 (by kernel_rfl) rfl rfl ?_ ?_
        · refine TrL.quiets 1 rfl (by exact True.intro) ?_; refine TrL.nil ?_; refine TrA.one 2 (by kernel_rfl) rfl ?_
          first | refine TrL.callV rfl rfl rfl rfl rfl hcp ?_ | refine TrD.callV rfl rfl rfl rfl rfl hcp rfl ?_
          refine TrL.nil ?_; refine TrA.one 3 (by kernel_rfl) rfl ?_
          refine TrL.callT [0, 1, 2] rfl rfl rfl rfl rfl hlk rfl rfl rfl ?_
          refine TrL.nil ?_; refine TrA.take 4 rfl rfl (by kernel_rfl) rfl (by exact True.intro) ?_; refine TrA.take 5 rfl rfl (by kernel_rfl) rfl (by exact True.intro) ?_; refine TrA.take 6 rfl rfl (by kernel_rfl) rfl (by exact True.intro) ?_; refine TrA.one 8 (by kernel_rfl) rfl ?_; refine TrL.eff (effStore_sound rfl) (by exact True.intro) ?_; refine TrL.nil ?_; refine TrA.take 9 rfl rfl (by kernel_rfl) rfl (by exact True.intro) ?_; refine TrA.done (by kernel_rfl) ?_
          exact ⟨(), trivial, rfl⟩
        · first | refine TrL.callV rfl rfl rfl rfl rfl hcp ?_ | refine TrD.callV rfl rfl rfl rfl rfl hcp rfl ?_
          refine TrL.nil ?_; refine TrA.one 0 (by kernel_rfl) rfl ?_; refine TrL.quiets 1 rfl (by exact True.intro) ?_; refine TrL.nil ?_; refine TrA.one 3 (by kernel_rfl) rfl ?_
          refine TrL.callT [0, 1, 2] rfl rfl rfl rfl rfl hlk rfl rfl rfl ?_
          refine TrL.nil ?_; refine TrA.take 4 rfl rfl (by kernel_rfl) rfl (by exact True.intro) ?_; refine TrA.take 5 rfl rfl (by kernel_rfl) rfl (by exact True.intro) ?_; refine TrA.take 6 rfl rfl (by kernel_rfl) rfl (by exact True.intro) ?_; refine TrA.one 8 (by kernel_rfl) rfl ?_; refine TrL.eff (effStore_sound rfl) (by exact True.intro) ?_; refine TrL.nil ?_; refine TrA.take 9 rfl rfl (by kernel_rfl) rfl (by exact True.intro) ?_; refine TrA.done (by kernel_rfl) ?_
          exact ⟨(), trivial, rfl⟩
    refine Tr.seq ?_; refine Tr.region ?_; refine TrL.quiets 1 rfl (by exact True.intro) ?_; refine TrL.nil ?_
    refine Tr.cond rfl (fun c4 => ?_) (fun c4 => ?_)
    · have e4 : (lookL L (plainF (partF w))).2 = true := c4
      rw [if_pos e4]
      refine Tr.seq ?_; refine Tr.region ?_; refine TrL.quiets 1 rfl (by exact True.intro) ?_; refine TrL.eff (effLit_sound rfl) (by exact True.intro) ?_; refine TrL.quiets 1 rfl (by exact True.intro) ?_; refine TrL.nil ?_
      change Tr _ _ _ _ _ _
      refine Tr.weak 4 rfl (fix_weak .str [w]) ?_
      refine Tr.ret ?_
      refine retT.of rfl ?_ ?_
      · rfl
      · rfl
    · have e4 : ¬ (lookL L (plainF (partF w))).2 = true := by
        rw [show (lookL L (plainF (partF w))).2 = false from c4]
        decide
      rw [if_neg e4]
      refine Tr.skip ?_; refine Tr.seq ?_; refine Tr.region ?_; refine TrL.quiets 1 rfl (by exact True.intro) ?_; refine TrL.nil ?_
      change Tr _ _ _ _ _ _
      refine Tr.weak 4 rfl (nil_weak .str) ?_
      refine Tr.ret ?_
      refine retT.of rfl ?_ ?_
      · rfl
      · rfl
  have hm : (partF w).any magF = true := by simpa using c3
  have he : expF L w = cmpS (sortS (foundF L w)) := by
    unfold expF
    rw [if_neg hl, if_pos hm]
  have hff : foundF L w = walkF L dirs frm (partF w) [] := by
    unfold foundF
    rw [hfr, hdi]
  rw [he, hff]
  rw [hff] at hn
  refine Tr.skip ?_; refine Tr.seq ?_; refine Tr.region ?_; refine TrL.eff (effBox_sound rfl) (by exact True.intro) ?_; refine TrL.nil ?_; refine Tr.seq ?_; refine Tr.region ?_; refine TrL.eff (effBox_sound rfl) (by exact True.intro) ?_; refine TrL.nil ?_
  change Tr _ _ _ _ _ _
  refine Tr.keep [5, 2, 6, 7, 10, 11] 8 (fun i h => Nat.lt_of_lt_of_le (hB i h) (show 3 ≤ 8 by decide)) (st' := ⟨[(5, [], vL .str (partF w)), (2, [], .ptr 3 0), (6, [], .ptr 4 0), (7, [], .ptr 5 0), (10, [], .ptr 6 0), (11, [], .ptr 7 0)], lT L ++ [.box 25 [.ptr 0 0], .box 4 [vB frm], .box 4 [vB dirs], .box 36 [.nils], .box 100 [.nilf]]⟩) rfl ?_
  refine Tr.nilBoxM 6 0 9 .str rfl rfl ?_
  refine Tr.seq ?_; refine Tr.region ?_; refine TrL.quiets 1 rfl (by exact True.intro) ?_; refine TrL.eff (effStore_sound rfl) (by exact True.intro) ?_; refine TrL.nil ?_; refine Tr.seq ?_; refine Tr.region ?_; refine TrL.quiets 2 rfl (by exact True.intro) ?_
  refine TrL.callT [0, 1, 2, 3, 4, 5, 6, 7, 8] rfl rfl rfl rfl rfl (c_walk h hL dirs frm (partF w) [] [] (by simp only [List.length_nil]; omega) (fun x hx => by have := hpx x hx; omega) (by simpa using hn)) rfl rfl rfl ?_
  refine TrL.nil ?_
  change Tr _ _ _ _ _ _
  generalize hR : walkF L dirs frm (partF w) [] = R at hn
  refine Tr.keep [10] 9 (fun i h => Nat.lt_of_lt_of_le (hB i h) (show 3 ≤ 9 by decide)) (st' := ⟨[(10, [], .ptr 6 0)], wkT L dirs frm R⟩) rfl ?_
  refine Tr.seq ?_; refine Tr.region ?_; refine TrL.quiets 1 rfl (by exact True.intro) ?_
  refine TrL.sortM 8 rfl rfl rfl rfl rfl rfl hn ?_
  refine TrL.nil ?_; refine Tr.seq ?_; refine Tr.region ?_; refine TrL.quiets 1 rfl (by exact True.intro) ?_
  have hsl : (sortS R).length = R.length := (sortS_perm R).length_eq
  refine TrL.callT [8] rfl rfl rfl rfl rfl (c_Compact (sortS R) (by omega)) rfl rfl rfl ?_
  refine TrL.quiets 1 rfl (by exact True.intro) ?_; refine TrL.nil ?_
  change Tr _ _ _ _ _ _
  have hcl : (cmpS (sortS R)).length ≤ (cmpL (sortS R)).length := by
    rw [cmpL_length]
    exact Lib.compact_length_le _
  refine Tr.shortVar 8 (cmpS (sortS R)).length 4 rfl rfl hcl ?_
  refine Tr.freeze 8 rfl ?_
  refine Tr.ret ?_
  refine retT.of rfl ?_ ?_
  · exact congrArg (vL .str) List.take_left
  · rfl
end Go.Proofs.YteiickhgmmjcmaaGreatDoor.Sx
