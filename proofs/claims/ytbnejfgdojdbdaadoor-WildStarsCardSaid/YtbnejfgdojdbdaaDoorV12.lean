/-
  New, Look, List, All: of what is there.
-/
import Derived.Test.YtbnejfgdojdbdaaDoorV7
import Derived.Test.YtbnejfgdojdbdaaDoorV11
set_option linter.unusedVariables false
set_option linter.unusedSimpArgs false
set_option maxRecDepth 20000
set_option maxHeartbeats 4000000
namespace Go.Proofs.YtbnejfgdojdbdaaDoor.Sx
open Go Go.RowKit Go.Proofs

def FsLim (L : List Fent) : Prop := L.length ≤ 1000000 ∧ ∀ e ∈ L, (absT e.1).length ≤ 1000000
theorem allPre_count : ∀ r : List Str, (allPre r).length = r.length
  | [] => rfl
  | x :: r => by rw [allPre, List.length_append, allPre_count r]; rfl
theorem preOf_count (ns : List Str) : (preOf ns).length ≤ ns.length := by
  unfold preOf
  rw [allPre_count, List.length_tail, List.length_reverse]
  omega
theorem preOf_short {ns : List Str} {B : Nat} (h : (absT ns).length ≤ B) : ∀ q ∈ preOf ns, (absT q).length ≤ B := by
  unfold preOf
  intro q hq
  by_cases h0 : ns = []
  · subst h0; cases hq
  obtain ⟨ms, x, rfl⟩ := snoc_of h0
  have e : (ms ++ [x]).reverse.tail = ms.reverse := by simp
  rw [e] at hq
  refine pre_short ms.reverse B ?_ q hq
  rw [List.reverse_reverse]
  have := absT_le ms x
  omega
theorem step_lim {L : List Fent} {e : EntD} {N : Nat} (he : e.1.length ≤ 1000) (h : L.length ≤ N ∧ ∀ e ∈ L, (absT e.1).length ≤ 1000000) : (stepL L e).length ≤ N + 1002 ∧ ∀ x ∈ stepL L e, (absT x.1).length ≤ 1000000 := by
  have h1 := absL_bound e.1
  have h2 := absT_length (absL e.1)
  have h3 := preOf_count (absL e.1)
  have hq := preOf_short (ns := absL e.1) (B := 1000000) (by omega)
  unfold stepL
  split
  · exact ⟨by omega, h.2⟩
  · constructor
    · simp only [List.length_append, asDirs, List.length_map, List.length_singleton]
      have := List.length_filter_le (fun q => !hasP L q) (preOf (absL e.1))
      omega
    · intro x hx
      rcases List.mem_append.1 hx with hx | hx
      · rcases List.mem_append.1 hx with hx | hx
        · exact h.2 x hx
        · obtain ⟨q, hq2, rfl⟩ := List.mem_map.1 hx
          exact hq q (List.mem_filter.1 hq2).1
      · rw [List.mem_singleton.1 hx]
        dsimp only
        omega
theorem fold_lim : ∀ (l : List EntD) (L : List Fent) (N : Nat), (∀ e ∈ l, e.1.length ≤ 1000) → (L.length ≤ N ∧ ∀ e ∈ L, (absT e.1).length ≤ 1000000) → (l.foldl stepL L).length ≤ N + 1002 * l.length ∧ ∀ x ∈ l.foldl stepL L, (absT x.1).length ≤ 1000000
  | [], L, N, _, h => by simpa using h
  | e :: l, L, N, hl, h => by
    have h1 := step_lim (hl e (by simp)) h
    have h2 := fold_lim l (stepL L e) (N + 1002) (fun x hx => hl x (by simp [hx])) h1
    rw [List.foldl_cons]
    refine ⟨?_, h2.2⟩
    have := h2.1
    rw [List.length_cons]
    omega
theorem fsOf_lim {l : List EntD} (h : ∀ e ∈ l, e.1.length ≤ 1000) : FsLim (fsOf l) := by
  have h1 := fold_lim (l.take 200) [([], true, [])] 1 (fun e he => h e (List.mem_of_mem_take he)) ⟨by simp, by simp [absT]⟩
  refine ⟨?_, h1.2⟩
  have := h1.1
  have h3 : (l.take 200).length ≤ 200 := by rw [List.length_take]; omega
  unfold fsOf
  omega

abbrev lT (L : List Fent) : List Ent := fsT (dirsOf L) (filesOf L)
theorem c_LookL {L : List Fent} (h : FsOk L) (p : Str) (hp : p.length ≤ 1099511627) : CallT Tryd.prog 20 [.ptr 0 0, vS p] (lT L) (.tup [entS (lookL L p).1, vB (lookL L p).2]) (lT L) := by
  have := c_Look (dirsOf L) (filesOf L) p hp
  rwa [lookF_L h] at this
theorem kids_len (L : List Fent) (q : List Str) : (kids L q).length ≤ L.length := List.length_filterMap_le _ _
theorem c_ListL {L : List Fent} (h : FsOk L) (hL : FsLim L) (p : Str) (hp : p.length ≤ 1099511627) : CallT Tryd.prog 25 [.ptr 0 0, vS p] (lT L) (vL .str (listL L p)) (lT L) := by
  have h1 := listF_L h p
  have h2 : (kidsAt (dirsOf L) (absP p)).length ≤ 1099511627 := by
    have h3 := congrArg List.length h1
    rw [(sortS_perm _).length_eq] at h3
    rw [h3]
    unfold listL
    split
    · simp
    · rw [(sortS_perm _).length_eq]
      have := kids_len L (absL p)
      have := hL.1
      omega
  have := c_List (dirsOf L) (filesOf L) p hp h2
  rwa [h1] at this

























theorem c_NewL (l : List EntD) (hl : l.length ≤ 1099511627) (hs : ∀ e ∈ l, e.1.length ≤ 1000) : CallT Tryd.prog 7 [vL eTy l] [] (.ptr 2 0) (nfT (dirsOf (fsOf l)) (filesOf (fsOf l))) := c_New l hl (fun e he => by have := hs e he; omega)
end Go.Proofs.YtbnejfgdojdbdaaDoor.Sx
