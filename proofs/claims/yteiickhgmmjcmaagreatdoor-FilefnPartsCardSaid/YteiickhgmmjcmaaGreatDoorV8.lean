/-
  slices.Sort of texts: a row that the call owns.
-/

import Derived.Test.YteiickhgmmjcmaaGreatDoorV1





set_option linter.unusedVariables false
set_option linter.unusedSimpArgs false
set_option maxRecDepth 20000
namespace Go.Proofs.YteiickhgmmjcmaaGreatDoor.Sx
open Go Go.RowKit Go.Proofs

theorem rows_str {σ : Mem} {l : List Str} {xs : List Value} (h : Rows σ .str l xs) : xs = l.map strV := by
  obtain ⟨css, h1, rfl, h3⟩ := h
  have e : css = l.map (fun x => [strV x]) := by
    apply List.ext_getElem?
    intro i
    rw [List.getElem?_map]
    by_cases hi : i < l.length
    · obtain ⟨c, hc, hd⟩ := h3 i _ (List.getElem?_eq_getElem hi)
      rw [hc, List.getElem?_eq_getElem hi]
      exact congrArg some hd
    · rw [List.getElem?_eq_none (by omega), List.getElem?_eq_none (by omega)]
      rfl
  rw [e]
  clear h1 h3 e
  induction l with
  | nil => rfl
  | cons x l ih => simp only [List.map_cons, List.flatten_cons, ih]; rfl
theorem rows_of_str (σ : Mem) : ∀ (l : List Str), Rows σ .str l (l.map strV)
  | [] => Rows.nil σ _
  | x :: l => by
    have h1 : Rows σ .str [x] [strV x] := Rows.one (t := .str) (x := x) (c := [strV x]) rfl
    exact h1.append (rows_of_str σ l)
abbrev sortS (l : List Str) : List Str := l.mergeSort fun x y => decide (x ≤ y)
theorem sort_runs {cx : Cx} {σ : Mem} {ρ : Rho} {tab : List Ent} {w : World} {i : Nat} (l : List Str) (hlen : l.length ≤ 1099511627776) (hw : WR cx σ ρ tab w) (hi : tab[i]? = some (.ra 9 .str l)) :
    Calls Tryz.prog 66 #[(ρ i).sl] w fun e w' => e = .returned (.tuple #[]) ∧ WR cx σ ρ (tab.set i (.ra 9 .str (sortS l))) w' := by
  have hent := hw.ent i _ hi
  obtain ⟨xs, q1, q2, q3, q4⟩ := hent
  obtain rfl := rows_str q1
  by_cases hl : l = []
  · subst hl
    have hsl : ∃ p cap, (ρ i).sl = .slice p 0 cap := by
      rcases q2.2 with ⟨h, _⟩ | ⟨g, cap, cur, h, _⟩
      · exact ⟨_, _, h⟩
      · exact ⟨_, _, h⟩
    obtain ⟨p, cap, hp⟩ := hsl
    rw [hp]
    refine (Tryz.slices_Sort_string_none p cap w).mono ?_
    rintro e w' ⟨rfl, rfl⟩
    refine ⟨rfl, ?_⟩
    rw [show sortS [] = [] by simp [sortS]]
    obtain ⟨hlt, he⟩ := List.getElem?_eq_some_iff.1 hi
    rw [← he, List.set_getElem_self]
    exact hw
  rcases q2.2 with ⟨_, h⟩ | ⟨g, cap, cur, hsl, _, hg, hnc, hcm, hcs, htake⟩
  · exact absurd (List.eq_nil_of_length_eq_zero h) hl
  have hgk := q3 g (by rw [hsl]; rfl)
  have hgs : g < w.heap.size := (Array.getElem?_eq_some_iff.1 hg).1
  simp only [Ty.cells, Nat.mul_one] at hcs htake
  have hcur : ∀ j, j < l.length → cur[j]? = some (strV (l.toArray[j]!)) := by
    intro j hj
    have h1 : (cur.toList.take l.length)[j]? = (l.map strV)[j]? := by rw [htake]
    rw [List.getElem?_take, if_pos hj, Array.getElem?_toList, List.getElem?_map, List.getElem?_eq_getElem hj] at h1
    rw [h1]
    simp [hj]
  have hH : Sort.Holds encStr w g 0 l.toArray := by
    intro j hj
    have hj' : j < l.length := by simpa using hj
    refine ⟨?_, ?_⟩
    · unfold World.cell?
      rw [hg, Nat.zero_add]
      exact hcur j hj'
    · unfold World.frozen?
      rw [hg]
      simp
  rw [hsl]
  refine (Tryz.slices_Sort_string g 0 cap l w hH hgs (by omega)).mono ?_
  rintro e w' ⟨rfl, n, os, rfl⟩
  have hperm : (sortS l).length = l.length := (List.mergeSort_perm l _).length_eq
  have hh : ∀ b, b < w.heap.size → b ≠ g → (Sort.grow (Sort.putRow encStr (Sort.ahead w n) g 0 (sortS l).toArray) os).heap[b]? = w.heap[b]? := by
    intro b hb hne
    rw [Sort.heap_grow_old _ _ (by simpa using hb)]
    simp [Sort.putRow, Sort.mapBlock, Array.getElem?_modify, Ne.symm hne]
  have hgn : (Sort.grow (Sort.putRow encStr (Sort.ahead w n) g 0 (sortS l).toArray) os).heap[g]? = some (.cells (Sort.putCells encStr 0 (sortS l).toArray cur) 9 (0, 0)) := by
    rw [Sort.heap_grow_old _ _ (by simpa using hgs)]
    simp [Sort.putRow, Sort.mapBlock, Array.getElem?_modify, hg, Sort.onCells]
  have hob : (ρ i).sl.ownBlock = some g := by rw [hsl]; rfl
  have hq4 : ∀ a u, σ a = some u → a.block ≠ g := by
    intro a u ha heq
    exact q4 a u ha (by rw [hob, heq])
  have := hw.step (k := i) (e' := .ra 9 .str (sortS l)) (w' := Sort.grow (Sort.putRow encStr (Sort.ahead w n) g 0 (sortS l).toArray) os) (τ := σ) (ρ' := ρ) (fun _ => true) hi (Mem.le_refl σ)
    (fun a u ha => by rw [World.cell?_of_block (w := w) (hh _ (sub_lt hw.sub ha) (hq4 a u ha))]; exact hw.sub a u ha) (fun _ _ => rfl) (fun _ _ => rfl) (fun b hb hne => hh b hb (fun e => hne (by simp only [Ent.at_]; rw [hob, e]))) (fun a u ha => .inl ⟨u, ha⟩) (fun h => by cases h)
    ⟨_, rows_of_str σ _, ?_, q3, q4⟩ (fun b hb => .inl hb) rfl rfl rfl (by simp)
  · rw [cleanT_true] at this
    exact ⟨rfl, this⟩
  · rw [hsl]
    refine ⟨by simp [Ty.cells], .inr ⟨g, cap, _, by rw [hperm], Nat.zero_le _, hgn, by rw [hperm]; exact hnc, hcm, ?_, ?_⟩⟩
    · simp [Sort.putCells, hcs, Ty.cells]
    · simp only [Ty.cells, Nat.mul_one]
      apply List.ext_getElem?
      intro j
      rw [List.getElem?_take, List.getElem?_map]
      by_cases hj : j < (sortS l).length
      · rw [if_pos hj, Array.getElem?_toList, List.getElem?_eq_getElem hj]
        simp only [Sort.putCells, Array.getElem?_mapIdx]
        rw [hcur j (by omega)]
        have hj2 : j < l.length := by omega
        simp [hj, hj2]
        rfl
      · rw [if_neg hj, List.getElem?_eq_none (by omega)]
        rfl
theorem TrL.sortM {cx : Cx} {n : Nat} {ops : Array Oper} {o : Oper} {L : List Oper} {env : Env} {tab : List Ent} {Q : Post} {c : Call} {d : Nat} {l : List Str} (i : Nat)
    (hg : o.guard = none) (ho : o.op = .call c) (hdst : o.dst = some d) (hc : callee env tab [] c = some (66, [.arr i])) (hd : (decide (d < n) && okPut env d) = true) (hi : tab[i]? = some (.ra 9 .str l))
    (hlen : l.length ≤ 1099511627776) (k : TrL Tryz.prog cx n ops L ⟨put env d [] (.tup []), tab.set i (.ra 9 .str (sortS l))⟩ Q) : TrL Tryz.prog cx n ops (o :: L) ⟨env, tab⟩ Q := by
  intro a w hs
  obtain ⟨σ, ρ, hw, he, hn, hdf⟩ : ∃ σ ρ, WR cx σ ρ tab w ∧ EnvA σ ρ env a ∧ a.tmps.size = n ∧ a.defers = cx.ds := hs
  simp only [Bool.and_eq_true, decide_eq_true_eq] at hd
  refine wpList_plain hg fun K hK => ?_
  obtain ⟨vs, h1, h2⟩ := callee_run (P := Tryz.prog) hw he (fun p hp => by cases hp) ho hc
  unfold Oper.wp
  rw [h2 w, Go.Proofs.enters_of Tryz.func66 (by kernel_rfl) rfl]
  obtain ⟨v, r, rfl, hv, rfl⟩ : ∃ v r, vs = v :: r ∧ SV.den σ ρ (.arr i) v ∧ r = [] := h1
  have hv' : v = (ρ i).sl := hv
  subst hv'
  refine (sort_runs l hlen hw hi).mono ?_
  rintro e w' ⟨rfl, hw'⟩
  refine hK _ _ (k _ _ ⟨σ, ρ, hw', ?_, by rw [put_size]; exact hn, by rw [put_defers]; exact hdf⟩)
  rw [hdst]
  exact he.put hd.2 (by rw [hn]; exact hd.1) rfl (fun _ => ⟨[], rfl, rfl⟩) (fun h => absurd (fun p hp => by cases hp) h)
/-! ### Sorted lists -/
theorem leS_trans (a b c : Str) (h1 : decide (a ≤ b) = true) (h2 : decide (b ≤ c) = true) : decide (a ≤ c) = true := by
  rw [decide_eq_true_eq] at *
  exact List.le_trans h1 h2
theorem leS_total (a b : Str) : (decide (a ≤ b) || decide (b ≤ a)) = true := by
  rw [Bool.or_eq_true, decide_eq_true_eq, decide_eq_true_eq]
  exact List.le_total a b
theorem sortS_perm (l : List Str) : (sortS l).Perm l := List.mergeSort_perm l _
theorem sortS_sorted (l : List Str) : (sortS l).Pairwise (fun a b => decide (a ≤ b) = true) := List.pairwise_mergeSort leS_trans leS_total l
theorem sortS_unique {l m : List Str} (h : m.Perm l) (hs : m.Pairwise (fun a b => decide (a ≤ b) = true)) : m = sortS l :=
  List.Perm.eq_of_pairwise (le := fun a b => decide (a ≤ b) = true) (fun a b _ _ h1 h2 => List.le_antisymm (by simpa using h1) (by simpa using h2)) hs (sortS_sorted l) (h.trans (sortS_perm l).symm)
theorem sortS_of_perm {l m : List Str} (h : l.Perm m) : sortS l = sortS m := sortS_unique ((sortS_perm l).trans h) (sortS_sorted l)
end Go.Proofs.YteiickhgmmjcmaaGreatDoor.Sx
