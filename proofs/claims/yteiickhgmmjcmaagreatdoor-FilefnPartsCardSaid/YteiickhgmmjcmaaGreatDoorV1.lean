/-
  Go's library off the shelf: Split at slashes, Join by slashes, LastIndexByte.
-/

import Derived.Test.YteiickhgmmjcmaaGreatDoorF3

import Derived.Test.YteiickhgmmjcmaaGreatDoorSxY
import Derived.Test.YteiickhgmmjcmaaGreatDoorShelf
import Derived.Test.YteiickhgmmjcmaaGreatDoorProg
set_option linter.unusedVariables false
set_option linter.unusedSimpArgs false
set_option maxRecDepth 20000
namespace Go.Proofs.YteiickhgmmjcmaaGreatDoor.Sx
open Go Go.RowKit Go.Proofs




















/-! ### Pieces between slashes -/
def spS : Str → Str → List Str
  | acc, [] => [acc]
  | acc, c :: r => if c = 47 then acc :: spS [] r else spS (acc ++ [c]) r
theorem index_cons_ne (c : UInt8) (l : Str) (h : c ≠ 47) : Lib.index (c :: l) [47] = if Lib.index l [47] == -1 then -1 else Lib.index l [47] + 1 := by
  have hp : ([47] : List UInt8).isPrefixOf (c :: l) = false := by simp [List.isPrefixOf, Ne.symm h]
  rw [Lib.index, hp]; simp
theorem index_cons_eq (l : Str) : Lib.index ((47 : UInt8) :: l) [47] = 0 := by
  rw [Lib.index]; simp [List.isPrefixOf]
theorem index_none : ∀ (l : Str), l.count 47 = 0 ↔ Lib.index l [47] = -1
  | [] => by simp [Lib.index]
  | c :: l => by
    by_cases h : c = 47
    · subst h
      rw [index_cons_eq]
      simp
    · rw [index_cons_ne c l h, List.count_cons_of_ne (by simpa using h), index_none l]
      have := Lib.index_ge l [47]
      constructor
      · intro e; rw [if_pos (by simpa using e)]
      · intro e
        by_cases h2 : Lib.index l [47] = -1
        · exact h2
        · rw [if_neg (by simpa using h2)] at e
          omega
theorem splitK_spS : ∀ (s acc : Str), ∃ p r, Lib.splitK [47] 0 (s.count 47) s = p :: r ∧ spS acc s = (acc ++ p) :: r
  | [], acc => ⟨[], [], rfl, by simp [spS]⟩
  | c :: l, acc => by
    by_cases h : c = 47
    · subst h
      obtain ⟨p, r, h1, h2⟩ := splitK_spS l []
      refine ⟨[], p :: r, ?_, ?_⟩
      · rw [List.count_cons_self, Lib.splitK, index_cons_eq]
        simp [h1]
      · rw [spS, if_pos rfl, h2]; simp
    · obtain ⟨p, r, h1, h2⟩ := splitK_spS l (acc ++ [c])
      rw [spS, if_neg h, h2, List.count_cons_of_ne (by simpa using h)]
      cases hk : l.count 47 with
      | zero =>
        rw [hk] at h1
        simp only [Lib.splitK, List.cons.injEq] at h1 ⊢
        obtain ⟨rfl, rfl⟩ := h1
        exact ⟨c :: l, [], ⟨rfl, rfl⟩, by simp⟩
      | succ k =>
        have hi : Lib.index l [47] ≠ -1 := fun e => by have := (index_none l).2 e; omega
        have hge := Lib.index_ge l [47]
        rw [hk] at h1
        rw [Lib.splitK] at h1 ⊢
        rw [if_neg (by simpa using hi)] at h1
        have hi2 : Lib.index (c :: l) [47] = Lib.index l [47] + 1 := by rw [index_cons_ne c l h, if_neg (by simpa using hi)]
        rw [hi2, if_neg (by simp; omega)]
        obtain ⟨j, hj⟩ : ∃ j : Nat, Lib.index l [47] = j := ⟨(Lib.index l [47]).toNat, by omega⟩
        rw [hj] at h1 ⊢
        simp only [Int.toNat_natCast, Nat.add_zero, List.cons.injEq, List.length_singleton] at h1
        obtain ⟨rfl, rfl⟩ := h1
        have e : ((j : Int) + 1).toNat = j + 1 := by omega
        refine ⟨c :: l.take j, Lib.splitK [47] 0 k (l.drop (j + 1)), ?_, by simp⟩
        rw [e]
        simp
theorem splitK_one (s : Str) : Lib.splitK [47] 0 (s.count 47) s = spS [] s := by
  obtain ⟨p, r, h1, h2⟩ := splitK_spS s []
  rw [h1, h2]; rfl
theorem spS_length : ∀ (s acc : Str), (spS acc s).length = s.count 47 + 1
  | [], acc => rfl
  | c :: l, acc => by
    rw [spS]
    by_cases h : c = 47
    · subst h
      rw [if_pos rfl, List.length_cons, spS_length l [], List.count_cons_self]
    · rw [if_neg h, spS_length l _, List.count_cons_of_ne (by simpa using h)]
theorem spS_le (s : Str) : (spS [] s).length ≤ s.length + 1 := by
  rw [spS_length]
  have := List.count_le_length (a := (47 : UInt8)) (l := s)
  omega
theorem countB_slash (s : Str) : Lib.countB ⟨s.toArray⟩ ⟨#[47]⟩ = s.count 47 := by
  rw [← Lib.count_one]

theorem c_SplitS (s : Str) (hs : s.length < 4294967281) : CallV Tryz.prog 27 [vS s, vS [47]] (.fix .str (spS [] s)) := by
  refine ⟨Go.Proofs.enters_of Tryz.func27 (by kernel_rfl) rfl, fun cx σ ρ w vs hw hd => ?_⟩
  simp only [SV.denL, SV.den] at hd
  obtain ⟨v1, r1, rfl, h1, v2, r2, rfl, h2, rfl⟩ := hd
  simp only [Den, List.cons.injEq, and_true] at h1 h2
  subst h1 h2
  obtain ⟨m, hm⟩ := hw.glob
  have hcell := hw.sub _ _ hm
  refine (Tryz.strings_Split ⟨s.toArray⟩ ⟨#[47]⟩ m w (by rw [size_mk]; exact hs) hcell (by decide)).mono ?_
  rintro e w' ⟨rfl, rfl⟩
  have hl : (Lib.splitB ⟨#[47]⟩ 0 (Lib.countB ⟨s.toArray⟩ ⟨#[47]⟩) ⟨s.toArray⟩).map (·.data.toList) = spS [] s := by
    rw [Lib.splitB_data, countB_slash, mk_data]
    exact splitK_one s
  have hv : (Lib.splitB ⟨#[47]⟩ 0 (Lib.countB ⟨s.toArray⟩ ⟨#[47]⟩) ⟨s.toArray⟩).map Value.string = (spS [] s).map strV := by
    rw [← hl, List.map_map]
    rfl
  have hlen : (spS [] s).length = Lib.countB ⟨s.toArray⟩ ⟨#[47]⟩ + 1 := by rw [spS_length, countB_slash]
  have hsz : (w.alloc (.cells ((Lib.splitB ⟨#[47]⟩ 0 (Lib.countB ⟨s.toArray⟩ ⟨#[47]⟩) ⟨s.toArray⟩).map Value.string).toArray 9)) = w.alloc (.cells ((spS [] s).map strV).toArray 9) := by rw [hv]
  rw [hsz]
  refine ⟨_, sealM σ w.heap.size ((spS [] s).map strV), rfl, sealM_le hw.sub, hw.sealed _ _, ?_⟩
  simp only [SV.den]
  refine ⟨⟨_, _, _, rfl, hlen.symm, Nat.le_refl _, ?_, fun _ => ⟨_, rfl, fun i x hx => ⟨[strV x], rfl, fun p v hp => ?_⟩⟩⟩, _, _, rfl⟩
  · rw [← hlen]
    have := spS_le s
    unfold maxLen
    omega
  · cases p with
    | zero =>
      simp only [List.getElem?_cons_zero, Option.some.injEq] at hp
      subst hp
      simp only [Ty.cells, Nat.mul_one, Nat.add_zero, Addr.add]
      split
      · rename_i h0; subst h0
        rw [sealM_at, List.getElem?_map, hx]; rfl
      · simp only [Nat.zero_add, sealM_at, List.getElem?_map, hx, Option.map_some]
    | succ p => simp at hp


/-! ### Joined by slashes -/
def joinS : List Str → Str
  | [] => []
  | [a] => a
  | a :: b :: r => a ++ 47 :: joinS (b :: r)
theorem join_joinS (l : List Str) : Lib.join l [47] = joinS l := by
  induction l with
  | nil => rfl
  | cons a l ih =>
    cases l with
    | nil => simp [Lib.join, joinS, List.intercalate]
    | cons b l =>
      simp only [Lib.join, List.intercalate, List.intersperse, List.flatten_cons, joinS] at ih ⊢
      rw [← ih]
      simp

theorem c_JoinS (l : List Str) (hl : (joinS l).length ≤ 1099511627776) (hn : l.length ≤ 1099511627776) : CallV Tryz.prog 28 [vL .str l, vS [47]] (vS (joinS l)) := by
  refine ⟨Go.Proofs.enters_of Tryz.func28 (by kernel_rfl) rfl, fun cx σ ρ w vs hw hd => ?_⟩
  simp only [SV.denL, SV.den] at hd
  obtain ⟨v1, r1, rfl, ⟨A, n, c, hv, hnn, hc, hm, hcells⟩, v2, r2, rfl, h2, rfl⟩ := hd
  simp only [Den, List.cons.injEq, and_true] at hv h2
  subst hv h2
  have fin : ∀ (t : Str) (w' : World), t = joinS l → Below w.heap.size w w' → ∃ v τ, Ending.returned (strV t) = .returned v ∧ σ.le τ ∧ WR cx τ ρ [] w' ∧ SV.den τ ρ (vS (joinS l)) v := by
    rintro t w' rfl hB
    refine ⟨_, σ, rfl, Mem.le_refl _, hw.below (Mem.le_refl _) (fun a v ha => ?_) hB (fun a v ha => .inl ⟨v, ha⟩), by simp [SV.den, Den]⟩
    exact (hB.cell (sub_lt hw.sub ha)).trans (hw.sub a v ha)
  by_cases h0 : 0 < n
  · obtain ⟨ad, rfl, hcl⟩ := hcells h0
    have hcell : ∀ (j : Nat) x, l[j]? = some x → w.cell? (ad.add j) = some (strV x) := by
      intro j x hx
      obtain ⟨cx', h1, h2⟩ := hcl j x hx
      rw [Den] at h1
      have := h2 0 (strV x) (by rw [h1]; rfl)
      simp only [Ty.cells, Nat.mul_one, Nat.add_zero] at this
      exact hw.sub _ _ this
    have hl0 : 0 < l.length := by omega
    have hc0 := hcell 0 l[0] (List.getElem?_eq_getElem hl0)
    rw [Addr.add_zero'] at hc0
    have hsp := spot_none hc0
    have hbk := World.block_lt_of_cell? w ad hc0
    obtain ⟨bk, o, sp⟩ := ad
    simp only at hsp hbk
    subst hsp
    have := Tryz.strings_Join bk o c (l.map fun s => ⟨s.toArray⟩) ⟨([47] : Str).toArray⟩ w (fun j x hx => by
      rw [List.getElem?_map, Option.map_eq_some_iff] at hx
      obtain ⟨s, hs, rfl⟩ := hx
      have := hcell j s hs
      rwa [add_lit] at this) hbk (by simp; omega) (by simp; omega) (by
        simp only [List.map_map, mk_data]
        rw [show (List.map ((fun x => x.data.toList) ∘ fun s => (⟨s.toArray⟩ : ByteArray)) l) = l by simp [Function.comp_def]]
        rw [join_joinS]; omega)
    rw [List.length_map, ← hnn] at this
    refine this.mono ?_
    rintro e w' ⟨rfl, hB⟩
    refine fin _ w' ?_ hB
    simp only [List.map_map, mk_data]
    rw [show (List.map ((fun x => x.data.toList) ∘ fun s => (⟨s.toArray⟩ : ByteArray)) l) = l by simp [Function.comp_def], join_joinS]
  · have hl0 : l = [] := List.eq_nil_of_length_eq_zero (by omega)
    have hn0 : n = 0 := by omega
    subst hl0 hn0
    refine (Tryz.strings_Join_none A c ⟨([47] : Str).toArray⟩ w).mono ?_
    rintro e w' ⟨rfl, rfl⟩
    exact fin [] _ rfl (Below.refl _ _)


/-! ### The last slash -/
/-- Behind the last slash; 0: none. -/
def cutR : Str → Nat
  | [] => 0
  | c :: r => if c = 47 then r.length + 1 else cutR r
def cutS (s : Str) : Nat := cutR s.reverse
theorem cutS_snoc (s : Str) (c : UInt8) : cutS (s ++ [c]) = if c = 47 then s.length + 1 else cutS s := by
  simp only [cutS, List.reverse_append, List.reverse_cons, List.reverse_nil, List.nil_append, List.singleton_append, cutR, List.length_reverse]
theorem cutS_behind (u x : Str) (hx : (47 : UInt8) ∉ x) : cutS (u ++ 47 :: x) = u.length + 1 := by
  induction hn : x.length generalizing x with
  | zero =>
    obtain rfl := List.length_eq_zero_iff.1 hn
    rw [cutS_snoc, if_pos rfl]
  | succ n ih =>
    obtain ⟨y, c, rfl⟩ : ∃ y c, x = y ++ [c] := ⟨x.dropLast, x.getLast (by intro h; simp [h] at hn), (List.dropLast_concat_getLast _).symm⟩
    rw [show u ++ 47 :: (y ++ [c]) = (u ++ 47 :: y) ++ [c] by simp, cutS_snoc, if_neg (by simp at hx; exact fun h => hx.2 h.symm)]
    exact ih y (by simp at hx; exact hx.1) (by simp at hn; exact hn)
theorem cutS_none (x : Str) (hx : (47 : UInt8) ∉ x) : cutS x = 0 := by
  induction hn : x.length generalizing x with
  | zero =>
    obtain rfl := List.length_eq_zero_iff.1 hn
    rfl
  | succ n ih =>
    obtain ⟨y, c, rfl⟩ : ∃ y c, x = y ++ [c] := ⟨x.dropLast, x.getLast (by intro h; simp [h] at hn), (List.dropLast_concat_getLast _).symm⟩
    rw [cutS_snoc, if_neg (by simp at hx; exact fun h => hx.2 h.symm)]
    exact ih y (by simp at hx; exact hx.1) (by simp at hn; exact hn)
theorem cutS_le (s : Str) : cutS s ≤ s.length := by
  have : ∀ r : Str, cutR r ≤ r.length := by
    intro r
    induction r with
    | nil => exact Nat.le_refl _
    | cons c r ih => rw [cutR]; split <;> simp <;> omega
  have := this s.reverse
  simpa [cutS] using this
theorem lastIdx_cutS (s : Str) : ∀ k, k ≤ s.length → Lib.lastIdx ⟨s.toArray⟩ 47 k + 1 = (cutS (s.take k) : Int)
  | 0, _ => rfl
  | k + 1, h => by
    have hk : k < s.length := h
    have e : s.take (k + 1) = s.take k ++ [s[k]] := by rw [List.take_add_one, List.getElem?_eq_getElem hk]; rfl
    have hd : (⟨s.toArray⟩ : ByteArray).data[k]! = s[k] := by
      rw [getElem!_pos _ _ (by simpa using hk)]
      simp
    rw [e, cutS_snoc, Lib.lastIdx, hd]
    by_cases hc : s[k] = 47
    · rw [if_pos (by rw [hc]; rfl), if_pos hc, List.length_take]
      omega
    · rw [if_neg hc, if_neg (fun h => hc (UInt8.toNat_inj.1 (by have h2 : ((47 : UInt8).toNat : Int) = 47 := rfl; omega)))]
      exact lastIdx_cutS s k (by omega)
theorem last_cutS (s : Str) : Lib.lastIndexByte ⟨s.toArray⟩ 47 = (cutS s : Int) - 1 := by
  have h := lastIdx_cutS s s.length (Nat.le_refl _)
  rw [List.take_length] at h
  unfold Lib.lastIndexByte
  rw [size_mk]
  omega

theorem c_LastSlash (s : Str) (hs : s.length < 4611686018427387904) : CallV Tryz.prog 50 [vS s, vY 47] (vI ((cutS s : Int) - 1)) := by
  rw [← last_cutS]
  exact CallV.of_same (Go.Proofs.enters_of Tryz.func50 (by kernel_rfl) rfl) rfl rfl fun w => Tryz.strings_LastIndexByte ⟨s.toArray⟩ 47 (by rw [size_mk]; exact hs) w

end Go.Proofs.YteiickhgmmjcmaaGreatDoor.Sx
