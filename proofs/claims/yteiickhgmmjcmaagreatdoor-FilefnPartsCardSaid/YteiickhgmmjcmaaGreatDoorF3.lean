/-
  Contracts of Go's library, taken off the shelf.
-/
import Derived.Test.YteiickhgmmjcmaaGreatDoorF2
import Derived.Test.YteiickhgmmjcmaaGreatDoorSxO
import Derived.Test.YteiickhgmmjcmaaGreatDoorShelf
import Derived.Shelf.Strings.SlTrimAscii
import Derived.Shelf.Strings.OnBuilder
import Derived.Shelf.Strings.Prefix
import Derived.Shelf.Small.Wraps
set_option linter.unusedVariables false
set_option linter.unusedSimpArgs false
set_option maxRecDepth 20000
namespace Go.Proofs.YteiickhgmmjcmaaGreatDoor.Sx
open Go Go.RowKit Go.Proofs

/-- A contract that hands back one value, whatever the world, and lays new blocks alone. -/
theorem CallV.of_below {P : Program} {f : Nat} {args : List SV} {r : SV} {avs : List Value} {rv : Value} (hent : Go.Proofs.Enters P f) (ha : rigids args = some avs) (hr : rigidT r = some rv)
    (h : ∀ w, Calls P f avs.toArray w fun e w' => e = .returned rv ∧ Below w.heap.size w w') : CallV P f args r := by
  refine ⟨hent, fun cx σ ρ w vs hw hd => ?_⟩
  obtain rfl := (rigids_den _ _ _ ha).1 hd
  refine (h w).mono ?_
  rintro e w' ⟨rfl, hB⟩
  refine ⟨rv, σ, rfl, Mem.le_refl _, hw.below (Mem.le_refl _) (fun a v ha => ?_) hB (fun a v ha => .inl ⟨v, ha⟩), (rigidT_den hr).2 rfl⟩
  exact (hB.cell (sub_lt hw.sub ha)).trans (hw.sub a v ha)
theorem CallV.of_same {P : Program} {f : Nat} {args : List SV} {r : SV} {avs : List Value} {rv : Value} (hent : Go.Proofs.Enters P f) (ha : rigids args = some avs) (hr : rigidT r = some rv)
    (h : ∀ w, Calls P f avs.toArray w fun e w' => e = .returned rv ∧ w' = w) : CallV P f args r :=
  CallV.of_below hent ha hr fun w => (h w).mono fun e w' ⟨h1, h2⟩ => ⟨h1, h2 ▸ Below.refl _ _⟩
theorem mk_data (s : Str) : (⟨s.toArray⟩ : ByteArray).data.toList = s := rfl


theorem c_HasPrefix (s p : Str) : CallV Tryz.prog 55 [vS s, vS p] (vB (hasPre s p)) :=
  CallV.of_same (Go.Proofs.enters_of Tryz.func55 (by kernel_rfl) rfl) rfl rfl fun w => Tryz.strings_HasPrefix ⟨s.toArray⟩ ⟨p.toArray⟩ w

def trimPre (s p : Str) : Str := if hasPre s p then s.drop p.length else s

theorem c_TrimPrefix (s p : Str) : CallV Tryz.prog 62 [vS s, vS p] (vS (trimPre s p)) :=
  CallV.of_same (Go.Proofs.enters_of Tryz.func62 (by kernel_rfl) rfl) rfl rfl fun w => Tryz.strings_TrimPrefix ⟨s.toArray⟩ ⟨p.toArray⟩ w






theorem c_IndexByte (s : Str) (c : Int) : CallV Tryz.prog 126 [vS s, vY c] (vI (Lib.indexByte s c.toNat.toUInt8)) :=
  CallV.of_same (Go.Proofs.enters_of Tryz.func126 (by kernel_rfl) rfl) rfl rfl fun w => Tryz.strings_IndexByte ⟨s.toArray⟩ c w


abbrev blanks : Str := [32, 9, 10]
theorem blanks_contains (c : UInt8) : blanks.contains c = isBlank c := by
  rw [Bool.eq_iff_iff]
  simp [blanks, isBlank, or_assoc]
theorem blanks_fun : (fun c => blanks.contains c) = isBlank := funext blanks_contains
theorem ascii_blanks : ∀ (j : Nat) b, blanks[j]? = some b → b.toNat < 128 := ascii_of_all (by decide)

theorem c_TrimLeft (s : Str) : CallV Tryz.prog 95 [vS s, vS blanks] (vS (left s)) :=
  CallV.of_below (Go.Proofs.enters_of Tryz.func95 (by kernel_rfl) rfl) rfl rfl fun w => by
    have := Any.strings_TrimLeft_laid Tryz.lays161 (by kernel_rfl) ⟨s.toArray⟩ ⟨blanks.toArray⟩ w (by decide) ascii_blanks
    rw [mk_data, mk_data, show Lib.trimLeftS s blanks = left s by simp only [Lib.trimLeftS, blanks_fun]; rfl] at this
    exact this








theorem dropWhile_nil {p : UInt8 → Bool} : ∀ (l : Str), l.dropWhile p = [] → ∀ x ∈ l, p x = true
  | [], _, x, hx => by cases hx
  | c :: l, h, x, hx => by
    by_cases hc : p c = true
    · simp only [List.dropWhile_cons, hc, if_true] at h
      rcases List.mem_cons.1 hx with rfl | hx
      · exact hc
      · exact dropWhile_nil l h x hx
    · simp [List.dropWhile_cons, hc] at h
theorem trim_comm (s : Str) : left (right s) = right (left s) := by
  by_cases h : s.all isBlank = true
  · have h1 : ∀ l : Str, l.all isBlank = true → l.dropWhile isBlank = [] := fun l => by
      induction l with
      | nil => intro _; rfl
      | cons c l ih => intro h; simp only [List.all_cons, Bool.and_eq_true] at h; simp [List.dropWhile_cons, h.1, ih h.2]
    have h2 : right s = [] := by simp [right, h1 s.reverse (by simpa using h)]
    rw [h2, show left s = [] from h1 s h]
    rfl
  · -- some byte is no blank: both ends are cut apart
    have key : ∀ (s : Str), s.all isBlank ≠ true → right (left s) = left (right s) := by
      intro s
      induction s with
      | nil => intro h; exact absurd rfl h
      | cons c s ih =>
        intro h
        by_cases hc : isBlank c = true
        · have hs : s.all isBlank ≠ true := fun e => h (by simp [hc, e])
          have hr : right (c :: s) = c :: right s := by
            have : s.reverse.dropWhile isBlank ≠ [] := fun e => hs (by
              rw [List.all_eq_true]
              intro x hx
              exact dropWhile_nil _ e x (by simpa using hx))
            simp only [right, List.reverse_cons, List.dropWhile_append]
            rw [if_neg (by simpa using this)]
            simp
          rw [hr]
          have e1 : left (c :: s) = left s := by simp [left, List.dropWhile_cons, hc]
          have e2 : left (c :: right s) = left (right s) := by simp [left, List.dropWhile_cons, hc]
          rw [e1, e2]
          exact ih hs
        · have e1 : left (c :: s) = c :: s := by simp [left, List.dropWhile_cons, hc]
          have hr : ∃ t, right (c :: s) = c :: t := by
            simp only [right, List.reverse_cons, List.dropWhile_append]
            split
            · exact ⟨[], by simp [List.dropWhile_cons, hc]⟩
            · exact ⟨(s.reverse.dropWhile isBlank).reverse, by simp⟩
          obtain ⟨t, ht⟩ := hr
          rw [e1, ht]
          simp [left, List.dropWhile_cons, hc]
    exact (key s h).symm









theorem c_words_Left (s : Str) : CallV Tryz.prog 69 [vS s] (vS (left s)) := by
  refine CallV.of Tryz.func69 (by kernel_rfl) rfl Tryz.ntmps69 (by simp) rfl fun cx hB => ?_
  refine Tr.seq (Tr.region (TrL.quiets 1 rfl True.intro (TrL.nil (Tr.seq (Tr.region (TrL.quiets 1 rfl True.intro (TrL.callV rfl rfl rfl rfl rfl (c_TrimLeft ..) (TrL.quiets 1 rfl True.intro (TrL.nil (Tr.ret (retQ.of rfl ?_)))))))))))
  rfl








theorem join_joinW (l : List Str) : Lib.join l [32] = joinW l := by
  induction l with
  | nil => rfl
  | cons a l ih =>
    cases l with
    | nil => simp [Lib.join, joinW, List.intercalate]
    | cons b l =>
      simp only [Lib.join, List.intercalate, List.intersperse, List.flatten_cons, joinW] at ih ⊢
      rw [← ih]
      simp

theorem c_lib_Join (l : List Str) (hl : (joinW l).length ≤ 1099511627776) (hn : l.length ≤ 1099511627776) : CallV Tryz.prog 28 [vL .str l, vS [32]] (vS (joinW l)) := by
  refine ⟨Go.Proofs.enters_of Tryz.func28 (by kernel_rfl) rfl, fun cx σ ρ w vs hw hd => ?_⟩
  simp only [SV.denL, SV.den] at hd
  obtain ⟨v1, r1, rfl, ⟨A, n, c, hv, hnn, hc, hm, hcells⟩, v2, r2, rfl, h2, rfl⟩ := hd
  simp only [Den, List.cons.injEq, and_true] at hv h2
  subst hv h2
  have fin : ∀ (t : Str) (w' : World), t = joinW l → Below w.heap.size w w' → ∃ v τ, Ending.returned (strV t) = .returned v ∧ σ.le τ ∧ WR cx τ ρ [] w' ∧ SV.den τ ρ (vS (joinW l)) v := by
    rintro t w' rfl hB
    refine ⟨_, σ, rfl, Mem.le_refl _, hw.below (Mem.le_refl _) (fun a v ha => ?_) hB (fun a v ha => .inl ⟨v, ha⟩), by simp [SV.den, Den]⟩
    exact (hB.cell (sub_lt hw.sub ha)).trans (hw.sub a v ha)
  by_cases h0 : 0 < n
  · obtain ⟨ad, rfl, hcl⟩ := hcells h0
    have hcell : ∀ (j : Nat) x, l[j]? = some x → w.cell? (ad.add j) = some (strV x) := by
      intro j x hx
      obtain ⟨cx', h1, h2⟩ := hcl j x hx
      rw [Den] at h1
      have := h2 0 (strV x) (by rw [h1]; rfl)
      simp only [Ty.cells, Nat.mul_one, Nat.add_zero] at this
      exact hw.sub _ _ this
    have hl0 : 0 < l.length := by omega
    have hc0 := hcell 0 l[0] (List.getElem?_eq_getElem hl0)
    rw [Addr.add_zero'] at hc0
    have hsp := spot_none hc0
    have hbk := World.block_lt_of_cell? w ad hc0
    obtain ⟨bk, o, sp⟩ := ad
    simp only at hsp hbk
    subst hsp
    have := Tryz.strings_Join bk o c (l.map fun s => ⟨s.toArray⟩) ⟨([32] : Str).toArray⟩ w (fun j x hx => by
      rw [List.getElem?_map, Option.map_eq_some_iff] at hx
      obtain ⟨s, hs, rfl⟩ := hx
      have := hcell j s hs
      rwa [add_lit] at this) hbk (by simp; omega) (by simp; omega) (by
        simp only [List.map_map, mk_data]
        rw [show (List.map ((fun x => x.data.toList) ∘ fun s => (⟨s.toArray⟩ : ByteArray)) l) = l by simp [Function.comp_def]]
        rw [join_joinW]; omega)
    rw [List.length_map, ← hnn] at this
    refine this.mono ?_
    rintro e w' ⟨rfl, hB⟩
    refine fin _ w' ?_ hB
    simp only [List.map_map, mk_data]
    rw [show (List.map ((fun x => x.data.toList) ∘ fun s => (⟨s.toArray⟩ : ByteArray)) l) = l by simp [Function.comp_def], join_joinW]
  · have hl0 : l = [] := List.eq_nil_of_length_eq_zero (by omega)
    have hn0 : n = 0 := by omega
    subst hl0 hn0
    refine (Tryz.strings_Join_none A c ⟨([32] : Str).toArray⟩ w).mono ?_
    rintro e w' ⟨rfl, rfl⟩
    exact fin [] _ rfl (Below.refl _ _)


theorem c_words_Join (l : List Str) (hl : (joinW l).length ≤ 1099511627776) (hn : l.length ≤ 1099511627776) : CallV Tryz.prog 22 [vL .str l] (vS (joinW l)) := by
  refine CallV.of Tryz.func22 (by kernel_rfl) rfl Tryz.ntmps22 (by simp) rfl fun cx hB => ?_
  refine Tr.seq (Tr.region (TrL.quiets 1 rfl True.intro (TrL.nil (Tr.seq (Tr.region (TrL.quiets 1 rfl True.intro (TrL.callV rfl rfl rfl rfl rfl (c_lib_Join _ hl hn) (TrL.quiets 1 rfl True.intro (TrL.nil (Tr.ret (retQ.of rfl ?_)))))))))))
  rfl

end Go.Proofs.YteiickhgmmjcmaaGreatDoor.Sx
