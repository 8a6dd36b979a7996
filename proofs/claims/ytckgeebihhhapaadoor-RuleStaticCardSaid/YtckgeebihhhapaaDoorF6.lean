/-
  assign: what is read.
-/
import Derived.Test.YtckgeebihhhapaaDoorF5
set_option linter.unusedVariables false
set_option linter.unusedSimpArgs false
set_option maxRecDepth 20000
namespace Go.Proofs.YtckgeebihhhapaaDoor.Sx
open Go Go.RowKit Go.Proofs

/-- The first place outside whose byte is so. -/
def firstO (p : UInt8 → Bool) : Nat → List Bool → Str → Option Nat
  | i, b :: bs, c :: r => if b && p c then some i else firstO p (i + 1) bs r
  | _, _, _ => none
theorem firstO_cons (p : UInt8 → Bool) (i : Nat) (b : Bool) (bs : List Bool) (c : UInt8) (r : Str) : firstO p i (b :: bs) (c :: r) = if b && p c then some i else firstO p (i + 1) bs r := rfl
theorem scan_firstO (p q : UInt8 → Bool) (hp : p 36 = false) : ∀ (n : Nat) (s : Str), s.length ≤ n → ∀ (d i g : Nat), (scan p q d i g s).1 = firstO p i (outs d s) s
  | _, [], _, d, i, g => by rw [scan_nil, outs_nil]; rfl
  | 0, c :: r, h, d, i, g => by simp at h
  | n + 1, c :: r, h, d, i, g => by
    simp only [List.length_cons] at h
    rw [scan_cons, outs_cons]
    split
    · rename_i hc
      have hpc : p c = false := by rw [beq_iff_eq] at hc; rw [hc]; exact hp
      cases r with
      | nil => simp [firstO, hpc]
      | cons x r' =>
        simp only [List.length_cons] at h
        simp only [firstO_cons, Bool.false_and, Bool.false_eq_true, if_false]
        exact scan_firstO p q hp n r' (by omega) _ _ _
    · rw [firstO_cons]
      have ih := scan_firstO p q hp n r (by omega)
      by_cases hd : d = 0
      · subst hd
        simp only [Nat.lt_irrefl, decide_false, Bool.false_and, Bool.false_eq_true, if_false, if_true, decide_true, Bool.true_and]
        split
        · rfl
        · exact ih _ _ _
      · have h0 : 0 < d := by omega
        simp only [hd, h0, decide_true, decide_false, Bool.true_and, Bool.false_and, Bool.false_eq_true, if_false]
        split
        · exact ih _ _ _
        · split
          · exact ih _ _ _
          · exact ih _ _ _

/-- Where the sign begins, by what stands ahead of it. -/
def signAt (s : Str) (o : List Bool) (i : Nat) : Str × Nat × Nat :=
  if s.getD i 0 == 61 then
    if decide (0 < i) && o.getD (i - 1) false && (s.getD (i - 1) 0 == 43 || s.getD (i - 1) 0 == 63) then ([s.getD (i - 1) 0, 61], i - 1, i + 1) else ([61], i, i + 1)
  else if hasPre (s.drop i) [58, 61] then ([58, 61], i, i + 2)
  else if hasPre (s.drop i) [58, 58, 61] then ([58, 58, 61], i, i + 3)
  else ([], 0, 0)
def tup3 (x : Str × Nat × Nat) : SV := .tup [vS x.1, vI x.2.1, vI x.2.2]
theorem nth_bool (o : List Bool) (i : Nat) : nth (t := .bool) o (i : Int) = o.getD i false := rfl

theorem cut_two (s : Str) (i : Nat) (h0 : ¬ i = 0) (hi : i < s.length) : cut s (some ((i - 1 : Nat) : Int)) (some ((i + 1 : Nat) : Int)) = [s.getD (i - 1) 0, s.getD i 0] := by
  have h1 : i - 1 < s.length := by omega
  have h2 : i - 1 + 1 = i := by omega
  have h3 : i + 1 - (i - 1) = 2 := by omega
  simp only [cut, Int.toNat_natCast]
  rw [List.drop_take, h3, List.drop_eq_getElem_cons h1, h2, List.drop_eq_getElem_cons hi]
  show [s[i - 1], s[i]] = _
  simp [List.getD_eq_getElem?_getD, h1, hi]





































































def readR (s : Str) : Str × Str × Str × Bool :=
  match firstO (fun c => c == 61 || c == 58) 0 (outs 0 s) s with
  | none => ([], [], [], false)
  | some i => if (signAt s (outs 0 s) i).1 == [] then ([], [], [], false)
    else (trim (s.take (signAt s (outs 0 s) i).2.1), (signAt s (outs 0 s) i).1, left (s.drop (signAt s (outs 0 s) i).2.2), true)
def tup4 (x : Str × Str × Str × Bool) : SV := .tup [vS x.1, vS x.2.1, vS x.2.2.1, vB x.2.2.2]
theorem signAt_le (s : Str) (o : List Bool) (i : Nat) (hi : i < s.length) : (signAt s o i).2.1 ≤ s.length ∧ (signAt s o i).2.2 ≤ s.length := by
  unfold signAt
  split
  · split <;> exact ⟨by dsimp only; omega, by dsimp only; omega⟩
  · split
    · rename_i h
      have := (List.isPrefixOf_iff_prefix.1 h).length_le
      simp only [List.length_drop, List.length_cons, List.length_nil] at this
      exact ⟨by dsimp only; omega, by dsimp only; omega⟩
    · split
      · rename_i h
        have := (List.isPrefixOf_iff_prefix.1 h).length_le
        simp only [List.length_drop, List.length_cons, List.length_nil] at this
        exact ⟨by dsimp only; omega, by dsimp only; omega⟩
      · exact ⟨Nat.zero_le _, Nat.zero_le _⟩
theorem firstO_drop (p : UInt8 → Bool) (s : Str) (i : Nat) (hi : i < s.length) (ho : (outs 0 s).length = s.length) :
    firstO p i ((outs 0 s).drop i) (s.drop i) = if (outs 0 s).getD i false && p s[i] then some i else firstO p (i + 1) ((outs 0 s).drop (i + 1)) (s.drop (i + 1)) := by
  rw [List.drop_eq_getElem_cons hi, List.drop_eq_getElem_cons (show i < (outs 0 s).length by omega), firstO_cons]
  simp [List.getD_eq_getElem?_getD, show i < (outs 0 s).length by omega]


theorem c_ref_place (s : Str) (c : UInt8) (hs : s.length ≤ 1099511627776) : CallV Tryd.prog 69 [vS s, vY ((c.toNat : Nat) : Int)] (vI (idxOf (firstO (· == c) 0 (outs 0 s) s))) := by
  have ho := outs_length _ s (Nat.le_refl _) 0
  refine CallV.of Tryd.func69 (by kernel_rfl) rfl Tryd.ntmps69 (by simp) rfl fun cx hB => ?_
  refine Tr.seq ?_; refine Tr.region ?_; refine TrL.quiets 1 rfl True.intro ?_; refine TrL.nil ?_; refine Tr.seq ?_; refine Tr.region ?_; refine TrL.quiets 1 rfl True.intro ?_; refine TrL.callV rfl rfl rfl rfl rfl (by apply (c_ref_Outside) <;> first | assumption | omega | (simp only [cut, List.length_take, List.length_drop, Int.toNat_natCast]; omega)) ?_; refine TrL.quiets 1 rfl True.intro ?_; refine TrL.nil ?_; refine Tr.seq ?_; refine Tr.seq ?_; refine Tr.region ?_; refine TrL.quiets 1 rfl True.intro ?_; refine TrL.nil ?_; refine Tr.block ?_
  refine Tr.loop (fun i : Nat => ⟨[(0, [], vS s), (1, [], vY ((c.toNat : Nat) : Int)), (5, [], vL .bool (outs 0 s)), (6, [], vI i)], []⟩)
    (fun i => i ≤ s.length ∧ firstO (· == c) i ((outs 0 s).drop i) (s.drop i) = firstO (· == c) 0 (outs 0 s) s) (fun i => s.length - i) 0 [0, 1, 5, 6] 0 hB rfl ⟨Nat.zero_le _, by simp⟩ fun i hx => ?_
  obtain ⟨hi, heq⟩ := hx
  refine Tr.seq ?_; refine Tr.seq ?_; refine Tr.region ?_; refine TrL.quiets 4 rfl True.intro ?_; refine TrL.nil ?_
  refine Tr.cond rfl (fun h1 => ?_) (fun h1 => ?_)
  · simp only [decide_eq_true_eq] at h1
    have hlt : i < s.length := by omega
    have hb := byteAt_get s i hlt
    have hbq := byte_beq s[i] c
    rw [firstO_drop _ s i hlt ho] at heq
    refine Tr.skip ?_; refine Tr.seq ?_; refine Tr.block ?_; refine Tr.seq ?_; refine Tr.region ?_; refine TrL.quiets 11 rfl (by simp only [allOf, impO, imp, inR, loOk, and_true]; omega) ?_; refine TrL.nil ?_
    refine Tr.cond rfl (fun h2 => ?_) (fun h2 => ?_)
    · rw [hb, nth_bool, hbq] at h2
      rw [if_pos h2] at heq
      refine Tr.seq ?_; refine Tr.region ?_; refine TrL.quiets 2 rfl True.intro ?_; refine TrL.nil ?_; refine Tr.ret ?_
      refine retQ.of rfl ?_
      rw [← heq]
      rfl
    · rw [hb, nth_bool, hbq] at h2
      rw [if_neg (by rw [h2]; decide)] at heq
      refine Tr.skip ?_; refine Tr.region ?_; refine TrL.quiets 3 rfl True.intro ?_; refine TrL.nil ?_
      refine ⟨i + 1, ⟨by omega, heq⟩, by dsimp only; omega, ?_⟩
      refine Eq.trans (b := (⟨[(_, [], _), (_, [], _), (_, [], _), (_, [], _)], []⟩ : St)) rfl ?_
      rw [w64n (y := i + 1) (by omega) (by omega)]
  · simp only [decide_eq_false_iff_not] at h1
    rw [List.drop_eq_nil_of_le (show s.length ≤ i by omega)] at heq
    refine Tr.exit ?_; refine Tr.seq ?_; refine Tr.region ?_; refine TrL.quiets 1 rfl True.intro ?_; refine TrL.nil ?_; refine Tr.ret ?_
    refine retQ.of rfl ?_
    rw [← heq]
    cases (outs 0 s).drop i <;> rfl



theorem c_ref_Colon (s : Str) (hs : s.length ≤ 1099511627776) : CallV Tryd.prog 44 [vS s] (vI (place 58 s)) := by
  refine CallV.of Tryd.func44 (by kernel_rfl) rfl Tryd.ntmps44 (by simp) rfl fun cx hB => ?_
  refine Tr.seq ?_; refine Tr.region ?_; refine TrL.quiets 1 rfl True.intro ?_; refine TrL.nil ?_; refine Tr.seq ?_; refine Tr.region ?_; refine TrL.quiets 1 rfl True.intro ?_
  first | refine TrL.callV rfl rfl rfl rfl rfl (c_ref_place s 58 hs) ?_ | refine TrD.callV rfl rfl rfl rfl rfl (c_ref_place s 58 hs) rfl ?_
  refine TrL.quiets 1 rfl True.intro ?_; refine TrL.nil ?_; refine Tr.ret ?_
  refine retQ.of rfl ?_
  rw [place, scan_firstO _ _ (by decide) _ s (Nat.le_refl _)]



































































end Go.Proofs.YtckgeebihhhapaaDoor.Sx
