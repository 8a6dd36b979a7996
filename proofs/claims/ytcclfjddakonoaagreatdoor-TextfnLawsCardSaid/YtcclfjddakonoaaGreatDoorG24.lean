/-
  pattern.Of.
-/
import Derived.Test.YtcclfjddakonoaaGreatDoorF33
import Derived.Test.YtcclfjddakonoaaGreatDoorSxW
set_option linter.unusedVariables false
set_option linter.unusedSimpArgs false
set_option maxRecDepth 20000
set_option maxHeartbeats 4000000
namespace Go.Proofs.YtcclfjddakonoaaGreatDoor.Sx
open Go Go.RowKit Go.Proofs

/-! ### Plain -/
theorem indexByte_tw (c : UInt8) : ∀ l : Str, Lib.indexByte l c = if (l.takeWhile (fun x => x != c)).length < l.length then ((l.takeWhile (fun x => x != c)).length : Int) else -1
  | [] => rfl
  | b :: l => by
    have ih := indexByte_tw c l
    rw [Lib.indexByte]
    by_cases hb : b = c
    · subst hb; simp
    · have h1 : (b == c) = false := by simpa using hb
      have h2 : (b != c) = true := by simpa using hb
      simp only [h1, Bool.false_eq_true, if_false, List.takeWhile_cons, h2, if_true, List.length_cons]
      rw [ih]
      by_cases h : (l.takeWhile (fun x => x != c)).length < l.length
      · rw [if_pos h, if_neg (by simp), if_pos (by omega)]
        rfl
      · rw [if_neg h, if_pos (by rfl), if_neg (by omega)]
def bsl (s : Str) : Nat := (s.reverse.takeWhile (fun c => c == 92)).length
theorem bsl_snoc (x : Str) (c : UInt8) : bsl (x ++ [c]) = if c = 92 then bsl x + 1 else 0 := by
  simp only [bsl, List.reverse_append, List.reverse_cons, List.reverse_nil, List.nil_append, List.singleton_append, List.takeWhile_cons]
  by_cases hc : c = 92
  · simp [hc]
  · simp [hc]
theorem bsl_le (s : Str) : bsl s ≤ s.length := by
  have := (List.takeWhile_sublist (l := s.reverse) (fun c => c == 92)).length_le
  simpa [bsl] using this
theorem bsl_take (s : Str) (k : Nat) (h : k < s.length) : bsl (s.take (k + 1)) = if s[k] = 92 then bsl (s.take k) + 1 else 0 := by
  rw [List.take_succ_eq_append_getElem h, bsl_snoc]
theorem byte_eq (s : Str) (k : Nat) (h : k < s.length) (c : UInt8) : (byteAt s (k : Int) == (c.toNat : Int)) = decide (s[k] = c) := by
  rw [byteAt_get s k h, byte_beq]
  exact Bool.beq_eq_decide_eq _ _

/-! ### The walk -/
theorem bsl_nil : bsl [] = 0 := rfl
theorem takeWhile_mem {p : UInt8 → Bool} : ∀ (l : Str) (c : UInt8), c ∈ l.takeWhile p → p c = true
  | [], c, h => by simp at h
  | d :: l, c, h => by
    simp only [List.takeWhile_cons] at h
    split at h
    · rename_i hd
      rcases List.mem_cons.1 h with rfl | h
      · exact hd
      · exact takeWhile_mem l c h
    · simp at h

/-- Has it a place for a stem; what stands ahead of it, and behind. -/
abbrev PatD := Bool × Str × Str
def ofR : Str → Nat → Str → PatD
  | t, _, [] => (false, t, [])
  | t, b, c :: r => if c = 92 then ofR (t ++ [c]) (b + 1) r else if c = 37 then (if b % 2 = 0 then (true, t.take (t.length - b + b / 2), r) else ofR (t.take (t.length - b + b / 2) ++ [c]) 0 r) else ofR (t ++ [c]) 0 r
def patF (s : Str) : PatD := ofR [] 0 s
theorem ofR_scan (rest : Str) : ∀ (x t pre : Str), (∀ c ∈ x, c ≠ 37) → ofR t (bsl pre) (x ++ rest) = ofR (t ++ x) (bsl (pre ++ x)) rest
  | [], t, pre, _ => by simp
  | c :: x, t, pre, h => by
    have hc : c ≠ 37 := h c (by simp)
    have ih := ofR_scan rest x (t ++ [c]) (pre ++ [c]) (fun d hd => h d (by simp [hd]))
    simp only [List.cons_append, ofR]
    rw [bsl_snoc] at ih
    by_cases h92 : c = 92
    · rw [if_pos h92]
      rw [if_pos h92] at ih
      rw [ih]
      simp
    · rw [if_neg h92, if_neg hc]
      rw [if_neg h92] at ih
      rw [ih]
      simp
theorem ofR_none (t x : Str) (h : ∀ c ∈ x, c ≠ 37) : ofR t 0 x = (false, t ++ x, []) := by
  have := ofR_scan [] x t [] h
  rw [bsl_nil, List.append_nil] at this
  rw [this]
  rfl
theorem ofR_hit (t x r : Str) (h : ∀ c ∈ x, c ≠ 37) : ofR t 0 (x ++ 37 :: r) = if bsl x % 2 = 0 then (true, t ++ x.take (x.length - bsl x + bsl x / 2), r) else ofR (t ++ x.take (x.length - bsl x + bsl x / 2) ++ [37]) 0 r := by
  have h1 := ofR_scan (37 :: r) x t [] h
  rw [bsl_nil, List.nil_append] at h1
  have hb := bsl_le x
  have h2 : (t ++ x).take ((t ++ x).length - bsl x + bsl x / 2) = t ++ x.take (x.length - bsl x + bsl x / 2) := by
    rw [List.take_append, List.take_of_length_le (by simp; omega)]
    congr 2
    simp
    omega
  rw [h1]
  simp only [ofR]
  rw [if_neg (by decide), h2]
  simp only [if_true]

/-! ### The walk -/
abbrev patSV (p : PatD) : SV := .agg [vB p.1, vS p.2.1, vS p.2.2]
abbrev patBox (p : PatD) : Ent := .box 75 [vB p.1, vS p.2.1, vS p.2.2]
abbrev ofT (u : Str) : List Ent := [patBox (false, [], []), .box 87 [.mptr 1, .own 2], .gs 5 (.int .u8) (strBytes u)]
theorem c_patOf (s : Str) (hs : s.length ≤ 1099511627775) : CallV Tryz.prog 60 [vS s] (patSV (patF s)) := by
  refine CallV.of Tryz.func60 (by kernel_rfl) rfl Tryz.ntmps60 (by simp) rfl fun cx hB => ?_
  have hB3 : ∀ i, cx.B i = true → i < 3 := fun i h => by have := hB i h; omega
  refine Tr.seq ?_; refine Tr.region ?_; refine TrL.eff (effBox_sound rfl) (by exact True.intro) ?_; refine TrL.nil ?_; refine Tr.seq ?_; refine Tr.region ?_; refine TrL.eff (effBox_sound rfl) (by exact True.intro) ?_; refine TrL.nil ?_
  change Tr _ _ _ _ _ _
  refine Tr.nilBox 1 1 5 (.int .u8) rfl rfl ?_
  refine Tr.mptr 1 0 rfl rfl ?_
  refine Tr.block ?_
  refine Tr.loop (fun (x : Str × Str) => ⟨[(0, [], vS x.2), (2, [], .ptr 0 0), (3, [], .ptr 1 0)], ofT x.1⟩)
    (fun x => x.1.length + x.2.length ≤ s.length ∧ patF s = ofR x.1 0 x.2) (fun x => x.2.length) ([], s) [0, 2, 3] 3 hB3 rfl ⟨by simp, rfl⟩ fun x hx => ?_
  obtain ⟨u, r⟩ := x
  obtain ⟨hx1, hx2⟩ := hx
  simp only at hx1 hx2
  refine Tr.block ?_; refine Tr.seq ?_; refine Tr.region ?_; refine TrL.quiets 1 rfl (by exact True.intro) ?_
  first | refine TrL.callV rfl rfl rfl rfl rfl (c_IndexByte ..) ?_ | refine TrD.callV rfl rfl rfl rfl rfl (c_IndexByte ..) rfl ?_
  have hix := indexByte_tw 37 r
  refine TrL.quiets 1 rfl (by exact True.intro) ?_; refine TrL.nil ?_; refine Tr.seq ?_; refine Tr.seq ?_; refine Tr.region ?_; refine TrL.quiets 2 rfl (by exact True.intro) ?_; refine TrL.nil ?_
  refine Tr.cond rfl (fun h1 => ?_) (fun h1 => ?_)
  · refine Tr.seq ?_; refine Tr.region ?_
    refine TrL.callT [1, 2] rfl rfl rfl rfl rfl (c_BString u) rfl rfl rfl ?_
    refine TrL.quiets 3 rfl (by (simp only [allOf, impO, imp, inR, loOk, and_true]; omega)) ?_; refine TrL.eff (effStore_sound rfl) (by exact True.intro) ?_; refine TrL.nil ?_; refine Tr.ret ?_
    refine retQ.of rfl ?_
    have e : patF s = (false, u ++ r, []) := by
      rw [hx2]
      refine ofR_none u r fun c hc e => ?_
      have hlt : Lib.indexByte r 37 < 0 := of_decide_eq_true h1
      have := Lib.contains_iff_indexByte r 37
      rw [List.contains_iff_mem.2 (e ▸ hc)] at this
      have := of_decide_eq_true this.symm
      omega
    rw [e]
    rfl
  obtain ⟨x, hxe⟩ : ∃ x, r.takeWhile (fun c => c != 37) = x := ⟨_, rfl⟩
  rw [hxe] at hix
  have hlt : x.length < r.length := by
    have h3 : ¬ Lib.indexByte r 37 < 0 := of_decide_eq_false h1
    by_cases h : x.length < r.length
    · exact h
    · rw [hix, if_neg h] at h3; omega
  rw [if_pos hlt] at hix
  have hno : ∀ c ∈ x, c ≠ 37 := by
    intro c hc
    rw [← hxe] at hc
    have := takeWhile_mem r c hc
    simpa using this
  have hr : r = x ++ 37 :: r.drop (x.length + 1) := by
    have h1 := List.takeWhile_append_dropWhile (p := fun c : UInt8 => c != 37) (l := r)
    rw [hxe] at h1
    cases hd : r.dropWhile (fun c : UInt8 => c != 37) with
    | nil => rw [hd, List.append_nil] at h1; rw [← h1] at hlt; omega
    | cons c t =>
      have hc : c = 37 := by
        have := List.head?_dropWhile_not (fun c : UInt8 => c != 37) r
        rw [hd] at this
        simpa using this
      rw [hd, hc] at h1
      have h2 : r.drop (x.length + 1) = t := by
        conv => lhs; rw [← h1]
        simp
      rw [h2]; exact h1.symm
  have htake : r.take x.length = x := by
    conv => lhs; rw [hr]
    simp
  have hq := bsl_le x
  obtain ⟨q, hqe⟩ : ∃ q, bsl x = q := ⟨_, rfl⟩
  have hit := ofR_hit u x (r.drop (x.length + 1)) hno
  rw [← hr, ← hx2, hqe] at hit
  rw [hqe] at hq
  refine Tr.is 4 (sv' := vI (x.length : Int)) rfl (congrArg vI hix) ?_
  refine Tr.skip ?_; refine Tr.seq ?_; refine Tr.region ?_; refine TrL.quiets 2 rfl (by exact True.intro) ?_; refine TrL.nil ?_; refine Tr.seq ?_; refine Tr.block ?_
  refine Tr.loop (fun (k : Nat) => ⟨[(0, [], vS r), (2, [], .ptr 0 0), (3, [], .ptr 1 0), (4, [], vI (x.length : Int)), (5, [], vI k)], ofT u⟩)
    (fun k => k ≤ x.length ∧ bsl (r.take x.length) = (x.length - k) + bsl (r.take k)) (fun k => k) x.length [0, 2, 3, 4, 5] 3 hB3 rfl ⟨Nat.le_refl _, by simp⟩ fun k hk => ?_
  obtain ⟨hk1, hk2⟩ := hk
  refine Tr.seq ?_; refine Tr.seq ?_; refine Tr.region ?_; refine TrL.quiets 9 rfl (by (simp (disch := omega) only [allOf, impO, imp, inR, loOk, and_true, w64, List.length_set, List.length_cons, List.length_nil, Option.getD_none, Option.getD_some, Ty.D, true_and, decide_eq_true_eq, decide_eq_false_iff_not, Bool.and_eq_true, Bool.or_eq_false_iff]; omega)) ?_; refine TrL.nil ?_
  refine Tr.cond rfl (fun h2 => ?_) (fun h2 => ?_)
  · simp only [Bool.and_eq_true, decide_eq_true_eq] at h2
    obtain ⟨h2, h3⟩ := h2
    obtain ⟨j, rfl⟩ : ∃ j, k = j + 1 := ⟨k - 1, by omega⟩
    have hw : IntKind.i64.wrap (((j + 1 : Nat) : Int) - 1) = (j : Int) := by rw [w64 (by omega) (by omega)]; omega
    rw [hw, show (92 : Int) = ((92 : UInt8).toNat : Int) from rfl, byte_eq r j (by omega)] at h3
    have hb := bsl_take r j (by omega)
    rw [if_pos (of_decide_eq_true h3)] at hb
    refine Tr.skip ?_; refine Tr.block ?_; refine Tr.region ?_; refine TrL.quiets 3 rfl (by exact True.intro) ?_; refine TrL.nil ?_
    refine ⟨j, ⟨by omega, by omega⟩, by dsimp only; omega, ?_⟩
    refine Eq.trans (b := (⟨[(0, [], vS r), (2, [], .ptr 0 0), (3, [], .ptr 1 0), (4, [], vI (x.length : Int)), (5, [], vI (IntKind.i64.wrap (((j + 1 : Nat) : Int) - 1)))], ofT u⟩ : St)) rfl ?_
    rw [hw]
  have h3 : bsl (r.take k) = 0 := by
    rcases Nat.eq_zero_or_pos k with h0 | h0
    · subst h0; rfl
    · obtain ⟨j, rfl⟩ : ∃ j, k = j + 1 := ⟨k - 1, by omega⟩
      have hw : IntKind.i64.wrap (((j + 1 : Nat) : Int) - 1) = (j : Int) := by rw [w64 (by omega) (by omega)]; omega
      rw [hw, show (92 : Int) = ((92 : UInt8).toNat : Int) from rfl, byte_eq r j (by omega)] at h2
      have hb := bsl_take r j (by omega)
      have h4 : ¬ r[j] = 92 := by
        intro e
        rw [Bool.and_eq_false_iff] at h2
        rcases h2 with h2 | h2
        · rw [decide_eq_false_iff_not] at h2; omega
        · simp [e] at h2
      rw [if_neg h4] at hb
      exact hb
  rw [h3, htake, hqe] at hk2
  obtain rfl : k = x.length - q := by omega
  have w0 : IntKind.i64.wrap ((x.length : Int) - ((x.length - q : Nat) : Int)) = (q : Int) := w64n (by omega) (by omega)
  have w1 : IntKind.i64.wrap (((x.length - q : Nat) : Int) + IntKind.i64.wrap (Int.tdiv (IntKind.i64.wrap ((x.length : Int) - ((x.length - q : Nat) : Int))) 2)) = ((x.length - q + q / 2 : Nat) : Int) := by
    have e : Int.tdiv (q : Int) 2 = ((q / 2 : Nat) : Int) := by
      rw [Int.tdiv_eq_ediv_of_nonneg (by omega)]; omega
    rw [w0, e, w64 (x := ((q / 2 : Nat) : Int)) (by omega) (by omega)]
    exact w64n (by omega) (by omega)
  have e1 : cut r none (some ((x.length - q + q / 2 : Nat) : Int)) = x.take (x.length - q + q / 2) := by
    show r.take (x.length - q + q / 2) = _
    conv => lhs; rw [hr]
    rw [List.take_append_of_le_length (by omega)]
  have htl : (x.take (x.length - q + q / 2)).length = x.length - q + q / 2 := by simp; omega
  refine Tr.exit ?_; refine Tr.seq ?_; refine Tr.region ?_
  refine TrL.quiets 7 rfl ?_ ?_
  · simp only [allOf, impO, imp, and_true]
    decide
  refine TrL.is 32 (sv' := vI ((x.length - q + q / 2 : Nat) : Int)) rfl (congrArg vI w1) ?_
  refine TrL.quiets 1 rfl (by (simp only [allOf, impO, imp, inR, loOk, and_true]; omega)) ?_
  refine TrL.is 33 (sv' := vS (x.take (x.length - q + q / 2))) rfl (congrArg vS e1) ?_
  refine TrL.callT [1, 2] rfl rfl rfl rfl rfl (c_WriteString u (x.take (x.length - q + q / 2)) (by omega)) rfl rfl rfl ?_
  refine TrL.nil ?_; refine Tr.seq ?_; refine Tr.seq ?_; refine Tr.region ?_; refine TrL.quiets 5 rfl (by (simp only [allOf, impO, imp, inR, loOk, and_true]; omega)) ?_; refine TrL.nil ?_
  have hev : (Int.tmod (IntKind.i64.wrap ((x.length : Int) - ((x.length - q : Nat) : Int))) 2 == 0) = decide (q % 2 = 0) := by
    rw [w0, show (2 : Int) = ((2 : Nat) : Int) from rfl, Int.tmod_eq_emod_of_nonneg (by omega), Bool.eq_iff_iff]
    simp only [beq_iff_eq, decide_eq_true_eq]
    omega
  refine Tr.is 39 (sv' := vB (decide (q % 2 = 0))) rfl (congrArg vB hev) ?_
  refine Tr.cond rfl (fun h4 => ?_) (fun h4 => ?_)
  · have h5 : q % 2 = 0 := of_decide_eq_true h4
    rw [if_pos h5] at hit
    have wn := w64n (x := (x.length : Int) + 1) (y := x.length + 1) (by omega) (by omega)
    have e2 : cut r (some (IntKind.i64.wrap ((x.length : Int) + 1))) none = r.drop (x.length + 1) := by rw [wn]; rfl
    refine Tr.seq ?_; refine Tr.drawA 7 rfl (by kernel_rfl) ?_; refine TrA.take 1 rfl rfl (by kernel_rfl) rfl (by exact True.intro) ?_; refine TrA.take 2 rfl rfl (by kernel_rfl) rfl (by exact True.intro) ?_; refine TrA.take 3 rfl rfl (by kernel_rfl) rfl (by exact True.intro) ?_; refine TrA.take 4 rfl rfl (by kernel_rfl) rfl ?_ ?_
    · simp only [holds, impO, imp, loOk, wn, Option.getD_none, and_true, true_and]
      omega
    refine TrA.one 0 (by kernel_rfl) rfl ?_
    refine TrL.callT [1, 2] rfl rfl rfl rfl rfl (c_BString (u ++ x.take (x.length - q + q / 2))) rfl rfl rfl ?_
    refine TrL.nil ?_; refine TrA.take 5 rfl rfl (by kernel_rfl) rfl (by exact True.intro) ?_; refine TrA.one 6 (by kernel_rfl) rfl ?_; refine TrL.eff (effStore_sound rfl) (by exact True.intro) ?_; refine TrL.nil ?_; refine TrA.done (by kernel_rfl) ?_; refine Tr.ret ?_
    refine retQ.of rfl ?_
    rw [hit, ← e2]
    rfl
  have h5 : ¬ q % 2 = 0 := of_decide_eq_false h4
  rw [if_neg h5] at hit
  refine Tr.skip ?_; refine Tr.seq ?_; refine Tr.region ?_
  refine TrL.callT [1, 2] rfl rfl rfl rfl rfl (c_WriteByte (u ++ x.take (x.length - q + q / 2)) 37 (by simp; omega)) rfl rfl rfl ?_
  refine TrL.nil ?_; refine Tr.region ?_; refine TrL.quiets 5 rfl (by (simp (disch := omega) only [allOf, impO, imp, inR, loOk, and_true, w64, List.length_set, List.length_cons, List.length_nil, Option.getD_none, Option.getD_some, Ty.D, true_and, decide_eq_true_eq, decide_eq_false_iff_not, Bool.and_eq_true, Bool.or_eq_false_iff]; omega)) ?_; refine TrL.nil ?_
  refine ⟨(u ++ x.take (x.length - q + q / 2) ++ [37], r.drop (x.length + 1)), ⟨?_, hit⟩, ?_, ?_⟩
  · simp only [List.length_append, htl, List.length_cons, List.length_nil, List.length_drop]
    omega
  · simp only [List.length_drop]
    omega
  · refine Eq.trans (b := (⟨[(0, [], vS (cut r (some (IntKind.i64.wrap ((x.length : Int) + 1))) none)), (2, [], .ptr 0 0), (3, [], .ptr 1 0)], ofT (u ++ x.take (x.length - q + q / 2) ++ [37])⟩ : St)) rfl ?_
    rw [w64n (y := x.length + 1) (by omega) (by omega)]
    rfl
end Go.Proofs.YtcclfjddakonoaaGreatDoor.Sx
