/-
  assign: what stands outside of references.
-/
import Derived.Test.YtckgeebihhhapaaDoorF3
set_option linter.unusedVariables false
set_option linter.unusedSimpArgs false
set_option maxRecDepth 20000
namespace Go.Proofs.YtckgeebihhhapaaDoor.Sx
open Go Go.RowKit Go.Proofs

def isOpen (c : UInt8) : Bool := c == 40 || c == 123
def isClose (c : UInt8) : Bool := c == 41 || c == 125
theorem isOpen_int (c : UInt8) : (((c.toNat : Nat) : Int) == 40 || ((c.toNat : Nat) : Int) == 123) = isOpen c := by
  have h1 := byte_beq c 40
  have h2 := byte_beq c 123
  simp only [isOpen, ← h1, ← h2]
  rfl
theorem isClose_int (c : UInt8) : (((c.toNat : Nat) : Int) == 41 || ((c.toNat : Nat) : Int) == 125) = isClose c := by
  have h1 := byte_beq c 41
  have h2 := byte_beq c 125
  simp only [isClose, ← h1, ← h2]
  rfl
theorem dollar_int (c : UInt8) : (((c.toNat : Nat) : Int) == 36) = (c == 36) := byte_beq c 36
/-- The first place outside whose byte is so; on the way the last place but one whose byte is so is kept. -/
def scan (p q : UInt8 → Bool) : Nat → Nat → Nat → Str → Option Nat × Nat
  | d, i, g, [] => (none, g)
  | d, i, g, c :: r =>
    if c == 36 then (match r with
      | [] => (none, g)
      | x :: r' => scan p q (if isOpen x then d + 1 else d) (i + 2) g r')
    else if decide (0 < d) && isOpen c then scan p q (d + 1) (i + 1) g r
    else if decide (0 < d) && isClose c then scan p q (d - 1) (i + 1) g r
    else if d = 0 then (if p c then (some i, if q c then i + 1 else g) else scan p q 0 (i + 1) (if q c then i + 1 else g) r)
    else scan p q d (i + 1) g r
theorem scan_cons (p q : UInt8 → Bool) (d i g : Nat) (c : UInt8) (r : Str) : scan p q d i g (c :: r) =
    if c == 36 then (match r with
      | [] => (none, g)
      | x :: r' => scan p q (if isOpen x then d + 1 else d) (i + 2) g r')
    else if decide (0 < d) && isOpen c then scan p q (d + 1) (i + 1) g r
    else if decide (0 < d) && isClose c then scan p q (d - 1) (i + 1) g r
    else if d = 0 then (if p c then (some i, if q c then i + 1 else g) else scan p q 0 (i + 1) (if q c then i + 1 else g) r)
    else scan p q d (i + 1) g r := by rw [scan.eq_def]; rfl
theorem scan_nil (p q : UInt8 → Bool) (d i g : Nat) : scan p q d i g [] = (none, g) := by rw [scan.eq_def]
def idxOf : Option Nat → Int
  | none => -1
  | some i => (i : Int)
theorem scan_g (p : UInt8 → Bool) : ∀ (n : Nat) (r : Str), r.length ≤ n → ∀ (d i g : Nat), (scan p (fun _ => false) d i g r).2 = g
  | _, [], _, d, i, g => rfl
  | 0, c :: r, h, d, i, g => by simp at h
  | n + 1, c :: r, h, d, i, g => by
    simp only [List.length_cons] at h
    have ih := fun r' (hr : List.length r' ≤ n) => scan_g p n r' hr
    cases r with
    | nil => simp only [scan, Bool.false_eq_true, if_false]; (repeat' split) <;> rfl
    | cons x r' =>
      simp only [List.length_cons] at h
      rw [scan]
      simp only [Bool.false_eq_true, if_false]
      split
      · exact ih r' (by omega) _ _ _
      · split
        · exact ih _ (by simp; omega) _ _ _
        · split
          · exact ih _ (by simp; omega) _ _ _
          · split
            · split
              · rfl
              · exact ih _ (by simp; omega) _ _ _
            · exact ih _ (by simp; omega) _ _ _


theorem c_Colon_1 (s : Str) (i : Nat) (hi : i < s.length) : CallT Tryd.prog 62 [vI i, .ptr 0 0] [.box 9 [vS s]] (vB (s[i] == 58)) [.box 9 [vS s]] := by
  refine CallT.of Tryd.func62 (by kernel_rfl) rfl Tryd.ntmps62 (by simp) (by simp) fun cx hB => ?_
  refine Tr.seq (Tr.region (TrL.quiets 1 rfl True.intro (TrL.nil (Tr.seq (Tr.region (TrL.quiets 5 rfl ?_ ?_))))))
  · simp only [allOf, impO, imp, inR, loOk, and_true]
    exact inRn hi
  refine TrL.nil (Tr.ret (retT.of rfl ?_ rfl))
  congr 1
  rw [byteAt_get _ _ hi]
  exact byte_beq s[i] 58















































theorem c_outside_Colon (s : Str) (hs : s.length ≤ 1099511627776) : CallT Tryd.prog 61 [vS s, .fn 62 [] [.ptr 0 0]] [.box 9 [vS s]] (vI (idxOf (scan (· == 58) (fun _ => false) 0 0 0 s).1)) [.box 9 [vS s]] := by
  refine CallT.of Tryd.func61 (by kernel_rfl) rfl Tryd.ntmps61 (by simp) (by simp) fun cx hB => ?_
  refine Tr.seq (Tr.region (TrL.quiets 1 rfl True.intro (TrL.nil (Tr.seq (Tr.region (TrL.quiets 1 rfl True.intro (TrL.nil (Tr.seq (Tr.seq (Tr.region (TrL.quiets 1 rfl True.intro (TrL.nil (Tr.block ?_)))))))))))))
  refine Tr.loop (fun ((i, d, g) : Nat × Nat × Nat) => ⟨[(0, [], vS s), (1, [], .fn 62 [] [.ptr 0 0]), (5, [], vI (d : Int)), (6, [], vI (i : Int))], [.box 9 [vS s]]⟩)
    (fun (i, d, g) => i ≤ s.length + 1 ∧ d ≤ i ∧ scan (· == 58) (fun _ => false) d i g (s.drop i) = scan (· == 58) (fun _ => false) 0 0 0 s) (fun (i, d, g) => s.length + 2 - i) (0, 0, 0) [0, 1, 5, 6] 1 hB rfl ⟨Nat.zero_le _, Nat.le_refl _, rfl⟩ fun x hx => ?_
  obtain ⟨i, d, g⟩ := x
  obtain ⟨hi, hd, heq⟩ := hx
  refine Tr.seq (Tr.seq (Tr.region (TrL.quiets 4 rfl True.intro (TrL.nil (Tr.cond rfl (fun h1 => ?_) (fun h1 => ?_))))))
  · have hlt : i < s.length := by have := of_decide_eq_true h1; omega
    have hw : IntKind.i64.wrap ((i : Int) + 1) = ((i + 1 : Nat) : Int) := w64n (by omega) (by omega)
    have hw2 : IntKind.i64.wrap (((i + 1 : Nat) : Int) + 1) = ((i + 2 : Nat) : Int) := w64n (by omega) (by omega)
    have hwd : IntKind.i64.wrap ((d : Int) + 1) = ((d + 1 : Nat) : Int) := w64n (by omega) (by omega)
    have hb := byteAt_get s i hlt
    rw [List.drop_eq_getElem_cons hlt] at heq
    refine Tr.skip (Tr.seq (Tr.block (Tr.seq (Tr.region (TrL.quiets 4 rfl ?_ ?_)))))
    · simp only [allOf, impO, imp, inR, loOk, and_true]
      exact inRn hlt
    refine TrL.nil (Tr.block (Tr.seq (Tr.region (TrL.quiets 3 rfl True.intro (TrL.nil (Tr.cond rfl (fun h2 => ?_) (fun h2 => ?_)))))))
    · have hc : (s[i] == 36) = true := by rw [← dollar_int, ← hb]; exact h2
      rw [scan_cons, if_pos hc] at heq
      refine Tr.seq (Tr.region (TrL.quiets 3 rfl True.intro (TrL.nil (Tr.seq (Tr.region (TrL.quiets 16 rfl ?_ ?_))))))
      · simp only [allOf, impO, imp, inR, loOk, and_true]
        rw [hw]
        exact ⟨fun h => inRn (by have := of_decide_eq_true h; omega), fun _ h => inRn (by have := of_decide_eq_true h; omega)⟩
      by_cases hl2 : i + 1 < s.length
      · have hb2 := byteAt_get s (i + 1) hl2
        rw [List.drop_eq_getElem_cons hl2] at heq
        simp only at heq
        have e2 : decide (IntKind.i64.wrap ((i : Int) + 1) < (s.length : Int)) = true := by rw [hw]; exact decide_eq_true (by omega)
        refine TrL.nil (Tr.cond rfl (fun h3 => ?_) (fun h3 => ?_))
        · have ho : isOpen s[i + 1] = true := by
            rw [← isOpen_int, ← hb2, ← hw]
            rw [e2] at h3
            simpa using h3
          rw [if_pos ho] at heq
          refine Tr.region (TrL.quiets 3 rfl True.intro (TrL.nil (Tr.region (TrL.quiets 3 rfl True.intro (TrL.nil ?_)))))
          refine ⟨(i + 2, d + 1, g), ⟨by omega, by omega, heq⟩, by dsimp only; omega, ?_⟩
          show (⟨[(0, [], vS s), (1, [], .fn 62 [] [.ptr 0 0]), (5, [], vI (IntKind.i64.wrap ((d : Int) + 1))), (6, [], vI (IntKind.i64.wrap (IntKind.i64.wrap ((i : Int) + 1) + 1)))], [.box 9 [vS s]]⟩ : St) = _
          rw [hw, hw2, hwd]
        · have ho : isOpen s[i + 1] = false := by
            rw [← isOpen_int, ← hb2, ← hw]
            rw [e2] at h3
            simpa using h3
          rw [if_neg (by simp [ho])] at heq
          refine Tr.skip (Tr.region (TrL.quiets 3 rfl True.intro (TrL.nil ?_)))
          refine ⟨(i + 2, d, g), ⟨by omega, by omega, heq⟩, by dsimp only; omega, ?_⟩
          show (⟨[(0, [], vS s), (1, [], .fn 62 [] [.ptr 0 0]), (5, [], vI (d : Int)), (6, [], vI (IntKind.i64.wrap (IntKind.i64.wrap ((i : Int) + 1) + 1)))], [.box 9 [vS s]]⟩ : St) = _
          rw [hw, hw2]
      · have hnil : s.drop (i + 1) = [] := List.drop_eq_nil_of_le (by omega)
        rw [hnil] at heq
        simp only at heq
        have e2 : decide (IntKind.i64.wrap ((i : Int) + 1) < (s.length : Int)) = false := by rw [hw]; exact decide_eq_false (by omega)
        refine TrL.nil (Tr.cond rfl (fun h3 => ?_) (fun h3 => ?_))
        · rw [e2] at h3
          simp at h3
        · refine Tr.skip (Tr.region (TrL.quiets 3 rfl True.intro (TrL.nil ?_)))
          refine ⟨(i + 2, d, g), ⟨by omega, by omega, ?_⟩, by dsimp only; omega, ?_⟩
          · rw [List.drop_eq_nil_of_le (by omega), scan_nil]
            exact heq
          · show (⟨[(0, [], vS s), (1, [], .fn 62 [] [.ptr 0 0]), (5, [], vI (d : Int)), (6, [], vI (IntKind.i64.wrap (IntKind.i64.wrap ((i : Int) + 1) + 1)))], [.box 9 [vS s]]⟩ : St) = _
            rw [hw, hw2]
    · have hc : (s[i] == 36) = false := by rw [← dollar_int, ← hb]; exact h2
      rw [scan_cons, if_neg (by simp [hc])] at heq
      have hd0 : decide ((d : Int) > 0) = decide (0 < d) := by rw [Bool.eq_iff_iff]; simp
      refine Tr.seq (Tr.region (TrL.quiets 11 rfl True.intro (TrL.nil (Tr.cond rfl (fun h4 => ?_) (fun h4 => ?_)))))
      · rw [hb, isOpen_int, hd0] at h4
        rw [if_pos h4] at heq
        refine Tr.region (TrL.quiets 3 rfl True.intro (TrL.nil (Tr.region (TrL.quiets 3 rfl True.intro (TrL.nil ?_)))))
        refine ⟨(i + 1, d + 1, g), ⟨by omega, by omega, heq⟩, by dsimp only; omega, ?_⟩
        show (⟨[(0, [], vS s), (1, [], .fn 62 [] [.ptr 0 0]), (5, [], vI (IntKind.i64.wrap ((d : Int) + 1))), (6, [], vI (IntKind.i64.wrap ((i : Int) + 1)))], [.box 9 [vS s]]⟩ : St) = _
        rw [hw, hwd]
      · rw [hb, isOpen_int, hd0] at h4
        rw [if_neg (by simp [h4])] at heq
        refine Tr.seq (Tr.region (TrL.quiets 11 rfl True.intro (TrL.nil (Tr.cond rfl (fun h5 => ?_) (fun h5 => ?_)))))
        · rw [hb, isClose_int, hd0] at h5
          rw [if_pos h5] at heq
          have hdp : 0 < d := by
            simp only [Bool.and_eq_true, decide_eq_true_eq] at h5
            exact h5.1
          have hwd2 : IntKind.i64.wrap ((d : Int) - 1) = ((d - 1 : Nat) : Int) := w64n (by omega) (by omega)
          refine Tr.region (TrL.quiets 3 rfl True.intro (TrL.nil (Tr.region (TrL.quiets 3 rfl True.intro (TrL.nil ?_)))))
          refine ⟨(i + 1, d - 1, g), ⟨by omega, by omega, heq⟩, by dsimp only; omega, ?_⟩
          show (⟨[(0, [], vS s), (1, [], .fn 62 [] [.ptr 0 0]), (5, [], vI (IntKind.i64.wrap ((d : Int) - 1))), (6, [], vI (IntKind.i64.wrap ((i : Int) + 1)))], [.box 9 [vS s]]⟩ : St) = _
          rw [hw, hwd2]
        · rw [hb, isClose_int, hd0] at h5
          rw [if_neg (by simp [h5])] at heq
          refine Tr.seq (Tr.region (TrL.quiets 5 rfl True.intro (TrL.part 69 rfl fun c hc0 => ?_)))
          cases c with
          | false =>
            have hdn : ¬ d = 0 := by
              intro e
              subst e
              simp at hc0
            rw [if_neg hdn] at heq
            refine TrL.pass (vB false) rfl rfl rfl rfl rfl (by decide) (by decide) rfl ?_
            refine TrL.quiets 2 rfl True.intro (TrL.nil (Tr.cond rfl (fun h6 => ?_) (fun h6 => ?_)))
            · simp at h6
            · refine Tr.skip (Tr.region (TrL.quiets 3 rfl True.intro (TrL.nil ?_)))
              refine ⟨(i + 1, d, g), ⟨by omega, by omega, heq⟩, by dsimp only; omega, ?_⟩
              show (⟨[(0, [], vS s), (1, [], .fn 62 [] [.ptr 0 0]), (5, [], vI (d : Int)), (6, [], vI (IntKind.i64.wrap ((i : Int) + 1)))], [.box 9 [vS s]]⟩ : St) = _
              rw [hw]
          | true =>
            have hdz : d = 0 := by
              have : ((d : Int) == 0) = true := hc0
              simpa using this
            subst hdz
            rw [if_pos rfl] at heq
            refine TrL.want rfl rfl rfl ?_
            refine TrL.callT [0] rfl rfl rfl rfl rfl (c_Colon_1 s i hlt) rfl rfl rfl ?_
            refine TrL.quiets 2 rfl True.intro (TrL.nil (Tr.cond rfl (fun h6 => ?_) (fun h6 => ?_)))
            · have hp : (s[i] == 58) = true := by simpa using h6
              rw [if_pos hp] at heq
              refine Tr.seq (Tr.region (TrL.quiets 2 rfl True.intro (TrL.nil (Tr.ret (retT.of rfl ?_ ?_)))))
              · rw [← heq]
                rfl
              · first | rfl | (rw [← heq]; rfl)
            · have hp : (s[i] == 58) = false := by simpa using h6
              rw [if_neg (by simp [hp])] at heq
              refine Tr.skip (Tr.region (TrL.quiets 3 rfl True.intro (TrL.nil ?_)))
              refine ⟨(i + 1, 0, (if false then i + 1 else g)), ⟨by omega, by omega, heq⟩, by dsimp only; omega, ?_⟩
              show (⟨[(0, [], vS s), (1, [], .fn 62 [] [.ptr 0 0]), (5, [], vI 0), (6, [], vI (IntKind.i64.wrap ((i : Int) + 1)))], [.box 9 [vS s]]⟩ : St) = _
              rw [hw]
              rfl
  · have hge : s.length ≤ i := by have := of_decide_eq_false h1; omega
    rw [List.drop_eq_nil_of_le hge, scan_nil] at heq
    refine Tr.exit (Tr.seq (Tr.region (TrL.quiets 1 rfl True.intro (TrL.nil (Tr.ret (retT.of rfl ?_ ?_))))))
    · rw [← heq]
      rfl
    · first | rfl | (rw [← heq]; rfl)










































































































































































































































































def place (c : UInt8) (s : Str) : Int := idxOf (scan (· == c) (fun _ => false) 0 0 0 s).1

theorem c_assign_Colon (s : Str) (hs : s.length ≤ 1099511627776) : CallV Tryd.prog 37 [vS s] (vI (place 58 s)) := by
  refine CallV.of Tryd.func37 (by kernel_rfl) rfl Tryd.ntmps37 (by simp) rfl fun cx hB => ?_
  refine Tr.seq (Tr.region (TrL.eff (effBox_sound rfl) True.intro (TrL.quiets 1 rfl True.intro (TrL.nil (Tr.seq (Tr.region (TrL.quiets 2 rfl True.intro (TrL.callT [0] rfl rfl rfl rfl rfl (c_outside_Colon s hs) rfl rfl rfl (TrL.quiets 1 rfl True.intro (TrL.nil (Tr.ret (retQ.of rfl ?_))))))))))))
  rfl







end Go.Proofs.YtckgeebihhhapaaDoor.Sx
