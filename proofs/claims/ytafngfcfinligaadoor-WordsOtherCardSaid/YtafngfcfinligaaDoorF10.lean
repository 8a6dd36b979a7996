/-
  AssignBack: the plain law.
-/
import Derived.Test.YtafngfcfinligaaDoorF9
set_option linter.unusedVariables false
set_option linter.unusedSimpArgs false
set_option maxRecDepth 20000
set_option maxHeartbeats 4000000
namespace Go.Proofs.YtafngfcfinligaaDoor.Sx
open Go Go.RowKit Go.Proofs

def pSign (c : UInt8) : Bool := c == 61 || c == 58
/-- Nothing outside that says how a value is set. -/
def noHit (p : UInt8 → Bool) (m : List Bool) (x : Str) : Bool := (m.zip x).all fun q => !(q.1 && p q.2)
/-- A text that opens nothing and closes nothing. -/
structure Even (p : UInt8 → Bool) (x : Str) (m : List Bool) : Prop where
  len : m.length = x.length
  outs : ∀ r, outs 0 (x ++ r) = m ++ outs 0 r
  no : noHit p m x = true
theorem Even.nil (p : UInt8 → Bool) : Even p [] [] := ⟨rfl, fun _ => rfl, rfl⟩
theorem Even.append {p : UInt8 → Bool} {x y : Str} {m n : List Bool} (h : Even p x m) (k : Even p y n) : Even p (x ++ y) (m ++ n) := by
  refine ⟨by rw [List.length_append, List.length_append, h.len, k.len], fun r => by rw [List.append_assoc, h.outs, k.outs, List.append_assoc], ?_⟩
  unfold noHit
  rw [List.zip_append h.len, List.all_append]
  exact Bool.and_eq_true_iff.2 ⟨h.no, k.no⟩
theorem firstO_app (p : UInt8 → Bool) : ∀ (x : Str) (m : List Bool) (i : Nat) (o : List Bool) (r : Str), m.length = x.length → noHit p m x = true → firstO p i (m ++ o) (x ++ r) = firstO p (i + x.length) o r
  | [], [], i, o, r, _, _ => rfl
  | c :: x, b :: m, i, o, r, hl, hn => by
    simp only [noHit, List.zip_cons_cons, List.all_cons, Bool.and_eq_true, Bool.not_eq_true'] at hn
    rw [List.cons_append, List.cons_append, firstO_cons, if_neg (by rw [hn.1]; decide), firstO_app p x m (i + 1) o r (by simpa using hl) hn.2, List.length_cons]
    congr 1
    omega
theorem Even.first {p : UInt8 → Bool} {x : Str} {m : List Bool} (h : Even p x m) (i : Nat) (r : Str) : firstO p i (Sx.outs 0 (x ++ r)) (x ++ r) = firstO p (i + x.length) (Sx.outs 0 r) r := by
  rw [h.outs, firstO_app p x m i _ r h.len h.no]

theorem getD_app (N : Str) (c : UInt8) (t : Str) : (N ++ c :: t).getD N.length 0 = c := by
  simp [List.getD_eq_getElem?_getD]
theorem getD_app1 (N : Str) (c d : UInt8) (t : Str) : (N ++ c :: d :: t).getD (N.length + 1) 0 = d := by
  simp [List.getD_eq_getElem?_getD]
theorem getD_last (N t : Str) (h : 0 < N.length) : (N ++ t).getD (N.length - 1) 0 = N.getLast?.getD 0 := by
  rw [List.getD_eq_getElem?_getD, List.getElem?_append_left (by omega), List.getLast?_eq_getElem?]
theorem drop_app (N t : Str) (k : Nat) : (N ++ t).drop (N.length + k) = t.drop k := by
  rw [List.drop_append, List.drop_eq_nil_of_le (by omega), List.nil_append]
  congr 1
  omega
/-- The last byte is none that a sign begins with. -/
abbrev calm (N : Str) : Prop := N.getLast?.getD 0 ≠ 43 ∧ N.getLast?.getD 0 ≠ 63
def tblOp : List Str := [[61], [58, 61], [58, 58, 61], [43, 61], [63, 61]]

theorem readR_sign (N t o : Str) (m : List Bool) (h : Even pSign N m) (hc : calm N) (ho : o ∈ tblOp) : readR (N ++ (o ++ t)) = (trim N, o, left t, true) := by
  have htake : (N ++ (o ++ t)).take N.length = N := by rw [List.take_append, List.take_length, Nat.sub_self, List.take_zero, List.append_nil]
  have one : ∀ (c : UInt8) (u : Str), pSign c = true → outs 0 (c :: u) = true :: outs 0 u → firstO (fun c => c == 61 || c == 58) 0 (outs 0 (N ++ c :: u)) (N ++ c :: u) = some N.length := fun c u hp hu => by
    have := h.first 0 (c :: u)
    refine this.trans ?_
    rw [hu, firstO_cons, hp, Nat.zero_add]
    rfl
  have two : ∀ (c : UInt8) (u : Str), pSign c = false → outs 0 (c :: 61 :: u) = true :: true :: outs 0 u → firstO (fun c => c == 61 || c == 58) 0 (outs 0 (N ++ c :: 61 :: u)) (N ++ c :: 61 :: u) = some (N.length + 1) := fun c u hp hu => by
    have := h.first 0 (c :: 61 :: u)
    refine this.trans ?_
    rw [hu, firstO_cons, hp, Nat.zero_add, firstO_cons]
    rfl
  simp only [tblOp, List.mem_cons, List.not_mem_nil, or_false] at ho
  rcases ho with rfl | rfl | rfl | rfl | rfl
  · have hf := one 61 t rfl (by rw [outs_cons]; rfl)
    have hs : signAt (N ++ 61 :: t) (outs 0 (N ++ 61 :: t)) N.length = ([61], N.length, N.length + 1) := by
      unfold signAt
      rw [getD_app, if_pos (by decide)]
      by_cases h0 : 0 < N.length
      · rw [getD_last N _ h0]
        have h1 : (N.getLast?.getD 0 == 43) = false := by rw [beq_eq_false_iff_ne]; exact hc.1
        have h2 : (N.getLast?.getD 0 == 63) = false := by rw [beq_eq_false_iff_ne]; exact hc.2
        rw [h1, h2]
        simp
      · simp [h0]
    show readR (N ++ 61 :: t) = _
    have ht : (N ++ 61 :: t).take N.length = N := htake
    simp only [readR, hf, hs, ht, drop_app]
    rfl
  · have hf := one 58 (61 :: t) rfl rfl
    have hs : signAt (N ++ 58 :: 61 :: t) (outs 0 (N ++ 58 :: 61 :: t)) N.length = ([58, 61], N.length, N.length + 2) := by
      unfold signAt
      have hd := drop_app N (58 :: 61 :: t) 0
      rw [Nat.add_zero] at hd
      rw [getD_app, if_neg (by decide), hd]
      rfl
    show readR (N ++ 58 :: 61 :: t) = _
    have ht : (N ++ 58 :: 61 :: t).take N.length = N := htake
    simp only [readR, hf, hs, ht, drop_app]
    rfl
  · have hf := one 58 (58 :: 61 :: t) rfl rfl
    have hs : signAt (N ++ 58 :: 58 :: 61 :: t) (outs 0 (N ++ 58 :: 58 :: 61 :: t)) N.length = ([58, 58, 61], N.length, N.length + 3) := by
      unfold signAt
      have hd := drop_app N (58 :: 58 :: 61 :: t) 0
      rw [Nat.add_zero] at hd
      rw [getD_app, if_neg (by decide), hd]
      rfl
    show readR (N ++ 58 :: 58 :: 61 :: t) = _
    have ht : (N ++ 58 :: 58 :: 61 :: t).take N.length = N := htake
    simp only [readR, hf, hs, ht, drop_app]
    rfl
  · have hf := two 43 t rfl (by rw [outs_cons, outs_cons]; rfl)
    have hs : signAt (N ++ 43 :: 61 :: t) (outs 0 (N ++ 43 :: 61 :: t)) (N.length + 1) = ([43, 61], N.length, N.length + 2) := by
      unfold signAt
      have ho : (outs 0 (N ++ 43 :: 61 :: t)).getD N.length false = true := by
        rw [h.outs, List.getD_eq_getElem?_getD, List.getElem?_append_right (by rw [h.len]; exact Nat.le_refl _), h.len, Nat.sub_self]
        rfl
      rw [getD_app1, if_pos (by decide), Nat.add_sub_cancel, ho, getD_app, if_pos (by simp)]
    show readR (N ++ 43 :: 61 :: t) = _
    have ht : (N ++ 43 :: 61 :: t).take N.length = N := htake
    simp only [readR, hf, hs, ht, drop_app]
    rfl
  · have hf := two 63 t rfl (by rw [outs_cons, outs_cons]; rfl)
    have hs : signAt (N ++ 63 :: 61 :: t) (outs 0 (N ++ 63 :: 61 :: t)) (N.length + 1) = ([63, 61], N.length, N.length + 2) := by
      unfold signAt
      have ho : (outs 0 (N ++ 63 :: 61 :: t)).getD N.length false = true := by
        rw [h.outs, List.getD_eq_getElem?_getD, List.getElem?_append_right (by rw [h.len]; exact Nat.le_refl _), h.len, Nat.sub_self]
        rfl
      rw [getD_app1, if_pos (by decide), Nat.add_sub_cancel, ho, getD_app, if_pos (by simp)]
    show readR (N ++ 63 :: 61 :: t) = _
    have ht : (N ++ 63 :: 61 :: t).take N.length = N := htake
    simp only [readR, hf, hs, ht, drop_app]
    rfl
theorem readR_rule (N t : Str) (m : List Bool) (c : UInt8) (h : Even pSign N m) (hc : (c == 61) = false) (hc2 : (c == 58) = false) : (readR (N ++ 58 :: c :: t)).2.2.2 = false := by
  have hf : firstO (fun c => c == 61 || c == 58) 0 (outs 0 (N ++ 58 :: c :: t)) (N ++ 58 :: c :: t) = some N.length := by
    refine (h.first 0 (58 :: c :: t)).trans ?_
    rw [show outs 0 (58 :: c :: t) = true :: outs 0 (c :: t) from rfl, firstO_cons, Nat.zero_add]
    rfl
  have hs : signAt (N ++ 58 :: c :: t) (outs 0 (N ++ 58 :: c :: t)) N.length = ([], 0, 0) := by
    unfold signAt
    have hd := drop_app N (58 :: c :: t) 0
    rw [Nat.add_zero] at hd
    have h1 : hasPre (58 :: c :: t) [58, 61] = false := by
      simp only [hasPre, List.isPrefixOf, Bool.and_eq_false_iff]
      exact .inr (.inl (by rw [beq_eq_false_iff_ne] at hc ⊢; exact fun e => hc e.symm))
    have h2 : hasPre (58 :: c :: t) [58, 58, 61] = false := by
      simp only [hasPre, List.isPrefixOf, Bool.and_eq_false_iff]
      exact .inr (.inl (by rw [beq_eq_false_iff_ne] at hc2 ⊢; exact fun e => hc2 e.symm))
    rw [getD_app, if_neg (by decide), hd, List.drop_zero, h1, h2]
    rfl
  simp only [readR, hf, hs]
  rfl

/-! ### Texts without blanks at their ends -/
structure Tight (x : Str) : Prop where
  head : ∀ c, x.head? = some c → isBlank c = false
  last : ∀ c, x.getLast? = some c → isBlank c = false
theorem Tight.nil : Tight [] := ⟨(by simp), (by simp)⟩
theorem Tight.append {x y : Str} (h : Tight x) (k : Tight y) : Tight (x ++ y) := by
  refine ⟨fun c hc => ?_, fun c hc => ?_⟩
  · cases x with
    | nil => exact k.head c hc
    | cons a x => exact h.head c hc
  · rcases List.eq_nil_or_concat y with rfl | ⟨y', b, rfl⟩
    · rw [List.append_nil] at hc; exact h.last c hc
    · rw [List.concat_eq_append, ← List.append_assoc, List.getLast?_append] at hc
      refine k.last c ?_
      rw [List.concat_eq_append, List.getLast?_append]
      simpa using hc
/-- Two tight texts with something between. -/
theorem Tight.between {x y : Str} (g : Str) (h : Tight x) (k : Tight y) (hx : x ≠ []) (hy : y ≠ []) : Tight (x ++ g ++ y) := by
  refine ⟨fun c hc => ?_, fun c hc => ?_⟩
  · cases x with
    | nil => exact absurd rfl hx
    | cons a x => exact h.head c hc
  · refine k.last c ?_
    rcases List.eq_nil_or_concat y with rfl | ⟨y', b, rfl⟩
    · exact absurd rfl hy
    · rw [List.concat_eq_append, ← List.append_assoc, List.getLast?_append] at hc
      rw [List.concat_eq_append, List.getLast?_append]
      simpa using hc
theorem Tight.left {x : Str} (h : Tight x) : left x = x := by
  cases x with
  | nil => rfl
  | cons c r => simp only [Sx.left, List.dropWhile_cons, h.head c rfl, Bool.false_eq_true, if_false]
theorem Tight.right {x : Str} (h : Tight x) : right x = x := by
  rcases List.eq_nil_or_concat x with rfl | ⟨y, c, rfl⟩
  · rfl
  · rw [List.concat_eq_append, right_snoc, if_neg]
    have := h.last c (by rw [List.concat_eq_append, List.getLast?_append]; rfl)
    rw [this]; decide
theorem Tight.trim {x : Str} (h : Tight x) : trim x = x := by rw [Sx.trim, h.left, h.right]
theorem Tight.left_app {x : Str} (h : Tight x) (hx : x ≠ []) (y : Str) : Sx.left (x ++ y) = x ++ y := by
  cases x with
  | nil => exact absurd rfl hx
  | cons c r => simp only [Sx.left, List.cons_append, List.dropWhile_cons, h.head c rfl, Bool.false_eq_true, if_false]
theorem left_blank (g x : Str) (hg : ∀ c ∈ g, isBlank c = true) : Sx.left (g ++ x) = Sx.left x := by
  induction g with
  | nil => rfl
  | cons c g ih =>
    have := hg c List.mem_cons_self
    simp only [Sx.left, List.cons_append, List.dropWhile_cons, this, if_true]
    exact ih fun d hd => hg d (List.mem_cons_of_mem _ hd)
theorem right_blank (x g : Str) (hg : ∀ c ∈ g, isBlank c = true) : Sx.right (x ++ g) = Sx.right x := by
  have h2 : (x ++ g).reverse = g.reverse ++ x.reverse := List.reverse_append
  have := left_blank g.reverse x.reverse (fun c hc => hg c (List.mem_reverse.1 hc))
  unfold Sx.right
  rw [h2]
  unfold Sx.left at this
  rw [this]
theorem Tight.trim_app {x : Str} (h : Tight x) (hx : x ≠ []) (g : Str) (hg : ∀ c ∈ g, isBlank c = true) : Sx.trim (x ++ g) = x := by
  rw [Sx.trim, h.left_app hx, right_blank _ _ hg, h.right]

theorem word_tight (v : Int) : Tight (word v) ∧ word v ≠ [] := by
  have h : ∀ x ∈ tblWord, (∀ c ∈ x, isBlank c = false) ∧ x ≠ [] := by decide
  obtain ⟨h1, h2⟩ := h _ (word_mem v)
  exact ⟨⟨fun c hc => h1 c (List.mem_of_mem_head? hc), fun c hc => h1 c (List.mem_of_getLast? hc)⟩, h2⟩
theorem wordsFrom_tight (v : Int) (l : List Int) : Tight (wordsFrom true (v :: l)) ∧ wordsFrom true (v :: l) ≠ [] := by
  have key : ∀ (l : List Int) (x : Str), Tight x → x ≠ [] → Tight (x ++ wordsFrom false l) ∧ x ++ wordsFrom false l ≠ [] := by
    intro l
    induction l with
    | nil => intro x h hx; simp only [wordsFrom, List.append_nil]; exact ⟨h, hx⟩
    | cons v l ih =>
      intro x h hx
      obtain ⟨w1, w2⟩ := word_tight v
      have := ih (x ++ gapW v ++ word v) (h.between _ w1 hx w2) (by simp [hx])
      simpa [wordsFrom] using this
  obtain ⟨w1, w2⟩ := word_tight v
  simpa [wordsFrom] using key l (word v) w1 w2
theorem wordsL_tight (ns : List Int) : Tight (wordsL ns) := by
  unfold wordsL
  cases h : ns.take 40 with
  | nil => exact Tight.nil
  | cons v l => exact (wordsFrom_tight v l).1
end Go.Proofs.YtafngfcfinligaaDoor.Sx
