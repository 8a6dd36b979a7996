/-
  assign: what stands outside of references.
-/
import Derived.Test.YteiickhgmmjcmaaGreatDoorF3
set_option linter.unusedVariables false
set_option linter.unusedSimpArgs false
set_option maxRecDepth 20000
namespace Go.Proofs.YteiickhgmmjcmaaGreatDoor.Sx
open Go Go.RowKit Go.Proofs

def isOpen (c : UInt8) : Bool := c == 40 || c == 123
def isClose (c : UInt8) : Bool := c == 41 || c == 125
theorem isOpen_int (c : UInt8) : (((c.toNat : Nat) : Int) == 40 || ((c.toNat : Nat) : Int) == 123) = isOpen c := by
  have h1 := byte_beq c 40
  have h2 := byte_beq c 123
  simp only [isOpen, ← h1, ← h2]
  rfl
theorem isClose_int (c : UInt8) : (((c.toNat : Nat) : Int) == 41 || ((c.toNat : Nat) : Int) == 125) = isClose c := by
  have h1 := byte_beq c 41
  have h2 := byte_beq c 125
  simp only [isClose, ← h1, ← h2]
  rfl
theorem dollar_int (c : UInt8) : (((c.toNat : Nat) : Int) == 36) = (c == 36) := byte_beq c 36
/-- The first place outside whose byte is so; on the way the last place but one whose byte is so is kept. -/
def scan (p q : UInt8 → Bool) : Nat → Nat → Nat → Str → Option Nat × Nat
  | d, i, g, [] => (none, g)
  | d, i, g, c :: r =>
    if c == 36 then (match r with
      | [] => (none, g)
      | x :: r' => scan p q (if isOpen x then d + 1 else d) (i + 2) g r')
    else if decide (0 < d) && isOpen c then scan p q (d + 1) (i + 1) g r
    else if decide (0 < d) && isClose c then scan p q (d - 1) (i + 1) g r
    else if d = 0 then (if p c then (some i, if q c then i + 1 else g) else scan p q 0 (i + 1) (if q c then i + 1 else g) r)
    else scan p q d (i + 1) g r
theorem scan_cons (p q : UInt8 → Bool) (d i g : Nat) (c : UInt8) (r : Str) : scan p q d i g (c :: r) =
    if c == 36 then (match r with
      | [] => (none, g)
      | x :: r' => scan p q (if isOpen x then d + 1 else d) (i + 2) g r')
    else if decide (0 < d) && isOpen c then scan p q (d + 1) (i + 1) g r
    else if decide (0 < d) && isClose c then scan p q (d - 1) (i + 1) g r
    else if d = 0 then (if p c then (some i, if q c then i + 1 else g) else scan p q 0 (i + 1) (if q c then i + 1 else g) r)
    else scan p q d (i + 1) g r := by rw [scan.eq_def]; rfl
theorem scan_nil (p q : UInt8 → Bool) (d i g : Nat) : scan p q d i g [] = (none, g) := by rw [scan.eq_def]
def idxOf : Option Nat → Int
  | none => -1
  | some i => (i : Int)
theorem scan_g (p : UInt8 → Bool) : ∀ (n : Nat) (r : Str), r.length ≤ n → ∀ (d i g : Nat), (scan p (fun _ => false) d i g r).2 = g
  | _, [], _, d, i, g => rfl
  | 0, c :: r, h, d, i, g => by simp at h
  | n + 1, c :: r, h, d, i, g => by
    simp only [List.length_cons] at h
    have ih := fun r' (hr : List.length r' ≤ n) => scan_g p n r' hr
    cases r with
    | nil => simp only [scan, Bool.false_eq_true, if_false]; (repeat' split) <;> rfl
    | cons x r' =>
      simp only [List.length_cons] at h
      rw [scan]
      simp only [Bool.false_eq_true, if_false]
      split
      · exact ih r' (by omega) _ _ _
      · split
        · exact ih _ (by simp; omega) _ _ _
        · split
          · exact ih _ (by simp; omega) _ _ _
          · split
            · split
              · rfl
              · exact ih _ (by simp; omega) _ _ _
            · exact ih _ (by simp; omega) _ _ _





































































































































































































































































































































































































































































def place (c : UInt8) (s : Str) : Int := idxOf (scan (· == c) (fun _ => false) 0 0 0 s).1












end Go.Proofs.YteiickhgmmjcmaaGreatDoor.Sx
