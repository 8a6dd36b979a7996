/-
  Numbers as they are handed in, texts of a table.
-/
import Derived.Test.YteiickhgmmjcmaaGreatDoorF1
set_option linter.unusedVariables false
set_option linter.unusedSimpArgs false
set_option maxRecDepth 20000
set_option maxHeartbeats 4000000
namespace Go.Proofs.YteiickhgmmjcmaaGreatDoor.Sx
open Go Go.RowKit Go.Proofs

/-- Numbers as they are handed in. -/
def okInts (ns : List Int) : Prop := ∀ v ∈ ns, -9223372036854775808 ≤ v ∧ v ≤ 9223372036854775807
theorem okInts_nth {ns : List Int} (h : okInts ns) (i : Nat) : -9223372036854775808 ≤ nth (t := .int .i64) ns (i : Int) ∧ nth (t := .int .i64) ns (i : Int) ≤ 9223372036854775807 := by
  simp only [nth, Int.toNat_natCast, List.getD_eq_getElem?_getD]
  cases hi : ns[i]? with
  | none => simp only [Option.getD_none]; decide
  | some v => exact h v (List.mem_of_getElem? hi)
theorem nth_le (l : List Str) (i : Int) (b : Nat) (h : ∀ x ∈ l, x.length ≤ b) : (nth (t := .str) l i : Str).length ≤ b := by
  simp only [nth, List.getD_eq_getElem?_getD]
  cases hi : l[i.toNat]? with
  | none => exact Nat.zero_le _
  | some v => exact h v (List.mem_of_getElem? hi)
end Go.Proofs.YteiickhgmmjcmaaGreatDoor.Sx
