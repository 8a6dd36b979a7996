/-
  words.Strip; the laws on words: what they ask.
-/
import Derived.Test.YteiickhgmmjcmaaGreatDoorF15
import Derived.Test.YteiickhgmmjcmaaGreatDoorF9
set_option linter.unusedVariables false
set_option linter.unusedSimpArgs false
set_option maxRecDepth 20000
set_option maxHeartbeats 4000000
namespace Go.Proofs.YteiickhgmmjcmaaGreatDoor.Sx
open Go Go.RowKit Go.Proofs

theorem splitW_len (s : Str) : (splitW s).length ≤ s.length + 1 := spl_length s []

































theorem joinW_le (l : List Str) (m : Nat) (h : ∀ x ∈ l, x.length ≤ m) : (joinW l).length ≤ l.length * (m + 1) := by
  induction l with
  | nil => simp [joinW]
  | cons x l ih =>
    have h1 := h x (by simp)
    have h2 := ih (fun y hy => h y (by simp [hy]))
    have h3 : (joinW (x :: l)).length ≤ x.length + 1 + (joinW l).length := by
      cases l with
      | nil => simp [joinW]
      | cons y l => simp [joinW]; omega
    simp only [List.length_cons, Nat.add_mul] at *
    omega















































































end Go.Proofs.YteiickhgmmjcmaaGreatDoor.Sx
