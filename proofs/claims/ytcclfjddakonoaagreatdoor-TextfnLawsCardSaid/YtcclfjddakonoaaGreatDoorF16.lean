/-
  words.Strip; the laws on words: what they ask.
-/
import Derived.Test.YtcclfjddakonoaaGreatDoorF15
import Derived.Test.YtcclfjddakonoaaGreatDoorF9
set_option linter.unusedVariables false
set_option linter.unusedSimpArgs false
set_option maxRecDepth 20000
set_option maxHeartbeats 4000000
namespace Go.Proofs.YtcclfjddakonoaaGreatDoor.Sx
open Go Go.RowKit Go.Proofs

theorem splitW_len (s : Str) : (splitW s).length ≤ s.length + 1 := spl_length s []

theorem c_words_Strip (s : Str) (hs : s.length ≤ 4294967280) : CallV Tryz.prog 49 [vS s] (vS (strip s)) := by
  have h1 := joinW_splitW_le s
  have h2 := splitW_len s
  refine CallV.of Tryz.func49 (by kernel_rfl) rfl Tryz.ntmps49 (by simp) rfl fun cx hB => ?_
  refine Tr.seq ?_; refine Tr.region ?_; refine TrL.quiets 1 rfl (by exact True.intro) ?_; refine TrL.nil ?_; refine Tr.seq ?_; refine Tr.region ?_; refine TrL.quiets 1 rfl (by exact True.intro) ?_; refine TrL.callV rfl rfl rfl rfl rfl (by apply (c_Split) <;> first | assumption | omega | (simp only [cut, List.length_take, List.length_drop, Int.toNat_natCast]; omega)) ?_; refine TrL.callV rfl rfl rfl rfl rfl (by apply (c_words_Join) <;> first | assumption | omega | (simp only [cut, List.length_take, List.length_drop, Int.toNat_natCast]; omega)) ?_; refine TrL.quiets 1 rfl (by exact True.intro) ?_; refine TrL.nil ?_; refine Tr.ret ?_
  refine retQ.of rfl ?_
  rfl

























theorem joinW_le (l : List Str) (m : Nat) (h : ∀ x ∈ l, x.length ≤ m) : (joinW l).length ≤ l.length * (m + 1) := by
  induction l with
  | nil => simp [joinW]
  | cons x l ih =>
    have h1 := h x (by simp)
    have h2 := ih (fun y hy => h y (by simp [hy]))
    have h3 : (joinW (x :: l)).length ≤ x.length + 1 + (joinW l).length := by
      cases l with
      | nil => simp [joinW]
      | cons y l => simp [joinW]; omega
    simp only [List.length_cons, Nat.add_mul] at *
    omega















































































end Go.Proofs.YtcclfjddakonoaaGreatDoor.Sx
