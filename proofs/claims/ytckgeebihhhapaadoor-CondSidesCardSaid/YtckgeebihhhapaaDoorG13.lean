/-
  CondSides: the texts.
-/
import Derived.Test.YtckgeebihhhapaaDoorG12
set_option linter.unusedVariables false
set_option linter.unusedSimpArgs false
set_option maxRecDepth 20000
set_option maxHeartbeats 4000000
namespace Go.Proofs.YtckgeebihhhapaaDoor.Sx
open Go Go.RowKit Go.Proofs

def ifW (nt : Bool) : Str := bif nt then wIfneq else wIfeq
def sidesT (w x y : Str) : List Str := [w ++ [32, 40] ++ x ++ [44] ++ y ++ [41], w ++ [40] ++ x ++ [32, 44, 32, 32] ++ y ++ [41], w ++ [32, 39] ++ x ++ [39, 32, 34] ++ y ++ [34],
  w ++ [34] ++ x ++ [34, 39] ++ y ++ [39], [32, 32] ++ w ++ [32, 32, 40] ++ x ++ [44] ++ y ++ [41, 32, 32], [101, 108, 115, 101, 32] ++ w ++ [32, 40] ++ x ++ [44] ++ y ++ [41]]
def sideT (k : Nat) (nt : Bool) (x y : Str) : Str := nth (t := .str) (sidesT (ifW nt) x y) (k : Int)
def sideOk (k : Nat) (nt : Bool) (x y : Str) : Bool :=
  readF (sideT k nt x y) == ((k == 5, ifW nt, x, y), true, false) && (readF (sideT k nt x y ++ [32, 120])).2 == (true, true) && decide ((sideT k nt x y).length ≤ 100)
theorem side_all : ((List.range 6).all fun k => [true, false].all fun nt => tblWord.all fun x => tblWord.all fun y => sideOk k nt x y) = true := by kernel_rfl
theorem side_at {k : Nat} (hk : k < 6) (nt : Bool) (a b : Int) : readF (sideT k nt (word a) (word b)) = ((k == 5, ifW nt, word a, word b), true, false) ∧ (readF (sideT k nt (word a) (word b) ++ [32, 120])).2 = (true, true) ∧ (sideT k nt (word a) (word b)).length ≤ 100 := by
  have h1 := all_range (f := fun k => [true, false].all fun nt => tblWord.all fun x => tblWord.all fun y => sideOk k nt x y) side_all hk
  have h2 := all_mem (f := fun nt => tblWord.all fun x => tblWord.all fun y => sideOk k nt x y) (x := nt) h1 (by cases nt <;> simp)
  have h3 := all_mem (f := fun x => tblWord.all fun y => sideOk k nt x y) h2 (word_mem a)
  have h4 : sideOk k nt (word a) (word b) = true := all_mem (f := fun y => sideOk k nt (word a) y) h3 (word_mem b)
  unfold sideOk at h4
  rw [Bool.and_eq_true, Bool.and_eq_true, decide_eq_true_eq, beq_iff_eq, beq_iff_eq] at h4
  exact ⟨h4.1.1, h4.1.2, h4.2⟩
end Go.Proofs.YtckgeebihhhapaaDoor.Sx
