/-
  Short names for symbolic values, and small laws on numbers and bytes.
-/
import Derived.Test.YteiickhgmmjcmaaGreatDoorSxM
set_option linter.unusedVariables false
set_option linter.unusedSimpArgs false
namespace Go.Proofs.YteiickhgmmjcmaaGreatDoor.Sx
open Go Go.RowKit

abbrev vI (x : Int) : SV := .val (.int .i64) x
abbrev vY (x : Int) : SV := .val (.int .u8) x
abbrev vB (x : Bool) : SV := .val .bool x
abbrev vS (s : Str) : SV := .val .str s
abbrev vL (t : Ty) (l : List t.D) : SV := .val (.list t) l
abbrev tStrs : Ty := .list .str
abbrev mk (env : List (Nat × SV)) (tab : List Ent) : St := ⟨env.map fun x => (x.1, [], x.2), tab⟩

theorem w64 {x : Int} (h1 : -9223372036854775808 ≤ x) (h2 : x ≤ 9223372036854775807) : IntKind.i64.wrap x = x := by
  rw [IntKind.wrap_i64]; omega
theorem w64n {x : Int} {y : Nat} (h : x = (y : Int)) (h2 : y ≤ 9223372036854775807) : IntKind.i64.wrap x = (y : Int) := by
  rw [w64 (by omega) (by omega), h]

theorem inRn {i n : Nat} (h : i < n) : inR (i : Int) n := ⟨by omega, by omega⟩
def isBlank (c : UInt8) : Bool := c == 32 || c == 9 || c == 10
theorem byteAt_get (s : Str) (i : Nat) (h : i < s.length) : byteAt s (i : Int) = ((s[i].toNat : Nat) : Int) := by
  simp [byteAt, List.getD_eq_getElem?_getD, List.getElem?_eq_getElem h]
theorem byteAt_cons (c : UInt8) (s : Str) : byteAt (c :: s) 0 = ((c.toNat : Nat) : Int) := rfl
theorem byteAt_lt (s : Str) (i : Int) : 0 ≤ byteAt s i ∧ byteAt s i < 256 := by
  unfold byteAt
  have := (s.getD i.toNat 0).toNat_lt
  omega
theorem byte_beq (c d : UInt8) : (((c.toNat : Nat) : Int) == ((d.toNat : Nat) : Int)) = (c == d) := by
  rw [Bool.eq_iff_iff]
  simp only [beq_iff_eq]
  constructor
  · intro h; exact UInt8.toNat_inj.1 (by omega)
  · rintro rfl; rfl
theorem isBlank_int (c : UInt8) : (((c.toNat : Nat) : Int) == 32 || ((c.toNat : Nat) : Int) == 9 || ((c.toNat : Nat) : Int) == 10) = isBlank c := by
  have h1 := byte_beq c 32
  have h2 := byte_beq c 9
  have h3 := byte_beq c 10
  simp only [isBlank, ← h1, ← h2, ← h3]
  rfl
theorem numStr_strBytes (s : Str) : numStr (strBytes s) = s := by
  induction s with
  | nil => rfl
  | cons c s ih =>
    simp only [numStr, strBytes, List.map_cons, List.map_map] at ih ⊢
    rw [ih]
    simp
theorem strBytes_append (a b : Str) : strBytes (a ++ b) = strBytes a ++ strBytes b := by simp [strBytes]
theorem strBytes_length (a : Str) : (strBytes a).length = a.length := by simp [strBytes]
theorem nth_get' {t : Ty} (l : List t.D) (i : Nat) (h : i < l.length) : nth l (i : Int) = l[i] := by
  simp [nth, List.getD_eq_getElem?_getD, List.getElem?_eq_getElem h]
theorem byteAt_last (y : Str) (c : UInt8) : byteAt (y ++ [c]) (y.length : Int) = ((c.toNat : Nat) : Int) := by
  rw [byteAt_get _ _ (by simp)]
  simp
end Go.Proofs.YteiickhgmmjcmaaGreatDoor.Sx
