/-
  What WildStars and WildQuoted lay and find, plain.
-/
import Derived.Test.YtbnejfgdojdbdaaDoorW16
import Derived.Test.YtbnejfgdojdbdaaDoorV14
set_option linter.unusedVariables false
set_option linter.unusedSimpArgs false
set_option maxRecDepth 100000
namespace Go.Proofs.YtbnejfgdojdbdaaDoor.Sx
open Go Go.RowKit Go.Proofs

/-! ### WildQuoted -/
def qC (c : Nat) : Str := if c = 0 then [42] else if c = 1 then [63] else [91]
def qL (c : Nat) : List EntD := [([97] ++ qC c ++ [98], false, []), ([120, 47, 97] ++ qC c ++ [98], false, []), ([97, 120, 98], false, [])]
def qW1 (c : Nat) : Str := [97, 92] ++ qC c ++ [98]
def qW2 (c : Nat) : Str := [63, 47, 97, 92] ++ qC c ++ [98]
def qW3 (c : Nat) : Str := [120, 47, 97] ++ qC c ++ [98]
def quoChk (c : Nat) : Bool :=
  decide ((foundE (fsOf (qL c)) (qW1 c)).length ≤ 100) && decide ((foundE (fsOf (qL c)) (qW2 c)).length ≤ 100) && (expE (fsOf (qL c)) (qW1 c) == [qW1 c]) && (expE (fsOf (qL c)) (qW2 c) == [qW3 c])
theorem quo_all : (List.range 3).all quoChk = true := by kernel_rfl
structure QuoFacts (c : Nat) : Prop where
  n1 : (foundF (fsOf (qL c)) (qW1 c)).length ≤ 1099511627776
  n2 : (foundF (fsOf (qL c)) (qW2 c)).length ≤ 1099511627776
  e1 : expF (fsOf (qL c)) (qW1 c) = [qW1 c]
  e2 : expF (fsOf (qL c)) (qW2 c) = [qW3 c]
theorem quo_facts {c : Nat} (h : c < 3) : QuoFacts c := by
  have h1 := List.all_eq_true.1 quo_all c (List.mem_range.2 h)
  unfold quoChk at h1
  simp only [Bool.and_eq_true, decide_eq_true_eq, beq_iff_eq] at h1
  obtain ⟨⟨⟨h1, h2⟩, h3⟩, h4⟩ := h1
  exact ⟨by rw [foundF_E]; omega, by rw [foundF_E]; omega, by rw [expF_E]; exact h3, by rw [expF_E]; exact h4⟩

/-! ### WildStars -/
def dN (a : Nat) : Str := [100, UInt8.ofNat (48 + a)]
def fN (b : Nat) : Str := [102, UInt8.ofNat (48 + b), 46, 99]
def rowG (j a : Nat) : List EntD := (List.range j).map fun b => (dN a ++ [47] ++ fN b, false, [])
def esG (k j : Nat) : List EntD := (List.range k).flatMap (rowG j)
def txtG : Str := [100, 46, 116, 120, 116]
def gridL (k j : Nat) : List EntD := esG k j ++ [(txtG, false, [])]
def LG (k j : Nat) : List Fent := ([], true, []) :: (List.range k).flatMap (fun a => ([dN a], true, []) :: (List.range j).map fun b => ([dN a, fN b], false, [])) ++ [([txtG], false, [])]
def s1 : Str := [100, 48, 47, 42]
def s2 : Str := [42, 47, 42, 46, 99]
def s3 : Str := [47, 100, 63, 47, 102, 42]
def s4 : Str := [100, 42]
def s5 : Str := [100, 42, 47]
def s6 : Str := [42, 47, 102, 48, 46, 99]
def s7 : Str := [100, 46, 116, 120, 116, 47, 42]
def s8 : Str := [100, 48, 47, 102, 48, 46, 99]
def s9 : Str := [100, 48, 47, 110, 111, 110, 101]
def starChk (k j : Nat) : Bool :=
  (fsOf (gridL k j) == LG k j) && ([s1, s2, s3, s4, s5, s6, s7, s8, s9].all fun w => decide ((foundE (LG k j) w).length ≤ 100)) &&
  (expE (LG k j) s1).length == j && (expE (LG k j) s1).head? == some s8 && (expE (LG k j) s2).length == k * j && (expE (LG k j) s3).length == k * j && (expE (LG k j) s4).length == k + 1 &&
  (expE (LG k j) s5).length == k && (expE (LG k j) s6).length == k && (expE (LG k j) s7).length == 0 && expE (LG k j) s8 == [s8] && (expE (LG k j) s9).length == 0
theorem star_all : ((List.range 6).all fun a => (List.range 6).all fun b => starChk (a + 1) (b + 1)) = true := by kernel_rfl
structure StarFacts (k j : Nat) : Prop where
  fs : fsOf (gridL k j) = LG k j
  n : ∀ w ∈ [s1, s2, s3, s4, s5, s6, s7, s8, s9], (foundF (LG k j) w).length ≤ 1099511627776
  e1 : (expF (LG k j) s1).length = j
  h1 : (expF (LG k j) s1)[0]? = some s8
  e2 : (expF (LG k j) s2).length = k * j
  e3 : (expF (LG k j) s3).length = k * j
  e4 : (expF (LG k j) s4).length = k + 1
  e5 : (expF (LG k j) s5).length = k
  e6 : (expF (LG k j) s6).length = k
  e7 : (expF (LG k j) s7).length = 0
  e8 : expF (LG k j) s8 = [s8]
  e9 : (expF (LG k j) s9).length = 0
theorem star_facts {k j : Nat} (hk : 1 ≤ k) (hk2 : k ≤ 6) (hj : 1 ≤ j) (hj2 : j ≤ 6) : StarFacts k j := by
  have h0 := List.all_eq_true.1 (List.all_eq_true.1 star_all (k - 1) (List.mem_range.2 (by omega))) (j - 1) (List.mem_range.2 (by omega))
  rw [show k - 1 + 1 = k by omega, show j - 1 + 1 = j by omega] at h0
  unfold starChk at h0
  simp only [Bool.and_eq_true, beq_iff_eq] at h0
  obtain ⟨⟨⟨⟨⟨⟨⟨⟨⟨⟨⟨f, n⟩, e1⟩, g1⟩, e2⟩, e3⟩, e4⟩, e5⟩, e6⟩, e7⟩, e8⟩, e9⟩ := h0
  simp only [← expF_E] at e1 g1 e2 e3 e4 e5 e6 e7 e8 e9
  refine ⟨f, fun w hw => ?_, e1, by rw [← List.head?_eq_getElem?]; exact g1, e2, e3, e4, e5, e6, e7, e8, e9⟩
  have := of_decide_eq_true (List.all_eq_true.1 n w hw)
  rw [foundF_E]
  omega
end Go.Proofs.YtbnejfgdojdbdaaDoor.Sx
