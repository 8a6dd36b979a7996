/-
  WildStars.
-/
import Derived.Test.YtbnejfgdojdbdaaDoorW17
set_option linter.unusedVariables false
set_option linter.unusedSimpArgs false
set_option maxRecDepth 20000
set_option maxHeartbeats 4000000
namespace Go.Proofs.YtbnejfgdojdbdaaDoor.Sx
open Go Go.RowKit Go.Proofs

theorem dig1 {n : Nat} (h : n < 10) : digN n = [UInt8.ofNat (48 + n)] := by rw [digN, if_pos h]
def rowT (b a : Nat) : List EntD := (List.range b).map fun b => (dN a ++ [47] ++ fN b, false, [])
theorem rowT_succ (b a : Nat) : rowT (b + 1) a = rowT b a ++ [(dN a ++ [47] ++ fN b, false, [])] := by
  unfold rowT
  rw [List.range_succ, List.map_append]
  rfl
theorem esG_succ (a j : Nat) : esG (a + 1) j = esG a j ++ rowT j a := by
  unfold esG
  rw [List.range_succ, List.flatMap_append, List.flatMap_singleton]
  rfl
theorem rowT_len (b a : Nat) : (rowT b a).length = b := by simp [rowT]
theorem esG_len (a j : Nat) : (esG a j).length = a * j := by
  induction a with
  | zero => simp [esG]
  | succ a ih => rw [esG_succ, List.length_append, ih, rowT_len, Nat.succ_mul]
theorem gridL_each (k j : Nat) : ∀ e ∈ gridL k j, e.1.length ≤ 1000 := by
  intro e he
  unfold gridL esG rowG at he
  rcases List.mem_append.1 he with he | he
  · obtain ⟨a, _, he⟩ := List.mem_flatMap.1 he
    obtain ⟨b, _, rfl⟩ := List.mem_map.1 he
    simp [dN, fN]
  · obtain rfl := List.mem_singleton.1 he
    simp [txtG]
theorem c_WildStars (n m : Int) (h1 : -9223372036854775808 ≤ n) (h2 : n ≤ 9223372036854775807) (h3 : -9223372036854775808 ≤ m) (h4 : m ≤ 9223372036854775807) : CallV Tryd.prog 3 [vI n, vI m] (vB true) := by
  have hk0 : 0 ≤ n % 6 := Int.emod_nonneg _ (by decide)
  have hk1 : n % 6 < 6 := Int.emod_lt_of_pos _ (by decide)
  have hj0 : 0 ≤ m % 6 := Int.emod_nonneg _ (by decide)
  have hj1 : m % 6 < 6 := Int.emod_lt_of_pos _ (by decide)
  obtain ⟨k, hk⟩ : ∃ k : Nat, 1 + n % 6 = k := ⟨(1 + n % 6).toNat, by omega⟩
  obtain ⟨j, hj⟩ : ∃ j : Nat, 1 + m % 6 = j := ⟨(1 + m % 6).toNat, by omega⟩
  have hs := star_facts (k := k) (j := j) (by omega) (by omega) (by omega) (by omega)
  have hk2 : 1 ≤ k ∧ k ≤ 6 := by omega
  have hj2 : 1 ≤ j ∧ j ≤ 6 := by omega
  have hkj : k * j ≤ 36 := Nat.mul_le_mul hk2.2 hj2.2
  refine CallV.of Tryd.func3 (by kernel_rfl) rfl Tryd.ntmps3 (by simp) rfl fun cx hB => ?_
  have hB3 : ∀ i, cx.B i = true → i < 3 := fun i h => by have := hB i h; omega
  have hB1 : ∀ i, cx.B i = true → i < 1 := fun i h => by have := hB i h; omega
  refine Tr.seq ?_; refine Tr.region ?_; refine TrL.quiets 1 rfl (by exact True.intro) ?_; refine TrL.nil ?_; refine Tr.seq ?_; refine Tr.region ?_; refine TrL.quiets 1 rfl (by exact True.intro) ?_
  first | refine TrL.callV rfl rfl rfl rfl rfl (c_Place n 6 (by decide) (by decide) h1 h2) ?_ | refine TrD.callV rfl rfl rfl rfl rfl (c_Place n 6 (by decide) (by decide) h1 h2) rfl ?_
  refine TrL.quiets 2 rfl (by exact True.intro) ?_
  first | refine TrL.callV rfl rfl rfl rfl rfl (c_Place m 6 (by decide) (by decide) h3 h4) ?_ | refine TrD.callV rfl rfl rfl rfl rfl (c_Place m 6 (by decide) (by decide) h3 h4) rfl ?_
  refine TrL.quiets 3 rfl (by exact True.intro) ?_; refine TrL.nil ?_
  change Tr _ _ _ _ _ _
  refine Tr.is 5 (sv' := vI k) rfl (by rw [w64 (by omega) (by omega), hk]) ?_
  refine Tr.is 6 (sv' := vI j) rfl (by rw [w64 (by omega) (by omega), hj]) ?_
  refine Tr.keep [5, 6] 0 hB (st' := ⟨[(5, [], vI k), (6, [], vI j)], []⟩) rfl ?_
  refine Tr.seq ?_; refine Tr.region ?_; refine TrL.quiets 1 rfl (by exact True.intro) ?_; refine TrL.nil ?_; refine Tr.seq ?_; refine Tr.seq ?_; refine Tr.region ?_; refine TrL.quiets 1 rfl (by exact True.intro) ?_; refine TrL.nil ?_; refine Tr.block ?_
  refine Tr.nilRow 7 26 eTy rfl ?_
  refine Tr.loop (fun a : Nat => ⟨[(5, [], vI k), (6, [], vI j), (7, [], .own 0), (8, [], vI a)], [.gs 26 eTy (esG a j)]⟩) (fun a => a ≤ k) (fun a => k - a) 0 [5, 6, 7, 8] 1 hB1 rfl (Nat.zero_le _) fun a ha => ?_
  refine Tr.seq ?_; refine Tr.seq ?_; refine Tr.region ?_; refine TrL.quiets 3 rfl (by exact True.intro) ?_; refine TrL.nil ?_
  refine Tr.cond rfl (fun c1 => ?_) (fun c1 => ?_)
  · have ha1 : a < k := by simpa using c1
    have hal : a * j ≤ 30 := Nat.mul_le_mul (show a ≤ 5 by omega) hj2.2
    have hel := esG_len a j
    refine Tr.skip ?_; refine Tr.seq ?_; refine Tr.block ?_; refine Tr.seq ?_; refine Tr.region ?_; refine TrL.quiets 1 rfl (by exact True.intro) ?_; refine TrL.nil ?_; refine Tr.block ?_
    refine Tr.loop (fun b : Nat => ⟨[(5, [], vI k), (6, [], vI j), (7, [], .own 0), (8, [], vI a), (9, [], vI b)], [.gs 26 eTy (esG a j ++ rowT b a)]⟩) (fun b => b ≤ j) (fun b => j - b) 0 [5, 6, 7, 8, 9] 1 hB1 (by rw [show rowT 0 a = [] from rfl, List.append_nil]; rfl) (Nat.zero_le _) fun b hb => ?_
    refine Tr.seq ?_; refine Tr.seq ?_; refine Tr.region ?_; refine TrL.quiets 3 rfl (by exact True.intro) ?_; refine TrL.nil ?_
    refine Tr.cond rfl (fun c2 => ?_) (fun c2 => ?_)
    · have hb1 : b < j := by simpa using c2
      have hd1 := c_Digits a (by omega)
      rw [dig1 (by omega)] at hd1
      have hd2 := c_Digits b (by omega)
      rw [dig1 (by omega)] at hd2
      have hrl := rowT_len b a
      refine Tr.skip ?_; refine Tr.seq ?_; refine Tr.block ?_; refine Tr.region ?_; refine TrL.quiets 2 rfl (by exact True.intro) ?_
      first | refine TrL.callV rfl rfl rfl rfl rfl hd1 ?_ | refine TrD.callV rfl rfl rfl rfl rfl hd1 rfl ?_
      refine TrL.quiets 3 rfl (by (simp (disch := omega) only [allOf, impO, imp, inR, loOk, and_true, w64, List.length_set, List.length_cons, List.length_nil, cut, List.length_take, List.length_drop, List.length_append, Int.toNat_natCast, Option.getD_none, Option.getD_some, Ty.D, true_and, decide_eq_true_eq, decide_eq_false_iff_not, Bool.and_eq_true, Bool.or_eq_false_iff]; omega)) ?_
      first | refine TrL.callV rfl rfl rfl rfl rfl hd2 ?_ | refine TrD.callV rfl rfl rfl rfl rfl hd2 rfl ?_
      refine TrL.quiets 3 rfl (by (simp (disch := omega) only [allOf, impO, imp, inR, loOk, and_true, w64, List.length_set, List.length_cons, List.length_nil, cut, List.length_take, List.length_drop, List.length_append, Int.toNat_natCast, Option.getD_none, Option.getD_some, Ty.D, true_and, decide_eq_true_eq, decide_eq_false_iff_not, Bool.and_eq_true, Bool.or_eq_false_iff]; omega)) ?_; refine TrL.eff (effLit_sound rfl) (by exact True.intro) ?_; refine TrL.eff (effAppend_sound rfl) ?_ ?_
      · show (esG a j ++ rowT b a).length + 1 ≤ 1099511627776
        rw [List.length_append]
        omega
      refine TrL.quiets 1 rfl (by exact True.intro) ?_; refine TrL.nil ?_; refine Tr.region ?_; refine TrL.quiets 3 rfl (by exact True.intro) ?_; refine TrL.nil ?_
      refine ⟨b + 1, hb1, by dsimp only; omega, ?_⟩
      refine Eq.trans (b := (⟨[(5, [], vI k), (6, [], vI j), (7, [], .own 0), (8, [], vI a), (9, [], vI (IntKind.i64.wrap ((b : Int) + 1)))], [.gs 26 eTy (esG a j ++ rowT b a ++ [(dN a ++ [47] ++ fN b, false, [])])]⟩ : St)) rfl ?_
      dsimp only
      rw [rowT_succ, ← List.append_assoc, w64n (y := b + 1) (by omega) (by omega)]
      rfl
    · have hb1 : b = j := by
        have : ¬ (b : Int) < j := by simpa using c2
        omega
      subst hb1
      refine Tr.exit ?_; refine Tr.region ?_; refine TrL.quiets 3 rfl (by exact True.intro) ?_; refine TrL.nil ?_
      refine ⟨a + 1, ha1, by dsimp only; omega, ?_⟩
      refine Eq.trans (b := (⟨[(5, [], vI k), (6, [], vI b), (7, [], .own 0), (8, [], vI (IntKind.i64.wrap ((a : Int) + 1)))], [.gs 26 eTy (esG a b ++ rowT b a)]⟩ : St)) rfl ?_
      dsimp only
      rw [esG_succ, w64n (y := a + 1) (by omega) (by omega)]
  have ha1 : a = k := by
    have : ¬ (a : Int) < k := by simpa using c1
    omega
  subst ha1
  have hel := esG_len a j
  refine Tr.exit ?_; refine Tr.seq ?_; refine Tr.region ?_; refine TrL.quiets 2 rfl (by exact True.intro) ?_; refine TrL.eff (effLit_sound rfl) (by exact True.intro) ?_; refine TrL.eff (effAppend_sound rfl) ?_ ?_
  · show (esG a j).length + 1 ≤ 1099511627776
    omega
  refine TrL.quiets 1 rfl (by exact True.intro) ?_; refine TrL.nil ?_; refine Tr.seq ?_; refine Tr.region ?_; refine TrL.quiets 1 rfl (by exact True.intro) ?_
  refine TrL.keep [5, 6, 44] 1 hB1 (st' := ⟨[(5, [], vI a), (6, [], vI j), (44, [], .own 0)], [.gs 26 eTy (gridL a j)]⟩) rfl ?_
  have hpl := gridL_each a j
  have hgl : (gridL a j).length ≤ 1099511627 := by
    unfold gridL
    rw [List.length_append, hel, List.length_singleton]
    omega
  obtain ⟨hfs, hn, e1, g1, e2, e3, e4, e5, e6, e7, e8, e9⟩ := hs
  have hok : FsOk (LG a j) := by rw [← hfs]; exact fsOf_ok _
  have hlim : FsLim (LG a j) := by rw [← hfs]; exact fsOf_lim hpl
  have hB4 : ∀ i, cx.B i = true → i < 4 := fun i h => by have := hB i h; omega
  refine TrL.callT [] rfl rfl rfl rfl rfl (c_NewL (gridL a j) hgl hpl) rfl rfl rfl ?_
  rw [hfs]
  generalize hR1 : expF (LG a j) s1 = R1 at e1 g1
  generalize hR2 : expF (LG a j) s2 = R2 at e2
  generalize hR3 : expF (LG a j) s3 = R3 at e3
  generalize hR4 : expF (LG a j) s4 = R4 at e4
  generalize hR5 : expF (LG a j) s5 = R5 at e5
  generalize hR6 : expF (LG a j) s6 = R6 at e6
  generalize hR7 : expF (LG a j) s7 = R7 at e7
  generalize hR9 : expF (LG a j) s9 = R9 at e9
  refine TrL.quiets 1 rfl (by exact True.intro) ?_; refine TrL.nil ?_
  change Tr _ _ _ _ _ _
  refine Tr.keep [5, 6, 10] 4 hB4 (st' := ⟨[(5, [], vI a), (6, [], vI j), (10, [], .ptr 3 0)], [.gs 26 eTy (gridL a j), .res (dmRes (dirsOf (LG a j))), .res (fmRes (filesOf (LG a j))), .box 40 [.mp 1, .mp 2]]⟩) rfl ?_
  refine Tr.seq ?_; refine Tr.region ?_; refine TrL.quiets 1 rfl (by exact True.intro) ?_
  refine TrL.callT [3, 1, 2] rfl rfl rfl rfl rfl (c_Expand hok hlim s1 (by decide) (hn s1 (by simp))) rfl rfl rfl ?_
  rw [hR1]
  refine TrL.quiets 1 rfl (by exact True.intro) ?_; refine TrL.nil ?_
  change Tr _ _ _ _ _ _
  refine Tr.keep [5, 6, 10, 11] 4 hB4 (st' := ⟨[(5, [], vI a), (6, [], vI j), (10, [], .ptr 3 0), (11, [], vL .str R1)], [.gs 26 eTy (gridL a j), .res (dmRes (dirsOf (LG a j))), .res (fmRes (filesOf (LG a j))), .box 40 [.mp 1, .mp 2]]⟩) rfl ?_
  refine Tr.seq ?_; refine Tr.region ?_; refine TrL.quiets 1 rfl (by exact True.intro) ?_
  refine TrL.callT [3, 1, 2] rfl rfl rfl rfl rfl (c_Expand hok hlim s2 (by decide) (hn s2 (by simp))) rfl rfl rfl ?_
  rw [hR2]
  refine TrL.quiets 7 rfl (by exact True.intro) ?_
  have hwm : IntKind.i64.wrap ((a : Int) * j) = ((a * j : Nat) : Int) := by
    rw [← Int.natCast_mul]
    exact w64 (by omega) (by omega)
  have hwp : IntKind.i64.wrap ((a : Int) + 1) = ((a + 1 : Nat) : Int) := w64n (by omega) (by omega)
  have b2 : ((R2.length : Int) == IntKind.i64.wrap ((a : Int) * j)) = true := by rw [e2, hwm]; exact beq_self_eq_true _
  have b3 : ((R3.length : Int) == IntKind.i64.wrap ((a : Int) * j)) = true := by rw [e3, hwm]; exact beq_self_eq_true _
  have b1 : ((R1.length : Int) == (j : Int)) = true := by rw [e1]; exact beq_self_eq_true _
  have b4 : ((R4.length : Int) == IntKind.i64.wrap ((a : Int) + 1)) = true := by rw [e4, hwp]; exact beq_self_eq_true _
  have b5 : ((R5.length : Int) == (a : Int)) = true := by rw [e5]; exact beq_self_eq_true _
  have b6 : ((R6.length : Int) == (a : Int)) = true := by rw [e6]; exact beq_self_eq_true _
  have b7 : ((R7.length : Int) == 0) = true := by rw [e7]; rfl
  have bH : (nth (t := .str) R1 0 == s8) = true := by
    have h0 : 0 < R1.length := by omega
    rw [List.getElem?_eq_getElem h0] at g1
    have h1 : nth (t := .str) R1 ((0 : Nat) : Int) = R1[0] := nth_get' (t := .str) _ _ h0
    rw [show nth (t := .str) R1 0 = R1[0] from h1, Option.some.inj g1]
    exact beq_self_eq_true _
  have b9 : ((R9.length : Int) == 0) = true := by rw [e9]; rfl
  refine TrL.is 55 (sv' := vB true) rfl (congrArg vB b2) ?_
  refine TrL.known 56 rfl rfl ?_
  refine TrL.keep [5, 6, 10, 11, 55, 56] 4 hB4 (st' := ⟨[(5, [], vI a), (6, [], vI j), (10, [], .ptr 3 0), (11, [], vL .str R1), (55, [], vB true), (56, [], .ptr 3 0)], [.gs 26 eTy (gridL a j), .res (dmRes (dirsOf (LG a j))), .res (fmRes (filesOf (LG a j))), .box 40 [.mp 1, .mp 2]]⟩) rfl ?_
  refine TrL.want rfl rfl rfl ?_
  refine TrL.callT [3, 1, 2] rfl rfl rfl rfl rfl (c_Expand hok hlim s3 (by decide) (hn s3 (by simp))) rfl rfl rfl ?_
  rw [hR3]
  refine TrL.keep [5, 6, 10, 11, 55, 57] 4 hB4 (st' := ⟨[(5, [], vI a), (6, [], vI j), (10, [], .ptr 3 0), (11, [], vL .str R1), (55, [], vB true), (57, [], vL .str R3)], [.gs 26 eTy (gridL a j), .res (dmRes (dirsOf (LG a j))), .res (fmRes (filesOf (LG a j))), .box 40 [.mp 1, .mp 2]]⟩) rfl ?_
  refine TrL.quiets 20 rfl (by (simp only [allOf, impO, imp, inR, loOk, and_true]; omega)) ?_
  have h76 : (true && ((R3.length : Int) == IntKind.i64.wrap ((a : Int) * j)) && ((R1.length : Int) == (j : Int)) && (nth (t := .str) R1 0 == s8)) = true := by rw [b3, b1, bH]; rfl
  refine TrL.is 76 (sv' := vB true) rfl (congrArg vB h76) ?_
  refine TrL.known 77 rfl rfl ?_
  refine TrL.keep [5, 6, 10, 76, 77] 4 hB4 (st' := ⟨[(5, [], vI a), (6, [], vI j), (10, [], .ptr 3 0), (76, [], vB true), (77, [], .ptr 3 0)], [.gs 26 eTy (gridL a j), .res (dmRes (dirsOf (LG a j))), .res (fmRes (filesOf (LG a j))), .box 40 [.mp 1, .mp 2]]⟩) rfl ?_
  refine TrL.want rfl rfl rfl ?_
  refine TrL.callT [3, 1, 2] rfl rfl rfl rfl rfl (c_Expand hok hlim s4 (by decide) (hn s4 (by simp))) rfl rfl rfl ?_
  rw [hR4]
  refine TrL.keep [5, 6, 10, 76, 78] 4 hB4 (st' := ⟨[(5, [], vI a), (6, [], vI j), (10, [], .ptr 3 0), (76, [], vB true), (78, [], vL .str R4)], [.gs 26 eTy (gridL a j), .res (dmRes (dirsOf (LG a j))), .res (fmRes (filesOf (LG a j))), .box 40 [.mp 1, .mp 2]]⟩) rfl ?_
  refine TrL.quiets 7 rfl (by exact True.intro) ?_
  refine TrL.is 84 (sv' := vB true) rfl (congrArg vB (show (true && _) = true by rw [b4]; rfl)) ?_
  refine TrL.known 85 rfl rfl ?_
  refine TrL.keep [5, 6, 10, 84, 85] 4 hB4 (st' := ⟨[(5, [], vI a), (6, [], vI j), (10, [], .ptr 3 0), (84, [], vB true), (85, [], .ptr 3 0)], [.gs 26 eTy (gridL a j), .res (dmRes (dirsOf (LG a j))), .res (fmRes (filesOf (LG a j))), .box 40 [.mp 1, .mp 2]]⟩) rfl ?_
  refine TrL.want rfl rfl rfl ?_
  refine TrL.callT [3, 1, 2] rfl rfl rfl rfl rfl (c_Expand hok hlim s5 (by decide) (hn s5 (by simp))) rfl rfl rfl ?_
  rw [hR5]
  refine TrL.keep [5, 6, 10, 84, 86] 4 hB4 (st' := ⟨[(5, [], vI a), (6, [], vI j), (10, [], .ptr 3 0), (84, [], vB true), (86, [], vL .str R5)], [.gs 26 eTy (gridL a j), .res (dmRes (dirsOf (LG a j))), .res (fmRes (filesOf (LG a j))), .box 40 [.mp 1, .mp 2]]⟩) rfl ?_
  refine TrL.quiets 6 rfl (by exact True.intro) ?_
  refine TrL.is 91 (sv' := vB true) rfl (congrArg vB (show (true && _) = true by rw [b5]; rfl)) ?_
  refine TrL.known 92 rfl rfl ?_
  refine TrL.keep [5, 6, 10, 91, 92] 4 hB4 (st' := ⟨[(5, [], vI a), (6, [], vI j), (10, [], .ptr 3 0), (91, [], vB true), (92, [], .ptr 3 0)], [.gs 26 eTy (gridL a j), .res (dmRes (dirsOf (LG a j))), .res (fmRes (filesOf (LG a j))), .box 40 [.mp 1, .mp 2]]⟩) rfl ?_
  refine TrL.want rfl rfl rfl ?_
  refine TrL.callT [3, 1, 2] rfl rfl rfl rfl rfl (c_Expand hok hlim s6 (by decide) (hn s6 (by simp))) rfl rfl rfl ?_
  rw [hR6]
  refine TrL.keep [5, 6, 10, 91, 93] 4 hB4 (st' := ⟨[(5, [], vI a), (6, [], vI j), (10, [], .ptr 3 0), (91, [], vB true), (93, [], vL .str R6)], [.gs 26 eTy (gridL a j), .res (dmRes (dirsOf (LG a j))), .res (fmRes (filesOf (LG a j))), .box 40 [.mp 1, .mp 2]]⟩) rfl ?_
  refine TrL.quiets 6 rfl (by exact True.intro) ?_
  refine TrL.is 98 (sv' := vB true) rfl (congrArg vB (show (true && _) = true by rw [b6]; rfl)) ?_
  refine TrL.known 99 rfl rfl ?_
  refine TrL.keep [5, 6, 10, 98, 99] 4 hB4 (st' := ⟨[(5, [], vI a), (6, [], vI j), (10, [], .ptr 3 0), (98, [], vB true), (99, [], .ptr 3 0)], [.gs 26 eTy (gridL a j), .res (dmRes (dirsOf (LG a j))), .res (fmRes (filesOf (LG a j))), .box 40 [.mp 1, .mp 2]]⟩) rfl ?_
  refine TrL.want rfl rfl rfl ?_
  refine TrL.callT [3, 1, 2] rfl rfl rfl rfl rfl (c_Expand hok hlim s7 (by decide) (hn s7 (by simp))) rfl rfl rfl ?_
  rw [hR7]
  refine TrL.keep [5, 6, 10, 98, 100] 4 hB4 (st' := ⟨[(5, [], vI a), (6, [], vI j), (10, [], .ptr 3 0), (98, [], vB true), (100, [], vL .str R7)], [.gs 26 eTy (gridL a j), .res (dmRes (dirsOf (LG a j))), .res (fmRes (filesOf (LG a j))), .box 40 [.mp 1, .mp 2]]⟩) rfl ?_
  refine TrL.quiets 5 rfl (by exact True.intro) ?_
  refine TrL.is 104 (sv' := vB true) rfl (congrArg vB (show (true && _) = true by rw [b7]; rfl)) ?_
  refine TrL.known 105 rfl rfl ?_
  refine TrL.keep [5, 6, 10, 104, 105] 4 hB4 (st' := ⟨[(5, [], vI a), (6, [], vI j), (10, [], .ptr 3 0), (104, [], vB true), (105, [], .ptr 3 0)], [.gs 26 eTy (gridL a j), .res (dmRes (dirsOf (LG a j))), .res (fmRes (filesOf (LG a j))), .box 40 [.mp 1, .mp 2]]⟩) rfl ?_
  refine TrL.want rfl rfl rfl ?_
  refine TrL.callT [3, 1, 2] rfl rfl rfl rfl rfl (c_Expand hok hlim s8 (by decide) (hn s8 (by simp))) rfl rfl rfl ?_
  rw [e8]
  refine TrL.keep [5, 6, 10, 104, 106] 4 hB4 (st' := ⟨[(5, [], vI a), (6, [], vI j), (10, [], .ptr 3 0), (104, [], vB true), (106, [], vL .str [s8])], [.gs 26 eTy (gridL a j), .res (dmRes (dirsOf (LG a j))), .res (fmRes (filesOf (LG a j))), .box 40 [.mp 1, .mp 2]]⟩) rfl ?_
  refine TrL.want rfl rfl rfl ?_
  refine TrL.eff (effLit_sound rfl) (by exact True.intro) ?_
  refine TrL.weak 107 rfl (fix_weak .str [s8]) ?_
  refine TrL.want rfl rfl rfl ?_
  first | refine TrL.callV rfl rfl rfl rfl rfl (c_Same [s8] [s8] (by decide)) ?_ | refine TrD.callV rfl rfl rfl rfl rfl (c_Same [s8] [s8] (by decide)) rfl ?_
  refine TrL.keep [5, 6, 10, 104, 108] 4 hB4 (st' := ⟨[(5, [], vI a), (6, [], vI j), (10, [], .ptr 3 0), (104, [], vB true), (108, [], vB true)], [.gs 26 eTy (gridL a j), .res (dmRes (dirsOf (LG a j))), .res (fmRes (filesOf (LG a j))), .box 40 [.mp 1, .mp 2]]⟩) rfl ?_
  refine TrL.quiets 3 rfl (by exact True.intro) ?_
  refine TrL.is 110 (sv' := vB true) rfl rfl ?_
  refine TrL.known 111 rfl rfl ?_
  refine TrL.keep [5, 6, 10, 110, 111] 4 hB4 (st' := ⟨[(5, [], vI a), (6, [], vI j), (10, [], .ptr 3 0), (110, [], vB true), (111, [], .ptr 3 0)], [.gs 26 eTy (gridL a j), .res (dmRes (dirsOf (LG a j))), .res (fmRes (filesOf (LG a j))), .box 40 [.mp 1, .mp 2]]⟩) rfl ?_
  refine TrL.want rfl rfl rfl ?_
  refine TrL.callT [3, 1, 2] rfl rfl rfl rfl rfl (c_Expand hok hlim s9 (by decide) (hn s9 (by simp))) rfl rfl rfl ?_
  rw [hR9]
  refine TrL.keep [5, 6, 10, 110, 112] 4 hB4 (st' := ⟨[(5, [], vI a), (6, [], vI j), (10, [], .ptr 3 0), (110, [], vB true), (112, [], vL .str R9)], [.gs 26 eTy (gridL a j), .res (dmRes (dirsOf (LG a j))), .res (fmRes (filesOf (LG a j))), .box 40 [.mp 1, .mp 2]]⟩) rfl ?_
  refine TrL.quiets 4 rfl (by exact True.intro) ?_
  refine TrL.is 116 (sv' := vB true) rfl (congrArg vB (show (true && _) = true by rw [b9]; rfl)) ?_
  refine TrL.keep [5, 6, 10, 116] 4 hB4 (st' := ⟨[(5, [], vI a), (6, [], vI j), (10, [], .ptr 3 0), (116, [], vB true)], [.gs 26 eTy (gridL a j), .res (dmRes (dirsOf (LG a j))), .res (fmRes (filesOf (LG a j))), .box 40 [.mp 1, .mp 2]]⟩) rfl ?_
  first | refine TrL.callV rfl rfl rfl rfl rfl c_awake7 ?_ | refine TrD.callV rfl rfl rfl rfl rfl c_awake7 rfl ?_
  refine TrL.quiets 2 rfl (by exact True.intro) ?_; refine TrL.nil ?_; refine Tr.ret ?_
  refine retQ.of rfl ?_
  rfl
end Go.Proofs.YtbnejfgdojdbdaaDoor.Sx
