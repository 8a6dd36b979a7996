/-
  RulePlain.
-/
import Derived.Test.YtckgeebihhhapaaDoorG35
set_option linter.unusedVariables false
set_option linter.unusedSimpArgs false
set_option maxRecDepth 20000
set_option maxHeartbeats 4000000
namespace Go.Proofs.YtckgeebihhhapaaDoor.Sx
open Go Go.RowKit Go.Proofs

def word6 (v : Int) : Str := nth (t := .str) tbl6 (v % 6)
theorem word6_mem (v : Int) : word6 v ∈ tbl6 := tbl_at (l := tbl6) (n := 6) (v := v) (by decide) rfl
def ws6 (ns : List Int) : List Str := (ns.take 12).map word6
theorem ws6_mem (ns : List Int) : ∀ w ∈ ws6 ns, w ∈ tbl6 := fun w hw => by
  obtain ⟨v, _, rfl⟩ := List.mem_map.1 hw
  exact word6_mem v
theorem tbl6_len {w : Str} (h : w ∈ tbl6) : w.length ≤ 5 := by
  have : ∀ x ∈ tbl6, x.length ≤ 5 := by decide
  exact this w h
theorem joinS_len : ∀ (l : List Str), (∀ w ∈ l, w ∈ tbl6) → (joinS l).length ≤ 6 * l.length
  | [], _ => Nat.le_refl _
  | w :: l, h => by
    have h1 := joinS_len l fun x hx => h x (by simp [hx])
    have h2 := tbl6_len (h w (by simp))
    simp only [joinS, List.length_append, List.length_cons, List.length_nil]
    omega
theorem ws6_len (ns : List Int) : (ws6 ns).length ≤ 12 := by
  unfold ws6
  rw [List.length_map, List.length_take]
  omega
theorem c_words6 (ns : List Int) (hn : okInts ns) : CallV Tryd.prog 20 [vL (.int .i64) ns] (.tup [vL .str (ws6 ns), vS (joinS (ws6 ns))]) := by
  refine CallV.of Tryd.func20 (by kernel_rfl) rfl Tryd.ntmps20 (by simp) rfl fun cx hB => ?_
  have hB1 : ∀ i, cx.B i = true → i < 1 := fun i h => by have := hB i h; omega
  refine Tr.seq ?_; refine Tr.region ?_; refine TrL.quiets 2 rfl (by exact True.intro) ?_; refine TrL.nil ?_; refine Tr.seq ?_; refine Tr.region ?_; refine TrL.quiets 1 rfl (by exact True.intro) ?_; refine TrL.nil ?_
  change Tr _ _ _ _ _ _
  refine Tr.nilRow 4 9 .str rfl ?_
  refine Tr.seq ?_; refine Tr.region ?_; refine TrL.quiets 1 rfl (by exact True.intro) ?_; refine TrL.nil ?_; refine Tr.seq ?_; refine Tr.seq ?_; refine Tr.region ?_; refine TrL.quiets 1 rfl (by exact True.intro) ?_; refine TrL.nil ?_; refine Tr.block ?_
  refine Tr.loop (fun (i : Nat) => ⟨[(0, [], vL (.int .i64) ns), (4, [], .own 0), (5, [], vS (joinS ((ns.take i).map word6))), (6, [], vI i)], [.gs 9 .str ((ns.take i).map word6)]⟩) (fun i => i ≤ 12 ∧ i ≤ ns.length) (fun i => 12 - i) 0 [0, 4, 5, 6] 1 hB1 rfl ⟨Nat.zero_le _, Nat.zero_le _⟩ fun i hi => ?_
  obtain ⟨hi, hil⟩ := hi
  refine Tr.seq ?_; refine Tr.seq ?_; refine Tr.region ?_; refine TrL.quiets 8 rfl (by exact True.intro) ?_; refine TrL.nil ?_
  refine Tr.cond rfl (fun h1 => ?_) (fun h1 => ?_)
  · simp only [Bool.and_eq_true, decide_eq_true_eq] at h1
    have hi1 : i < ns.length := by omega
    obtain ⟨hv1, hv2⟩ := okInts_nth hn i
    have hn1 : nth (t := .int .i64) ns (i : Int) = ns[i] := nth_get' (t := .int .i64) ns i hi1
    have hsn : (ns.take (i + 1)).map word6 = (ns.take i).map word6 ++ [word6 (nth (t := .int .i64) ns (i : Int))] := by
      rw [List.take_succ_eq_append_getElem hi1, List.map_append, hn1]
      rfl
    have hsj : joinS ((ns.take (i + 1)).map word6) = joinS ((ns.take i).map word6) ++ [32] ++ word6 (nth (t := .int .i64) ns (i : Int)) := by
      rw [hsn, joinS_app]
      simp [joinS]
    have hjl := joinS_len ((ns.take i).map word6) (fun w hw => by obtain ⟨v, _, rfl⟩ := List.mem_map.1 hw; exact word6_mem v)
    rw [List.length_map, List.length_take] at hjl
    have hwl := tbl6_len (word6_mem (nth (t := .int .i64) ns (i : Int)))
    have hcap : ((ns.take i).map word6).length + 1 ≤ 1099511627776 := by
      rw [List.length_map, List.length_take]
      omega
    obtain ⟨w, hw⟩ : ∃ w, word6 (nth (t := .int .i64) ns (i : Int)) = w := ⟨_, rfl⟩
    rw [hw] at hsn hsj hwl
    refine Tr.skip ?_; refine Tr.seq ?_; refine Tr.block ?_; refine Tr.seq ?_; refine Tr.region ?_; refine TrL.quiets 5 rfl (by (simp only [allOf, impO, imp, inR, loOk, and_true]; omega)) ?_
    first | refine TrL.callV rfl rfl rfl rfl rfl (c_Place _ 6 (by decide) (by decide) hv1 hv2) ?_ | refine TrD.callV rfl rfl rfl rfl rfl (c_Place _ 6 (by decide) (by decide) hv1 hv2) rfl ?_
    have hp1 := Int.emod_nonneg (nth (t := .int .i64) ns (i : Int)) (show (6 : Int) ≠ 0 by decide)
    have hp2 := Int.emod_lt_of_pos (nth (t := .int .i64) ns (i : Int)) (show (0 : Int) < 6 by decide)
    refine TrL.quiets 2 rfl (by (simp only [allOf, impO, imp, inR, loOk, and_true]; omega)) ?_; refine TrL.nil ?_
    refine Tr.is 7 (sv' := vS w) rfl (congrArg vS hw) ?_
    refine Tr.region ?_; refine TrL.quiets 2 rfl (by exact True.intro) ?_; refine TrL.eff (effLit_sound rfl) (by exact True.intro) ?_; refine TrL.eff (effAppend_sound rfl) (by assumption) ?_; refine TrL.quiets 6 rfl (by (simp (disch := omega) only [allOf, impO, imp, inR, loOk, and_true, w64, List.length_set, List.length_cons, List.length_nil, cut, List.length_take, List.length_drop, List.length_append, Int.toNat_natCast, Option.getD_none, Option.getD_some, Ty.D, true_and, decide_eq_true_eq, decide_eq_false_iff_not, Bool.and_eq_true, Bool.or_eq_false_iff]; omega)) ?_; refine TrL.nil ?_; refine Tr.region ?_; refine TrL.quiets 3 rfl (by exact True.intro) ?_; refine TrL.nil ?_
    refine ⟨i + 1, ⟨by omega, by omega⟩, by dsimp only; omega, ?_⟩
    refine Eq.trans (b := (⟨[(0, [], vL (.int .i64) ns), (4, [], .own 0), (5, [], vS (joinS ((ns.take i).map word6) ++ [32] ++ w)), (6, [], vI (IntKind.i64.wrap ((i : Int) + 1)))], [.gs 9 .str ((ns.take i).map word6 ++ [w])]⟩ : St)) rfl ?_
    rw [w64n (y := i + 1) (by omega) (by omega), ← hsn, ← hsj]
  · simp only [Bool.and_eq_false_iff, decide_eq_false_iff_not] at h1
    have e : ns.take i = ns.take 12 := by
      by_cases h2 : i = 12
      · rw [h2]
      · have h3 : i = ns.length := by omega
        rw [List.take_of_length_le (by omega), List.take_of_length_le (by omega)]
    refine Tr.exit ?_; refine Tr.seq ?_; refine Tr.region ?_; refine TrL.quiets 4 rfl (by exact True.intro) ?_; refine TrL.nil ?_; refine Tr.ret ?_
    refine retQ.of rfl ?_
    unfold ws6
    rw [← e]
theorem c_RulePlain (t p o : List Int) (dbl : Bool) (ht : okInts t) (hp : okInts p) (ho : okInts o) : CallV Tryd.prog 5 [vL (.int .i64) t, vL (.int .i64) p, vL (.int .i64) o, vB dbl] (vB true) := by
  have ha := ws6_mem t
  have hb := ws6_mem p
  have hc := ws6_mem o
  have hla := ws6_len t
  have hlb := ws6_len p
  have hlc := ws6_len o
  have hja := joinS_len _ ha
  have hjb := joinS_len _ hb
  have hjc := joinS_len _ hc
  have hr := plain_rule ha hb hc dbl
  have k1 := c_words6 t ht
  have k2 := c_words6 p hp
  have k3 := c_words6 o ho
  refine CallV.of Tryd.func5 (by kernel_rfl) rfl Tryd.ntmps5 (by simp) rfl fun cx hB => ?_
  generalize ws6 t = a at *
  generalize ws6 p = b at *
  generalize ws6 o = c at *
  refine Tr.seq ?_; refine Tr.region ?_; refine TrL.quiets 1 rfl (by exact True.intro) ?_; refine TrL.nil ?_; refine Tr.seq ?_; refine Tr.region ?_; refine TrL.quiets 1 rfl (by exact True.intro) ?_; refine TrL.nil ?_; refine Tr.seq ?_; refine Tr.region ?_; refine TrL.quiets 2 rfl (by exact True.intro) ?_
  first | refine TrL.callV rfl rfl rfl rfl rfl k1 ?_ | refine TrD.callV rfl rfl rfl rfl rfl k1 rfl ?_
  refine TrL.quiets 5 rfl (by exact True.intro) ?_; refine TrL.nil ?_; refine Tr.seq ?_; refine Tr.region ?_; refine TrL.quiets 2 rfl (by exact True.intro) ?_
  first | refine TrL.callV rfl rfl rfl rfl rfl k2 ?_ | refine TrD.callV rfl rfl rfl rfl rfl k2 rfl ?_
  refine TrL.quiets 5 rfl (by exact True.intro) ?_; refine TrL.nil ?_; refine Tr.seq ?_; refine Tr.region ?_; refine TrL.quiets 2 rfl (by exact True.intro) ?_
  first | refine TrL.callV rfl rfl rfl rfl rfl k3 ?_ | refine TrD.callV rfl rfl rfl rfl rfl k3 rfl ?_
  have hpl : (plainT a b c dbl).length ≤ 300 := by
    have h1 : (orderT c).length ≤ 74 := by
      unfold orderT
      split
      · exact Nat.zero_le _
      · simp only [List.length_append, List.length_cons, List.length_nil]; omega
    have h2 : (if dbl then ([58] : Str) else []).length ≤ 1 := by cases dbl <;> decide
    simp only [plainT, List.length_append, List.length_cons]
    omega
  refine TrL.quiets 5 rfl (by exact True.intro) ?_; refine TrL.nil ?_; refine Tr.seq ?_; refine Tr.region ?_; refine TrL.quiets 3 rfl (by (simp (disch := omega) only [allOf, impO, imp, inR, loOk, and_true, w64, List.length_set, List.length_cons, List.length_nil, Option.getD_none, Option.getD_some, Ty.D, true_and, decide_eq_true_eq, decide_eq_false_iff_not, Bool.and_eq_true, Bool.or_eq_false_iff]; omega)) ?_; refine TrL.nil ?_
  change Tr _ _ _ _ _ _
  refine Tr.join (fun (_ : Unit) => ⟨[(3, [], vB dbl), (10, [], vL .str a), (12, [], vL .str b), (13, [], vS (joinS b)), (14, [], vL .str c), (15, [], vS (joinS c)), (16, [], vS (joinS a ++ [58] ++ (if dbl then [58] else [])))], []⟩) (fun _ => True) [3, 10, 12, 13, 14, 15, 16] 0 hB ?_ fun _ _ => ?_
  · refine Tr.seq ?_; refine Tr.region ?_; refine TrL.quiets 1 rfl (by exact True.intro) ?_; refine TrL.nil ?_
    refine Tr.cond rfl (fun h1 => ?_) (fun h1 => ?_)
    · have h2 : dbl = true := h1
      subst h2
      refine Tr.region ?_; refine TrL.quiets 3 rfl (by (simp (disch := omega) only [allOf, impO, imp, inR, loOk, and_true, w64, List.length_set, List.length_cons, List.length_nil, cut, List.length_take, List.length_drop, List.length_append, Int.toNat_natCast, Option.getD_none, Option.getD_some, Ty.D, true_and, decide_eq_true_eq, decide_eq_false_iff_not, Bool.and_eq_true, Bool.or_eq_false_iff]; omega)) ?_; refine TrL.nil ?_
      exact ⟨(), trivial, rfl⟩
    · have h2 : dbl = false := h1
      subst h2
      refine Tr.skip ?_
      refine ⟨(), trivial, ?_⟩
      rw [if_neg (by decide), List.append_nil]
      rfl
  have hdl : (if dbl then ([58] : Str) else []).length ≤ 1 := by cases dbl <;> decide
  generalize hD : (if dbl then ([58] : Str) else []) = D at *
  refine Tr.seq ?_; refine Tr.region ?_; refine TrL.quiets 4 rfl (by (simp (disch := omega) only [allOf, impO, imp, inR, loOk, and_true, w64, List.length_set, List.length_cons, List.length_nil, cut, List.length_take, List.length_drop, List.length_append, Int.toNat_natCast, Option.getD_none, Option.getD_some, Ty.D, true_and, decide_eq_true_eq, decide_eq_false_iff_not, Bool.and_eq_true, Bool.or_eq_false_iff]; omega)) ?_; refine TrL.nil ?_
  change Tr _ _ _ _ _ _
  refine Tr.join (fun (_ : Unit) => ⟨[(3, [], vB dbl), (10, [], vL .str a), (12, [], vL .str b), (14, [], vL .str c), (16, [], vS (plainT a b c dbl))], []⟩) (fun _ => True) [3, 10, 12, 14, 16] 0 hB ?_ fun _ _ => ?_
  · have e0 : c = [] → plainT a b c dbl = joinS a ++ [58] ++ D ++ joinS b := by
      intro h
      rw [plainT, hD, orderT, if_pos h]
      simp
    have e1 : c ≠ [] → plainT a b c dbl = joinS a ++ [58] ++ D ++ joinS b ++ [32, 124] ++ joinS c := by
      intro h
      rw [plainT, hD, orderT, if_neg h]
      simp
    refine Tr.seq ?_; refine Tr.region ?_; refine TrL.quiets 3 rfl (by exact True.intro) ?_; refine TrL.nil ?_
    refine Tr.cond rfl (fun h1 => ?_) (fun h1 => ?_)
    · have h2 : c ≠ [] := by
        intro h
        rw [h] at h1
        cases h1
      rw [e1 h2]
      refine Tr.region ?_; refine TrL.quiets 5 rfl (by (simp (disch := omega) only [allOf, impO, imp, inR, loOk, and_true, w64, List.length_set, List.length_cons, List.length_nil, cut, List.length_take, List.length_drop, List.length_append, Int.toNat_natCast, Option.getD_none, Option.getD_some, Ty.D, true_and, decide_eq_true_eq, decide_eq_false_iff_not, Bool.and_eq_true, Bool.or_eq_false_iff]; omega)) ?_; refine TrL.nil ?_
      exact ⟨(), trivial, rfl⟩
    · have h2 : c = [] := by
        have h3 : decide ((c.length : Int) > 0) = false := h1
        rw [decide_eq_false_iff_not] at h3
        exact List.length_eq_zero_iff.1 (by omega)
      rw [e0 h2]
      refine Tr.skip ?_
      exact ⟨(), trivial, rfl⟩
  generalize plainT a b c dbl = s at *
  refine Tr.seq ?_; refine Tr.region ?_; refine TrL.quiets 1 rfl (by exact True.intro) ?_
  first | refine TrL.callV rfl rfl rfl rfl rfl (c_rule_Read s (by omega)) ?_ | refine TrD.callV rfl rfl rfl rfl rfl (c_rule_Read s (by omega)) rfl ?_
  rw [hr]
  by_cases e : a = []
  · rw [if_pos e]
    subst e
    refine TrL.quiets 5 rfl (by exact True.intro) ?_; refine TrL.nil ?_; refine Tr.seq ?_; refine Tr.seq ?_; refine Tr.region ?_; refine TrL.quiets 3 rfl (by exact True.intro) ?_; refine TrL.nil ?_
    refine Tr.cond rfl (fun h1 => ?_) (fun h1 => ?_)
    · refine Tr.seq ?_; refine Tr.region ?_; refine TrL.quiets 3 rfl (by exact True.intro) ?_
      first | refine TrL.callV rfl rfl rfl rfl rfl c_awake25 ?_ | refine TrD.callV rfl rfl rfl rfl rfl c_awake25 rfl ?_
      refine TrL.quiets 2 rfl (by exact True.intro) ?_; refine TrL.nil ?_; refine Tr.ret ?_
      refine retQ.of rfl ?_
      rfl
    · cases h1
  · rw [if_neg e]
    have hal : 0 < a.length := List.length_pos_iff.2 e
    refine TrL.quiets 5 rfl (by exact True.intro) ?_; refine TrL.nil ?_; refine Tr.seq ?_; refine Tr.seq ?_; refine Tr.region ?_; refine TrL.quiets 3 rfl (by exact True.intro) ?_; refine TrL.nil ?_
    refine Tr.cond rfl (fun h1 => ?_) (fun h1 => ?_)
    · have h2 : ((a.length : Int) == 0) = true := h1
      rw [beq_iff_eq] at h2
      omega
    refine Tr.skip ?_; refine Tr.seq ?_; refine Tr.region ?_; refine TrL.quiets 13 rfl (by (simp (disch := omega) only [allOf, impO, imp, inR, loOk, and_true, w64, List.length_set, List.length_cons, List.length_nil, Option.getD_none, Option.getD_some, Ty.D, true_and, decide_eq_true_eq, decide_eq_false_iff_not, Bool.and_eq_true, Bool.or_eq_false_iff]; omega)) ?_
    first | refine TrL.callV rfl rfl rfl rfl rfl (c_ref_Same a a (by omega)) ?_ | refine TrD.callV rfl rfl rfl rfl rfl (c_ref_Same a a (by omega)) rfl ?_
    refine TrL.quiets 7 rfl (by (simp (disch := omega) only [allOf, impO, imp, inR, loOk, and_true, w64, List.length_set, List.length_cons, List.length_nil, Option.getD_none, Option.getD_some, Ty.D, true_and, decide_eq_true_eq, decide_eq_false_iff_not, Bool.and_eq_true, Bool.or_eq_false_iff]; omega)) ?_
    first | refine TrL.callV rfl rfl rfl rfl rfl (c_ref_Same b b (by omega)) ?_ | refine TrD.callV rfl rfl rfl rfl rfl (c_ref_Same b b (by omega)) rfl ?_
    refine TrL.quiets 7 rfl (by (simp (disch := omega) only [allOf, impO, imp, inR, loOk, and_true, w64, List.length_set, List.length_cons, List.length_nil, Option.getD_none, Option.getD_some, Ty.D, true_and, decide_eq_true_eq, decide_eq_false_iff_not, Bool.and_eq_true, Bool.or_eq_false_iff]; omega)) ?_
    first | refine TrL.callV rfl rfl rfl rfl rfl (c_ref_Same c c (by omega)) ?_ | refine TrD.callV rfl rfl rfl rfl rfl (c_ref_Same c c (by omega)) rfl ?_
    refine TrL.quiets 25 rfl (by (simp (disch := omega) only [allOf, impO, imp, inR, loOk, and_true, w64, List.length_set, List.length_cons, List.length_nil, Option.getD_none, Option.getD_some, Ty.D, true_and, decide_eq_true_eq, decide_eq_false_iff_not, Bool.and_eq_true, Bool.or_eq_false_iff]; omega)) ?_
    first | refine TrL.callV rfl rfl rfl rfl rfl c_awake25 ?_ | refine TrD.callV rfl rfl rfl rfl rfl c_awake25 rfl ?_
    refine TrL.quiets 2 rfl (by exact True.intro) ?_; refine TrL.nil ?_; refine Tr.ret ?_
    refine retQ.of rfl ?_
    refine congrArg vB ?_
    simp [nth]
end Go.Proofs.YtckgeebihhhapaaDoor.Sx
