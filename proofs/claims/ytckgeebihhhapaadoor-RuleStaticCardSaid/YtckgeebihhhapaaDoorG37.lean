/-
  RuleStatic.
-/
import Derived.Test.YtckgeebihhhapaaDoorG35
set_option linter.unusedVariables false
set_option linter.unusedSimpArgs false
set_option maxRecDepth 20000
set_option maxHeartbeats 4000000
namespace Go.Proofs.YtckgeebihhhapaaDoor.Sx
open Go Go.RowKit Go.Proofs

/-! ### Plain -/
def tbl5 : List Str := [[97], [98], [108, 105, 98], [120, 45, 49], [102, 111, 111]]
def word5 (v : Int) : Str := nth (t := .str) tbl5 (v % 5)
theorem word5_mem (v : Int) : word5 v ∈ tbl5 := tbl_at (l := tbl5) (n := 5) (v := v) (by decide) rfl
def ws5 (ns : List Int) : List Str := (ns.take 10).map word5
def dotO (w : Str) : Str := w ++ [46, 111]
def oT : List Str → Str
  | [] => []
  | w :: r => dotO w ++ [32] ++ oT r
theorem oT_app : ∀ (l m : List Str), oT (l ++ m) = oT l ++ oT m
  | [], m => rfl
  | w :: l, m => by
    rw [List.cons_append, oT, oT, oT_app l m]
    simp
theorem tbl5_calm {w : Str} (h : w ∈ tbl5) : CalmW (dotO w) := by
  have h1 : (tbl5.all fun w => !(dotO w).isEmpty && (dotO w).all fun c => !isBlank c && c != 36 && c != 58) = true := by decide
  have h2 := List.all_eq_true.1 h1 w h
  rw [Bool.and_eq_true] at h2
  refine ⟨⟨fun e => ?_, fun c hc => ?_⟩, fun c hc => ?_⟩
  · rw [e] at h2; cases h2.1
  · have := List.all_eq_true.1 h2.2 c hc
    simp only [Bool.and_eq_true, Bool.not_eq_true'] at this
    exact this.1.1
  · have := List.all_eq_true.1 h2.2 c hc
    simp only [Bool.and_eq_true, bne_iff_ne] at this
    exact ⟨this.1.2, this.2⟩
theorem tbl5_len {w : Str} (h : w ∈ tbl5) : w.length ≤ 3 := by
  have : ∀ x ∈ tbl5, x.length ≤ 3 := by decide
  exact this w h
abbrev badX : Str := [98, 97, 100, 46, 120]
def otherT (o : Bool) : Str := if o then badX else []
def restT : Str := [32, 37, 46, 111, 58, 32, 37, 46, 99, 32, 37, 47, 104, 32, 97, 108, 108, 32, 124, 32, 100, 105, 114, 45, 37, 32, 111]
theorem oT_len : ∀ (l : List Str), (∀ w ∈ l, w ∈ tbl5) → (oT l).length ≤ 6 * l.length
  | [], _ => Nat.le_refl _
  | w :: l, h => by
    have h1 := oT_len l fun x hx => h x (by simp [hx])
    have h2 := tbl5_len (h w (by simp))
    simp only [oT, dotO, List.length_append, List.length_cons, List.length_nil]
    omega
theorem oT_calm : ∀ (l : List Str), (∀ w ∈ l, w ∈ tbl5) → Calm (oT l)
  | [], _ => fun c hc => by cases hc
  | w :: l, h => by
    rw [oT]
    refine Calm.app (Calm.app (tbl5_calm (h w (by simp))).calm fun c hc => ?_) (oT_calm l fun x hx => h x (by simp [hx]))
    rw [List.mem_singleton.1 hc]
    decide
theorem oT_split (t : Str) : ∀ (l : List Str), (∀ w ∈ l, w ∈ tbl5) → splitW (oT l ++ t) = l.map dotO ++ splitW t
  | [], _ => rfl
  | w :: l, h => by
    have hb : ∀ c ∈ ([32] : Str), isBlank c = true := fun c hc => by rw [List.mem_singleton.1 hc]; rfl
    rw [oT, List.append_assoc, splitW_gap ⟨by simp, hb⟩, (tbl5_calm (h w (by simp))).word.split, oT_split t l fun x hx => h x (by simp [hx])]
    rfl
theorem other_calm (o : Bool) : Calm (otherT o) := by
  cases o with
  | true =>
    intro c hc
    have h1 : (badX.all fun c => c != 36 && c != 58) = true := by decide
    have := List.all_eq_true.1 h1 c hc
    simp only [Bool.and_eq_true, bne_iff_ne] at this
    exact this
  | false => intro c hc; cases hc
abbrev patO : PatD := (true, [], [46, 111])
theorem match_dotO (w : Str) : matchF patO (dotO w) = (w, true) := by
  have h1 : hasSuf (dotO w) [46, 111] = true := by
    unfold hasSuf dotO
    rw [Bool.and_eq_true, decide_eq_true_eq, beq_iff_eq]
    refine ⟨by simp, ?_⟩
    rw [show (w ++ [46, 111] : Str).length - ([46, 111] : Str).length = w.length by simp, List.drop_left]
  have h2 : matchNo [] [46, 111] (dotO w) = false := by
    unfold matchNo
    rw [h1]
    have : hasPre (dotO w) [] = true := by cases dotO w <;> rfl
    rw [this]
    simp [dotO]
  unfold matchF
  rw [if_neg (by decide), if_neg (by rw [h2]; decide)]
  have : ((dotO w).take ((dotO w).length - ([46, 111] : Str).length)).drop ([] : Str).length = w := by
    rw [show (dotO w).length - ([46, 111] : Str).length = w.length by simp [dotO]]
    simp [dotO]
  exact congrArg (fun z => (z, true)) this
abbrev preA : List Str := [[37, 46, 99], [37, 47, 104], [97, 108, 108]]
abbrev ordB : List Str := [[100, 105, 114, 45, 37], [111]]
def ruleOf (w : Str) : RuleD := ([dotO w], [w ++ [46, 99], w ++ [47, 104], [97, 108, 108]], [[100, 105, 114, 45] ++ w, [111]], [], false, false, [], 0)
theorem mk_ruleOf (w : Str) : mkRule preA ordB false (dotO w) w = ruleOf w := by
  have p1 : patF [37, 46, 99] = (true, [], [46, 99]) := by kernel_rfl
  have p2 : patF [37, 47, 104] = (true, [], [47, 104]) := by kernel_rfl
  have p3 : patF [97, 108, 108] = (false, [97, 108, 108], []) := by kernel_rfl
  have p4 : patF [100, 105, 114, 45, 37] = (true, [100, 105, 114, 45], []) := by kernel_rfl
  have p5 : patF [111] = (false, [111], []) := by kernel_rfl
  simp [mkRule, ruleOf, putW, hasP, putF, p1, p2, p3, p4, p5]
theorem static_ok : ∀ (l : List Str), staticL patO preA ordB false (l.map dotO) = some (l.map ruleOf)
  | [] => rfl
  | w :: l => by
    rw [List.map_cons, staticL, match_dotO, if_pos rfl, static_ok l]
    show some (mkRule preA ordB false (dotO w) w :: l.map ruleOf) = _
    rw [mk_ruleOf]
    rfl
theorem static_bad : ∀ (l : List Str), staticL patO preA ordB false (l.map dotO ++ [badX]) = none
  | [] => by
    have h : (matchF patO badX).2 = false := by kernel_rfl
    rw [List.map_nil, List.nil_append, staticL, h]
    rfl
  | w :: l => by
    rw [List.map_cons, List.cons_append, staticL, match_dotO, if_pos rfl, static_bad l]
def statT (l : List Str) (o : Bool) : Str := (oT l ++ otherT o) ++ 58 :: restT
theorem static_rule {l : List Str} (h : ∀ w ∈ l, w ∈ tbl5) (o : Bool) : ruleF (statT l o) = if o || l.isEmpty then ([], 16) else (l.map ruleOf, 0) := by
  have hp := place_calm (Calm.app (oT_calm l h) (other_calm o)) restT
  have hr1 : trimPre restT [58] = restT := by kernel_rfl
  have hr2 : hasPre restT [58] = false := by kernel_rfl
  have hr3 : place 58 restT = 4 := by kernel_rfl
  have hr4 : headP (splitW (restT.take 4)) = true := by kernel_rfl
  have hr5 : patF ((splitW (restT.take 4)).getD 0 []) = patO := by kernel_rfl
  have hr6 : partsF (restT.drop 5) = (preA, ordB) := by kernel_rfl
  have hs : splitW (oT l ++ otherT o) = l.map dotO ++ (if o then [badX] else []) := by
    rw [oT_split _ l h]
    cases o <;> rfl
  unfold ruleF statT
  rw [hp, if_neg (by omega), Int.toNat_natCast, List.take_left, hs]
  have hd : ((oT l ++ otherT o) ++ 58 :: restT).drop ((oT l ++ otherT o).length + 1) = restT := by
    rw [List.drop_append]
    simp
  rw [hd, hr1, hr2]
  unfold tailF1
  rw [hr3, if_pos (show (0 : Int) ≤ 4 by decide), show Int.toNat 4 = 4 from rfl]
  unfold staticF
  rw [hr4, if_pos rfl, hr5, hr6]
  cases o with
  | true =>
    rw [if_pos rfl, if_neg (by simp)]
    unfold staticE
    rw [static_bad]
    rfl
  | false =>
    have e : (l.map dotO ++ if false = true then [badX] else []) = l.map dotO := by simp
    rw [e]
    cases l with
    | nil => rfl
    | cons w r =>
      rw [if_neg (by simp)]
      unfold staticE
      rw [static_ok]
      rfl

/-! ### The walk -/
theorem c_RuleStatic (ns : List Int) (o : Bool) (hn : okInts ns) : CallV Tryd.prog 4 [vL (.int .i64) ns, vB o] (vB true) := by
  refine CallV.of Tryd.func4 (by kernel_rfl) rfl Tryd.ntmps4 (by simp) rfl fun cx hB => ?_
  have hB1 : ∀ i, cx.B i = true → i < 1 := fun i h => by have := hB i h; omega
  refine Tr.seq ?_; refine Tr.region ?_; refine TrL.quiets 1 rfl (by exact True.intro) ?_; refine TrL.nil ?_; refine Tr.seq ?_; refine Tr.region ?_; refine TrL.quiets 1 rfl (by exact True.intro) ?_; refine TrL.nil ?_; refine Tr.seq ?_; refine Tr.region ?_; refine TrL.quiets 1 rfl (by exact True.intro) ?_; refine TrL.nil ?_
  change Tr _ _ _ _ _ _
  refine Tr.nilRow 6 9 .str rfl ?_
  refine Tr.seq ?_; refine Tr.seq ?_; refine Tr.region ?_; refine TrL.quiets 1 rfl (by exact True.intro) ?_; refine TrL.nil ?_; refine Tr.block ?_
  refine Tr.loop (fun (i : Nat) => ⟨[(0, [], vL (.int .i64) ns), (1, [], vB o), (5, [], vS (oT ((ns.take i).map word5))), (6, [], .own 0), (7, [], vI i)], [.gs 9 .str ((ns.take i).map word5)]⟩) (fun i => i ≤ 10 ∧ i ≤ ns.length) (fun i => 10 - i) 0 [0, 1, 5, 6, 7] 1 hB1 rfl ⟨Nat.zero_le _, Nat.zero_le _⟩ fun i hi => ?_
  obtain ⟨hi, hil⟩ := hi
  have hmem : ∀ w ∈ (ns.take i).map word5, w ∈ tbl5 := fun w hw => by obtain ⟨v, _, rfl⟩ := List.mem_map.1 hw; exact word5_mem v
  have hjl := oT_len _ hmem
  rw [List.length_map, List.length_take] at hjl
  refine Tr.seq ?_; refine Tr.seq ?_; refine Tr.region ?_; refine TrL.quiets 8 rfl (by exact True.intro) ?_; refine TrL.nil ?_
  refine Tr.cond rfl (fun h1 => ?_) (fun h1 => ?_)
  · simp only [Bool.and_eq_true, decide_eq_true_eq] at h1
    have hi1 : i < ns.length := by omega
    obtain ⟨hv1, hv2⟩ := okInts_nth hn i
    have hn1 : nth (t := .int .i64) ns (i : Int) = ns[i] := nth_get' (t := .int .i64) ns i hi1
    have hsn : (ns.take (i + 1)).map word5 = (ns.take i).map word5 ++ [word5 (nth (t := .int .i64) ns (i : Int))] := by
      rw [List.take_succ_eq_append_getElem hi1, List.map_append, hn1]
      rfl
    have hsj : oT ((ns.take (i + 1)).map word5) = oT ((ns.take i).map word5) ++ word5 (nth (t := .int .i64) ns (i : Int)) ++ [46, 111, 32] := by
      rw [hsn, oT_app]
      simp [oT, dotO]
    have hwl := tbl5_len (word5_mem (nth (t := .int .i64) ns (i : Int)))
    have hcap : ((ns.take i).map word5).length + 1 ≤ 1099511627776 := by
      rw [List.length_map, List.length_take]
      omega
    obtain ⟨w, hw⟩ : ∃ w, word5 (nth (t := .int .i64) ns (i : Int)) = w := ⟨_, rfl⟩
    rw [hw] at hsn hsj hwl
    refine Tr.skip ?_; refine Tr.seq ?_; refine Tr.block ?_; refine Tr.seq ?_; refine Tr.region ?_; refine TrL.quiets 5 rfl (by (simp only [allOf, impO, imp, inR, loOk, and_true]; omega)) ?_
    first | refine TrL.callV rfl rfl rfl rfl rfl (c_Place _ 5 (by decide) (by decide) hv1 hv2) ?_ | refine TrD.callV rfl rfl rfl rfl rfl (c_Place _ 5 (by decide) (by decide) hv1 hv2) rfl ?_
    have hp1 := Int.emod_nonneg (nth (t := .int .i64) ns (i : Int)) (show (5 : Int) ≠ 0 by decide)
    have hp2 := Int.emod_lt_of_pos (nth (t := .int .i64) ns (i : Int)) (show (0 : Int) < 5 by decide)
    refine TrL.quiets 2 rfl (by (simp only [allOf, impO, imp, inR, loOk, and_true]; omega)) ?_; refine TrL.nil ?_
    refine Tr.is 8 (sv' := vS w) rfl (congrArg vS hw) ?_
    refine Tr.region ?_; refine TrL.quiets 6 rfl (by (simp (disch := omega) only [allOf, impO, imp, inR, loOk, and_true, w64, List.length_set, List.length_cons, List.length_nil, cut, List.length_take, List.length_drop, List.length_append, Int.toNat_natCast, Option.getD_none, Option.getD_some, Ty.D, true_and, decide_eq_true_eq, decide_eq_false_iff_not, Bool.and_eq_true, Bool.or_eq_false_iff]; omega)) ?_; refine TrL.eff (effLit_sound rfl) (by exact True.intro) ?_; refine TrL.eff (effAppend_sound rfl) (by assumption) ?_; refine TrL.quiets 2 rfl (by exact True.intro) ?_; refine TrL.nil ?_; refine Tr.region ?_; refine TrL.quiets 3 rfl (by exact True.intro) ?_; refine TrL.nil ?_
    refine ⟨i + 1, ⟨by omega, by omega⟩, by dsimp only; omega, ?_⟩
    refine Eq.trans (b := (⟨[(0, [], vL (.int .i64) ns), (1, [], vB o), (5, [], vS (oT ((ns.take i).map word5) ++ w ++ [46, 111, 32])), (6, [], .own 0), (7, [], vI (IntKind.i64.wrap ((i : Int) + 1)))], [.gs 9 .str ((ns.take i).map word5 ++ [w])]⟩ : St)) rfl ?_
    rw [w64n (y := i + 1) (by omega) (by omega), ← hsn, ← hsj]
  have hlen : ((ns.take i).map word5).length ≤ 10 := by
    rw [List.length_map, List.length_take]
    omega
  generalize (ns.take i).map word5 = l at *
  have hr := static_rule hmem o
  have hjl2 := oT_len l hmem
  have hot : (otherT o).length ≤ 5 := by cases o <;> decide
  have hpl : (statT l o).length ≤ 200 := by
    simp only [statT, List.length_append, List.length_cons, show restT.length = 27 from rfl]
    omega
  refine Tr.exit ?_; refine Tr.seq ?_; refine Tr.seq ?_; refine Tr.region ?_; refine TrL.quiets 1 rfl (by exact True.intro) ?_; refine TrL.nil ?_
  refine Tr.joinN (fun (_ : Unit) => ⟨[(1, [], vB o), (5, [], vS (oT l ++ otherT o)), (6, [], .own 0)], [.gs 9 .str l]⟩) (fun _ => True) [1, 5, 6] 1 hB1 ?_ fun _ _ => ?_
  · refine Tr.cond rfl (fun h2 => ?_) (fun h2 => ?_)
    · have h3 : o = true := h2
      subst h3
      refine Tr.region ?_; refine TrL.quiets 3 rfl (by (simp (disch := omega) only [allOf, impO, imp, inR, loOk, and_true, w64, List.length_set, List.length_cons, List.length_nil, Option.getD_none, Option.getD_some, Ty.D, true_and, decide_eq_true_eq, decide_eq_false_iff_not, Bool.and_eq_true, Bool.or_eq_false_iff]; omega)) ?_; refine TrL.nil ?_
      exact ⟨(), trivial, rfl⟩
    · have h3 : o = false := h2
      subst h3
      have h4 : oT l ++ otherT false = oT l := List.append_nil _
      rw [h4]
      refine Tr.skip ?_
      exact ⟨(), trivial, rfl⟩
  refine Tr.seq ?_; refine Tr.region ?_; refine TrL.quiets 2 rfl (by (simp (disch := omega) only [allOf, impO, imp, inR, loOk, and_true, w64, List.length_set, List.length_cons, List.length_nil, cut, List.length_take, List.length_drop, List.length_append, Int.toNat_natCast, Option.getD_none, Option.getD_some, Ty.D, true_and, decide_eq_true_eq, decide_eq_false_iff_not, Bool.and_eq_true, Bool.or_eq_false_iff]; omega)) ?_
  refine TrL.is 43 (sv' := vS (statT l o)) rfl (congrArg vS (by show (oT l ++ otherT o) ++ 58 :: restT = _; rfl)) ?_
  first | refine TrL.callV rfl rfl rfl rfl rfl (c_rule_Read (statT l o) (by omega)) ?_ | refine TrD.callV rfl rfl rfl rfl rfl (c_rule_Read (statT l o) (by omega)) rfl ?_
  rw [hr]
  generalize statT l o = s at *
  by_cases e : (o || l.isEmpty) = true
  · rw [if_pos e]
    have e2 : (o || (l.length : Int) == 0) = true := by
      cases o with
      | true => rfl
      | false =>
        have h3 : l.isEmpty = true := e
        have h4 : l = [] := List.isEmpty_iff.1 h3
        rw [h4]
        rfl
    refine TrL.quiets 5 rfl (by exact True.intro) ?_; refine TrL.nil ?_; refine Tr.seq ?_; refine Tr.seq ?_; refine Tr.region ?_; refine TrL.quiets 6 rfl (by exact True.intro) ?_; refine TrL.nil ?_
    refine Tr.is 52 (sv' := vB true) rfl (congrArg vB e2) ?_
    refine Tr.cond rfl (fun h2 => ?_) (fun h2 => ?_)
    · refine Tr.seq ?_; refine Tr.region ?_; refine TrL.quiets 8 rfl (by exact True.intro) ?_
      first | refine TrL.callV rfl rfl rfl rfl rfl c_awake25 ?_ | refine TrD.callV rfl rfl rfl rfl rfl c_awake25 rfl ?_
      refine TrL.quiets 2 rfl (by exact True.intro) ?_; refine TrL.nil ?_; refine Tr.ret ?_
      refine retQ.of rfl ?_
      rfl
    · cases h2
  · rw [if_neg e]
    have e2 : (o || (l.length : Int) == 0) = false := by
      cases o with
      | true => exact absurd rfl e
      | false =>
        have h3 : l ≠ [] := by
          intro h
          rw [h] at e
          exact e rfl
        have h4 := List.length_pos_iff.2 h3
        show ((l.length : Int) == 0) = false
        rw [beq_eq_false_iff_ne]
        omega
    refine TrL.quiets 5 rfl (by exact True.intro) ?_; refine TrL.nil ?_; refine Tr.seq ?_; refine Tr.seq ?_; refine Tr.region ?_; refine TrL.quiets 6 rfl (by exact True.intro) ?_; refine TrL.nil ?_
    refine Tr.is 52 (sv' := vB false) rfl (congrArg vB e2) ?_
    refine Tr.cond rfl (fun h2 => ?_) (fun h2 => ?_)
    · cases h2
    refine Tr.skip ?_; refine Tr.seq ?_; refine Tr.seq ?_; refine Tr.region ?_; refine TrL.quiets 9 rfl (by exact True.intro) ?_; refine TrL.nil ?_
    have e3 : ((0 : Int) != 0 || ((l.map ruleOf).length : Int) != (l.length : Int)) = false := by
      rw [List.length_map]
      simp
    refine Tr.is 71 (sv' := vB false) rfl (congrArg vB e3) ?_
    refine Tr.cond rfl (fun h3 => ?_) (fun h3 => ?_)
    · cases h3
    refine Tr.skip ?_; refine Tr.seq ?_; refine Tr.seq ?_; refine Tr.region ?_; refine TrL.quiets 1 rfl (by exact True.intro) ?_; refine TrL.nil ?_; refine Tr.block ?_
    refine Tr.loop (fun (i : Nat) => ⟨[(6, [], .own 0), (9, [], vL ruleTy (l.map ruleOf)), (11, [], vI i)], [.gs 9 .str l]⟩) (fun i => i ≤ l.length) (fun i => l.length - i) 0 [6, 9, 11] 1 hB1 rfl (Nat.zero_le _) fun i hi => ?_
    refine Tr.seq ?_; refine Tr.seq ?_; refine Tr.region ?_; refine TrL.quiets 4 rfl (by exact True.intro) ?_; refine TrL.nil ?_
    refine Tr.cond rfl (fun h4 => ?_) (fun h4 => ?_)
    · have hi1 : i < l.length := by
        have h5 : decide ((i : Int) < ((l.map ruleOf).length : Int)) = true := h4
        rw [decide_eq_true_eq, List.length_map] at h5
        omega
      have hi2 : i < (l.map ruleOf).length := by rw [List.length_map]; exact hi1
      have hn1 : nth (t := .str) l (i : Int) = l[i] := nth_get' (t := .str) l i hi1
      have hn2 : nth (t := ruleTy) (l.map ruleOf) (i : Int) = ruleOf l[i] := by
        rw [nth_get' (t := ruleTy) (l.map ruleOf) i hi2]
        simp
      have hwl := tbl5_len (hmem l[i] (List.getElem_mem hi1))
      generalize l[i] = w at *
      refine Tr.skip ?_; refine Tr.seq ?_; refine Tr.block ?_; refine Tr.seq ?_; refine Tr.region ?_; refine TrL.quiets 5 rfl (by (simp only [allOf, impO, imp, inR, loOk, and_true]; omega)) ?_; refine TrL.nil ?_
      refine Tr.is 12 (sv' := vS w) rfl (congrArg vS hn1) ?_
      refine Tr.seq ?_; refine Tr.region ?_; refine TrL.quiets 7 rfl (by (simp (disch := omega) only [allOf, impO, imp, inR, loOk, and_true, w64, List.length_set, List.length_cons, List.length_nil, Option.getD_none, Option.getD_some, Ty.D, true_and, decide_eq_true_eq, decide_eq_false_iff_not, Bool.and_eq_true, Bool.or_eq_false_iff]; omega)) ?_; refine TrL.eff (effLit_sound rfl) (by exact True.intro) ?_
      refine TrL.is 86 (sv' := vL .str [dotO w]) rfl (congrArg (fun r : RuleD => vL .str r.1) hn2) ?_
      refine TrL.weak 89 rfl (fix_weak .str _) ?_
      first | refine TrL.callV rfl rfl rfl rfl rfl (c_ref_Same [dotO w] [dotO w] (by simp)) ?_ | refine TrD.callV rfl rfl rfl rfl rfl (c_ref_Same [dotO w] [dotO w] (by simp)) rfl ?_
      refine TrL.quiets 2 rfl True.intro ?_
      refine TrL.is 92 (sv' := vB false) rfl (congrArg vB (by simp)) ?_
      refine TrL.quiets 9 rfl (by (simp (disch := omega) only [allOf, impO, imp, inR, loOk, and_true, w64, List.length_set, List.length_cons, List.length_nil, Option.getD_none, Option.getD_some, Ty.D, true_and, decide_eq_true_eq, decide_eq_false_iff_not, Bool.and_eq_true, Bool.or_eq_false_iff]; omega)) ?_
      refine TrL.known 99 rfl rfl ?_
      refine TrL.known 101 rfl rfl ?_
      refine TrL.want rfl rfl rfl ?_
      refine TrL.eff (effLit_sound rfl) (by exact True.intro) ?_
      refine TrL.known 97 rfl rfl ?_
      refine TrL.is 97 (sv' := vL .str [w ++ [46, 99], w ++ [47, 104], [97, 108, 108]]) rfl (congrArg (fun r : RuleD => vL .str r.2.1) hn2) ?_
      refine TrL.weak 102 rfl (fix_weak .str _) ?_
      refine TrL.want rfl rfl rfl ?_
      first | refine TrL.callV rfl rfl rfl rfl rfl (c_ref_Same [w ++ [46, 99], w ++ [47, 104], [97, 108, 108]] [w ++ [46, 99], w ++ [47, 104], [97, 108, 108]] (by simp)) ?_ | refine TrD.callV rfl rfl rfl rfl rfl (c_ref_Same [w ++ [46, 99], w ++ [47, 104], [97, 108, 108]] [w ++ [46, 99], w ++ [47, 104], [97, 108, 108]] (by simp)) rfl ?_
      refine TrL.quiets 3 rfl True.intro ?_
      refine TrL.is 106 (sv' := vB false) rfl (congrArg vB (by simp)) ?_
      refine TrL.quiets 7 rfl (by (simp (disch := omega) only [allOf, impO, imp, inR, loOk, and_true, w64, List.length_set, List.length_cons, List.length_nil, Option.getD_none, Option.getD_some, Ty.D, true_and, decide_eq_true_eq, decide_eq_false_iff_not, Bool.and_eq_true, Bool.or_eq_false_iff]; omega)) ?_
      refine TrL.known 113 rfl rfl ?_
      refine TrL.want rfl rfl rfl ?_
      refine TrL.eff (effLit_sound rfl) (by exact True.intro) ?_
      refine TrL.known 111 rfl rfl ?_
      refine TrL.is 111 (sv' := vL .str [[100, 105, 114, 45] ++ w, [111]]) rfl (congrArg (fun r : RuleD => vL .str r.2.2.1) hn2) ?_
      refine TrL.weak 114 rfl (fix_weak .str _) ?_
      refine TrL.want rfl rfl rfl ?_
      first | refine TrL.callV rfl rfl rfl rfl rfl (c_ref_Same [[100, 105, 114, 45] ++ w, [111]] [[100, 105, 114, 45] ++ w, [111]] (by simp)) ?_ | refine TrD.callV rfl rfl rfl rfl rfl (c_ref_Same [[100, 105, 114, 45] ++ w, [111]] [[100, 105, 114, 45] ++ w, [111]] (by simp)) rfl ?_
      refine TrL.quiets 3 rfl True.intro ?_
      refine TrL.is 118 (sv' := vB false) rfl (congrArg vB (by simp)) ?_
      refine TrL.quiets 13 rfl (by (simp only [allOf, impO, imp, inR, loOk, and_true]; omega)) ?_; refine TrL.nil ?_
      refine Tr.is 131 (sv' := vB false) rfl (congrArg vB (by rw [hn2]; rfl)) ?_
      refine Tr.cond rfl (fun h5 => ?_) (fun h5 => ?_)
      · cases h5
      refine Tr.skip ?_; refine Tr.region ?_; refine TrL.quiets 3 rfl (by exact True.intro) ?_; refine TrL.nil ?_
      refine ⟨i + 1, by omega, by dsimp only; omega, ?_⟩
      refine Eq.trans (b := (⟨[(6, [], .own 0), (9, [], vL ruleTy (l.map ruleOf)), (11, [], vI (IntKind.i64.wrap ((i : Int) + 1)))], [.gs 9 .str l]⟩ : St)) rfl ?_
      rw [w64n (y := i + 1) (by omega) (by omega)]
    · refine Tr.exit ?_; refine Tr.seq ?_; refine Tr.region ?_
      first | refine TrL.callV rfl rfl rfl rfl rfl c_awake25 ?_ | refine TrD.callV rfl rfl rfl rfl rfl c_awake25 rfl ?_
      refine TrL.quiets 1 rfl (by exact True.intro) ?_; refine TrL.nil ?_; refine Tr.ret ?_
      refine retQ.of rfl ?_
      rfl
end Go.Proofs.YtckgeebihhhapaaDoor.Sx
