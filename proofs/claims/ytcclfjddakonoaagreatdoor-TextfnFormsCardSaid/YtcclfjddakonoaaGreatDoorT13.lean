/-
  TextfnForms.
-/
import Derived.Test.YtcclfjddakonoaaGreatDoorT11
set_option linter.unusedVariables false
set_option linter.unusedSimpArgs false
set_option maxRecDepth 20000
set_option maxHeartbeats 4000000
namespace Go.Proofs.YtcclfjddakonoaaGreatDoor.Sx
open Go Go.RowKit Go.Proofs

/-- An element of an array of one-cell elements, whatever they are. -/
theorem idxAny_sound {P : Program} {n : Nat} {env : Env} {tab : List Ent} {o : Oper} {t e d m k : Nat} {x i : Operand} {cs : List SV} {s : SV} {inf : TypeInfo} {ds : TypeDesc} {ik : IntKind}
    (hn : cs[k]? = some s) (hg : o.guard = none) (ho : o.op = .index t x i) (hdst : o.dst = some d) (ht : P.underlying t = some (.array m e)) (hu : P.underlying e = some ds) (hagg : aggD ds = false) (hinf : P.info? e = some inf) (hsz : inf.size = 1)
    (hcs : cs.length = m) (hd : (decide (d < n) && okPut env d) = true) (hx : opnd env [] x = some (.agg cs)) (hi : opnd env [] i = some (.val (.int ik) (k : Int))) (hok : s.ok (fun _ => true) = true) :
    Eff P n o ⟨env, tab⟩ ⟨put env d [] s, tab⟩ none := by
  simp only [Bool.and_eq_true, decide_eq_true_eq] at hd
  refine ⟨hg, fun cx a w _ hs => ?_⟩
  obtain ⟨σ, ρ, hw, he, hn', hdf⟩ : ∃ σ ρ, WR cx σ ρ tab w ∧ EnvA σ ρ env a ∧ a.tmps.size = n ∧ a.defers = cx.ds := hs
  have h1 := opnd_den he.env (fun p hp => by cases hp) hx
  have h2 := opnd_den he.env (fun p hp => by cases hp) hi
  simp only [SV.den, Den, List.cons.injEq, and_true] at h1 h2
  obtain ⟨vs, hvx, hvs⟩ := h1
  obtain ⟨v, hv1, hv2⟩ := denL_get cs vs hvs k s hn
  have hkm : k < m := by
    have := (List.getElem?_eq_some_iff.1 hn).1
    omega
  have hrun : (Instr.index t (.agg vs.toArray) (.int ik (k : Int))).run P w = .ok v w := by
    simp only [Instr.index, asIntOf, Sem.run_bind, Sem.run_pure, Result.andThen_ok, run_underlying ht]
    rw [if_pos ⟨by omega, by omega⟩]
    simp only [Sem.run_bind, sizeOf_run hinf, Result.andThen_ok, part, isAgg_run hu, hagg, hsz, Nat.mul_one, Bool.false_eq_true, if_false]
    simp [hv1]
  refine ⟨.value v, w, ?_, .inl ⟨_, rfl, σ, ρ, hw, ?_, by rw [put_size]; exact hn', by rw [put_defers]; exact hdf⟩⟩
  · simp only [execOp, ho, hvx, h2]
    simp [hrun]
  · rw [hdst]
    exact he.put hd.2 (by rw [hn']; exact hd.1) rfl (fun _ => hv2) (fun h => absurd (fun p hp => by cases hp) h)

/-! ### As the kernel counts them -/
def sortWE (a : Str) : Str := joinW (ddF none (isortQ (splitW a)))
theorem sortWF_E (a : Str) : sortWF a = sortWE a := by
  unfold sortWF sortWE sortF
  rw [cmpS_dd, sortS_isort]
def doE (name : Str) (l : List Str) : Str × Bool :=
  match l with
  | [a] => if name = kStrip then (strip a, true) else if name = kSort then (sortWE a, true) else if name = kFirst then (firstF a, true) else if name = kLast then (lastF a, true) else ([], false)
  | [a, b] => if name = kFind then (findF a b, true) else if name = kFilter then (filtF a b false, true) else if name = kFilterOut then (filtF a b true, true) else if name = kSuffix then (sufF a b, true) else if name = kPrefix then (preF a b, true) else if name = kJoin then (joinF a b, true) else ([], false)
  | [a, b, c] => if name = kSubst then (substF a b c, true) else if name = kPatsubst then (patsubstF a b c, true) else ([], false)
  | _ => ([], false)
theorem doF_E (name : Str) (l : List Str) : doF name l = doE name l := by
  match l with
  | [] => rfl
  | [a] =>
    show (if name = kStrip then (strip a, true) else if name = kSort then (sortWF a, true) else if name = kFirst then (firstF a, true) else if name = kLast then (lastF a, true) else ([], false)) = _
    rw [sortWF_E]
    rfl
  | [a, b] => rfl
  | [a, b, c] => rfl
  | a :: b :: c :: d :: l => rfl
def fmNames : List Str := [kSubst, kSubst, kPatsubst, kPatsubst, kStrip, kFind, kFind, kFilter, kFilterOut, kSort, kFirst, kLast, kJoin, kPrefix]
def fmArgs : List (List Str) := [[[97, 97], [98], [97, 97, 97, 97, 97]], [[], [120], [97, 98]], [[37, 46, 99], [37, 46, 111], [32, 97, 46, 99, 32, 32, 98, 46, 104, 32, 99, 46, 99, 32]],
  [[97], [120, 37, 121], [97, 32, 98, 32, 97]], [[32, 97, 32, 32, 98, 32]], [[98], [97, 98, 99]], [[120], [97, 98, 99]], [[37, 46, 99, 32, 98], [97, 46, 99, 32, 98, 32, 99]], [[37, 46, 99, 32, 98], [97, 46, 99, 32, 98, 32, 99]],
  [[98, 32, 97, 32, 99, 32, 97]], [[32, 112, 32, 113, 32]], [[32, 112, 32, 113, 32]], [[97, 32, 98, 32, 99], [49, 32, 50]], [[120, 45], [32, 97, 32, 98]]]
def fmWants : List Str := [[98, 98, 97], [97, 98, 120], [97, 46, 111, 32, 98, 46, 104, 32, 99, 46, 111], [120, 37, 121, 32, 98, 32, 120, 37, 121], [97, 32, 98], [98], [], [97, 46, 99, 32, 98], [99], [97, 32, 98, 32, 99], [112], [113], [97, 49, 32, 98, 50, 32, 99], [120, 45, 97, 32, 120, 45, 98]]
def fmChk (k : Nat) : Bool :=
  let n := fmNames.getD k []; let a := fmArgs.getD k []
  doE n a == (fmWants.getD k [], true) && doE n (a ++ [[122], [122]]) == ([], false) && doE n [] == ([], false) && decide (a.length ≤ 3) && a.all fun x => decide (x.length ≤ 100)
theorem fm_all : (List.range 14).all fmChk = true := by kernel_rfl
structure FmFacts (k : Nat) : Prop where
  a : doF (fmNames.getD k []) (fmArgs.getD k []) = (fmWants.getD k [], true)
  b : doF (fmNames.getD k []) (fmArgs.getD k [] ++ [[122], [122]]) = ([], false)
  c : doF (fmNames.getD k []) [] = ([], false)
  n : (fmArgs.getD k []).length ≤ 3
  x : ∀ x ∈ fmArgs.getD k [], x.length ≤ 100
theorem fm_facts {k : Nat} (h : k < 14) : FmFacts k := by
  have h1 := List.all_eq_true.1 fm_all k (List.mem_range.2 h)
  unfold fmChk at h1
  simp only [Bool.and_eq_true, decide_eq_true_eq, beq_iff_eq, List.all_eq_true] at h1
  obtain ⟨⟨⟨⟨a, b⟩, c⟩, n⟩, x⟩ := h1
  exact ⟨by rw [doF_E]; exact a, by rw [doF_E]; exact b, by rw [doF_E]; exact c, n, x⟩
theorem c_TextfnForms (v : Int) (h1 : -9223372036854775808 ≤ v) (h2 : v ≤ 9223372036854775807) : CallV Tryz.prog 6 [vI v] (vB true) := by
  have e1 := Int.emod_nonneg v (show (14 : Int) ≠ 0 by decide)
  have e2 := Int.emod_lt_of_pos v (show (0 : Int) < 14 by decide)
  obtain ⟨k, hk⟩ : ∃ k : Nat, v % 14 = k := ⟨(v % 14).toNat, by omega⟩
  have hk2 : k < 14 := by omega
  obtain ⟨fa, fb, fc, fn, fx⟩ := fm_facts hk2
  have hargs : (fmArgs.map fun l => SV.fix .str l)[k]? = some (.fix .str (fmArgs.getD k [])) := by
    rw [List.getElem?_map, List.getD_eq_getElem?_getD]
    have : k < fmArgs.length := hk2
    rw [List.getElem?_eq_getElem this]
    rfl
  have n1 : nth (t := .str) fmNames (k : Int) = fmNames.getD k [] := rfl
  have n3 : nth (t := .str) fmWants (k : Int) = fmWants.getD k [] := rfl
  refine CallV.of Tryz.func6 (by kernel_rfl) rfl Tryz.ntmps6 (by simp) rfl fun cx hB => ?_
  have hB1 : ∀ i, cx.B i = true → i < 1 := fun i h => by have := hB i h; omega
  refine Tr.seq ?_; refine Tr.region ?_; refine TrL.quiets 1 rfl (by exact True.intro) ?_; refine TrL.nil ?_; refine Tr.seq ?_; refine Tr.region ?_; refine TrL.quiets 1 rfl (by exact True.intro) ?_
  first | refine TrL.callV rfl rfl rfl rfl rfl (c_Place v 14 (by decide) (by decide) h1 h2) ?_ | refine TrD.callV rfl rfl rfl rfl rfl (c_Place v 14 (by decide) (by decide) h1 h2) rfl ?_
  rw [hk]
  refine TrL.quiets 1 rfl (by exact True.intro) ?_; refine TrL.nil ?_
  change Tr _ _ _ _ _ _
  refine Tr.keep [3] 0 hB (st' := ⟨[(3, [], vI k)], []⟩) rfl ?_
  refine Tr.seq ?_; refine Tr.region ?_; refine TrL.quiets 4 rfl (by (simp only [allOf, impO, imp, inR, loOk, and_true]; omega)) ?_; refine TrL.nil ?_
  change Tr _ _ _ _ _ _
  refine Tr.is 4 (sv' := vS (fmNames.getD k [])) rfl (congrArg vS n1) ?_
  refine Tr.keep [3, 4] 0 hB (st' := ⟨[(3, [], vI k), (4, [], vS (fmNames.getD k []))], []⟩) rfl ?_
  refine Tr.seq ?_; refine Tr.region ?_; refine TrL.eff (effLit_sound rfl) (by exact True.intro) ?_; refine TrL.eff (effLit_sound rfl) (by exact True.intro) ?_; refine TrL.eff (effLit_sound rfl) (by exact True.intro) ?_; refine TrL.eff (effLit_sound rfl) (by exact True.intro) ?_; refine TrL.eff (effLit_sound rfl) (by exact True.intro) ?_; refine TrL.eff (effLit_sound rfl) (by exact True.intro) ?_; refine TrL.eff (effLit_sound rfl) (by exact True.intro) ?_; refine TrL.eff (effLit_sound rfl) (by exact True.intro) ?_; refine TrL.eff (effLit_sound rfl) (by exact True.intro) ?_; refine TrL.eff (effLit_sound rfl) (by exact True.intro) ?_; refine TrL.eff (effLit_sound rfl) (by exact True.intro) ?_; refine TrL.eff (effLit_sound rfl) (by exact True.intro) ?_; refine TrL.eff (effLit_sound rfl) (by exact True.intro) ?_; refine TrL.eff (effLit_sound rfl) (by exact True.intro) ?_
  refine TrL.quiets 1 rfl (by exact True.intro) ?_
  refine TrL.quiets 1 rfl (by exact True.intro) ?_
  refine TrL.eff (idxAny_sound hargs rfl rfl rfl Tryz.underlying39 Tryz.underlying22 rfl rfl rfl rfl rfl rfl rfl rfl) True.intro ?_
  refine TrL.quiets 1 rfl (by exact True.intro) ?_; refine TrL.nil ?_
  change Tr _ _ _ _ _ _
  refine Tr.weak 5 rfl (fix_weak .str (fmArgs.getD k [])) ?_
  refine Tr.keep [3, 4, 5] 0 hB (st' := ⟨[(3, [], vI k), (4, [], vS (fmNames.getD k [])), (5, [], vL .str (fmArgs.getD k []))], []⟩) rfl ?_
  refine Tr.seq ?_; refine Tr.region ?_; refine TrL.quiets 4 rfl (by (simp only [allOf, impO, imp, inR, loOk, and_true]; omega)) ?_; refine TrL.nil ?_
  change Tr _ _ _ _ _ _
  refine Tr.is 6 (sv' := vS (fmWants.getD k [])) rfl (congrArg vS n3) ?_
  refine Tr.keep [4, 5, 6] 0 hB (st' := ⟨[(4, [], vS (fmNames.getD k [])), (5, [], vL .str (fmArgs.getD k [])), (6, [], vS (fmWants.getD k []))], []⟩) rfl ?_
  generalize fmNames.getD k [] = nm at fa fb fc
  generalize fmArgs.getD k [] = ar at fa fb fn fx
  generalize fmWants.getD k [] = wa at fa
  have da := c_Do nm ar (by omega) (fun x hx => by have := fx x hx; omega)
  have db := c_Do nm (ar ++ [[122], [122]]) (by rw [List.length_append]; simp; omega) (fun x hx => by
    rcases List.mem_append.1 hx with hx | hx
    · have := fx x hx; omega
    · simp only [List.mem_cons, List.not_mem_nil, or_false] at hx
      rcases hx with rfl | rfl <;> decide)
  have dc := CallV.nils2 (c_Do nm [] (by decide) (by simp))
  unfold DoIs at da db
  rw [fa] at da
  rw [fb] at db
  rw [fc] at dc
  refine Tr.seq ?_; refine Tr.region ?_; refine TrL.quiets 2 rfl (by exact True.intro) ?_
  first | refine TrL.callV rfl rfl rfl rfl rfl da ?_ | refine TrD.callV rfl rfl rfl rfl rfl da rfl ?_
  refine TrL.quiets 5 rfl (by exact True.intro) ?_; refine TrL.nil ?_; refine Tr.seq ?_; refine Tr.region ?_; refine TrL.quiets 2 rfl (by exact True.intro) ?_; refine TrL.eff (effAppend_sound rfl) ?_ ?_
  · show ar.length ≤ 1099511627776
    omega
  refine TrL.eff (effLit_sound rfl) (by exact True.intro) ?_; refine TrL.eff (effAppend_sound rfl) ?_ ?_
  · show ar.length + 2 ≤ 1099511627776
    omega
  refine TrL.keep [4, 6, 7, 8, 45, 49] 1 hB1 (st' := ⟨[(4, [], vS nm), (6, [], vS wa), (7, [], vS wa), (8, [], vB true), (45, [], vS nm), (49, [], .own 0)], [.gs 9 .str (ar ++ [[122], [122]])]⟩) rfl ?_
  first | refine TrL.callV rfl rfl rfl rfl rfl db ?_ | refine TrD.callV rfl rfl rfl rfl rfl db rfl ?_
  refine TrL.quiets 5 rfl (by exact True.intro) ?_; refine TrL.nil ?_
  change Tr _ _ _ _ _ _
  refine Tr.keep [4, 6, 7, 8, 10] 0 hB (st' := ⟨[(4, [], vS nm), (6, [], vS wa), (7, [], vS wa), (8, [], vB true), (10, [], vB false)], []⟩) rfl ?_
  refine Tr.seq ?_; refine Tr.region ?_; refine TrL.quiets 1 rfl (by exact True.intro) ?_
  first | refine TrL.callV rfl rfl rfl rfl rfl dc ?_ | refine TrD.callV rfl rfl rfl rfl rfl dc rfl ?_
  refine TrL.quiets 5 rfl (by exact True.intro) ?_; refine TrL.nil ?_; refine Tr.seq ?_; refine Tr.region ?_; refine TrL.quiets 15 rfl (by exact True.intro) ?_
  first | refine TrL.callV rfl rfl rfl rfl rfl c_awake18 ?_ | refine TrD.callV rfl rfl rfl rfl rfl c_awake18 rfl ?_
  refine TrL.quiets 2 rfl (by exact True.intro) ?_; refine TrL.nil ?_; refine Tr.ret ?_
  refine retQ.of rfl ?_
  refine congrArg vB ?_
  simp
end Go.Proofs.YtcclfjddakonoaaGreatDoor.Sx
