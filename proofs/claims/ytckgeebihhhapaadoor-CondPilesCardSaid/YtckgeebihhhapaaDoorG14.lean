/-
  CondPiles.
-/
import Derived.Test.YtckgeebihhhapaaDoorG11
set_option linter.unusedVariables false
set_option linter.unusedSimpArgs false
set_option maxRecDepth 20000
set_option maxHeartbeats 4000000
namespace Go.Proofs.YtckgeebihhhapaaDoor.Sx
open Go Go.RowKit Go.Proofs

/-! ### Plain -/
def toR (x : lvTy.D) : tbTy.D := (x.2.1, x.1 != 0, x.2.2)
def toRs (l : List lvTy.D) : List tbTy.D := l.map toR
theorem toRs_snoc (pre : List lvTy.D) (x : lvTy.D) : toRs (pre ++ [x]) = toRs pre ++ [toR x] := by simp [toRs]
theorem toRs_len (l : List lvTy.D) : (toRs l).length = l.length := by simp [toRs]
theorem toRs_drop (l : List lvTy.D) : (toRs l).dropLast = toRs l.dropLast := by simp [toRs]
theorem toR_else (x : lvTy.D) (p y : Bool) : pElseF (toR x) p y = toR (elseF x p y) := by
  obtain ⟨s, li, pl⟩ := x
  simp only [pElseF, toR, elseF]
  by_cases h : s = 0
  · subst h
    cases p <;> cases y <;> rfl
  · have h1 : (s == 0) = false := by simpa using h
    have h2 : (s != 0) = true := by simpa using h
    rw [h1, h2]
    simp [h2]
theorem toRs_live (l : List lvTy.D) : pLive (toRs l) = allLive l := by simp [pLive, allLive, toRs, toR, List.all_map, Function.comp_def]
theorem c_Else_any (l : List lvTy.D) (plain yes : Bool) (hl : l.length ≤ 100000) : ∃ (r : Bool) (l' : List lvTy.D), l'.length = l.length ∧ CallT Tryd.prog 30 [.ptr 0 0, vB plain, vB yes] (pileT l) (vB r) (pileT l') ∧
    CallT Tryd.prog 31 [.ptr 0 0, vB plain, vB yes] (pT (toRs l)) (vB r) (pT (toRs l')) := by
  rcases List.eq_nil_or_concat l with rfl | ⟨pre, x, rfl⟩
  · exact ⟨false, [], rfl, c_Else_nil plain yes, c_pElse_nil plain yes⟩
  · rw [List.concat_eq_append] at hl ⊢
    have hp : pre.length < 1000000 := by simp at hl; omega
    have h1 := c_Else_snoc pre x plain yes hp
    have h2 := c_pElse_snoc (toRs pre) (toR x) plain yes (by rw [toRs_len]; exact hp)
    rw [← toRs_snoc] at h2
    refine ⟨!x.2.2, pre ++ [bif x.2.2 then x else elseF x plain yes], by simp, h1, ?_⟩
    have e : (bif (toR x).2.2 then toR x else pElseF (toR x) plain yes) = toR (bif x.2.2 then x else elseF x plain yes) := by
      rw [toR_else]
      show (bif x.2.2 then toR x else toR (elseF x plain yes)) = _
      cases x.2.2 <;> rfl
    rw [e, ← toRs_snoc] at h2
    exact h2
theorem c_Wants_any (l : List lvTy.D) (hl : l.length ≤ 100000) : ∃ r : Bool, CallT Tryd.prog 34 [.ptr 0 0] (pileT l) (vB r) (pileT l) ∧ CallT Tryd.prog 35 [.ptr 0 0] (pT (toRs l)) (vB r) (pT (toRs l)) := by
  rcases List.eq_nil_or_concat l with rfl | ⟨pre, x, rfl⟩
  · exact ⟨false, c_Wants_nil, c_pWants_nil⟩
  · rw [List.concat_eq_append] at hl ⊢
    have hp : pre.length < 1000000 := by simp at hl; omega
    have h1 := c_Wants_snoc pre x hp
    have h2 := c_pWants_snoc (toRs pre) (toR x) (by rw [toRs_len]; exact hp)
    rw [← toRs_snoc, toRs_live] at h2
    refine ⟨x.1 == 0 && !x.2.2 && allLive pre, h1, ?_⟩
    have e : (!(toR x).2.1 && !(toR x).2.2 && allLive pre) = (x.1 == 0 && !x.2.2 && allLive pre) := by
      show (!(x.1 != 0) && !x.2.2 && allLive pre) = _
      rw [bne, Bool.not_not]
    rw [e] at h2
    exact h2
abbrev pilesU (l : List lvTy.D) (r : List tbTy.D) : List Ent := [.box 91 [.arr 2], .box 61 [.arr 3], .ra 94 lvTy l, .ra 95 tbTy r]
abbrev pilesT (l : List lvTy.D) : List Ent := pilesU l (toRs l)
theorem c_CondPiles (ns : List Int) (hn : okInts ns) : CallV Tryd.prog 10 [vL (.int .i64) ns] (vB true) := by
  refine CallV.of Tryd.func10 (by kernel_rfl) rfl Tryd.ntmps10 (by simp) rfl fun cx hB => ?_
  have hB4 : ∀ i, cx.B i = true → i < 4 := fun i h => by have := hB i h; omega
  refine Tr.seq ?_; refine Tr.region ?_; refine TrL.quiets 1 rfl (by exact True.intro) ?_; refine TrL.nil ?_; refine Tr.seq ?_; refine Tr.region ?_
  refine TrL.callT [] rfl rfl rfl rfl rfl c_New rfl rfl rfl ?_
  refine TrL.quiets 1 rfl (by exact True.intro) ?_; refine TrL.eff (effBox_sound rfl) (by exact True.intro) ?_; refine TrL.quiets 2 rfl (by exact True.intro) ?_; refine TrL.nil ?_
  change Tr _ _ _ _ _ _
  refine Tr.nilBoxM 0 0 94 lvTy rfl rfl ?_
  refine Tr.nilBoxM 1 0 95 tbTy rfl rfl ?_
  refine Tr.seq ?_; refine Tr.seq ?_; refine Tr.region ?_; refine TrL.quiets 2 rfl (by exact True.intro) ?_; refine TrL.nil ?_
  refine Tr.cond rfl (fun h0 => ?_) (fun h0 => ?_)
  · cases h0
  refine Tr.skip ?_; refine Tr.seq ?_; refine Tr.seq ?_; refine Tr.region ?_; refine TrL.quiets 1 rfl (by exact True.intro) ?_; refine TrL.nil ?_; refine Tr.block ?_
  refine Tr.loop (fun (x : Nat × List lvTy.D) => ⟨[(0, [], vL (.int .i64) ns), (3, [], .ptr 0 0), (4, [], .ptr 1 0), (5, [], vI x.1)], pilesT x.2⟩) (fun x => x.1 ≤ 80 ∧ x.2.length ≤ x.1) (fun x => 80 - x.1) (0, []) [0, 3, 4, 5] 4 hB4 rfl ⟨by decide, by decide⟩ fun x hx => ?_
  obtain ⟨i, l⟩ := x
  obtain ⟨hi, hl⟩ := hx
  dsimp only at hi hl
  refine Tr.seq ?_; refine Tr.seq ?_; refine Tr.region ?_; refine TrL.quiets 8 rfl (by exact True.intro) ?_; refine TrL.nil ?_
  refine Tr.cond rfl (fun h1 => ?_) (fun h1 => ?_)
  · simp only [Bool.and_eq_true, decide_eq_true_eq] at h1
    have hi1 : i < ns.length := by omega
    obtain ⟨hv1, hv2⟩ := okInts_nth hn i
    refine Tr.skip ?_; refine Tr.seq ?_; refine Tr.block ?_; refine Tr.seq ?_; refine Tr.region ?_; refine TrL.quiets 4 rfl (by (simp only [allOf, impO, imp, inR, loOk, and_true]; omega)) ?_
    first | refine TrL.callV rfl rfl rfl rfl rfl (c_Place _ 24 (by decide) (by decide) hv1 hv2) ?_ | refine TrD.callV rfl rfl rfl rfl rfl (c_Place _ 24 (by decide) (by decide) hv1 hv2) rfl ?_
    obtain ⟨k, hk⟩ : ∃ k : Nat, (k : Int) = nth (t := .int .i64) ns (i : Int) % 24 := ⟨(nth (t := .int .i64) ns (i : Int) % 24).toNat, by omega⟩
    have hk2 : k < 24 := by omega
    rw [← hk]
    refine TrL.quiets 1 rfl (by exact True.intro) ?_; refine TrL.nil ?_; refine Tr.seq ?_; refine Tr.region ?_; refine TrL.quiets 9 rfl (by (simp only [allOf, impO, imp, inR, loOk, and_true]; omega)) ?_; refine TrL.nil ?_
    generalize ((IntKind.i64.wrap (Int.tdiv (k : Int) 6)).tmod 2 == 0) = yes
    generalize (IntKind.i64.wrap (Int.tdiv (k : Int) 12) == 0) = plain
    refine Tr.keep [0, 3, 4, 5, 6, 7, 8] 4 hB4 (st' := ⟨[(0, [], vL (.int .i64) ns), (3, [], .ptr 0 0), (4, [], .ptr 1 0), (5, [], vI i), (6, [], vI (k : Int)), (7, [], vB yes), (8, [], vB plain)], pilesT l⟩) rfl ?_
    refine Tr.seq ?_; refine Tr.seq ?_; refine Tr.region ?_; refine TrL.quiets 2 rfl (by (simp only [allOf, impO, imp, inR, loOk, and_true]; omega)) ?_; refine TrL.nil ?_
    change Tr _ _ _ _ _ _
    refine Tr.joinN (fun (l' : List lvTy.D) => ⟨[(0, [], vL (.int .i64) ns), (3, [], .ptr 0 0), (4, [], .ptr 1 0), (5, [], vI i)], pilesT l'⟩) (fun l' => l'.length ≤ i + 1) [0, 3, 4, 5] 4 hB4 ?_ fun l' hl' => ?_
    · have hadd : toRs (l ++ [((if yes then 1 else 0 : Int), yes, false)]) = toRs l ++ [(yes, yes, false)] := by
        rw [toRs_snoc]
        cases yes <;> rfl
      refine Tr.block ?_; refine Tr.seq ?_; refine Tr.seq ?_; refine Tr.region ?_; refine TrL.quiets 2 rfl (by exact True.intro) ?_; refine TrL.nil ?_
      refine Tr.cond rfl (fun e1 => ?_) (fun e1 => ?_)
      · refine Tr.skip ?_
        refine Tr.cond rfl (fun e2 => ?_) (fun e2 => ?_)
        · refine Tr.seq ?_; refine Tr.region ?_; refine TrL.quiets 2 rfl (by exact True.intro) ?_
          refine TrL.callT [0, 2] rfl rfl rfl rfl rfl (c_If l yes (by omega)) rfl rfl rfl ?_
          refine TrL.nil ?_; refine Tr.region ?_; refine TrL.quiets 2 rfl (by exact True.intro) ?_
          refine TrL.callT [1, 3] rfl rfl rfl rfl rfl (c_pIf (toRs l) yes (by rw [toRs_len]; omega)) rfl rfl rfl ?_
          refine TrL.nil ?_
          refine ⟨l ++ [((if yes then 1 else 0 : Int), yes, false)], by simp only [List.length_append, List.length_cons, List.length_nil]; omega, ?_⟩
          refine Eq.trans (b := (⟨[(0, [], vL (.int .i64) ns), (3, [], .ptr 0 0), (4, [], .ptr 1 0), (5, [], vI i)], pilesU (l ++ [((if yes then 1 else 0 : Int), yes, false)]) (toRs l ++ [(yes, yes, false)])⟩ : St)) rfl ?_
          rw [← hadd]
        · rw [e1] at e2
          cases e2
      · refine Tr.region ?_; refine TrL.quiets 2 rfl (by exact True.intro) ?_; refine TrL.nil ?_
        refine Tr.cond rfl (fun e2 => ?_) (fun e2 => ?_)
        · refine Tr.seq ?_; refine Tr.region ?_; refine TrL.quiets 2 rfl (by exact True.intro) ?_
          refine TrL.callT [0, 2] rfl rfl rfl rfl rfl (c_If l yes (by omega)) rfl rfl rfl ?_
          refine TrL.nil ?_; refine Tr.region ?_; refine TrL.quiets 2 rfl (by exact True.intro) ?_
          refine TrL.callT [1, 3] rfl rfl rfl rfl rfl (c_pIf (toRs l) yes (by rw [toRs_len]; omega)) rfl rfl rfl ?_
          refine TrL.nil ?_
          refine ⟨l ++ [((if yes then 1 else 0 : Int), yes, false)], by simp only [List.length_append, List.length_cons, List.length_nil]; omega, ?_⟩
          refine Eq.trans (b := (⟨[(0, [], vL (.int .i64) ns), (3, [], .ptr 0 0), (4, [], .ptr 1 0), (5, [], vI i)], pilesU (l ++ [((if yes then 1 else 0 : Int), yes, false)]) (toRs l ++ [(yes, yes, false)])⟩ : St)) rfl ?_
          rw [← hadd]
        · refine Tr.seq ?_; refine Tr.region ?_; refine TrL.quiets 2 rfl (by exact True.intro) ?_; refine TrL.nil ?_
          refine Tr.cond rfl (fun e3 => ?_) (fun e3 => ?_)
          · refine Tr.seq ?_; refine Tr.region ?_; refine TrL.quiets 1 rfl (by exact True.intro) ?_
            refine TrL.callT [0, 2] rfl rfl rfl rfl rfl (c_End l (by omega)) rfl rfl rfl ?_
            refine TrL.quiets 1 rfl (by exact True.intro) ?_
            refine TrL.callT [1, 3] rfl rfl rfl rfl rfl (c_pEnd (toRs l) (by rw [toRs_len]; omega)) rfl rfl rfl ?_
            refine TrL.quiets 1 rfl (by exact True.intro) ?_; refine TrL.nil ?_
            refine Tr.cond rfl (fun e4 => ?_) (fun e4 => ?_)
            · rw [toRs_len] at e4
              simp at e4
            · refine Tr.skip ?_
              refine ⟨l.dropLast, by simp only [List.length_dropLast]; omega, ?_⟩
              refine Eq.trans (b := (⟨[(0, [], vL (.int .i64) ns), (3, [], .ptr 0 0), (4, [], .ptr 1 0), (5, [], vI i)], pilesU l.dropLast (toRs l).dropLast⟩ : St)) rfl ?_
              rw [toRs_drop]
          · obtain ⟨r, l', hl', hc1, hc2⟩ := c_Else_any l plain yes (by omega)
            refine Tr.seq ?_; refine Tr.region ?_; refine TrL.quiets 3 rfl (by exact True.intro) ?_
            refine TrL.callT [0, 2] rfl rfl rfl rfl rfl hc1 rfl rfl rfl ?_
            refine TrL.quiets 3 rfl (by exact True.intro) ?_
            refine TrL.callT [1, 3] rfl rfl rfl rfl rfl hc2 rfl rfl rfl ?_
            refine TrL.quiets 1 rfl (by exact True.intro) ?_; refine TrL.nil ?_
            refine Tr.cond rfl (fun e4 => ?_) (fun e4 => ?_)
            · simp at e4
            · refine Tr.skip ?_
              exact ⟨l', by omega, rfl⟩
    · obtain ⟨r, hw1, hw2⟩ := c_Wants_any l' (by omega)
      refine Tr.seq ?_
      refine Tr.drawA 22 rfl (by kernel_rfl) ?_
      refine TrA.take 0 rfl rfl (by kernel_rfl) rfl (by exact True.intro) ?_; refine TrA.take 2 rfl rfl (by kernel_rfl) rfl (by exact True.intro) ?_; refine TrA.one 1 (by kernel_rfl) rfl ?_
      refine TrL.callT [0, 2] rfl rfl rfl rfl rfl (c_Live l' (by omega)) rfl rfl rfl ?_
      refine TrL.nil ?_; refine TrA.one 3 (by kernel_rfl) rfl ?_
      refine TrL.eqS (st' := ⟨_, pilesT l'⟩) rfl ?_
      refine TrL.callT [1, 3] rfl rfl rfl rfl rfl (c_pLive (toRs l') (by rw [toRs_len]; omega)) rfl rfl rfl ?_
      refine TrL.nil ?_; refine TrA.take 4 rfl rfl (by kernel_rfl) rfl (by exact True.intro) ?_; refine TrA.take 5 rfl rfl (by kernel_rfl) rfl (by exact True.intro) ?_; refine TrA.take 6 rfl rfl (by kernel_rfl) rfl (by exact True.intro) ?_; refine TrA.take 8 rfl rfl (by kernel_rfl) rfl (by exact True.intro) ?_; refine TrA.one 7 (by kernel_rfl) rfl ?_
      refine TrL.eqS (st' := ⟨_, pilesT l'⟩) rfl ?_
      refine TrL.callTG [0, 2] rfl rfl rfl rfl rfl hw1 rfl rfl rfl rfl ?_
      refine TrL.nil ?_; refine TrA.one 9 (by kernel_rfl) rfl ?_
      refine TrL.eqS (st' := ⟨_, pilesT l'⟩) rfl ?_
      refine TrL.callTG [1, 3] rfl rfl rfl rfl rfl hw2 rfl rfl rfl rfl ?_
      refine TrL.nil ?_; refine TrA.take 10 rfl rfl (by kernel_rfl) rfl (by exact True.intro) ?_; refine TrA.take 11 rfl rfl (by kernel_rfl) rfl (by exact True.intro) ?_; refine TrA.take 12 rfl rfl (by kernel_rfl) rfl (by exact True.intro) ?_; refine TrA.take 13 rfl rfl (by kernel_rfl) rfl (by exact True.intro) ?_; refine TrA.take 15 rfl rfl (by kernel_rfl) rfl (by exact True.intro) ?_; refine TrA.take 16 rfl rfl (by kernel_rfl) rfl (by exact True.intro) ?_; refine TrA.take 17 rfl rfl (by kernel_rfl) rfl (by exact True.intro) ?_; refine TrA.two 14 18 (by kernel_rfl) rfl rfl ?_ ?_
      · refine TrL.eqS (st' := ⟨_, pilesT l'⟩) rfl ?_
        refine TrL.callTG [0, 2] rfl rfl rfl rfl rfl (c_Len l') rfl rfl rfl rfl ?_
        refine TrL.nil ?_; refine TrA.one 18 (by kernel_rfl) rfl ?_; refine TrL.quiets 1 rfl (by exact True.intro) ?_; refine TrL.nil ?_; refine TrA.take 19 rfl rfl (by kernel_rfl) rfl (by exact True.intro) ?_; refine TrA.take 20 rfl rfl (by kernel_rfl) rfl (by exact True.intro) ?_; refine TrA.take 21 rfl rfl (by kernel_rfl) rfl (by exact True.intro) ?_; refine TrA.done (by kernel_rfl) ?_
        refine Tr.cond rfl (fun e5 => ?_) (fun e5 => ?_)
        · exfalso
          rw [toRs_live, toRs_len] at e5
          simp at e5
        · refine Tr.skip ?_; refine Tr.region ?_; refine TrL.quiets 3 rfl (by exact True.intro) ?_; refine TrL.nil ?_
          refine ⟨(i + 1, l'), ⟨by omega, by dsimp only; omega⟩, by dsimp only; omega, ?_⟩
          refine Eq.trans (b := (⟨[(0, [], vL (.int .i64) ns), (3, [], .ptr 0 0), (4, [], .ptr 1 0), (5, [], vI (IntKind.i64.wrap ((i : Int) + 1)))], pilesU l' (toRs l')⟩ : St)) rfl ?_
          rw [w64n (y := i + 1) (by omega) (by omega)]
      · refine TrL.quiets 1 rfl (by exact True.intro) ?_; refine TrL.nil ?_; refine TrA.take 19 rfl rfl (by kernel_rfl) rfl (by exact True.intro) ?_; refine TrA.one 14 (by kernel_rfl) rfl ?_
        refine TrL.eqS (st' := ⟨_, pilesT l'⟩) rfl ?_
        refine TrL.callTG [0, 2] rfl rfl rfl rfl rfl (c_Len l') rfl rfl rfl rfl ?_
        refine TrL.nil ?_; refine TrA.take 20 rfl rfl (by kernel_rfl) rfl (by exact True.intro) ?_; refine TrA.take 21 rfl rfl (by kernel_rfl) rfl (by exact True.intro) ?_; refine TrA.done (by kernel_rfl) ?_
        refine Tr.cond rfl (fun e5 => ?_) (fun e5 => ?_)
        · exfalso
          rw [toRs_live, toRs_len] at e5
          simp at e5
        · refine Tr.skip ?_; refine Tr.region ?_; refine TrL.quiets 3 rfl (by exact True.intro) ?_; refine TrL.nil ?_
          refine ⟨(i + 1, l'), ⟨by omega, by dsimp only; omega⟩, by dsimp only; omega, ?_⟩
          refine Eq.trans (b := (⟨[(0, [], vL (.int .i64) ns), (3, [], .ptr 0 0), (4, [], .ptr 1 0), (5, [], vI (IntKind.i64.wrap ((i : Int) + 1)))], pilesU l' (toRs l')⟩ : St)) rfl ?_
          rw [w64n (y := i + 1) (by omega) (by omega)]
  · refine Tr.exit ?_; refine Tr.seq ?_; refine Tr.region ?_
    first | refine TrL.callV rfl rfl rfl rfl rfl c_awake23 ?_ | refine TrD.callV rfl rfl rfl rfl rfl c_awake23 rfl ?_
    refine TrL.quiets 1 rfl (by exact True.intro) ?_; refine TrL.nil ?_; refine Tr.ret ?_
    refine retQ.of rfl ?_
    rfl
end Go.Proofs.YtckgeebihhhapaaDoor.Sx
