/-
  CondOne.
-/
import Derived.Test.YtckgeebihhhapaaDoorG11
set_option linter.unusedVariables false
set_option linter.unusedSimpArgs false
set_option maxRecDepth 20000
set_option maxHeartbeats 4000000
namespace Go.Proofs.YtckgeebihhhapaaDoor.Sx
open Go Go.RowKit Go.Proofs

def sI (b : Bool) : Int := if b then 1 else 0
/-- The one level there is. -/
abbrev oneT (had live plain : Bool) : List Ent := pileT [(sI had, live, plain)]
theorem o_Live (had live plain : Bool) : CallT Tryd.prog 32 [.ptr 0 0] (oneT had live plain) (vB live) (oneT had live plain) := by
  have h := c_Live [(sI had, live, plain)] (by simp)
  have e : allLive [(sI had, live, plain)] = live := by simp [allLive]
  rw [e] at h
  exact h
theorem sI_zero (had : Bool) : (sI had == 0) = !had := by cases had <;> rfl
theorem o_Wants (had live plain : Bool) : CallT Tryd.prog 34 [.ptr 0 0] (oneT had live plain) (vB (!had && !plain)) (oneT had live plain) := by
  have h := c_Wants_snoc [] (sI had, live, plain) (by decide)
  have e : ((sI had, live, plain).1 == 0 && !(sI had, live, plain).2.2 && allLive []) = (!had && !plain) := by
    show (sI had == 0 && !plain && true) = _
    rw [sI_zero, Bool.and_true]
  rw [e] at h
  exact h
theorem o_Else (had live p y : Bool) : CallT Tryd.prog 30 [.ptr 0 0, vB p, vB y] (oneT had live false) (vB true) (oneT (had || p || y) (!had && (p || y)) p) := by
  have h := c_Else_snoc [] (sI had, live, false) p y (by decide)
  have e : (bif (sI had, live, false).2.2 then (sI had, live, false) else elseF (sI had, live, false) p y) = (sI (had || p || y), !had && (p || y), p) := by
    cases had <;> cases p <;> cases y <;> rfl
  rw [e] at h
  exact h
theorem o_ElseNo (had live p y : Bool) : CallT Tryd.prog 30 [.ptr 0 0, vB p, vB y] (oneT had live true) (vB false) (oneT had live true) := by
  have h := c_Else_snoc [] (sI had, live, true) p y (by decide)
  exact h
theorem o_If (y : Bool) : CallT Tryd.prog 26 [.ptr 0 0, vB y] (pileT []) (.tup []) (oneT y y false) := c_If [] y (by decide)
theorem o_End (had live plain : Bool) : CallT Tryd.prog 28 [.ptr 0 0] (oneT had live plain) (vB true) (pileT []) := c_End [(sI had, live, plain)] (by simp)
abbrev nI (b : Bool) : SV := vI (if b then 1 else 0)
theorem c_CondOne (first : Bool) (l : List Bool) (last : Bool) : CallV Tryd.prog 11 [vB first, vL .bool l, vB last] (vB true) := by
  refine CallV.of Tryd.func11 (by kernel_rfl) rfl Tryd.ntmps11 (by simp) rfl fun cx hB => ?_
  have hB2 : ∀ i, cx.B i = true → i < 2 := fun i h => by have := hB i h; omega
  refine Tr.seq ?_; refine Tr.region ?_; refine TrL.quiets 1 rfl (by exact True.intro) ?_; refine TrL.nil ?_; refine Tr.seq ?_; refine Tr.region ?_
  refine TrL.callT [] rfl rfl rfl rfl rfl c_New rfl rfl rfl ?_
  refine TrL.quiets 1 rfl (by exact True.intro) ?_; refine TrL.nil ?_
  change Tr _ _ _ _ _ _
  refine Tr.nilBoxM 0 0 94 lvTy rfl rfl ?_
  refine Tr.seq ?_; refine Tr.seq ?_; refine Tr.region ?_; refine TrL.quiets 2 rfl (by exact True.intro) ?_; refine TrL.nil ?_
  refine Tr.cond rfl (fun h0 => ?_) (fun h0 => ?_)
  · cases h0
  refine Tr.skip ?_; refine Tr.seq ?_; refine Tr.region ?_; refine TrL.quiets 2 rfl (by exact True.intro) ?_
  refine TrL.callT [0, 1] rfl rfl rfl rfl rfl (o_If first) rfl rfl rfl ?_
  refine TrL.nil ?_; refine Tr.seq ?_; refine Tr.region ?_; refine TrL.quiets 3 rfl (by exact True.intro) ?_; refine TrL.nil ?_
  change Tr _ _ _ _ _ _
  refine Tr.keep [1, 2, 7, 8, 9] 2 hB2 (st' := ⟨[(1, [], vL .bool l), (2, [], vB last), (7, [], .ptr 0 0), (8, [], vI 0), (9, [], vB first)], oneT first first false⟩) rfl ?_
  refine Tr.seq ?_; refine Tr.seq ?_; refine Tr.region ?_; refine TrL.quiets 1 rfl (by exact True.intro) ?_
  refine TrL.callT [0, 1] rfl rfl rfl rfl rfl (o_Live first first false) rfl rfl rfl ?_
  refine TrL.nil ?_
  refine Tr.joinN (fun (_ : Unit) => ⟨[(1, [], vL .bool l), (2, [], vB last), (7, [], .ptr 0 0), (8, [], nI first), (9, [], vB first)], oneT first first false⟩) (fun _ => True) [1, 2, 7, 8, 9] 2 hB2 ?_ fun _ _ => ?_
  · refine Tr.cond rfl (fun h1 => ?_) (fun h1 => ?_)
    · have h1' : first = true := h1
      subst h1'
      refine Tr.region ?_; refine TrL.quiets 3 rfl (by exact True.intro) ?_; refine TrL.nil ?_
      exact ⟨(), trivial, rfl⟩
    · have h1' : first = false := h1
      subst h1'
      refine Tr.skip ?_
      exact ⟨(), trivial, rfl⟩
  refine Tr.seq ?_; refine Tr.seq ?_; refine Tr.region ?_; refine TrL.quiets 1 rfl (by exact True.intro) ?_; refine TrL.nil ?_; refine Tr.block ?_
  refine Tr.loop (fun (x : Nat × Bool × Bool) => ⟨[(1, [], vL .bool l), (2, [], vB last), (7, [], .ptr 0 0), (8, [], nI x.2.1), (9, [], vB x.2.1), (10, [], vI x.1)], oneT x.2.1 x.2.2 false⟩) (fun x => x.1 ≤ 20) (fun x => 20 - x.1) (0, first, first) [1, 2, 7, 8, 9, 10] 2 hB2 rfl (Nat.zero_le _) fun x hi => ?_
  obtain ⟨i, had, live⟩ := x
  dsimp only at hi
  refine Tr.seq ?_; refine Tr.seq ?_; refine Tr.region ?_; refine TrL.quiets 8 rfl (by exact True.intro) ?_; refine TrL.nil ?_
  refine Tr.cond rfl (fun h1 => ?_) (fun h1 => ?_)
  · simp only [Bool.and_eq_true, decide_eq_true_eq] at h1
    have hi1 : i < l.length := by omega
    obtain ⟨y, hy⟩ : ∃ y : Bool, (nth (t := .bool) l (i : Int) : Bool) = y := ⟨_, rfl⟩
    refine Tr.skip ?_; refine Tr.seq ?_; refine Tr.block ?_; refine Tr.seq ?_; refine Tr.seq ?_; refine Tr.region ?_; refine TrL.quiets 1 rfl (by exact True.intro) ?_
    refine TrL.callT [0, 1] rfl rfl rfl rfl rfl (o_Wants had live false) rfl rfl rfl ?_
    refine TrL.quiets 8 rfl (by (simp only [allOf, impO, imp, inR, loOk, and_true]; omega)) ?_
    refine TrL.is 36 (sv' := vB false) rfl (congrArg vB (by cases had <;> rfl)) ?_
    refine TrL.known 37 rfl rfl ?_
    refine TrL.known 41 rfl rfl ?_
    refine TrL.is 41 (sv' := vB y) rfl (congrArg vB hy) ?_
    refine TrL.want rfl rfl rfl ?_
    refine TrL.eqS (st' := ⟨_, oneT had live false⟩) rfl ?_
    refine TrL.callT [0, 1] rfl rfl rfl rfl rfl (o_Else had live false y) rfl rfl rfl ?_
    refine TrL.quiets 2 rfl (by exact True.intro) ?_; refine TrL.nil ?_
    refine Tr.cond rfl (fun h2 => ?_) (fun h2 => ?_)
    · cases h2
    · change Tr _ _ _ _ _ _
      refine Tr.keep [1, 2, 7, 8, 9, 10] 2 hB2 (st' := ⟨[(1, [], vL .bool l), (2, [], vB last), (7, [], .ptr 0 0), (8, [], nI had), (9, [], vB had), (10, [], vI i)], oneT (had || false || y) (!had && (false || y)) false⟩) rfl ?_
      refine Tr.skip ?_; refine Tr.seq ?_; refine Tr.seq ?_; refine Tr.region ?_; refine TrL.quiets 1 rfl (by exact True.intro) ?_
      refine TrL.callT [0, 1] rfl rfl rfl rfl rfl (o_Live (had || false || y) (!had && (false || y)) false) rfl rfl rfl ?_
      refine TrL.nil ?_
      refine Tr.joinN (fun (_ : Unit) => ⟨[(1, [], vL .bool l), (2, [], vB last), (7, [], .ptr 0 0), (8, [], nI (had || y)), (9, [], vB had), (10, [], vI i)], oneT (had || y) (!had && y) false⟩) (fun _ => True) [1, 2, 7, 8, 9, 10] 2 hB2 ?_ fun _ _ => ?_
      · refine Tr.cond rfl (fun h3 => ?_) (fun h3 => ?_)
        · have h3' : (!had && (false || y)) = true := h3
          obtain ⟨rfl, rfl⟩ : had = false ∧ y = true := by simpa using h3'
          refine Tr.region ?_; refine TrL.quiets 3 rfl (by exact True.intro) ?_; refine TrL.nil ?_
          exact ⟨(), trivial, rfl⟩
        · have h3' : (!had && (false || y)) = false := h3
          refine Tr.skip ?_
          refine ⟨(), trivial, ?_⟩
          cases had <;> cases y <;> first | rfl | cases h3'
      refine Tr.region ?_; refine TrL.quiets 8 rfl (by (simp only [allOf, impO, imp, inR, loOk, and_true]; omega)) ?_; refine TrL.nil ?_; refine Tr.region ?_; refine TrL.quiets 3 rfl (by exact True.intro) ?_; refine TrL.nil ?_
      refine ⟨(i + 1, (had || y), (!had && y)), by omega, by dsimp only; omega, ?_⟩
      refine Eq.trans (b := (⟨[(1, [], vL .bool l), (2, [], vB last), (7, [], .ptr 0 0), (8, [], nI (had || y)), (9, [], vB (had || (nth (t := .bool) l (i : Int) : Bool))), (10, [], vI (IntKind.i64.wrap ((i : Int) + 1)))], oneT (had || y) (!had && y) false⟩ : St)) rfl ?_
      rw [hy, w64n (y := i + 1) (by omega) (by omega)]
  · refine Tr.exit ?_; refine Tr.seq ?_; refine Tr.seq ?_; refine Tr.region ?_; refine TrL.quiets 1 rfl (by exact True.intro) ?_; refine TrL.nil ?_
    refine Tr.joinN (fun (x : Bool × Bool × Bool) => ⟨[(8, [], nI x.1), (9, [], vB x.1), (7, [], .ptr 0 0)], oneT x.1 x.2.1 x.2.2⟩) (fun _ => True) [8, 9, 7] 2 hB2 ?_ fun x _ => ?_
    · refine Tr.cond rfl (fun h2 => ?_) (fun h2 => ?_)
      · refine Tr.seq ?_; refine Tr.seq ?_; refine Tr.region ?_; refine TrL.quiets 1 rfl (by exact True.intro) ?_
        refine TrL.callT [0, 1] rfl rfl rfl rfl rfl (o_Else had live true false) rfl rfl rfl ?_
        refine TrL.quiets 3 rfl (by exact True.intro) ?_
        refine TrL.known 61 rfl rfl ?_
        refine TrL.want rfl rfl rfl ?_
        refine TrL.eqS (st' := ⟨_, oneT (had || true || false) (!had && (true || false)) true⟩) rfl ?_
        refine TrL.callT [0, 1] rfl rfl rfl rfl rfl (o_ElseNo (had || true || false) (!had && (true || false)) false true) rfl rfl rfl ?_
        refine TrL.quiets 3 rfl (by exact True.intro) ?_
        refine TrL.known 65 rfl rfl ?_
        refine TrL.want rfl rfl rfl ?_
        refine TrL.eqS (st' := ⟨_, oneT (had || true || false) (!had && (true || false)) true⟩) rfl ?_
        refine TrL.callT [0, 1] rfl rfl rfl rfl rfl (o_ElseNo (had || true || false) (!had && (true || false)) true true) rfl rfl rfl ?_
        refine TrL.quiets 1 rfl (by exact True.intro) ?_; refine TrL.nil ?_
        refine Tr.cond rfl (fun h3 => ?_) (fun h3 => ?_)
        · cases h3
        change Tr _ _ _ _ _ _
        refine Tr.keep [7, 8, 9] 2 hB2 (st' := ⟨[(7, [], .ptr 0 0), (8, [], nI had), (9, [], vB had)], oneT (had || true || false) (!had && (true || false)) true⟩) rfl ?_
        refine Tr.skip ?_; refine Tr.seq ?_; refine Tr.seq ?_; refine Tr.region ?_; refine TrL.quiets 1 rfl (by exact True.intro) ?_
        refine TrL.callT [0, 1] rfl rfl rfl rfl rfl (o_Live (had || true || false) (!had && (true || false)) true) rfl rfl rfl ?_
        refine TrL.nil ?_
        refine Tr.joinN (fun (_ : Unit) => ⟨[(7, [], .ptr 0 0), (8, [], nI true), (9, [], vB had)], oneT true (!had) true⟩) (fun _ => True) [7, 8, 9] 2 hB2 ?_ fun _ _ => ?_
        · refine Tr.cond rfl (fun h4 => ?_) (fun h4 => ?_)
          · have h4' : (!had && (true || false)) = true := h4
            obtain rfl : had = false := by simpa using h4'
            refine Tr.region ?_; refine TrL.quiets 3 rfl (by exact True.intro) ?_; refine TrL.nil ?_
            exact ⟨(), trivial, rfl⟩
          · have h4' : (!had && (true || false)) = false := h4
            obtain rfl : had = true := by simpa using h4'
            refine Tr.skip ?_
            exact ⟨(), trivial, rfl⟩
        refine Tr.region ?_; refine TrL.quiets 1 rfl (by exact True.intro) ?_; refine TrL.nil ?_
        exact ⟨(true, !had, true), trivial, rfl⟩
      · refine Tr.skip ?_
        exact ⟨(had, live, false), trivial, rfl⟩
    obtain ⟨had, live, plain⟩ := x
    refine Tr.seq ?_; refine Tr.region ?_; refine TrL.quiets 10 rfl (by exact True.intro) ?_
    refine TrL.is 80 (sv' := vB true) rfl (congrArg vB (by cases had <;> rfl)) ?_
    refine TrL.known 81 rfl rfl ?_
    refine TrL.want rfl rfl rfl ?_
    refine TrL.eqS (st' := ⟨_, oneT had live plain⟩) rfl ?_
    refine TrL.callT [0, 1] rfl rfl rfl rfl rfl (o_End had live plain) rfl rfl rfl ?_
    refine TrL.quiets 3 rfl (by exact True.intro) ?_
    refine TrL.known 85 rfl rfl ?_
    refine TrL.want rfl rfl rfl ?_
    refine TrL.eqS (st' := ⟨_, pileT []⟩) rfl ?_
    refine TrL.callT [0, 1] rfl rfl rfl rfl rfl (c_Live [] (by decide)) rfl rfl rfl ?_
    refine TrL.quiets 2 rfl (by exact True.intro) ?_
    first | refine TrL.callV rfl rfl rfl rfl rfl c_awake23 ?_ | refine TrD.callV rfl rfl rfl rfl rfl c_awake23 rfl ?_
    refine TrL.quiets 2 rfl (by exact True.intro) ?_; refine TrL.nil ?_; refine Tr.ret ?_
    refine retQ.of rfl ?_
    refine congrArg vB ?_
    cases had <;> rfl
end Go.Proofs.YtckgeebihhhapaaDoor.Sx
