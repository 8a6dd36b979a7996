/-
  law18: awake, name.
-/
import Derived.Test.YtcclfjddakonoaaGreatDoorT10
set_option linter.unusedVariables false
set_option linter.unusedSimpArgs false
set_option maxRecDepth 20000
set_option maxHeartbeats 4000000
namespace Go.Proofs.YtcclfjddakonoaaGreatDoor.Sx
open Go Go.RowKit Go.Proofs

theorem nils_list {σ : Mem} {ρ : Rho} {t : Ty} {v : Value} (h : SV.den σ ρ .nils v) : SV.den σ ρ (vL t []) v := by
  simp only [SV.den] at h ⊢
  subst h
  rw [Den]
  exact ⟨none, 0, 0, rfl, rfl, Nat.le_refl _, Nat.zero_le _, fun h => absurd h (by decide)⟩
theorem CallV.nils2 {P : Program} {f : Nat} {a r : SV} {t : Ty} (h : CallV P f [a, vL t []] r) : CallV P f [a, .nils] r := by
  refine ⟨h.1, fun cx σ ρ w vs hw hd => h.2 cx σ ρ w vs hw ?_⟩
  simp only [SV.denL] at hd ⊢
  obtain ⟨v1, r1, rfl, h1, v2, r2, rfl, h2, rfl⟩ := hd
  exact ⟨v1, _, rfl, h1, v2, _, rfl, nils_list h2, rfl⟩
theorem aw18_a : doF kSubst [[97], [98], [98, 97, 110, 97, 110, 97]] = ([98, 98, 110, 98, 110, 98], true) := by kernel_rfl
theorem aw18_b : doF [104, 111, 112] [] = ([], false) := by kernel_rfl
theorem c_awake18 : CallV Tryz.prog 8 [] (vB true) := by
  have h1 := c_Do kSubst [[97], [98], [98, 97, 110, 97, 110, 97]] (by decide) (by decide)
  have h2 := CallV.nils2 (c_Do [104, 111, 112] [] (by decide) (by decide))
  unfold DoIs at h1
  rw [aw18_a] at h1
  rw [aw18_b] at h2
  refine CallV.of Tryz.func8 (by kernel_rfl) rfl Tryz.ntmps8 (by simp) rfl fun cx hB => ?_
  refine Tr.seq ?_; refine Tr.region ?_; refine TrL.quiets 1 rfl (by exact True.intro) ?_; refine TrL.nil ?_; refine Tr.seq ?_; refine Tr.region ?_; refine TrL.eff (effLit_sound rfl) (by exact True.intro) ?_
  refine TrL.weak 6 rfl (fix_weak .str [[97], [98], [98, 97, 110, 97, 110, 97]]) ?_
  first | refine TrL.callV rfl rfl rfl rfl rfl h1 ?_ | refine TrD.callV rfl rfl rfl rfl rfl h1 rfl ?_
  refine TrL.quiets 5 rfl (by exact True.intro) ?_; refine TrL.nil ?_; refine Tr.seq ?_; refine Tr.region ?_
  first | refine TrL.callV rfl rfl rfl rfl rfl h2 ?_ | refine TrD.callV rfl rfl rfl rfl rfl h2 rfl ?_
  refine TrL.quiets 5 rfl (by exact True.intro) ?_; refine TrL.nil ?_; refine Tr.seq ?_; refine Tr.region ?_; refine TrL.quiets 10 rfl (by exact True.intro) ?_; refine TrL.nil ?_; refine Tr.ret ?_
  refine retQ.of rfl ?_
  rfl
/-- An element of an array of one-cell elements, whatever they are. -/
theorem idxAny_sound {P : Program} {n : Nat} {env : Env} {tab : List Ent} {o : Oper} {t e d m k : Nat} {x i : Operand} {cs : List SV} {s : SV} {inf : TypeInfo} {ds : TypeDesc} {ik : IntKind}
    (hn : cs[k]? = some s) (hg : o.guard = none) (ho : o.op = .index t x i) (hdst : o.dst = some d) (ht : P.underlying t = some (.array m e)) (hu : P.underlying e = some ds) (hagg : aggD ds = false) (hinf : P.info? e = some inf) (hsz : inf.size = 1)
    (hcs : cs.length = m) (hd : (decide (d < n) && okPut env d) = true) (hx : opnd env [] x = some (.agg cs)) (hi : opnd env [] i = some (.val (.int ik) (k : Int))) (hok : s.ok (fun _ => true) = true) :
    Eff P n o ⟨env, tab⟩ ⟨put env d [] s, tab⟩ none := by
  simp only [Bool.and_eq_true, decide_eq_true_eq] at hd
  refine ⟨hg, fun cx a w _ hs => ?_⟩
  obtain ⟨σ, ρ, hw, he, hn', hdf⟩ : ∃ σ ρ, WR cx σ ρ tab w ∧ EnvA σ ρ env a ∧ a.tmps.size = n ∧ a.defers = cx.ds := hs
  have h1 := opnd_den he.env (fun p hp => by cases hp) hx
  have h2 := opnd_den he.env (fun p hp => by cases hp) hi
  simp only [SV.den, Den, List.cons.injEq, and_true] at h1 h2
  obtain ⟨vs, hvx, hvs⟩ := h1
  obtain ⟨v, hv1, hv2⟩ := denL_get cs vs hvs k s hn
  have hkm : k < m := by
    have := (List.getElem?_eq_some_iff.1 hn).1
    omega
  have hrun : (Instr.index t (.agg vs.toArray) (.int ik (k : Int))).run P w = .ok v w := by
    simp only [Instr.index, asIntOf, Sem.run_bind, Sem.run_pure, Result.andThen_ok, run_underlying ht]
    rw [if_pos ⟨by omega, by omega⟩]
    simp only [Sem.run_bind, sizeOf_run hinf, Result.andThen_ok, part, isAgg_run hu, hagg, hsz, Nat.mul_one, Bool.false_eq_true, if_false]
    simp [hv1]
  refine ⟨.value v, w, ?_, .inl ⟨_, rfl, σ, ρ, hw, ?_, by rw [put_size]; exact hn', by rw [put_defers]; exact hdf⟩⟩
  · simp only [execOp, ho, hvx, h2]
    simp [hrun]
  · rw [hdst]
    exact he.put hd.2 (by rw [hn']; exact hd.1) rfl (fun _ => hv2) (fun h => absurd (fun p hp => by cases hp) h)

end Go.Proofs.YtcclfjddakonoaaGreatDoor.Sx
