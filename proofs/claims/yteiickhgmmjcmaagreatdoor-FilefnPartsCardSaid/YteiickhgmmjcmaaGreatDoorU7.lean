/-
  path: Dir, Notdir, Suffix, Base.
  filefn: an array's elements of several cells; one, functions.
  filefn: functions, Do.
  filefn.Do.
  A slice written out, as a row of the call's own.
  law20: awake; FilefnParts, plain.
  FilefnParts.
  FilefnParts.
-/
import Derived.Test.YteiickhgmmjcmaaGreatDoorV2
import Derived.Test.YteiickhgmmjcmaaGreatDoorW9
import Derived.Test.YteiickhgmmjcmaaGreatDoorSxX
import Derived.Test.YteiickhgmmjcmaaGreatDoorW16
import Derived.Test.YteiickhgmmjcmaaGreatDoorF16
import Derived.Test.YteiickhgmmjcmaaGreatDoorM6
set_option linter.unusedVariables false
set_option linter.unusedSimpArgs false
set_option maxRecDepth 20000
set_option maxHeartbeats 4000000
namespace Go.Proofs.YteiickhgmmjcmaaGreatDoor.Sx
open Go Go.Proofs Go.RowKit

/-- Behind the last dot; 0: none. -/
def dotR : Str → Nat
  | [] => 0
  | c :: r => if c = 46 then r.length + 1 else dotR r
def dotS (s : Str) : Nat := dotR s.reverse
theorem dotS_snoc (s : Str) (c : UInt8) : dotS (s ++ [c]) = if c = 46 then s.length + 1 else dotS s := by
  simp only [dotS, List.reverse_append, List.reverse_cons, List.reverse_nil, List.nil_append, List.singleton_append, dotR, List.length_reverse]
theorem dotS_le (s : Str) : dotS s ≤ s.length := by
  have : ∀ r : Str, dotR r ≤ r.length := by
    intro r
    induction r with
    | nil => exact Nat.le_refl _
    | cons c r ih => rw [dotR]; split <;> simp <;> omega
  have := this s.reverse
  simpa [dotS] using this
theorem lastIdx_dotS (s : Str) : ∀ k, k ≤ s.length → Lib.lastIdx ⟨s.toArray⟩ 46 k + 1 = (dotS (s.take k) : Int)
  | 0, _ => rfl
  | k + 1, h => by
    have hk : k < s.length := h
    have e : s.take (k + 1) = s.take k ++ [s[k]] := by rw [List.take_add_one, List.getElem?_eq_getElem hk]; rfl
    have hd : (⟨s.toArray⟩ : ByteArray).data[k]! = s[k] := by
      rw [getElem!_pos _ _ (by simpa using hk)]
      simp
    rw [e, dotS_snoc, Lib.lastIdx, hd]
    by_cases hc : s[k] = 46
    · rw [if_pos (by rw [hc]; rfl), if_pos hc, List.length_take]
      omega
    · rw [if_neg hc, if_neg (fun h => hc (UInt8.toNat_inj.1 (by have h2 : ((46 : UInt8).toNat : Int) = 46 := rfl; omega)))]
      exact lastIdx_dotS s k (by omega)
theorem last_dotS (s : Str) : Lib.lastIndexByte ⟨s.toArray⟩ 46 = (dotS s : Int) - 1 := by
  have h := lastIdx_dotS s s.length (Nat.le_refl _)
  rw [List.take_length] at h
  unfold Lib.lastIndexByte
  rw [size_mk]
  omega
theorem c_LastDot (s : Str) (hs : s.length < 4611686018427387904) : CallV Tryz.prog 50 [vS s, vY 46] (vI ((dotS s : Int) - 1)) := by
  rw [← last_dotS]
  exact CallV.of_same (Go.Proofs.enters_of Tryz.func50 (by kernel_rfl) rfl) rfl rfl fun w => Tryz.strings_LastIndexByte ⟨s.toArray⟩ 46 (by rw [size_mk]; exact hs) w

def dirF (s : Str) : Str := if 0 < cutS s then s.take (cutS s) else [46, 47]
def ndirF (s : Str) : Str := s.drop (cutS s)
def sufxF (s : Str) : Str := if 0 < dotS (ndirF s) then (ndirF s).drop (dotS (ndirF s) - 1) else []
def baseF (s : Str) : Str := s.take (s.length - (sufxF s).length)
theorem c_cut (s : Str) (hs : s.length ≤ 1099511627) : CallV Tryz.prog 53 [vS s] (vI (cutS s)) := by
  have hc := cutS_le s
  refine CallV.of Tryz.func53 (by kernel_rfl) rfl Tryz.ntmps53 (by simp) rfl fun cx hB => ?_
  refine Tr.seq ?_; refine Tr.region ?_; refine TrL.quiets 1 rfl (by exact True.intro) ?_; refine TrL.nil ?_; refine Tr.seq ?_; refine Tr.region ?_; refine TrL.quiets 1 rfl (by exact True.intro) ?_
  first | refine TrL.callV rfl rfl rfl rfl rfl (c_LastSlash s (by omega)) ?_ | refine TrD.callV rfl rfl rfl rfl rfl (c_LastSlash s (by omega)) rfl ?_
  refine TrL.quiets 2 rfl (by exact True.intro) ?_; refine TrL.nil ?_; refine Tr.ret ?_
  refine retQ.of rfl ?_
  rw [w64n (y := cutS s) (by omega) (by omega)]
theorem c_Dir (s : Str) (hs : s.length ≤ 1099511627) : CallV Tryz.prog 35 [vS s] (vS (dirF s)) := by
  have hc := cutS_le s
  refine CallV.of Tryz.func35 (by kernel_rfl) rfl Tryz.ntmps35 (by simp) rfl fun cx hB => ?_
  refine Tr.seq ?_; refine Tr.region ?_; refine TrL.quiets 1 rfl (by exact True.intro) ?_; refine TrL.nil ?_; refine Tr.seq ?_; refine Tr.seq ?_; refine Tr.region ?_; refine TrL.quiets 1 rfl (by exact True.intro) ?_
  first | refine TrL.callV rfl rfl rfl rfl rfl (c_cut s hs) ?_ | refine TrD.callV rfl rfl rfl rfl rfl (c_cut s hs) rfl ?_
  refine TrL.quiets 1 rfl (by exact True.intro) ?_; refine TrL.nil ?_; refine Tr.seq ?_; refine Tr.region ?_; refine TrL.quiets 2 rfl (by exact True.intro) ?_; refine TrL.nil ?_
  refine Tr.cond rfl (fun c1 => ?_) (fun c1 => ?_)
  · have h : 0 < cutS s := by simpa using c1
    refine Tr.seq ?_; refine Tr.region ?_; refine TrL.quiets 4 rfl (by (simp only [allOf, impO, imp, inR, loOk, and_true]; omega)) ?_; refine TrL.nil ?_; refine Tr.ret ?_
    refine retQ.of rfl ?_
    unfold dirF
    rw [if_pos h]
    rfl
  · have h : ¬ 0 < cutS s := by simpa using c1
    refine Tr.skip ?_; refine Tr.seq ?_; refine Tr.region ?_; refine TrL.quiets 1 rfl (by exact True.intro) ?_; refine TrL.nil ?_; refine Tr.ret ?_
    refine retQ.of rfl ?_
    unfold dirF
    rw [if_neg h]
theorem c_pNotdir (s : Str) (hs : s.length ≤ 1099511627) : CallV Tryz.prog 36 [vS s] (vS (ndirF s)) := by
  have hc := cutS_le s
  refine CallV.of Tryz.func36 (by kernel_rfl) rfl Tryz.ntmps36 (by simp) rfl fun cx hB => ?_
  refine Tr.seq ?_; refine Tr.region ?_; refine TrL.quiets 1 rfl (by exact True.intro) ?_; refine TrL.nil ?_; refine Tr.seq ?_; refine Tr.region ?_; refine TrL.quiets 2 rfl (by exact True.intro) ?_
  first | refine TrL.callV rfl rfl rfl rfl rfl (c_cut s hs) ?_ | refine TrD.callV rfl rfl rfl rfl rfl (c_cut s hs) rfl ?_
  refine TrL.quiets 2 rfl (by (simp (disch := omega) only [allOf, impO, imp, inR, loOk, and_true, w64, List.length_set, List.length_cons, List.length_nil, Option.getD_none, Option.getD_some, Ty.D, true_and, decide_eq_true_eq, decide_eq_false_iff_not, Bool.and_eq_true, Bool.or_eq_false_iff]; omega)) ?_; refine TrL.nil ?_; refine Tr.ret ?_
  refine retQ.of rfl ?_
  rfl
theorem c_Suffix (s : Str) (hs : s.length ≤ 1099511627) : CallV Tryz.prog 37 [vS s] (vS (sufxF s)) := by
  have hd : (ndirF s).length ≤ s.length := by unfold ndirF; rw [List.length_drop]; omega
  have hs0 : sufxF s = if 0 < dotS (ndirF s) then (ndirF s).drop (dotS (ndirF s) - 1) else [] := rfl
  rw [hs0]
  clear hs0
  have hn := c_pNotdir s hs
  generalize ndirF s = t at hd hn
  have hc := dotS_le t
  refine CallV.of Tryz.func37 (by kernel_rfl) rfl Tryz.ntmps37 (by simp) rfl fun cx hB => ?_
  refine Tr.seq ?_; refine Tr.region ?_; refine TrL.quiets 1 rfl (by exact True.intro) ?_; refine TrL.nil ?_; refine Tr.seq ?_; refine Tr.region ?_; refine TrL.quiets 1 rfl (by exact True.intro) ?_
  first | refine TrL.callV rfl rfl rfl rfl rfl hn ?_ | refine TrD.callV rfl rfl rfl rfl rfl hn rfl ?_
  refine TrL.quiets 1 rfl (by exact True.intro) ?_; refine TrL.nil ?_; refine Tr.seq ?_; refine Tr.seq ?_; refine Tr.region ?_; refine TrL.quiets 1 rfl (by exact True.intro) ?_
  first | refine TrL.callV rfl rfl rfl rfl rfl (c_LastDot t (by omega)) ?_ | refine TrD.callV rfl rfl rfl rfl rfl (c_LastDot t (by omega)) rfl ?_
  refine TrL.quiets 1 rfl (by exact True.intro) ?_; refine TrL.nil ?_; refine Tr.seq ?_; refine Tr.region ?_; refine TrL.quiets 2 rfl (by exact True.intro) ?_; refine TrL.nil ?_
  refine Tr.cond rfl (fun c1 => ?_) (fun c1 => ?_)
  · have h : 0 < dotS t := by
      have : (dotS t : Int) - 1 ≥ 0 := by simpa using c1
      omega
    rw [if_pos h]
    refine Tr.seq ?_; refine Tr.region ?_; refine TrL.quiets 4 rfl (by (simp (disch := omega) only [allOf, impO, imp, inR, loOk, and_true, w64, List.length_set, List.length_cons, List.length_nil, Option.getD_none, Option.getD_some, Ty.D, true_and, decide_eq_true_eq, decide_eq_false_iff_not, Bool.and_eq_true, Bool.or_eq_false_iff]; omega)) ?_; refine TrL.nil ?_; refine Tr.ret ?_
    refine retQ.of rfl ?_
    rw [show (dotS t : Int) - 1 = ((dotS t - 1 : Nat) : Int) by omega, cutN]
  · have h : ¬ 0 < dotS t := by
      have : ¬ (dotS t : Int) - 1 ≥ 0 := by simpa using c1
      omega
    rw [if_neg h]
    refine Tr.skip ?_; refine Tr.seq ?_; refine Tr.region ?_; refine TrL.quiets 1 rfl (by exact True.intro) ?_; refine TrL.nil ?_; refine Tr.ret ?_
    refine retQ.of rfl ?_
    rfl
theorem sufxF_le (s : Str) : (sufxF s).length ≤ s.length := by
  unfold sufxF ndirF
  split
  · simp only [List.length_drop]; omega
  · simp
theorem c_Base (s : Str) (hs : s.length ≤ 1099511627) : CallV Tryz.prog 38 [vS s] (vS (baseF s)) := by
  have hd := sufxF_le s
  refine CallV.of Tryz.func38 (by kernel_rfl) rfl Tryz.ntmps38 (by simp) rfl fun cx hB => ?_
  refine Tr.seq ?_; refine Tr.region ?_; refine TrL.quiets 1 rfl (by exact True.intro) ?_; refine TrL.nil ?_; refine Tr.seq ?_; refine Tr.region ?_; refine TrL.quiets 4 rfl (by exact True.intro) ?_
  first | refine TrL.callV rfl rfl rfl rfl rfl (c_Suffix s hs) ?_ | refine TrD.callV rfl rfl rfl rfl rfl (c_Suffix s hs) rfl ?_
  refine TrL.quiets 4 rfl (by (simp (disch := omega) only [allOf, impO, imp, inR, loOk, and_true, w64, List.length_set, List.length_cons, List.length_nil, Option.getD_none, Option.getD_some, Ty.D, true_and, decide_eq_true_eq, decide_eq_false_iff_not, Bool.and_eq_true, Bool.or_eq_false_iff]; omega)) ?_; refine TrL.nil ?_; refine Tr.ret ?_
  refine retQ.of rfl ?_
  rw [show IntKind.i64.wrap ((s.length : Int) - ((sufxF s).length : Int)) = ((s.length - (sufxF s).length : Nat) : Int) by rw [w64 (by omega) (by omega)]; omega]
  rfl

/-- An element of an array whose elements have several cells. -/
theorem idxPart_sound {P : Program} {n : Nat} {env : Env} {tab : List Ent} {o : Oper} {t e d m k : Nat} {x i : Operand} {cs es : List SV} {inf : TypeInfo} {ds : TypeDesc} {ik : IntKind}
    (hn : (cs.drop (k * inf.size)).take inf.size = es) (hes : es.length = inf.size) (hk : k < m) (hg : o.guard = none) (ho : o.op = .index t x i) (hdst : o.dst = some d) (ht : P.underlying t = some (.array m e)) (hu : P.underlying e = some ds) (hagg : aggD ds = true) (hinf : P.info? e = some inf)
    (hd : (decide (d < n) && okPut env d) = true) (hx : opnd env [] x = some (.agg cs)) (hi : opnd env [] i = some (.val (.int ik) (k : Int))) :
    Eff P n o ⟨env, tab⟩ ⟨put env d [] (.agg es), tab⟩ none := by
  simp only [Bool.and_eq_true, decide_eq_true_eq] at hd
  refine ⟨hg, fun cx a w _ hs => ?_⟩
  obtain ⟨σ, ρ, hw, he, hn', hdf⟩ : ∃ σ ρ, WR cx σ ρ tab w ∧ EnvA σ ρ env a ∧ a.tmps.size = n ∧ a.defers = cx.ds := hs
  have h1 := opnd_den he.env (fun p hp => by cases hp) hx
  have h2 := opnd_den he.env (fun p hp => by cases hp) hi
  simp only [SV.den, Den, List.cons.injEq, and_true] at h1 h2
  obtain ⟨vs, hvx, hvs⟩ := h1
  have hes2 : SV.denL σ ρ es ((vs.drop (k * inf.size)).take inf.size) := by
    have h3 : SV.denL σ ρ cs vs := hvs
    have h4 : cs = cs.take (k * inf.size) ++ (es ++ (cs.drop (k * inf.size)).drop inf.size) := by rw [← hn, List.take_append_drop, List.take_append_drop]
    have hl := denL_length _ _ h3
    have h6 := congrArg List.length hn
    rw [List.length_take, List.length_drop, hes] at h6
    rw [h4] at h3
    obtain ⟨a1, b1, rfl, q1, q2⟩ := (denL_append _ _ _).1 h3
    obtain ⟨a2, b2, rfl, q3, q4⟩ := (denL_append _ _ _).1 q2
    have l1 := denL_length _ _ q1
    have l2 := denL_length _ _ q3
    rw [hes] at l2
    rw [List.length_take] at l1
    have l3 : a1.length = k * inf.size ∨ inf.size = 0 := by
      by_cases h0 : inf.size = 0
      · exact .inr h0
      · exact .inl (by omega)
    rcases l3 with l3 | l3
    · rw [← l3, List.drop_left, ← l2, List.take_left]
      exact q3
    · rw [l3] at l2 ⊢
      obtain rfl := List.eq_nil_of_length_eq_zero l2
      simp only [List.take_zero]
      exact q3
  have hrun : (Instr.index t (.agg vs.toArray) (.int ik (k : Int))).run P w = .ok (.agg ((vs.drop (k * inf.size)).take inf.size).toArray) w := by
    simp only [Instr.index, asIntOf, Sem.run_bind, Sem.run_pure, Result.andThen_ok, run_underlying ht]
    rw [if_pos ⟨by omega, by omega⟩]
    simp only [Sem.run_bind, sizeOf_run hinf, Result.andThen_ok, part, isAgg_run hu, hagg, if_true]
    simp
  refine ⟨.value (.agg ((vs.drop (k * inf.size)).take inf.size).toArray), w, ?_, .inl ⟨_, rfl, σ, ρ, hw, ?_, by rw [put_size]; exact hn', by rw [put_defers]; exact hdf⟩⟩
  · simp only [execOp, ho, hvx, h2]
    simp [hrun]
  · rw [hdst]
    refine he.put hd.2 (by rw [hn']; exact hd.1) rfl (fun _ => ?_) (fun h => absurd (fun p hp => by cases hp) h)
    simp only [SV.den]
    exact ⟨_, rfl, hes2⟩
abbrev ofBox (F : Nat) : Ent := .box 49 [.fn F [] []]
theorem c_fone (F : Nat) : CallT Tryz.prog 34 [.fn F [] []] [] (.fn 52 [] [.ptr 0 0]) [ofBox F] := by
  refine CallT.of Tryz.func34 (by kernel_rfl) rfl Tryz.ntmps34 (by simp) (by simp) fun cx hB => ?_
  refine Tr.seq ?_; refine Tr.region ?_; refine TrL.eff (effBox_sound rfl) (by exact True.intro) ?_; refine TrL.quiets 1 rfl (by exact True.intro) ?_; refine TrL.nil ?_; refine Tr.seq ?_; refine Tr.region ?_; refine TrL.quiets 2 rfl (by exact True.intro) ?_; refine TrL.nil ?_; refine Tr.ret ?_
  exact retT.of rfl rfl rfl

theorem mem_joinWU {x : Str} : ∀ {l : List Str}, x ∈ l → x.length ≤ (joinW l).length
  | [], h => by cases h
  | [a], h => by
    obtain rfl := List.mem_singleton.1 h
    exact Nat.le_refl _
  | a :: b :: l, h => by
    rcases List.mem_cons.1 h with rfl | h
    · simp [joinW]
    · have := mem_joinWU (l := b :: l) h
      simp only [joinW, List.length_append, List.length_cons]
      omega
def neOne (x : Str) : List Str := if x = [] then [] else [x]
theorem c_one1 {L : List Fent} (F : Nat) (g : Str → Str) (w : Str) (hF : CallV Tryz.prog F [vS w] (vS (g w))) : CallT Tryz.prog 52 [.ptr 0 0, vS w, .ptr 3 0] (lT L ++ [ofBox F]) (vL .str (neOne (g w))) (lT L ++ [ofBox F]) := by
  refine CallT.of Tryz.func52 (by kernel_rfl) rfl Tryz.ntmps52 (by simp) (by simp) fun cx hB => ?_
  refine Tr.seq ?_; refine Tr.region ?_; refine TrL.quiets 1 rfl (by exact True.intro) ?_; refine TrL.nil ?_; refine Tr.seq ?_; refine Tr.seq ?_; refine Tr.region ?_; refine TrL.quiets 2 rfl (by exact True.intro) ?_
  first | refine TrL.callV rfl rfl rfl rfl rfl hF ?_ | refine TrD.callV rfl rfl rfl rfl rfl hF rfl ?_
  refine TrL.quiets 1 rfl (by exact True.intro) ?_; refine TrL.nil ?_; refine Tr.seq ?_; refine Tr.region ?_; refine TrL.quiets 2 rfl (by exact True.intro) ?_; refine TrL.nil ?_
  refine Tr.cond rfl (fun c1 => ?_) (fun c1 => ?_)
  · have h : ¬ g w = [] := by simpa using c1
    unfold neOne
    rw [if_neg h]
    refine Tr.seq ?_; refine Tr.region ?_; refine TrL.quiets 1 rfl (by exact True.intro) ?_; refine TrL.eff (effLit_sound rfl) (by exact True.intro) ?_; refine TrL.quiets 1 rfl (by exact True.intro) ?_; refine TrL.nil ?_
    change Tr _ _ _ _ _ _
    refine Tr.weak 5 rfl (fix_weak .str [g w]) ?_
    refine Tr.ret ?_
    exact retT.of rfl rfl rfl
  · have h : g w = [] := by simpa using c1
    unfold neOne
    rw [if_pos h]
    refine Tr.skip ?_; refine Tr.seq ?_; refine Tr.region ?_; refine TrL.quiets 1 rfl (by exact True.intro) ?_; refine TrL.nil ?_
    change Tr _ _ _ _ _ _
    refine Tr.weak 5 rfl (nil_weak .str) ?_
    refine Tr.ret ?_
    exact retT.of rfl rfl rfl
abbrev fnCells : List SV := [vS [100, 105, 114], .fn 52 [] [.ptr 1 0], vS [110, 111, 116, 100, 105, 114], .fn 52 [] [.ptr 2 0], vS [115, 117, 102, 102, 105, 120], .fn 52 [] [.ptr 3 0], vS [98, 97, 115, 101, 110, 97, 109, 101], .fn 52 [] [.ptr 4 0], vS [97, 98, 115, 112, 97, 116, 104], .fn 52 [] [.ptr 5 0], vS [119, 105, 108, 100, 99, 97, 114, 100], .fn 39 [] []]
abbrev fnCells3 : List SV := [vS [100, 105, 114], .fn 52 [] [.ptr 4 0], vS [110, 111, 116, 100, 105, 114], .fn 52 [] [.ptr 5 0], vS [115, 117, 102, 102, 105, 120], .fn 52 [] [.ptr 6 0], vS [98, 97, 115, 101, 110, 97, 109, 101], .fn 52 [] [.ptr 7 0], vS [97, 98, 115, 112, 97, 116, 104], .fn 52 [] [.ptr 8 0], vS [119, 105, 108, 100, 99, 97, 114, 100], .fn 39 [] []]
theorem c_functions6 : CallT Tryz.prog 20 [] [] (.agg fnCells) [.box 62 fnCells, ofBox 35, ofBox 36, ofBox 37, ofBox 38, ofBox 14] := by
  refine CallT.of Tryz.func20 (by kernel_rfl) rfl Tryz.ntmps20 (by simp) (by simp) fun cx hB => ?_
  refine Tr.seq ?_; refine Tr.region ?_; refine TrL.eff (effBox_sound rfl) (by exact True.intro) ?_; refine TrL.nil ?_; refine Tr.seq ?_; refine Tr.region ?_
  refine TrL.callT [] rfl rfl rfl rfl rfl (c_fone 35) rfl rfl rfl ?_
  refine TrL.quiets 1 rfl (by exact True.intro) ?_
  refine TrL.callT [] rfl rfl rfl rfl rfl (c_fone 36) rfl rfl rfl ?_
  refine TrL.quiets 1 rfl (by exact True.intro) ?_
  refine TrL.callT [] rfl rfl rfl rfl rfl (c_fone 37) rfl rfl rfl ?_
  refine TrL.quiets 1 rfl (by exact True.intro) ?_
  refine TrL.callT [] rfl rfl rfl rfl rfl (c_fone 38) rfl rfl rfl ?_
  refine TrL.quiets 1 rfl (by exact True.intro) ?_
  refine TrL.callT [] rfl rfl rfl rfl rfl (c_fone 14) rfl rfl rfl ?_
  refine TrL.quiets 3 rfl (by exact True.intro) ?_; refine TrL.eff (effStore_sound rfl) (by exact True.intro) ?_; refine TrL.nil ?_; refine Tr.ret ?_
  exact retT.of rfl rfl rfl
def names6 : List Str := [[100, 105, 114], [110, 111, 116, 100, 105, 114], [115, 117, 102, 102, 105, 120], [98, 97, 115, 101, 110, 97, 109, 101], [97, 98, 115, 112, 97, 116, 104], [119, 105, 108, 100, 99, 97, 114, 100]]
def gF (L : List Fent) : Nat → Str → List Str
  | 0, w => neOne (dirF w)
  | 1, w => neOne (ndirF w)
  | 2, w => neOne (sufxF w)
  | 3, w => neOne (baseF w)
  | 4, w => neOne (absP w)
  | _, w => expF L w

def outF (L : List Fent) (k : Nat) (s : Str) : Str := joinW ((splitW s).flatMap (gF L k))
def doFile (L : List Fent) (name s : Str) : Str × Bool := match names6.findIdx? (fun x => x == name) with | some k => (outF L k s, true) | none => ([], false)
abbrev fT (L : List Fent) : List Ent := lT L ++ [.box 62 fnCells3, ofBox 35, ofBox 36, ofBox 37, ofBox 38, ofBox 14]
theorem c_fDo {L : List Fent} (h : FsOk L) (hL : FsLim L) (name s : Str) (hs : s.length ≤ 1000) (hf : ∀ w ∈ splitW s, (foundF L w).length ≤ 1099511627776)
    (hR : ∀ k, k < 6 → names6.getD k [] = name → ((splitW s).flatMap (gF L k)).length ≤ 1099511627 ∧ (joinW ((splitW s).flatMap (gF L k))).length ≤ 1099511627) :
    CallT Tryz.prog 9 [.ptr 0 0, vS name, vS s] (lT L) (.tup [vS (doFile L name s).1, vB (doFile L name s).2]) (lT L) := by
  have hwl : ∀ w ∈ splitW s, w.length ≤ 1000 := fun w hw => by
    have h1 := mem_joinWU hw
    have h2 := joinW_splitW_le s
    omega
  have hwc : (splitW s).length ≤ 1001 := by have := splitW_len s; omega
  have hou : ∀ k, outF L k s = joinW ((splitW s).flatMap (gF L k)) := fun k => rfl
  have csp := c_Split s (by omega)
  generalize splitW s = ws at hwl hwc hf hR hou csp
  refine CallT.of Tryz.func9 (by kernel_rfl) rfl Tryz.ntmps9 (by simp) (by simp) fun cx hB => ?_
  have hB9 : ∀ i, cx.B i = true → i < 9 := fun i h => Nat.lt_of_lt_of_le (hB i h) (show 3 ≤ 9 by decide)
  have hB10 : ∀ i, cx.B i = true → i < 10 := fun i h => Nat.lt_of_lt_of_le (hB i h) (show 3 ≤ 10 by decide)
  have hB11 : ∀ i, cx.B i = true → i < 11 := fun i h => Nat.lt_of_lt_of_le (hB i h) (show 3 ≤ 11 by decide)
  refine Tr.seq ?_; refine Tr.region ?_; refine TrL.quiets 2 rfl (by exact True.intro) ?_; refine TrL.nil ?_; refine Tr.seq ?_; refine Tr.seq ?_; refine Tr.region ?_
  refine TrL.callT [] rfl rfl rfl rfl rfl c_functions6 rfl rfl rfl ?_
  refine TrL.quiets 1 rfl (by exact True.intro) ?_; refine TrL.nil ?_; refine Tr.block ?_
  refine Tr.loop (fun k : Nat => ⟨[(0, [], .ptr 0 0), (1, [], vS name), (2, [], vS s), (13, [], .agg fnCells3), (14, [], vI k)], fT L⟩) (fun k => k ≤ 6 ∧ ∀ x ∈ names6.take k, x ≠ name) (fun k => 6 - k) 0 [0, 1, 2, 13, 14] 9 hB9 rfl ⟨Nat.zero_le _, by simp⟩ fun k hk => ?_
  obtain ⟨hk, hne⟩ := hk
  refine Tr.seq ?_; refine Tr.region ?_; refine TrL.quiets 1 rfl (by exact True.intro) ?_; refine TrL.nil ?_; refine Tr.seq ?_
  refine Tr.cond rfl (fun c1 => ?_) (fun c1 => ?_)
  · have hk1 : k < 6 := by
      have : (k : Int) < 6 := by simpa using c1
      omega
    rcases (show k = 0 ∨ k = 1 ∨ k = 2 ∨ k = 3 ∨ k = 4 ∨ k = 5 by omega) with rfl | rfl | rfl | rfl | rfl | rfl
    · refine Tr.skip ?_; refine Tr.seq ?_; refine Tr.block ?_; refine Tr.seq ?_; refine Tr.region ?_
      refine TrL.eff (idxPart_sound (k := 0) (es := [vS [100, 105, 114], .fn 52 [] [.ptr 4 0]]) rfl rfl (by decide) rfl rfl rfl Tryz.underlying62 Tryz.underlying61 rfl rfl rfl rfl rfl) True.intro ?_
      refine TrL.eff (effBox_sound rfl) (by exact True.intro) ?_; refine TrL.eff (effStore_sound rfl) (by exact True.intro) ?_; refine TrL.nil ?_; refine Tr.seq ?_; refine Tr.seq ?_; refine Tr.region ?_; refine TrL.quiets 4 rfl (by exact True.intro) ?_; refine TrL.nil ?_
      refine Tr.cond rfl (fun c2 => ?_) (fun c2 => ?_)
      · have hn : ([100, 105, 114] : Str) ≠ name := by simpa using c2
        refine Tr.exit ?_; refine Tr.region ?_; refine TrL.quiets 2 rfl (by exact True.intro) ?_; refine TrL.nil ?_
        refine ⟨1, ⟨by decide, fun x hx => ?_⟩, by decide, ?_⟩
        · have hx2 : x ∈ names6.take 0 ∨ x = [100, 105, 114] := by
            have : names6.take (1) = names6.take 0 ++ [[100, 105, 114]] := rfl
            rw [this] at hx
            rcases List.mem_append.1 hx with h1 | h1
            · exact .inl h1
            · exact .inr (List.mem_singleton.1 h1)
          rcases hx2 with h1 | rfl
          · exact hne x h1
          · exact hn
        · rfl
      · have hn : ([100, 105, 114] : Str) = name := by simpa using c2
        have hRk := hR 0 (by decide) hn
        have hd : doFile L name s = (joinW (ws.flatMap (gF L 0)), true) := by rw [← hn, ← hou]; rfl
        rw [hd]
        refine Tr.skip ?_; refine Tr.seq ?_; refine Tr.region ?_; refine TrL.quiets 1 rfl (by exact True.intro) ?_; refine TrL.nil ?_; refine Tr.seq ?_; refine Tr.seq ?_; refine Tr.region ?_; refine TrL.quiets 1 rfl (by exact True.intro) ?_
        first | refine TrL.callV rfl rfl rfl rfl rfl csp ?_ | refine TrD.callV rfl rfl rfl rfl rfl csp rfl ?_
        refine TrL.quiets 2 rfl (by exact True.intro) ?_; refine TrL.nil ?_
        change Tr _ _ _ _ _ _
        refine Tr.keep [0, 9, 10, 22, 23, 24] 10 hB10 (st' := ⟨[(0, [], .ptr 0 0), (9, [], .ptr 9 0), (10, [], .nils), (22, [], vL .str ws), (23, [], vI ws.length), (24, [], vI 0)], fT L ++ [.box 61 [vS [100, 105, 114], .fn 52 [] [.ptr 4 0]]]⟩) rfl ?_
        refine Tr.nilRow 10 9 .str rfl ?_
        refine Tr.block ?_
        refine Tr.loop (fun i : Nat => ⟨[(0, [], .ptr 0 0), (9, [], .ptr 9 0), (10, [], .own 10), (22, [], vL .str ws), (23, [], vI ws.length), (24, [], vI i)], fT L ++ [.box 61 [vS [100, 105, 114], .fn 52 [] [.ptr 4 0]], .gs 9 .str ((ws.take i).flatMap (gF L 0))]⟩) (fun i => i ≤ ws.length) (fun i => ws.length - i) 0 [0, 9, 10, 22, 23, 24] 11 hB11 rfl (Nat.zero_le _) fun i hi => ?_
        refine Tr.seq ?_; refine Tr.region ?_; refine TrL.quiets 1 rfl (by exact True.intro) ?_; refine TrL.nil ?_; refine Tr.seq ?_
        refine Tr.cond rfl (fun c3 => ?_) (fun c3 => ?_)
        · have hi1 : i < ws.length := by simpa using c3
          have hnth : nth (t := .str) ws (i : Int) = ws[i] := nth_get' (t := .str) _ _ hi1
          have hwi := hwl _ (List.getElem_mem hi1)
          have hms : (ws.take (i + 1)).flatMap (gF L 0) = (ws.take i).flatMap (gF L 0) ++ gF L 0 ws[i] := by
            rw [List.take_succ_eq_append_getElem hi1, List.flatMap_append, List.flatMap_singleton]
          have hle := flatMap_take_le (gF L 0) ws (i + 1)
          rw [hms, List.length_append] at hle
          refine Tr.skip ?_; refine Tr.seq ?_; refine Tr.block ?_; refine Tr.seq ?_; refine Tr.region ?_; refine TrL.quiets 3 rfl (by (simp only [allOf, impO, imp, inR, loOk, and_true]; omega)) ?_; refine TrL.nil ?_
          change Tr _ _ _ _ _ _
          refine Tr.is 12 (sv' := vS ws[i]) rfl (congrArg vS hnth) ?_
          refine Tr.keep [0, 9, 10, 12, 22, 23, 24] 11 hB11 (st' := ⟨[(0, [], .ptr 0 0), (9, [], .ptr 9 0), (10, [], .own 10), (12, [], vS ws[i]), (22, [], vL .str ws), (23, [], vI ws.length), (24, [], vI i)], fT L ++ [.box 61 [vS [100, 105, 114], .fn 52 [] [.ptr 4 0]], .gs 9 .str ((ws.take i).flatMap (gF L 0))]⟩) rfl ?_
          refine Tr.region ?_; refine TrL.quiets 5 rfl (by exact True.intro) ?_
          refine TrL.callT [0, 1, 2, 4] rfl rfl rfl rfl rfl (c_one1 35 dirF ws[i] (c_Dir ws[i] (by omega))) rfl rfl rfl ?_
          refine TrL.eff (effAppend_sound rfl) ?_ ?_
          · show ((ws.take i).flatMap (gF L 0)).length + (gF L 0 ws[i]).length ≤ 1099511627776
            omega
          refine TrL.quiets 1 rfl (by exact True.intro) ?_; refine TrL.nil ?_; refine Tr.region ?_; refine TrL.quiets 2 rfl (by exact True.intro) ?_; refine TrL.nil ?_
          refine ⟨i + 1, hi1, by dsimp only; omega, ?_⟩
          refine Eq.trans (b := (⟨[(0, [], .ptr 0 0), (9, [], .ptr 9 0), (10, [], .own 10), (22, [], vL .str ws), (23, [], vI ws.length), (24, [], vI (IntKind.i64.wrap ((i : Int) + 1)))], fT L ++ [.box 61 [vS [100, 105, 114], .fn 52 [] [.ptr 4 0]], .gs 9 .str ((ws.take i).flatMap (gF L 0) ++ gF L 0 ws[i])]⟩ : St)) rfl ?_
          dsimp only
          rw [hms, w64n (y := i + 1) (by omega) (by omega)]
        · have hi1 : ws.length = i := by
            have : ¬ (i : Int) < ws.length := by simpa using c3
            omega
          subst hi1
          rw [List.take_length]
          refine Tr.exit ?_; refine Tr.seq ?_; refine Tr.region ?_; refine TrL.quiets 1 rfl (by exact True.intro) ?_
          first | refine TrL.callV rfl rfl rfl rfl rfl (c_words_Join (ws.flatMap (gF L 0)) (by omega) (by omega)) ?_ | refine TrD.callV rfl rfl rfl rfl rfl (c_words_Join (ws.flatMap (gF L 0)) (by omega) (by omega)) rfl ?_
          refine TrL.quiets 2 rfl (by exact True.intro) ?_; refine TrL.nil ?_; refine Tr.ret ?_
          exact retT.of rfl rfl rfl
    · refine Tr.skip ?_; refine Tr.seq ?_; refine Tr.block ?_; refine Tr.seq ?_; refine Tr.region ?_
      refine TrL.eff (idxPart_sound (k := 1) (es := [vS [110, 111, 116, 100, 105, 114], .fn 52 [] [.ptr 5 0]]) rfl rfl (by decide) rfl rfl rfl Tryz.underlying62 Tryz.underlying61 rfl rfl rfl rfl rfl) True.intro ?_
      refine TrL.eff (effBox_sound rfl) (by exact True.intro) ?_; refine TrL.eff (effStore_sound rfl) (by exact True.intro) ?_; refine TrL.nil ?_; refine Tr.seq ?_; refine Tr.seq ?_; refine Tr.region ?_; refine TrL.quiets 4 rfl (by exact True.intro) ?_; refine TrL.nil ?_
      refine Tr.cond rfl (fun c2 => ?_) (fun c2 => ?_)
      · have hn : ([110, 111, 116, 100, 105, 114] : Str) ≠ name := by simpa using c2
        refine Tr.exit ?_; refine Tr.region ?_; refine TrL.quiets 2 rfl (by exact True.intro) ?_; refine TrL.nil ?_
        refine ⟨2, ⟨by decide, fun x hx => ?_⟩, by decide, ?_⟩
        · have hx2 : x ∈ names6.take 1 ∨ x = [110, 111, 116, 100, 105, 114] := by
            have : names6.take (2) = names6.take 1 ++ [[110, 111, 116, 100, 105, 114]] := rfl
            rw [this] at hx
            rcases List.mem_append.1 hx with h1 | h1
            · exact .inl h1
            · exact .inr (List.mem_singleton.1 h1)
          rcases hx2 with h1 | rfl
          · exact hne x h1
          · exact hn
        · rfl
      · have hn : ([110, 111, 116, 100, 105, 114] : Str) = name := by simpa using c2
        have hRk := hR 1 (by decide) hn
        have hd : doFile L name s = (joinW (ws.flatMap (gF L 1)), true) := by rw [← hn, ← hou]; rfl
        rw [hd]
        refine Tr.skip ?_; refine Tr.seq ?_; refine Tr.region ?_; refine TrL.quiets 1 rfl (by exact True.intro) ?_; refine TrL.nil ?_; refine Tr.seq ?_; refine Tr.seq ?_; refine Tr.region ?_; refine TrL.quiets 1 rfl (by exact True.intro) ?_
        first | refine TrL.callV rfl rfl rfl rfl rfl csp ?_ | refine TrD.callV rfl rfl rfl rfl rfl csp rfl ?_
        refine TrL.quiets 2 rfl (by exact True.intro) ?_; refine TrL.nil ?_
        change Tr _ _ _ _ _ _
        refine Tr.keep [0, 9, 10, 22, 23, 24] 10 hB10 (st' := ⟨[(0, [], .ptr 0 0), (9, [], .ptr 9 0), (10, [], .nils), (22, [], vL .str ws), (23, [], vI ws.length), (24, [], vI 0)], fT L ++ [.box 61 [vS [110, 111, 116, 100, 105, 114], .fn 52 [] [.ptr 5 0]]]⟩) rfl ?_
        refine Tr.nilRow 10 9 .str rfl ?_
        refine Tr.block ?_
        refine Tr.loop (fun i : Nat => ⟨[(0, [], .ptr 0 0), (9, [], .ptr 9 0), (10, [], .own 10), (22, [], vL .str ws), (23, [], vI ws.length), (24, [], vI i)], fT L ++ [.box 61 [vS [110, 111, 116, 100, 105, 114], .fn 52 [] [.ptr 5 0]], .gs 9 .str ((ws.take i).flatMap (gF L 1))]⟩) (fun i => i ≤ ws.length) (fun i => ws.length - i) 0 [0, 9, 10, 22, 23, 24] 11 hB11 rfl (Nat.zero_le _) fun i hi => ?_
        refine Tr.seq ?_; refine Tr.region ?_; refine TrL.quiets 1 rfl (by exact True.intro) ?_; refine TrL.nil ?_; refine Tr.seq ?_
        refine Tr.cond rfl (fun c3 => ?_) (fun c3 => ?_)
        · have hi1 : i < ws.length := by simpa using c3
          have hnth : nth (t := .str) ws (i : Int) = ws[i] := nth_get' (t := .str) _ _ hi1
          have hwi := hwl _ (List.getElem_mem hi1)
          have hms : (ws.take (i + 1)).flatMap (gF L 1) = (ws.take i).flatMap (gF L 1) ++ gF L 1 ws[i] := by
            rw [List.take_succ_eq_append_getElem hi1, List.flatMap_append, List.flatMap_singleton]
          have hle := flatMap_take_le (gF L 1) ws (i + 1)
          rw [hms, List.length_append] at hle
          refine Tr.skip ?_; refine Tr.seq ?_; refine Tr.block ?_; refine Tr.seq ?_; refine Tr.region ?_; refine TrL.quiets 3 rfl (by (simp only [allOf, impO, imp, inR, loOk, and_true]; omega)) ?_; refine TrL.nil ?_
          change Tr _ _ _ _ _ _
          refine Tr.is 12 (sv' := vS ws[i]) rfl (congrArg vS hnth) ?_
          refine Tr.keep [0, 9, 10, 12, 22, 23, 24] 11 hB11 (st' := ⟨[(0, [], .ptr 0 0), (9, [], .ptr 9 0), (10, [], .own 10), (12, [], vS ws[i]), (22, [], vL .str ws), (23, [], vI ws.length), (24, [], vI i)], fT L ++ [.box 61 [vS [110, 111, 116, 100, 105, 114], .fn 52 [] [.ptr 5 0]], .gs 9 .str ((ws.take i).flatMap (gF L 1))]⟩) rfl ?_
          refine Tr.region ?_; refine TrL.quiets 5 rfl (by exact True.intro) ?_
          refine TrL.callT [0, 1, 2, 5] rfl rfl rfl rfl rfl (c_one1 36 ndirF ws[i] (c_pNotdir ws[i] (by omega))) rfl rfl rfl ?_
          refine TrL.eff (effAppend_sound rfl) ?_ ?_
          · show ((ws.take i).flatMap (gF L 1)).length + (gF L 1 ws[i]).length ≤ 1099511627776
            omega
          refine TrL.quiets 1 rfl (by exact True.intro) ?_; refine TrL.nil ?_; refine Tr.region ?_; refine TrL.quiets 2 rfl (by exact True.intro) ?_; refine TrL.nil ?_
          refine ⟨i + 1, hi1, by dsimp only; omega, ?_⟩
          refine Eq.trans (b := (⟨[(0, [], .ptr 0 0), (9, [], .ptr 9 0), (10, [], .own 10), (22, [], vL .str ws), (23, [], vI ws.length), (24, [], vI (IntKind.i64.wrap ((i : Int) + 1)))], fT L ++ [.box 61 [vS [110, 111, 116, 100, 105, 114], .fn 52 [] [.ptr 5 0]], .gs 9 .str ((ws.take i).flatMap (gF L 1) ++ gF L 1 ws[i])]⟩ : St)) rfl ?_
          dsimp only
          rw [hms, w64n (y := i + 1) (by omega) (by omega)]
        · have hi1 : ws.length = i := by
            have : ¬ (i : Int) < ws.length := by simpa using c3
            omega
          subst hi1
          rw [List.take_length]
          refine Tr.exit ?_; refine Tr.seq ?_; refine Tr.region ?_; refine TrL.quiets 1 rfl (by exact True.intro) ?_
          first | refine TrL.callV rfl rfl rfl rfl rfl (c_words_Join (ws.flatMap (gF L 1)) (by omega) (by omega)) ?_ | refine TrD.callV rfl rfl rfl rfl rfl (c_words_Join (ws.flatMap (gF L 1)) (by omega) (by omega)) rfl ?_
          refine TrL.quiets 2 rfl (by exact True.intro) ?_; refine TrL.nil ?_; refine Tr.ret ?_
          exact retT.of rfl rfl rfl
    · refine Tr.skip ?_; refine Tr.seq ?_; refine Tr.block ?_; refine Tr.seq ?_; refine Tr.region ?_
      refine TrL.eff (idxPart_sound (k := 2) (es := [vS [115, 117, 102, 102, 105, 120], .fn 52 [] [.ptr 6 0]]) rfl rfl (by decide) rfl rfl rfl Tryz.underlying62 Tryz.underlying61 rfl rfl rfl rfl rfl) True.intro ?_
      refine TrL.eff (effBox_sound rfl) (by exact True.intro) ?_; refine TrL.eff (effStore_sound rfl) (by exact True.intro) ?_; refine TrL.nil ?_; refine Tr.seq ?_; refine Tr.seq ?_; refine Tr.region ?_; refine TrL.quiets 4 rfl (by exact True.intro) ?_; refine TrL.nil ?_
      refine Tr.cond rfl (fun c2 => ?_) (fun c2 => ?_)
      · have hn : ([115, 117, 102, 102, 105, 120] : Str) ≠ name := by simpa using c2
        refine Tr.exit ?_; refine Tr.region ?_; refine TrL.quiets 2 rfl (by exact True.intro) ?_; refine TrL.nil ?_
        refine ⟨3, ⟨by decide, fun x hx => ?_⟩, by decide, ?_⟩
        · have hx2 : x ∈ names6.take 2 ∨ x = [115, 117, 102, 102, 105, 120] := by
            have : names6.take (3) = names6.take 2 ++ [[115, 117, 102, 102, 105, 120]] := rfl
            rw [this] at hx
            rcases List.mem_append.1 hx with h1 | h1
            · exact .inl h1
            · exact .inr (List.mem_singleton.1 h1)
          rcases hx2 with h1 | rfl
          · exact hne x h1
          · exact hn
        · rfl
      · have hn : ([115, 117, 102, 102, 105, 120] : Str) = name := by simpa using c2
        have hRk := hR 2 (by decide) hn
        have hd : doFile L name s = (joinW (ws.flatMap (gF L 2)), true) := by rw [← hn, ← hou]; rfl
        rw [hd]
        refine Tr.skip ?_; refine Tr.seq ?_; refine Tr.region ?_; refine TrL.quiets 1 rfl (by exact True.intro) ?_; refine TrL.nil ?_; refine Tr.seq ?_; refine Tr.seq ?_; refine Tr.region ?_; refine TrL.quiets 1 rfl (by exact True.intro) ?_
        first | refine TrL.callV rfl rfl rfl rfl rfl csp ?_ | refine TrD.callV rfl rfl rfl rfl rfl csp rfl ?_
        refine TrL.quiets 2 rfl (by exact True.intro) ?_; refine TrL.nil ?_
        change Tr _ _ _ _ _ _
        refine Tr.keep [0, 9, 10, 22, 23, 24] 10 hB10 (st' := ⟨[(0, [], .ptr 0 0), (9, [], .ptr 9 0), (10, [], .nils), (22, [], vL .str ws), (23, [], vI ws.length), (24, [], vI 0)], fT L ++ [.box 61 [vS [115, 117, 102, 102, 105, 120], .fn 52 [] [.ptr 6 0]]]⟩) rfl ?_
        refine Tr.nilRow 10 9 .str rfl ?_
        refine Tr.block ?_
        refine Tr.loop (fun i : Nat => ⟨[(0, [], .ptr 0 0), (9, [], .ptr 9 0), (10, [], .own 10), (22, [], vL .str ws), (23, [], vI ws.length), (24, [], vI i)], fT L ++ [.box 61 [vS [115, 117, 102, 102, 105, 120], .fn 52 [] [.ptr 6 0]], .gs 9 .str ((ws.take i).flatMap (gF L 2))]⟩) (fun i => i ≤ ws.length) (fun i => ws.length - i) 0 [0, 9, 10, 22, 23, 24] 11 hB11 rfl (Nat.zero_le _) fun i hi => ?_
        refine Tr.seq ?_; refine Tr.region ?_; refine TrL.quiets 1 rfl (by exact True.intro) ?_; refine TrL.nil ?_; refine Tr.seq ?_
        refine Tr.cond rfl (fun c3 => ?_) (fun c3 => ?_)
        · have hi1 : i < ws.length := by simpa using c3
          have hnth : nth (t := .str) ws (i : Int) = ws[i] := nth_get' (t := .str) _ _ hi1
          have hwi := hwl _ (List.getElem_mem hi1)
          have hms : (ws.take (i + 1)).flatMap (gF L 2) = (ws.take i).flatMap (gF L 2) ++ gF L 2 ws[i] := by
            rw [List.take_succ_eq_append_getElem hi1, List.flatMap_append, List.flatMap_singleton]
          have hle := flatMap_take_le (gF L 2) ws (i + 1)
          rw [hms, List.length_append] at hle
          refine Tr.skip ?_; refine Tr.seq ?_; refine Tr.block ?_; refine Tr.seq ?_; refine Tr.region ?_; refine TrL.quiets 3 rfl (by (simp only [allOf, impO, imp, inR, loOk, and_true]; omega)) ?_; refine TrL.nil ?_
          change Tr _ _ _ _ _ _
          refine Tr.is 12 (sv' := vS ws[i]) rfl (congrArg vS hnth) ?_
          refine Tr.keep [0, 9, 10, 12, 22, 23, 24] 11 hB11 (st' := ⟨[(0, [], .ptr 0 0), (9, [], .ptr 9 0), (10, [], .own 10), (12, [], vS ws[i]), (22, [], vL .str ws), (23, [], vI ws.length), (24, [], vI i)], fT L ++ [.box 61 [vS [115, 117, 102, 102, 105, 120], .fn 52 [] [.ptr 6 0]], .gs 9 .str ((ws.take i).flatMap (gF L 2))]⟩) rfl ?_
          refine Tr.region ?_; refine TrL.quiets 5 rfl (by exact True.intro) ?_
          refine TrL.callT [0, 1, 2, 6] rfl rfl rfl rfl rfl (c_one1 37 sufxF ws[i] (c_Suffix ws[i] (by omega))) rfl rfl rfl ?_
          refine TrL.eff (effAppend_sound rfl) ?_ ?_
          · show ((ws.take i).flatMap (gF L 2)).length + (gF L 2 ws[i]).length ≤ 1099511627776
            omega
          refine TrL.quiets 1 rfl (by exact True.intro) ?_; refine TrL.nil ?_; refine Tr.region ?_; refine TrL.quiets 2 rfl (by exact True.intro) ?_; refine TrL.nil ?_
          refine ⟨i + 1, hi1, by dsimp only; omega, ?_⟩
          refine Eq.trans (b := (⟨[(0, [], .ptr 0 0), (9, [], .ptr 9 0), (10, [], .own 10), (22, [], vL .str ws), (23, [], vI ws.length), (24, [], vI (IntKind.i64.wrap ((i : Int) + 1)))], fT L ++ [.box 61 [vS [115, 117, 102, 102, 105, 120], .fn 52 [] [.ptr 6 0]], .gs 9 .str ((ws.take i).flatMap (gF L 2) ++ gF L 2 ws[i])]⟩ : St)) rfl ?_
          dsimp only
          rw [hms, w64n (y := i + 1) (by omega) (by omega)]
        · have hi1 : ws.length = i := by
            have : ¬ (i : Int) < ws.length := by simpa using c3
            omega
          subst hi1
          rw [List.take_length]
          refine Tr.exit ?_; refine Tr.seq ?_; refine Tr.region ?_; refine TrL.quiets 1 rfl (by exact True.intro) ?_
          first | refine TrL.callV rfl rfl rfl rfl rfl (c_words_Join (ws.flatMap (gF L 2)) (by omega) (by omega)) ?_ | refine TrD.callV rfl rfl rfl rfl rfl (c_words_Join (ws.flatMap (gF L 2)) (by omega) (by omega)) rfl ?_
          refine TrL.quiets 2 rfl (by exact True.intro) ?_; refine TrL.nil ?_; refine Tr.ret ?_
          exact retT.of rfl rfl rfl
    · refine Tr.skip ?_; refine Tr.seq ?_; refine Tr.block ?_; refine Tr.seq ?_; refine Tr.region ?_
      refine TrL.eff (idxPart_sound (k := 3) (es := [vS [98, 97, 115, 101, 110, 97, 109, 101], .fn 52 [] [.ptr 7 0]]) rfl rfl (by decide) rfl rfl rfl Tryz.underlying62 Tryz.underlying61 rfl rfl rfl rfl rfl) True.intro ?_
      refine TrL.eff (effBox_sound rfl) (by exact True.intro) ?_; refine TrL.eff (effStore_sound rfl) (by exact True.intro) ?_; refine TrL.nil ?_; refine Tr.seq ?_; refine Tr.seq ?_; refine Tr.region ?_; refine TrL.quiets 4 rfl (by exact True.intro) ?_; refine TrL.nil ?_
      refine Tr.cond rfl (fun c2 => ?_) (fun c2 => ?_)
      · have hn : ([98, 97, 115, 101, 110, 97, 109, 101] : Str) ≠ name := by simpa using c2
        refine Tr.exit ?_; refine Tr.region ?_; refine TrL.quiets 2 rfl (by exact True.intro) ?_; refine TrL.nil ?_
        refine ⟨4, ⟨by decide, fun x hx => ?_⟩, by decide, ?_⟩
        · have hx2 : x ∈ names6.take 3 ∨ x = [98, 97, 115, 101, 110, 97, 109, 101] := by
            have : names6.take (4) = names6.take 3 ++ [[98, 97, 115, 101, 110, 97, 109, 101]] := rfl
            rw [this] at hx
            rcases List.mem_append.1 hx with h1 | h1
            · exact .inl h1
            · exact .inr (List.mem_singleton.1 h1)
          rcases hx2 with h1 | rfl
          · exact hne x h1
          · exact hn
        · rfl
      · have hn : ([98, 97, 115, 101, 110, 97, 109, 101] : Str) = name := by simpa using c2
        have hRk := hR 3 (by decide) hn
        have hd : doFile L name s = (joinW (ws.flatMap (gF L 3)), true) := by rw [← hn, ← hou]; rfl
        rw [hd]
        refine Tr.skip ?_; refine Tr.seq ?_; refine Tr.region ?_; refine TrL.quiets 1 rfl (by exact True.intro) ?_; refine TrL.nil ?_; refine Tr.seq ?_; refine Tr.seq ?_; refine Tr.region ?_; refine TrL.quiets 1 rfl (by exact True.intro) ?_
        first | refine TrL.callV rfl rfl rfl rfl rfl csp ?_ | refine TrD.callV rfl rfl rfl rfl rfl csp rfl ?_
        refine TrL.quiets 2 rfl (by exact True.intro) ?_; refine TrL.nil ?_
        change Tr _ _ _ _ _ _
        refine Tr.keep [0, 9, 10, 22, 23, 24] 10 hB10 (st' := ⟨[(0, [], .ptr 0 0), (9, [], .ptr 9 0), (10, [], .nils), (22, [], vL .str ws), (23, [], vI ws.length), (24, [], vI 0)], fT L ++ [.box 61 [vS [98, 97, 115, 101, 110, 97, 109, 101], .fn 52 [] [.ptr 7 0]]]⟩) rfl ?_
        refine Tr.nilRow 10 9 .str rfl ?_
        refine Tr.block ?_
        refine Tr.loop (fun i : Nat => ⟨[(0, [], .ptr 0 0), (9, [], .ptr 9 0), (10, [], .own 10), (22, [], vL .str ws), (23, [], vI ws.length), (24, [], vI i)], fT L ++ [.box 61 [vS [98, 97, 115, 101, 110, 97, 109, 101], .fn 52 [] [.ptr 7 0]], .gs 9 .str ((ws.take i).flatMap (gF L 3))]⟩) (fun i => i ≤ ws.length) (fun i => ws.length - i) 0 [0, 9, 10, 22, 23, 24] 11 hB11 rfl (Nat.zero_le _) fun i hi => ?_
        refine Tr.seq ?_; refine Tr.region ?_; refine TrL.quiets 1 rfl (by exact True.intro) ?_; refine TrL.nil ?_; refine Tr.seq ?_
        refine Tr.cond rfl (fun c3 => ?_) (fun c3 => ?_)
        · have hi1 : i < ws.length := by simpa using c3
          have hnth : nth (t := .str) ws (i : Int) = ws[i] := nth_get' (t := .str) _ _ hi1
          have hwi := hwl _ (List.getElem_mem hi1)
          have hms : (ws.take (i + 1)).flatMap (gF L 3) = (ws.take i).flatMap (gF L 3) ++ gF L 3 ws[i] := by
            rw [List.take_succ_eq_append_getElem hi1, List.flatMap_append, List.flatMap_singleton]
          have hle := flatMap_take_le (gF L 3) ws (i + 1)
          rw [hms, List.length_append] at hle
          refine Tr.skip ?_; refine Tr.seq ?_; refine Tr.block ?_; refine Tr.seq ?_; refine Tr.region ?_; refine TrL.quiets 3 rfl (by (simp only [allOf, impO, imp, inR, loOk, and_true]; omega)) ?_; refine TrL.nil ?_
          change Tr _ _ _ _ _ _
          refine Tr.is 12 (sv' := vS ws[i]) rfl (congrArg vS hnth) ?_
          refine Tr.keep [0, 9, 10, 12, 22, 23, 24] 11 hB11 (st' := ⟨[(0, [], .ptr 0 0), (9, [], .ptr 9 0), (10, [], .own 10), (12, [], vS ws[i]), (22, [], vL .str ws), (23, [], vI ws.length), (24, [], vI i)], fT L ++ [.box 61 [vS [98, 97, 115, 101, 110, 97, 109, 101], .fn 52 [] [.ptr 7 0]], .gs 9 .str ((ws.take i).flatMap (gF L 3))]⟩) rfl ?_
          refine Tr.region ?_; refine TrL.quiets 5 rfl (by exact True.intro) ?_
          refine TrL.callT [0, 1, 2, 7] rfl rfl rfl rfl rfl (c_one1 38 baseF ws[i] (c_Base ws[i] (by omega))) rfl rfl rfl ?_
          refine TrL.eff (effAppend_sound rfl) ?_ ?_
          · show ((ws.take i).flatMap (gF L 3)).length + (gF L 3 ws[i]).length ≤ 1099511627776
            omega
          refine TrL.quiets 1 rfl (by exact True.intro) ?_; refine TrL.nil ?_; refine Tr.region ?_; refine TrL.quiets 2 rfl (by exact True.intro) ?_; refine TrL.nil ?_
          refine ⟨i + 1, hi1, by dsimp only; omega, ?_⟩
          refine Eq.trans (b := (⟨[(0, [], .ptr 0 0), (9, [], .ptr 9 0), (10, [], .own 10), (22, [], vL .str ws), (23, [], vI ws.length), (24, [], vI (IntKind.i64.wrap ((i : Int) + 1)))], fT L ++ [.box 61 [vS [98, 97, 115, 101, 110, 97, 109, 101], .fn 52 [] [.ptr 7 0]], .gs 9 .str ((ws.take i).flatMap (gF L 3) ++ gF L 3 ws[i])]⟩ : St)) rfl ?_
          dsimp only
          rw [hms, w64n (y := i + 1) (by omega) (by omega)]
        · have hi1 : ws.length = i := by
            have : ¬ (i : Int) < ws.length := by simpa using c3
            omega
          subst hi1
          rw [List.take_length]
          refine Tr.exit ?_; refine Tr.seq ?_; refine Tr.region ?_; refine TrL.quiets 1 rfl (by exact True.intro) ?_
          first | refine TrL.callV rfl rfl rfl rfl rfl (c_words_Join (ws.flatMap (gF L 3)) (by omega) (by omega)) ?_ | refine TrD.callV rfl rfl rfl rfl rfl (c_words_Join (ws.flatMap (gF L 3)) (by omega) (by omega)) rfl ?_
          refine TrL.quiets 2 rfl (by exact True.intro) ?_; refine TrL.nil ?_; refine Tr.ret ?_
          exact retT.of rfl rfl rfl
    · refine Tr.skip ?_; refine Tr.seq ?_; refine Tr.block ?_; refine Tr.seq ?_; refine Tr.region ?_
      refine TrL.eff (idxPart_sound (k := 4) (es := [vS [97, 98, 115, 112, 97, 116, 104], .fn 52 [] [.ptr 8 0]]) rfl rfl (by decide) rfl rfl rfl Tryz.underlying62 Tryz.underlying61 rfl rfl rfl rfl rfl) True.intro ?_
      refine TrL.eff (effBox_sound rfl) (by exact True.intro) ?_; refine TrL.eff (effStore_sound rfl) (by exact True.intro) ?_; refine TrL.nil ?_; refine Tr.seq ?_; refine Tr.seq ?_; refine Tr.region ?_; refine TrL.quiets 4 rfl (by exact True.intro) ?_; refine TrL.nil ?_
      refine Tr.cond rfl (fun c2 => ?_) (fun c2 => ?_)
      · have hn : ([97, 98, 115, 112, 97, 116, 104] : Str) ≠ name := by simpa using c2
        refine Tr.exit ?_; refine Tr.region ?_; refine TrL.quiets 2 rfl (by exact True.intro) ?_; refine TrL.nil ?_
        refine ⟨5, ⟨by decide, fun x hx => ?_⟩, by decide, ?_⟩
        · have hx2 : x ∈ names6.take 4 ∨ x = [97, 98, 115, 112, 97, 116, 104] := by
            have : names6.take (5) = names6.take 4 ++ [[97, 98, 115, 112, 97, 116, 104]] := rfl
            rw [this] at hx
            rcases List.mem_append.1 hx with h1 | h1
            · exact .inl h1
            · exact .inr (List.mem_singleton.1 h1)
          rcases hx2 with h1 | rfl
          · exact hne x h1
          · exact hn
        · rfl
      · have hn : ([97, 98, 115, 112, 97, 116, 104] : Str) = name := by simpa using c2
        have hRk := hR 4 (by decide) hn
        have hd : doFile L name s = (joinW (ws.flatMap (gF L 4)), true) := by rw [← hn, ← hou]; rfl
        rw [hd]
        refine Tr.skip ?_; refine Tr.seq ?_; refine Tr.region ?_; refine TrL.quiets 1 rfl (by exact True.intro) ?_; refine TrL.nil ?_; refine Tr.seq ?_; refine Tr.seq ?_; refine Tr.region ?_; refine TrL.quiets 1 rfl (by exact True.intro) ?_
        first | refine TrL.callV rfl rfl rfl rfl rfl csp ?_ | refine TrD.callV rfl rfl rfl rfl rfl csp rfl ?_
        refine TrL.quiets 2 rfl (by exact True.intro) ?_; refine TrL.nil ?_
        change Tr _ _ _ _ _ _
        refine Tr.keep [0, 9, 10, 22, 23, 24] 10 hB10 (st' := ⟨[(0, [], .ptr 0 0), (9, [], .ptr 9 0), (10, [], .nils), (22, [], vL .str ws), (23, [], vI ws.length), (24, [], vI 0)], fT L ++ [.box 61 [vS [97, 98, 115, 112, 97, 116, 104], .fn 52 [] [.ptr 8 0]]]⟩) rfl ?_
        refine Tr.nilRow 10 9 .str rfl ?_
        refine Tr.block ?_
        refine Tr.loop (fun i : Nat => ⟨[(0, [], .ptr 0 0), (9, [], .ptr 9 0), (10, [], .own 10), (22, [], vL .str ws), (23, [], vI ws.length), (24, [], vI i)], fT L ++ [.box 61 [vS [97, 98, 115, 112, 97, 116, 104], .fn 52 [] [.ptr 8 0]], .gs 9 .str ((ws.take i).flatMap (gF L 4))]⟩) (fun i => i ≤ ws.length) (fun i => ws.length - i) 0 [0, 9, 10, 22, 23, 24] 11 hB11 rfl (Nat.zero_le _) fun i hi => ?_
        refine Tr.seq ?_; refine Tr.region ?_; refine TrL.quiets 1 rfl (by exact True.intro) ?_; refine TrL.nil ?_; refine Tr.seq ?_
        refine Tr.cond rfl (fun c3 => ?_) (fun c3 => ?_)
        · have hi1 : i < ws.length := by simpa using c3
          have hnth : nth (t := .str) ws (i : Int) = ws[i] := nth_get' (t := .str) _ _ hi1
          have hwi := hwl _ (List.getElem_mem hi1)
          have hms : (ws.take (i + 1)).flatMap (gF L 4) = (ws.take i).flatMap (gF L 4) ++ gF L 4 ws[i] := by
            rw [List.take_succ_eq_append_getElem hi1, List.flatMap_append, List.flatMap_singleton]
          have hle := flatMap_take_le (gF L 4) ws (i + 1)
          rw [hms, List.length_append] at hle
          refine Tr.skip ?_; refine Tr.seq ?_; refine Tr.block ?_; refine Tr.seq ?_; refine Tr.region ?_; refine TrL.quiets 3 rfl (by (simp only [allOf, impO, imp, inR, loOk, and_true]; omega)) ?_; refine TrL.nil ?_
          change Tr _ _ _ _ _ _
          refine Tr.is 12 (sv' := vS ws[i]) rfl (congrArg vS hnth) ?_
          refine Tr.keep [0, 9, 10, 12, 22, 23, 24] 11 hB11 (st' := ⟨[(0, [], .ptr 0 0), (9, [], .ptr 9 0), (10, [], .own 10), (12, [], vS ws[i]), (22, [], vL .str ws), (23, [], vI ws.length), (24, [], vI i)], fT L ++ [.box 61 [vS [97, 98, 115, 112, 97, 116, 104], .fn 52 [] [.ptr 8 0]], .gs 9 .str ((ws.take i).flatMap (gF L 4))]⟩) rfl ?_
          refine Tr.region ?_; refine TrL.quiets 5 rfl (by exact True.intro) ?_
          refine TrL.callT [0, 1, 2, 8] rfl rfl rfl rfl rfl (c_one1 14 absP ws[i] (c_path_Abs ws[i] (by omega))) rfl rfl rfl ?_
          refine TrL.eff (effAppend_sound rfl) ?_ ?_
          · show ((ws.take i).flatMap (gF L 4)).length + (gF L 4 ws[i]).length ≤ 1099511627776
            omega
          refine TrL.quiets 1 rfl (by exact True.intro) ?_; refine TrL.nil ?_; refine Tr.region ?_; refine TrL.quiets 2 rfl (by exact True.intro) ?_; refine TrL.nil ?_
          refine ⟨i + 1, hi1, by dsimp only; omega, ?_⟩
          refine Eq.trans (b := (⟨[(0, [], .ptr 0 0), (9, [], .ptr 9 0), (10, [], .own 10), (22, [], vL .str ws), (23, [], vI ws.length), (24, [], vI (IntKind.i64.wrap ((i : Int) + 1)))], fT L ++ [.box 61 [vS [97, 98, 115, 112, 97, 116, 104], .fn 52 [] [.ptr 8 0]], .gs 9 .str ((ws.take i).flatMap (gF L 4) ++ gF L 4 ws[i])]⟩ : St)) rfl ?_
          dsimp only
          rw [hms, w64n (y := i + 1) (by omega) (by omega)]
        · have hi1 : ws.length = i := by
            have : ¬ (i : Int) < ws.length := by simpa using c3
            omega
          subst hi1
          rw [List.take_length]
          refine Tr.exit ?_; refine Tr.seq ?_; refine Tr.region ?_; refine TrL.quiets 1 rfl (by exact True.intro) ?_
          first | refine TrL.callV rfl rfl rfl rfl rfl (c_words_Join (ws.flatMap (gF L 4)) (by omega) (by omega)) ?_ | refine TrD.callV rfl rfl rfl rfl rfl (c_words_Join (ws.flatMap (gF L 4)) (by omega) (by omega)) rfl ?_
          refine TrL.quiets 2 rfl (by exact True.intro) ?_; refine TrL.nil ?_; refine Tr.ret ?_
          exact retT.of rfl rfl rfl
    · refine Tr.skip ?_; refine Tr.seq ?_; refine Tr.block ?_; refine Tr.seq ?_; refine Tr.region ?_
      refine TrL.eff (idxPart_sound (k := 5) (es := [vS [119, 105, 108, 100, 99, 97, 114, 100], .fn 39 [] []]) rfl rfl (by decide) rfl rfl rfl Tryz.underlying62 Tryz.underlying61 rfl rfl rfl rfl rfl) True.intro ?_
      refine TrL.eff (effBox_sound rfl) (by exact True.intro) ?_; refine TrL.eff (effStore_sound rfl) (by exact True.intro) ?_; refine TrL.nil ?_; refine Tr.seq ?_; refine Tr.seq ?_; refine Tr.region ?_; refine TrL.quiets 4 rfl (by exact True.intro) ?_; refine TrL.nil ?_
      refine Tr.cond rfl (fun c2 => ?_) (fun c2 => ?_)
      · have hn : ([119, 105, 108, 100, 99, 97, 114, 100] : Str) ≠ name := by simpa using c2
        refine Tr.exit ?_; refine Tr.region ?_; refine TrL.quiets 2 rfl (by exact True.intro) ?_; refine TrL.nil ?_
        refine ⟨6, ⟨by decide, fun x hx => ?_⟩, by decide, ?_⟩
        · have hx2 : x ∈ names6.take 5 ∨ x = [119, 105, 108, 100, 99, 97, 114, 100] := by
            have : names6.take (6) = names6.take 5 ++ [[119, 105, 108, 100, 99, 97, 114, 100]] := rfl
            rw [this] at hx
            rcases List.mem_append.1 hx with h1 | h1
            · exact .inl h1
            · exact .inr (List.mem_singleton.1 h1)
          rcases hx2 with h1 | rfl
          · exact hne x h1
          · exact hn
        · rfl
      · have hn : ([119, 105, 108, 100, 99, 97, 114, 100] : Str) = name := by simpa using c2
        have hRk := hR 5 (by decide) hn
        have hd : doFile L name s = (joinW (ws.flatMap (gF L 5)), true) := by rw [← hn, ← hou]; rfl
        rw [hd]
        refine Tr.skip ?_; refine Tr.seq ?_; refine Tr.region ?_; refine TrL.quiets 1 rfl (by exact True.intro) ?_; refine TrL.nil ?_; refine Tr.seq ?_; refine Tr.seq ?_; refine Tr.region ?_; refine TrL.quiets 1 rfl (by exact True.intro) ?_
        first | refine TrL.callV rfl rfl rfl rfl rfl csp ?_ | refine TrD.callV rfl rfl rfl rfl rfl csp rfl ?_
        refine TrL.quiets 2 rfl (by exact True.intro) ?_; refine TrL.nil ?_
        change Tr _ _ _ _ _ _
        refine Tr.keep [0, 9, 10, 22, 23, 24] 10 hB10 (st' := ⟨[(0, [], .ptr 0 0), (9, [], .ptr 9 0), (10, [], .nils), (22, [], vL .str ws), (23, [], vI ws.length), (24, [], vI 0)], fT L ++ [.box 61 [vS [119, 105, 108, 100, 99, 97, 114, 100], .fn 39 [] []]]⟩) rfl ?_
        refine Tr.nilRow 10 9 .str rfl ?_
        refine Tr.block ?_
        refine Tr.loop (fun i : Nat => ⟨[(0, [], .ptr 0 0), (9, [], .ptr 9 0), (10, [], .own 10), (22, [], vL .str ws), (23, [], vI ws.length), (24, [], vI i)], fT L ++ [.box 61 [vS [119, 105, 108, 100, 99, 97, 114, 100], .fn 39 [] []], .gs 9 .str ((ws.take i).flatMap (gF L 5))]⟩) (fun i => i ≤ ws.length) (fun i => ws.length - i) 0 [0, 9, 10, 22, 23, 24] 11 hB11 rfl (Nat.zero_le _) fun i hi => ?_
        refine Tr.seq ?_; refine Tr.region ?_; refine TrL.quiets 1 rfl (by exact True.intro) ?_; refine TrL.nil ?_; refine Tr.seq ?_
        refine Tr.cond rfl (fun c3 => ?_) (fun c3 => ?_)
        · have hi1 : i < ws.length := by simpa using c3
          have hnth : nth (t := .str) ws (i : Int) = ws[i] := nth_get' (t := .str) _ _ hi1
          have hwi := hwl _ (List.getElem_mem hi1)
          have hms : (ws.take (i + 1)).flatMap (gF L 5) = (ws.take i).flatMap (gF L 5) ++ gF L 5 ws[i] := by
            rw [List.take_succ_eq_append_getElem hi1, List.flatMap_append, List.flatMap_singleton]
          have hle := flatMap_take_le (gF L 5) ws (i + 1)
          rw [hms, List.length_append] at hle
          refine Tr.skip ?_; refine Tr.seq ?_; refine Tr.block ?_; refine Tr.seq ?_; refine Tr.region ?_; refine TrL.quiets 3 rfl (by (simp only [allOf, impO, imp, inR, loOk, and_true]; omega)) ?_; refine TrL.nil ?_
          change Tr _ _ _ _ _ _
          refine Tr.is 12 (sv' := vS ws[i]) rfl (congrArg vS hnth) ?_
          refine Tr.keep [0, 9, 10, 12, 22, 23, 24] 11 hB11 (st' := ⟨[(0, [], .ptr 0 0), (9, [], .ptr 9 0), (10, [], .own 10), (12, [], vS ws[i]), (22, [], vL .str ws), (23, [], vI ws.length), (24, [], vI i)], fT L ++ [.box 61 [vS [119, 105, 108, 100, 99, 97, 114, 100], .fn 39 [] []], .gs 9 .str ((ws.take i).flatMap (gF L 5))]⟩) rfl ?_
          refine Tr.region ?_; refine TrL.quiets 5 rfl (by exact True.intro) ?_
          refine TrL.callT [0, 1, 2] rfl rfl rfl rfl rfl (c_Expand h hL ws[i] (by omega) (hf _ (List.getElem_mem hi1))) rfl rfl rfl ?_
          refine TrL.eff (effAppend_sound rfl) ?_ ?_
          · show ((ws.take i).flatMap (gF L 5)).length + (gF L 5 ws[i]).length ≤ 1099511627776
            omega
          refine TrL.quiets 1 rfl (by exact True.intro) ?_; refine TrL.nil ?_; refine Tr.region ?_; refine TrL.quiets 2 rfl (by exact True.intro) ?_; refine TrL.nil ?_
          refine ⟨i + 1, hi1, by dsimp only; omega, ?_⟩
          refine Eq.trans (b := (⟨[(0, [], .ptr 0 0), (9, [], .ptr 9 0), (10, [], .own 10), (22, [], vL .str ws), (23, [], vI ws.length), (24, [], vI (IntKind.i64.wrap ((i : Int) + 1)))], fT L ++ [.box 61 [vS [119, 105, 108, 100, 99, 97, 114, 100], .fn 39 [] []], .gs 9 .str ((ws.take i).flatMap (gF L 5) ++ gF L 5 ws[i])]⟩ : St)) rfl ?_
          dsimp only
          rw [hms, w64n (y := i + 1) (by omega) (by omega)]
        · have hi1 : ws.length = i := by
            have : ¬ (i : Int) < ws.length := by simpa using c3
            omega
          subst hi1
          rw [List.take_length]
          refine Tr.exit ?_; refine Tr.seq ?_; refine Tr.region ?_; refine TrL.quiets 1 rfl (by exact True.intro) ?_
          first | refine TrL.callV rfl rfl rfl rfl rfl (c_words_Join (ws.flatMap (gF L 5)) (by omega) (by omega)) ?_ | refine TrD.callV rfl rfl rfl rfl rfl (c_words_Join (ws.flatMap (gF L 5)) (by omega) (by omega)) rfl ?_
          refine TrL.quiets 2 rfl (by exact True.intro) ?_; refine TrL.nil ?_; refine Tr.ret ?_
          exact retT.of rfl rfl rfl
  have hk1 : k = 6 := by
    have : ¬ (k : Int) < 6 := by simpa using c1
    omega
  subst hk1
  have hd : doFile L name s = ([], false) := by
    unfold doFile
    rw [List.findIdx?_eq_none_iff.2 fun x hx => by
      have h1 := hne x (by rw [show names6.take 6 = names6 from rfl]; exact hx)
      simpa using h1]
  rw [hd]
  refine Tr.exit ?_; refine Tr.seq ?_; refine Tr.region ?_; refine TrL.quiets 2 rfl (by exact True.intro) ?_; refine TrL.nil ?_; refine Tr.ret ?_
  exact retT.of rfl rfl rfl

def effLitOwn (P : Program) (n : Nat) (env : Env) (tab : List Ent) (o : Oper) : Option (Option Prop × St) :=
  match o.guard, o.dst, o.op with
  | none, some d, .buildSlice t len parts => match P.underlying t with
    | some (.slice e) => match P.info? e, zeroSV P e, tyOf P 8 e, partsSV env [] parts.toList with
      | some inf, some z, some ty, some ps =>
        match fillFast (fun i => some (i * inf.size, inf.size)) ((List.range (len * inf.size)).map (fun i => z.getD (i % z.length) .top)) ps with
        | some cells => match parseN ty len (cells.map (res tab)) with
          | some l => if d < n ∧ inf.size = ty.cells ∧ z.length = inf.size ∧ 0 < len * inf.size ∧ len * inf.size ≤ 16777216 ∧ len ≤ 16777216 ∧ okPut env d = true then some (none, addRow env tab d e ty l) else none
          | none => none
        | none => none
      | _, _, _, _ => none
    | _ => none
  | _, _, _ => none
theorem effLitOwn_sound {P : Program} {n : Nat} {env : Env} {tab : List Ent} {st' : St} {o : Oper} {c : Option Prop} (h : effLitOwn P n env tab o = some (c, st')) : Eff P n o ⟨env, tab⟩ st' c := by
  unfold effLitOwn at h
  split at h
  · rename_i d t len parts hg hdst ho
    split at h
    · rename_i e hu
      split at h
      · rename_i inf z ty ps hinf hz hty hps
        split at h
        · rename_i cells hcells0
          have hcells := fillFast_eq hcells0
          split at h
          · rename_i l hl
            split at h
            · rename_i hs
              obtain ⟨s1, s2, s3, s0, s4, s5, s6⟩ := hs
              simp only [Option.some.injEq, Prod.mk.injEq] at h
              obtain ⟨rfl, rfl⟩ := h
              refine ⟨hg, fun cx a w _ hr => ?_⟩
              obtain ⟨σ, ρ, hw, he, hn, hd⟩ : ∃ σ ρ, WR cx σ ρ tab w ∧ EnvA σ ρ env a ∧ a.tmps.size = n ∧ a.defers = cx.ds := hr
              unfold zeroSV at hz
              split at hz
              · rename_i it hit
                rw [hinf] at hit
                obtain rfl := Option.some.inj hit
                split at hz
                · rename_i zv hzv
                  have hzd := constSVL_den (σ := σ) (ρ := ρ) _ _ hz
                  have hpd := partsSV_den (known := []) he.env (fun p hp => by cases hp) _ _ hps
                  have hparts : (parts.map fun x => (x.1, a.eval x.2)).toList = parts.toList.map fun x => (x.1, a.eval x.2) := by rw [Array.toList_map]
                  have hpos : 0 < z.length := by
                    rcases Nat.eq_zero_or_pos z.length with hz0 | hz0
                    · rw [s3] at hz0; rw [hz0] at s0; simp at s0
                    · exact hz0
                  obtain ⟨vs, v1, v2⟩ := range_cells hzd hpos (len * inf.size)
                  obtain ⟨rs, r1, r2⟩ := fill_run (σ := σ) (ρ := ρ) ps _ _ vs cells v1 hpd hcells
                  have hrun : (Instr.buildSlice t len (parts.map fun x => (x.1, a.eval x.2))).run P w = .ok (.slice (some ⟨w.heap.size, 0, none⟩) len len) (w.alloc (.cells rs.toArray e)) := run_buildSlice w t e len _ _ inf zv hu hinf hzv (by omega) (by omega) (by rw [hparts, ← r1, v2])
                  obtain ⟨p1, p2⟩ := parseN_rows len _ l rs hl (resL hw _ _ r2)
                  refine ⟨.value (.slice (some ⟨w.heap.size, 0, none⟩) len len), w.alloc (.cells rs.toArray e), by simp only [execOp, ho]; simp [hrun], .inl ⟨_, rfl, ?_⟩⟩
                  rw [hdst]
                  have hm : len ≤ maxLen := by unfold maxLen; omega
                  have hrl := p2.length
                  have := addRowG_sound (P := P) (e := e) (l := []) (m := l) (v' := .slice (some ⟨w.heap.size, 0, none⟩) len len) (w' := w.alloc (.cells rs.toArray e)) false hw he hn hd s1 s6 (Rows.nil σ ty) p2
                    ⟨by simpa using hrl, .inr ⟨w.heap.size, len, rs.toArray, by simp [p1], Nat.zero_le _, heap_alloc_new w _, by simp [p1], hm, by simp [hrl, p1], by
                      simp only [List.length_nil, Nat.zero_add, List.nil_append]
                      rw [← hrl, List.take_length]⟩⟩
                    (.inr ⟨⟨rfl, rfl, rfl, by simp, fun b hb _ => Below.heap_alloc w _ b hb⟩, fun g hg => by
                      obtain rfl := Option.some.inj hg
                      exact Nat.le_refl _⟩)
                  exact this
                · cases hz
              · cases hz
            · cases h
          · cases h
        · cases h
      · cases h
    · cases h
  · cases h

/-! ### awake -/
def aw20 : List EntD := [([97, 46, 99], false, [])]
def aw20L : List Fent := [([], true, []), ([[97, 46, 99]], false, [])]
theorem aw20_is : fsOf aw20 = aw20L := by kernel_rfl
theorem aw20_ok : FsOk aw20L := by rw [← aw20_is]; exact fsOf_ok _
theorem aw20_lim : FsLim aw20L := by rw [← aw20_is]; exact fsOf_lim (by simp [aw20])
def kDir : Str := [100, 105, 114]
def kWild : Str := [119, 105, 108, 100, 99, 97, 114, 100]
def aS1 : Str := [97, 47, 98, 32, 99]
def aS2 : Str := [42, 46, 99, 32, 42, 46, 104]
def gE (L : List Fent) : Nat → Str → List Str
  | 0, w => neOne (dirF w)
  | 1, w => neOne (ndirF w)
  | 2, w => neOne (sufxF w)
  | 3, w => neOne (baseF w)
  | 4, w => neOne (absP w)
  | _, w => expE L w
theorem gF_E (L : List Fent) (k : Nat) : gF L k = gE L k := by
  funext w
  match k with
  | 0 => rfl
  | 1 => rfl
  | 2 => rfl
  | 3 => rfl
  | 4 => rfl
  | n + 5 => exact expF_E L w
def fits20 (L : List Fent) (name s : Str) : Bool :=
  ((splitW s).all fun w => decide ((foundE L w).length ≤ 100)) && ((List.range 6).all fun k => !(names6.getD k [] == name) || (decide (((splitW s).flatMap (gE L k)).length ≤ 100) && decide ((joinW ((splitW s).flatMap (gE L k))).length ≤ 1000)))
theorem fits_f {L : List Fent} {name s : Str} (h : fits20 L name s = true) : (∀ w ∈ splitW s, (foundF L w).length ≤ 1099511627776) ∧ ∀ k, k < 6 → names6.getD k [] = name → ((splitW s).flatMap (gF L k)).length ≤ 1099511627 ∧ (joinW ((splitW s).flatMap (gF L k))).length ≤ 1099511627 := by
  unfold fits20 at h
  rw [Bool.and_eq_true, List.all_eq_true, List.all_eq_true] at h
  refine ⟨fun w hw => ?_, fun k hk hn => ?_⟩
  · have := of_decide_eq_true (h.1 w hw)
    rw [foundF_E]
    omega
  · have h1 := h.2 k (List.mem_range.2 hk)
    rw [hn] at h1
    simp only [beq_self_eq_true, Bool.not_true, Bool.false_or, Bool.and_eq_true, decide_eq_true_eq] at h1
    rw [gF_E]
    omega
def doFileE (L : List Fent) (name s : Str) : Str × Bool := match names6.findIdx? (fun x => x == name) with | some k => (joinW ((splitW s).flatMap (gE L k)), true) | none => ([], false)
theorem doFile_E (L : List Fent) (name s : Str) : doFile L name s = doFileE L name s := by
  unfold doFile doFileE outF
  cases List.findIdx? (fun x => x == name) names6 with
  | none => rfl
  | some k => dsimp only; rw [gF_E]
theorem aw20_a : doFile aw20L kDir aS1 = ([97, 47, 32, 46, 47], true) := by rw [doFile_E]; kernel_rfl
theorem aw20_b : doFile aw20L kWild aS2 = ([97, 46, 99], true) := by rw [doFile_E]; kernel_rfl
theorem aw20_c : doFile aw20L [104, 111, 112] [] = ([], false) := by rw [doFile_E]; kernel_rfl
theorem aw20_fa : fits20 aw20L kDir aS1 = true := by kernel_rfl
theorem aw20_fb : fits20 aw20L kWild aS2 = true := by kernel_rfl
theorem aw20_fc : fits20 aw20L [104, 111, 112] [] = true := by kernel_rfl
theorem c_awake20 : CallV Tryz.prog 11 [] (vB true) := by
  have fa := fits_f aw20_fa
  have fb := fits_f aw20_fb
  have fc := fits_f aw20_fc
  have ca := c_fDo aw20_ok aw20_lim kDir aS1 (by decide) fa.1 fa.2
  have cb := c_fDo aw20_ok aw20_lim kWild aS2 (by decide) fb.1 fb.2
  have cc := c_fDo aw20_ok aw20_lim [104, 111, 112] [] (by decide) fc.1 fc.2
  rw [aw20_a] at ca
  rw [aw20_b] at cb
  rw [aw20_c] at cc
  refine CallV.of Tryz.func11 (by kernel_rfl) rfl Tryz.ntmps11 (by simp) rfl fun cx hB => ?_
  have hB3 : ∀ i, cx.B i = true → i < 3 := fun i h => by have := hB i h; omega
  refine Tr.seq ?_; refine Tr.region ?_; refine TrL.quiets 1 rfl (by exact True.intro) ?_; refine TrL.nil ?_; refine Tr.seq ?_; refine Tr.region ?_; refine TrL.quiets 1 rfl (by exact True.intro) ?_; refine TrL.eff (effLit_sound rfl) (by exact True.intro) ?_
  refine TrL.weak 9 rfl (fix_weak eTy aw20) ?_
  refine TrL.callT [] rfl rfl rfl rfl rfl (c_NewL aw20 (by decide) (by simp [aw20])) rfl rfl rfl ?_
  rw [aw20_is]
  refine TrL.quiets 1 rfl (by exact True.intro) ?_; refine TrL.nil ?_
  change Tr _ _ _ _ _ _
  refine Tr.keep [1] 3 hB3 (st' := ⟨[(1, [], .ptr 2 0)], nfT (dirsOf aw20L) (filesOf aw20L)⟩) rfl ?_
  refine Tr.seq ?_; refine Tr.region ?_; refine TrL.quiets 1 rfl (by exact True.intro) ?_
  refine TrL.callT [2, 0, 1] rfl rfl rfl rfl rfl ca rfl rfl rfl ?_
  refine TrL.quiets 5 rfl (by exact True.intro) ?_; refine TrL.nil ?_
  change Tr _ _ _ _ _ _
  refine Tr.keep [1, 2, 3] 3 hB3 (st' := ⟨[(1, [], .ptr 2 0), (2, [], vS [97, 47, 32, 46, 47]), (3, [], vB true)], nfT (dirsOf aw20L) (filesOf aw20L)⟩) rfl ?_
  refine Tr.seq ?_; refine Tr.region ?_; refine TrL.quiets 1 rfl (by exact True.intro) ?_
  refine TrL.callT [2, 0, 1] rfl rfl rfl rfl rfl cb rfl rfl rfl ?_
  refine TrL.quiets 5 rfl (by exact True.intro) ?_; refine TrL.nil ?_
  change Tr _ _ _ _ _ _
  refine Tr.keep [1, 2, 3, 4, 5] 3 hB3 (st' := ⟨[(1, [], .ptr 2 0), (2, [], vS [97, 47, 32, 46, 47]), (3, [], vB true), (4, [], vS [97, 46, 99]), (5, [], vB true)], nfT (dirsOf aw20L) (filesOf aw20L)⟩) rfl ?_
  refine Tr.seq ?_; refine Tr.region ?_; refine TrL.quiets 1 rfl (by exact True.intro) ?_
  refine TrL.callT [2, 0, 1] rfl rfl rfl rfl rfl cc rfl rfl rfl ?_
  refine TrL.quiets 5 rfl (by exact True.intro) ?_; refine TrL.nil ?_
  change Tr _ _ _ _ _ _
  refine Tr.keep [2, 3, 4, 5, 7] 0 hB (st' := ⟨[(2, [], vS [97, 47, 32, 46, 47]), (3, [], vB true), (4, [], vS [97, 46, 99]), (5, [], vB true), (7, [], vB false)], []⟩) rfl ?_
  refine Tr.seq ?_; refine Tr.region ?_; refine TrL.quiets 17 rfl (by exact True.intro) ?_; refine TrL.nil ?_; refine Tr.ret ?_
  refine retQ.of rfl ?_
  rfl

theorem spl_cut (c : UInt8) (hc : isBlank c = true) (y : Str) : ∀ (x acc : Str), spl acc (x ++ c :: y) = spl acc x ++ spl [] y := by
  intro x
  induction x with
  | nil =>
    intro acc
    simp only [List.nil_append, spl, hc, if_true]
    split <;> simp
  | cons d x ih =>
    intro acc
    simp only [List.cons_append, spl]
    split
    · split
      · exact ih []
      · rw [ih []]; rfl
    · exact ih _
/-- Bytes that are no blanks, one at least. -/
structure Word (w : Str) : Prop where
  ne : w ≠ []
  no : ∀ c ∈ w, isBlank c = false
theorem Word.tw {w : Str} (h : Word w) : w.takeWhile (fun c => !isBlank c) = w := by
  have : ∀ l : Str, (∀ c ∈ l, isBlank c = false) → l.takeWhile (fun c => !isBlank c) = l := by
    intro l
    induction l with
    | nil => intro _; rfl
    | cons c l ih => intro h; simp [List.takeWhile_cons, h c (by simp), ih (fun d hd => h d (by simp [hd]))]
  exact this w h.no
theorem Word.split {w : Str} (h : Word w) : splitW w = [w] := by
  have hd : w.dropWhile (fun c => !isBlank c) = [] := by
    have := List.takeWhile_append_dropWhile (p := fun c => !isBlank c) (l := w)
    rw [h.tw] at this
    exact List.append_cancel_left (this.trans (List.append_nil w).symm)
  simp only [splitW]
  rw [spl_word w [] (by rw [h.tw]; simpa using h.ne), h.tw, hd]
  rfl
structure Gap (g : Str) : Prop where
  ne : g ≠ []
  all : ∀ c ∈ g, isBlank c = true
theorem splitW_blank {g : Str} (h : ∀ c ∈ g, isBlank c = true) (s : Str) : splitW (g ++ s) = splitW s := by
  simp only [splitW]
  rw [← spl_left (g ++ s), ← spl_left s]
  congr 1
  induction g with
  | nil => rfl
  | cons c g ih =>
    have hc := h c (by simp)
    simp only [left, List.cons_append, List.dropWhile_cons, hc, if_true]
    exact ih (fun d hd => h d (by simp [hd]))
theorem splitW_gap {g : Str} (h : Gap g) (x s : Str) : splitW (x ++ g ++ s) = splitW x ++ splitW s := by
  cases g with
  | nil => exact absurd rfl h.ne
  | cons c g =>
    have := spl_cut c (h.all c (by simp)) (g ++ s) x []
    simp only [splitW, List.append_assoc, List.cons_append]
    rw [this]
    congr 1
    exact splitW_blank (fun d hd => h.all d (by simp [hd])) s
theorem splitW_snoc {g w : Str} (hg : Gap g) (hw : Word w) (s : Str) : splitW (s ++ g ++ w) = splitW s ++ [w] := by rw [splitW_gap hg, hw.split]
theorem splitW_joinW : ∀ (l : List Str), (∀ w ∈ l, Word w) → splitW (joinW l) = l
  | [], _ => rfl
  | [a], h => (h a (by simp)).split
  | a :: b :: l, h => by
    have e : joinW (a :: b :: l) = a ++ [32] ++ joinW (b :: l) := by simp [joinW]
    rw [e, splitW_gap ⟨by simp, by simp [isBlank]⟩, (h a (by simp)).split, splitW_joinW (b :: l) (fun w hw => h w (by simp [hw]))]
    rfl
def wordB (w : Str) : Bool := !w.isEmpty && w.all fun c => !isBlank c
theorem wordB_is {w : Str} (h : wordB w = true) : Word w := by
  unfold wordB at h
  simp only [Bool.and_eq_true, Bool.not_eq_true', List.isEmpty_eq_false_iff, List.all_eq_true] at h
  exact ⟨h.1, h.2⟩
def fsN : List Fent := [([], true, [])]
def partChk (w : Str) : Bool :=
  wordB w && wordB (dirF w) && wordB (ndirF w) && wordB (baseF w) && (expE fsN w == []) && decide ((foundE fsN w).length ≤ 100) && decide (w.length ≤ 20) && decide ((dirF w).length ≤ 20) && decide ((ndirF w).length ≤ 20) && decide ((baseF w).length ≤ 20) &&
  !(dirF w ++ ndirF w != w && dirF w != [46, 47]) && !(dirF w == [46, 47] && ndirF w != w) && decide ((baseF w).length ≤ w.length) && (w.take (baseF w).length == baseF w)
theorem part_all : tblWord.all partChk = true := by kernel_rfl
theorem tblGap_gap : ∀ g ∈ tblGap, Gap g := by
  intro g hg
  simp only [tblGap, List.mem_cons, List.not_mem_nil, or_false] at hg
  rcases hg with rfl | rfl | rfl <;> exact ⟨by simp, by decide⟩
structure PartFacts (w : Str) : Prop where
  w0 : Word w
  w1 : Word (dirF w)
  w2 : Word (ndirF w)
  w3 : Word (baseF w)
  ex : expF fsN w = []
  fo : (foundF fsN w).length ≤ 100
  l0 : w.length ≤ 20
  l1 : (dirF w).length ≤ 20
  l2 : (ndirF w).length ≤ 20
  l3 : (baseF w).length ≤ 20
  c1 : (dirF w ++ ndirF w != w && dirF w != [46, 47]) = false
  c2 : (dirF w == [46, 47] && ndirF w != w) = false
  c3 : (baseF w).length ≤ w.length
  c4 : w.take (baseF w).length = baseF w
theorem part_facts (v : Int) : PartFacts (word v) := by
  have h := List.all_eq_true.1 part_all _ (word_mem v)
  unfold partChk at h
  simp only [Bool.and_eq_true, decide_eq_true_eq, Bool.not_eq_true'] at h
  obtain ⟨⟨⟨⟨⟨⟨⟨⟨⟨⟨⟨⟨⟨a0, a1⟩, a2⟩, a3⟩, a4⟩, a5⟩, a6⟩, a7⟩, a8⟩, a9⟩, b1⟩, b2⟩, b3⟩, b4⟩ := h
  exact ⟨wordB_is a0, wordB_is a1, wordB_is a2, wordB_is a3, by rw [expF_E]; exact eq_of_beq a4, by rw [foundF_E]; exact a5, a6, a7, a8, a9, b1, b2, b3, eq_of_beq b4⟩
theorem split_from : ∀ (r : List Int) (w : Str), Word w → splitW (w ++ wordsFrom false r) = w :: r.map word
  | [], w, h => by
    rw [wordsFrom, List.append_nil, h.split]
    rfl
  | v :: r, w, h => by
    have e : w ++ wordsFrom false (v :: r) = w ++ gapW v ++ (word v ++ wordsFrom false r) := by
      simp only [wordsFrom, Bool.false_eq_true, if_false, List.append_assoc]
    rw [e, splitW_gap (tblGap_gap _ (gapW_mem v)), h.split, split_from r (word v) (part_facts v).w0]
    rfl
theorem split_words (ns : List Int) : splitW (wordsL ns) = (ns.take 40).map word := by
  unfold wordsL
  cases ns.take 40 with
  | nil => rfl
  | cons v r =>
    have e : wordsFrom true (v :: r) = word v ++ wordsFrom false r := by simp [wordsFrom]
    rw [e, split_from r (word v) (part_facts v).w0]
    rfl
theorem joinW_leU (b : Nat) : ∀ l : List Str, (∀ x ∈ l, x.length ≤ b) → (joinW l).length ≤ l.length * (b + 1)
  | [], h => by simp [joinW]
  | [a], h => by
    have := h a (by simp)
    simp only [joinW, List.length_singleton]
    omega
  | a :: c :: l, h => by
    have h1 := h a (by simp)
    have h2 := joinW_leU b (c :: l) (fun x hx => h x (by simp [hx]))
    simp only [joinW, List.length_append, List.length_cons, Nat.add_mul] at h2 ⊢
    omega
theorem flat_map {f : Str → Str} : ∀ (l : List Str), (∀ w ∈ l, f w ≠ []) → l.flatMap (fun w => neOne (f w)) = l.map f
  | [], _ => rfl
  | w :: l, h => by
    have h1 := h w (by simp)
    have ih := flat_map (f := f) l (fun x hx => h x (by simp [hx]))
    rw [List.flatMap_cons, ih, neOne, if_neg h1]
    rfl
theorem flat_none {f : Str → List Str} : ∀ (l : List Str), (∀ w ∈ l, f w = []) → l.flatMap f = []
  | [], _ => rfl
  | w :: l, h => by
    rw [List.flatMap_cons, h w (by simp), flat_none l (fun x hx => h x (by simp [hx]))]
    rfl
theorem fsN_is : fsOf [] = fsN := by kernel_rfl
theorem fsN_ok : FsOk fsN := by rw [← fsN_is]; exact fsOf_ok _
theorem fsN_lim : FsLim fsN := by rw [← fsN_is]; exact fsOf_lim (by simp)
theorem CallT.nils1 {P : Program} {f : Nat} {r : SV} {t : Ty} {L L' : List Ent} (h : CallT P f [vL t []] L r L') : CallT P f [.nils] L r L' := by
  refine ⟨h.1, h.2.1, fun cx σ ρ w vs hw hB hd => h.2.2 cx σ ρ w vs hw hB ?_⟩
  simp only [SV.denL] at hd ⊢
  obtain ⟨v1, r1, rfl, h1, rfl⟩ := hd
  refine ⟨v1, _, rfl, ?_, rfl⟩
  simp only [SV.den] at h1 ⊢
  subst h1
  rw [Den]
  exact ⟨none, 0, 0, rfl, rfl, Nat.le_refl _, Nat.zero_le _, fun h => absurd h (by decide)⟩

def kNotdir : Str := [110, 111, 116, 100, 105, 114]
def kBase : Str := [98, 97, 115, 101, 110, 97, 109, 101]
theorem do_map {s : Str} {W : List Str} (name : Str) (k : Nat) (f : Str → Str) (hs : splitW s = W) (hsl : s.length ≤ 1000) (hW : ∀ w ∈ W, PartFacts w) (hWl : W.length ≤ 40) (hk : names6.findIdx? (fun x => x == name) = some k) (hk2 : ∀ j, j < 6 → names6.getD j [] = name → j = k)
    (hg : gF fsN k = fun w => neOne (f w)) (hf : ∀ w ∈ W, Word (f w) ∧ (f w).length ≤ 20) :
    CallT Tryz.prog 9 [.ptr 0 0, vS name, vS s] (lT fsN) (.tup [vS (joinW (W.map f)), vB true]) (lT fsN) ∧ splitW (joinW (W.map f)) = W.map f ∧ (joinW (W.map f)).length ≤ 1000 := by
  have hfm : W.flatMap (gF fsN k) = W.map f := by rw [hg]; exact flat_map W fun w hw => (hf w hw).1.ne
  have hmm : ∀ x ∈ W.map f, Word x ∧ x.length ≤ 20 := by
    intro x hx
    obtain ⟨w, hw, rfl⟩ := List.mem_map.1 hx
    exact hf w hw
  have hjl : (joinW (W.map f)).length ≤ 1000 := by
    have h1 := joinW_leU 20 (W.map f) (fun x hx => (hmm x hx).2)
    rw [List.length_map] at h1
    have h2 : W.length * (20 + 1) ≤ 40 * 21 := Nat.mul_le_mul hWl (Nat.le_refl _)
    omega
  have h := c_fDo fsN_ok fsN_lim name s hsl (by rw [hs]; exact fun w hw => by have := (hW w hw).fo; omega) (by
    intro j hj hn
    obtain rfl := hk2 j hj hn
    rw [hs, hfm]
    refine ⟨?_, by omega⟩
    rw [List.length_map]
    omega)
  have hd : doFile fsN name s = (joinW (W.map f), true) := by
    unfold doFile outF
    rw [hk]
    dsimp only
    rw [hs, hfm]
  rw [hd] at h
  exact ⟨h, splitW_joinW _ fun x hx => (hmm x hx).1, hjl⟩
theorem do_wild {s : Str} {W : List Str} (hs : splitW s = W) (hsl : s.length ≤ 1000) (hW : ∀ w ∈ W, PartFacts w) :
    CallT Tryz.prog 9 [.ptr 0 0, vS kWild, vS s] (lT fsN) (.tup [vS [], vB true]) (lT fsN) := by
  have hfm : W.flatMap (gF fsN 5) = [] := flat_none W fun w hw => (hW w hw).ex
  have h := c_fDo fsN_ok fsN_lim kWild s hsl (by rw [hs]; exact fun w hw => by have := (hW w hw).fo; omega) (by
    intro j hj hn
    have hj5 : j = 5 := by
      rcases (show j = 0 ∨ j = 1 ∨ j = 2 ∨ j = 3 ∨ j = 4 ∨ j = 5 by omega) with rfl | rfl | rfl | rfl | rfl | rfl <;> first | rfl | (exact absurd hn (by decide))
    subst hj5
    rw [hs, hfm]
    exact ⟨by simp, by simp [joinW]⟩)
  have hd : doFile fsN kWild s = ([], true) := by
    show (outF fsN 5 s, true) = _
    unfold outF
    rw [hs, hfm]
    rfl
  rw [hd] at h
  exact h
theorem one_of {k : Nat} {name : Str} (h : ∀ j ∈ List.range 6, names6.getD j [] = name → j = k) : ∀ j, j < 6 → names6.getD j [] = name → j = k := fun j hj => h j (List.mem_range.2 hj)
theorem c_FilefnParts (l : List Int) (hl : okInts l) : CallV Tryz.prog 4 [vL (.int .i64) l] (vB true) := by
  have wa := c_Words l hl
  have hsl := wordsL_le l
  have hsw := split_words l
  have hW : ∀ w ∈ (l.take 40).map word, PartFacts w := by
    intro w hw
    obtain ⟨v, _, rfl⟩ := List.mem_map.1 hw
    exact part_facts v
  have hWl : ((l.take 40).map word).length ≤ 40 := by rw [List.length_map]; exact List.length_take_le 40 l
  generalize wordsL l = s at wa hsl hsw
  generalize (l.take 40).map word = W at hsw hW hWl
  obtain ⟨dA, xA, lA⟩ := do_map kDir 0 dirF hsw (by omega) hW hWl rfl (one_of (by decide)) rfl fun w hw => ⟨(hW w hw).w1, (hW w hw).l1⟩
  obtain ⟨dB, xB, lB⟩ := do_map kNotdir 1 ndirF hsw (by omega) hW hWl rfl (one_of (by decide)) rfl fun w hw => ⟨(hW w hw).w2, (hW w hw).l2⟩
  obtain ⟨dC, xC, lC⟩ := do_map kBase 3 baseF hsw (by omega) hW hWl rfl (one_of (by decide)) rfl fun w hw => ⟨(hW w hw).w3, (hW w hw).l3⟩
  have dD := do_wild hsw (by omega) hW
  have sS := c_ref_Split s (by omega)
  have sA := c_ref_Split (joinW (W.map dirF)) (by omega)
  have sB := c_ref_Split (joinW (W.map ndirF)) (by omega)
  have sC := c_ref_Split (joinW (W.map baseF)) (by omega)
  rw [hsw] at sS
  rw [xA] at sA
  rw [xB] at sB
  rw [xC] at sC
  have hn := (c_NewL [] (by decide) (by simp)).nils1
  rw [fsN_is] at hn
  generalize joinW (W.map dirF) = jA at dA sA
  generalize joinW (W.map ndirF) = jB at dB sB
  generalize joinW (W.map baseF) = jC at dC sC
  refine CallV.of Tryz.func4 (by kernel_rfl) rfl Tryz.ntmps4 (by simp) rfl fun cx hB => ?_
  have hB3 : ∀ i, cx.B i = true → i < 3 := fun i h => by have := hB i h; omega
  refine Tr.seq ?_; refine Tr.region ?_; refine TrL.quiets 1 rfl (by exact True.intro) ?_; refine TrL.nil ?_; refine Tr.seq ?_; refine Tr.region ?_; refine TrL.quiets 1 rfl (by exact True.intro) ?_
  first | refine TrL.callV rfl rfl rfl rfl rfl wa ?_ | refine TrD.callV rfl rfl rfl rfl rfl wa rfl ?_
  refine TrL.quiets 1 rfl (by exact True.intro) ?_; refine TrL.nil ?_; refine Tr.seq ?_; refine Tr.region ?_
  refine TrL.callT [] rfl rfl rfl rfl rfl hn rfl rfl rfl ?_
  refine TrL.quiets 1 rfl (by exact True.intro) ?_; refine TrL.nil ?_
  change Tr _ _ _ _ _ _
  refine Tr.keep [3, 4] 3 hB3 (st' := ⟨[(3, [], vS s), (4, [], .ptr 2 0)], nfT (dirsOf fsN) (filesOf fsN)⟩) rfl ?_
  refine Tr.seq ?_; refine Tr.region ?_; refine TrL.quiets 1 rfl (by exact True.intro) ?_
  first | refine TrL.callV rfl rfl rfl rfl rfl sS ?_ | refine TrD.callV rfl rfl rfl rfl rfl sS rfl ?_
  refine TrL.quiets 1 rfl (by exact True.intro) ?_; refine TrL.nil ?_; refine Tr.seq ?_; refine Tr.region ?_; refine TrL.quiets 2 rfl (by exact True.intro) ?_
  refine TrL.callT [2, 0, 1] rfl rfl rfl rfl rfl dA rfl rfl rfl ?_
  refine TrL.quiets 5 rfl (by exact True.intro) ?_; refine TrL.nil ?_
  change Tr _ _ _ _ _ _
  refine Tr.keep [3, 4, 5, 6] 3 hB3 (st' := ⟨[(3, [], vS s), (4, [], .ptr 2 0), (5, [], vL .str W), (6, [], vS jA)], nfT (dirsOf fsN) (filesOf fsN)⟩) rfl ?_
  refine Tr.seq ?_; refine Tr.region ?_; refine TrL.quiets 2 rfl (by exact True.intro) ?_
  refine TrL.callT [2, 0, 1] rfl rfl rfl rfl rfl dB rfl rfl rfl ?_
  refine TrL.quiets 5 rfl (by exact True.intro) ?_; refine TrL.nil ?_
  change Tr _ _ _ _ _ _
  refine Tr.keep [3, 4, 5, 6, 8] 3 hB3 (st' := ⟨[(3, [], vS s), (4, [], .ptr 2 0), (5, [], vL .str W), (6, [], vS jA), (8, [], vS jB)], nfT (dirsOf fsN) (filesOf fsN)⟩) rfl ?_
  refine Tr.seq ?_; refine Tr.region ?_; refine TrL.quiets 2 rfl (by exact True.intro) ?_
  refine TrL.callT [2, 0, 1] rfl rfl rfl rfl rfl dC rfl rfl rfl ?_
  refine TrL.quiets 5 rfl (by exact True.intro) ?_; refine TrL.nil ?_
  change Tr _ _ _ _ _ _
  refine Tr.keep [3, 4, 5, 6, 8, 10] 3 hB3 (st' := ⟨[(3, [], vS s), (4, [], .ptr 2 0), (5, [], vL .str W), (6, [], vS jA), (8, [], vS jB), (10, [], vS jC)], nfT (dirsOf fsN) (filesOf fsN)⟩) rfl ?_
  refine Tr.seq ?_; refine Tr.region ?_; refine TrL.quiets 2 rfl (by exact True.intro) ?_
  refine TrL.callT [2, 0, 1] rfl rfl rfl rfl rfl dD rfl rfl rfl ?_
  refine TrL.quiets 5 rfl (by exact True.intro) ?_; refine TrL.nil ?_
  change Tr _ _ _ _ _ _
  refine Tr.keep [5, 6, 8, 10, 12, 13] 0 hB (st' := ⟨[(5, [], vL .str W), (6, [], vS jA), (8, [], vS jB), (10, [], vS jC), (12, [], vS []), (13, [], vB true)], []⟩) rfl ?_
  refine Tr.seq ?_; refine Tr.region ?_; refine TrL.quiets 1 rfl (by exact True.intro) ?_
  first | refine TrL.callV rfl rfl rfl rfl rfl sA ?_ | refine TrD.callV rfl rfl rfl rfl rfl sA rfl ?_
  refine TrL.quiets 1 rfl (by exact True.intro) ?_
  first | refine TrL.callV rfl rfl rfl rfl rfl sB ?_ | refine TrD.callV rfl rfl rfl rfl rfl sB rfl ?_
  refine TrL.quiets 1 rfl (by exact True.intro) ?_
  first | refine TrL.callV rfl rfl rfl rfl rfl sC ?_ | refine TrD.callV rfl rfl rfl rfl rfl sC rfl ?_
  refine TrL.quiets 3 rfl (by exact True.intro) ?_; refine TrL.nil ?_; refine Tr.seq ?_; refine Tr.seq ?_; refine Tr.region ?_; refine TrL.quiets 27 rfl (by exact True.intro) ?_; refine TrL.nil ?_
  refine Tr.cond rfl (fun c1 => ?_) (fun c1 => ?_)
  · exfalso
    simp [List.length_map] at c1
  refine Tr.skip ?_; refine Tr.seq ?_; refine Tr.seq ?_; refine Tr.region ?_; refine TrL.quiets 1 rfl (by exact True.intro) ?_; refine TrL.nil ?_; refine Tr.block ?_
  refine Tr.loop (fun i : Nat => ⟨[(5, [], vL .str W), (14, [], vL .str (W.map dirF)), (15, [], vL .str (W.map ndirF)), (16, [], vL .str (W.map baseF)), (17, [], vI i)], []⟩) (fun i => i ≤ W.length) (fun i => W.length - i) 0 [5, 14, 15, 16, 17] 0 hB rfl (Nat.zero_le _) fun i hi => ?_
  refine Tr.seq ?_; refine Tr.seq ?_; refine Tr.region ?_; refine TrL.quiets 4 rfl (by exact True.intro) ?_; refine TrL.nil ?_
  refine Tr.cond rfl (fun c2 => ?_) (fun c2 => ?_)
  · have hi1 : i < W.length := by simpa using c2
    have pf := hW _ (List.getElem_mem hi1)
    have nW : nth (t := .str) W (i : Int) = W[i] := nth_get' (t := .str) _ _ hi1
    have nA : nth (t := .str) (W.map dirF) (i : Int) = dirF W[i] := by rw [nth_get' (t := .str) _ _ (by rw [List.length_map]; exact hi1), List.getElem_map]
    have nB : nth (t := .str) (W.map ndirF) (i : Int) = ndirF W[i] := by rw [nth_get' (t := .str) _ _ (by rw [List.length_map]; exact hi1), List.getElem_map]
    have nC : nth (t := .str) (W.map baseF) (i : Int) = baseF W[i] := by rw [nth_get' (t := .str) _ _ (by rw [List.length_map]; exact hi1), List.getElem_map]
    have hA : (W.map dirF).length = W.length := List.length_map ..
    have hBl : (W.map ndirF).length = W.length := List.length_map ..
    have hC : (W.map baseF).length = W.length := List.length_map ..
    obtain ⟨p0, p1, p2, p3, p4, p5, q0, q1, q2, q3, r1, r2, r3, r4⟩ := pf
    rw [← nA, ← nB, ← nW] at r1
    rw [← nA, ← nB, ← nW] at r2
    rw [← nC, ← nW] at r3 r4
    rw [← nA] at q1
    rw [← nB] at q2
    clear sA sB sC xA xB xC lA lB lC dA dB dC dD
    generalize W.map dirF = X at *
    generalize W.map ndirF = Y at *
    generalize W.map baseF = Z at *
    refine Tr.skip ?_; refine Tr.seq ?_; refine Tr.block ?_; refine Tr.seq ?_; refine Tr.draw (by kernel_rfl) (by kernel_rfl) ?_; refine TrD.quiets 69 rfl (by (simp only [allOf, impO, imp, inR, loOk, and_true]; omega)) ?_; refine TrD.nil ?_
    refine Tr.cond rfl (fun c5 => ?_) (fun c5 => ?_)
    · exfalso
      have e1 : (!(nth (t := .str) X (i : Int) ++ nth (t := .str) Y (i : Int) == nth (t := .str) W (i : Int)) && !(nth (t := .str) X (i : Int) == ({ data := #[46, 47] } : ByteArray).data.toList)) = false := r1
      have e2 : (nth (t := .str) X (i : Int) == ({ data := #[46, 47] } : ByteArray).data.toList && !(nth (t := .str) Y (i : Int) == nth (t := .str) W (i : Int))) = false := r2
      have e3 : decide (((nth (t := .str) Z (i : Int)).length : Int) > ((nth (t := .str) W (i : Int)).length : Int)) = false := decide_eq_false (by omega)
      have e4 : (!(cut (nth (t := .str) W (i : Int)) none (some ((nth (t := .str) Z (i : Int)).length : Int)) == nth (t := .str) Z (i : Int))) = false := by
        have : cut (nth (t := .str) W (i : Int)) none (some ((nth (t := .str) Z (i : Int)).length : Int)) = nth (t := .str) Z (i : Int) := by
          simp only [cut, Int.toNat_natCast]
          exact r4
        rw [this]
        simp
      rw [e1, e2, e3, e4] at c5
      cases c5
    refine Tr.skip ?_; refine Tr.region ?_; refine TrL.quiets 3 rfl (by exact True.intro) ?_; refine TrL.nil ?_
    refine ⟨i + 1, hi1, by dsimp only; omega, ?_⟩
    refine Eq.trans (b := (⟨[(5, [], vL .str W), (14, [], vL .str X), (15, [], vL .str Y), (16, [], vL .str Z), (17, [], vI (IntKind.i64.wrap ((i : Int) + 1)))], []⟩ : St)) rfl ?_
    dsimp only
    rw [w64n (y := i + 1) (by omega) (by omega)]
  · refine Tr.exit ?_; refine Tr.seq ?_; refine Tr.region ?_
    first | refine TrL.callV rfl rfl rfl rfl rfl c_awake20 ?_ | refine TrD.callV rfl rfl rfl rfl rfl c_awake20 rfl ?_
    refine TrL.quiets 1 rfl (by exact True.intro) ?_; refine TrL.nil ?_; refine Tr.ret ?_
    refine retQ.of rfl ?_
    rfl
end Go.Proofs.YteiickhgmmjcmaaGreatDoor.Sx
