/-
  vfs: up, is, put.
-/
import Derived.Test.YteiickhgmmjcmaaGreatDoorV2
import Derived.Test.YteiickhgmmjcmaaGreatDoorM5
set_option linter.unusedVariables false
set_option linter.unusedSimpArgs false
set_option maxRecDepth 20000
set_option maxHeartbeats 4000000
namespace Go.Proofs.YteiickhgmmjcmaaGreatDoor.Sx
open Go Go.RowKit Go.Proofs

/-- The directory that something is in, and its name there. -/
def upF (p : Str) : Str × Str := (absP (p.take (cutS p)), p.drop (cutS p))
theorem c_up (p : Str) (hp : p.length ≤ 1099511627) : CallV Tryz.prog 29 [vS p] (.tup [vS (upF p).1, vS (upF p).2]) := by
  have hc := cutS_le p
  have e1 : IntKind.i64.wrap ((cutS p : Int) - 1 + 1) = (cutS p : Int) := by rw [w64 (by omega) (by omega)]; omega
  refine CallV.of Tryz.func29 (by kernel_rfl) rfl Tryz.ntmps29 (by simp) rfl fun cx hB => ?_
  refine Tr.seq ?_; refine Tr.region ?_; refine TrL.quiets 2 rfl (by exact True.intro) ?_; refine TrL.nil ?_; refine Tr.seq ?_; refine Tr.region ?_; refine TrL.quiets 1 rfl (by exact True.intro) ?_
  first | refine TrL.callV rfl rfl rfl rfl rfl (c_LastSlash p (by omega)) ?_ | refine TrD.callV rfl rfl rfl rfl rfl (c_LastSlash p (by omega)) rfl ?_
  refine TrL.quiets 1 rfl (by exact True.intro) ?_; refine TrL.nil ?_; refine Tr.seq ?_; refine Tr.draw (by kernel_rfl) (by kernel_rfl) ?_; refine TrD.quiets 4 rfl (by (simp only [allOf, impO, imp, inR, loOk, and_true]; omega)) ?_
  first | refine TrL.callV rfl rfl rfl rfl rfl (c_path_Abs (cut p none (some (IntKind.i64.wrap ((cutS p : Int) - 1 + 1)))) (by rw [e1]; simp only [cut, List.length_take]; omega)) ?_ | refine TrD.callV rfl rfl rfl rfl rfl (c_path_Abs (cut p none (some (IntKind.i64.wrap ((cutS p : Int) - 1 + 1)))) (by rw [e1]; simp only [cut, List.length_take]; omega)) rfl ?_
  refine TrD.quiets 6 rfl (by (simp (disch := omega) only [allOf, impO, imp, inR, loOk, and_true, w64, List.length_set, List.length_cons, List.length_nil, Option.getD_none, Option.getD_some, Ty.D, true_and, decide_eq_true_eq, decide_eq_false_iff_not, Bool.and_eq_true, Bool.or_eq_false_iff]; omega)) ?_; refine TrD.nil ?_; refine Tr.ret ?_
  refine retQ.of rfl ?_
  rw [e1]
  rfl
abbrev fsT (D : Dirs) (F : List (Str × Str)) : List Ent := [.box 48 [.mp 1, .mp 2], .res (dmRes D), .res (fmRes F)]
theorem z_dir : ∀ w, (zeroValue 44).run Tryz.prog w = .ok (.map none) w := Tryz.zeroValue44
theorem z_str : ∀ w, (zeroValue 9).run Tryz.prog w = .ok (strV []) w := Tryz.zeroValue9
theorem u_dirs : Tryz.prog.underlying 45 = some (.map 9 44) := Tryz.underlying45
theorem u_names : Tryz.prog.underlying 44 = some (.map 9 4) := Tryz.underlying44
theorem u_files : Tryz.prog.underlying 46 = some (.map 9 9) := Tryz.underlying46
theorem u_str : Tryz.prog.underlying 9 = some .string := Tryz.underlying9
theorem c_is (D : Dirs) (F : List (Str × Str)) (p : Str) : CallT Tryz.prog 15 [.ptr 0 0, vS p] (fsT D F) (.tup [vB (dIdx D p).isSome, vB (fGet F p).isSome]) (fsT D F) := by
  refine CallT.of Tryz.func15 (by kernel_rfl) rfl Tryz.ntmps15 (by simp) (by simp) fun cx hB => ?_
  refine Tr.seq ?_; refine Tr.region ?_; refine TrL.quiets 2 rfl (by exact True.intro) ?_; refine TrL.nil ?_; refine Tr.seq ?_; refine Tr.region ?_; refine TrL.quiets 5 rfl (by exact True.intro) ?_
  refine TrL.eff (dmLook_sound z_dir rfl rfl rfl u_dirs u_str rfl rfl rfl rfl) True.intro ?_
  refine TrL.quiets 4 rfl (by exact True.intro) ?_; refine TrL.nil ?_; refine Tr.seq ?_; refine Tr.region ?_; refine TrL.quiets 5 rfl (by exact True.intro) ?_
  refine TrL.eff (fmLook_sound z_str rfl rfl rfl u_files u_str rfl rfl rfl rfl) True.intro ?_
  refine TrL.quiets 4 rfl (by exact True.intro) ?_; refine TrL.nil ?_; refine Tr.seq ?_; refine Tr.region ?_; refine TrL.quiets 4 rfl (by exact True.intro) ?_; refine TrL.nil ?_; refine Tr.ret ?_
  refine retT.of rfl ?_ ?_
  · rfl
  · rfl
/-- Something new lies in its directory. -/
def putF (D : Dirs) (F : List (Str × Str)) (p : Str) (dir : Bool) (text : Str) (m : Nat) : Dirs × List (Str × Str) :=
  if dir then (dAdd D m (upF p).2 ++ [(p, [])], F) else (dAdd D m (upF p).2, fPut F p text)
theorem dIdx_add : ∀ (D : Dirs) (m : Nat) (n k : Str), dIdx (dAdd D m n) k = dIdx D k
  | [], m, n, k => by simp [dAdd]
  | (k', l) :: D, 0, n, k => by simp [dAdd, dIdx]
  | (k', l) :: D, m + 1, n, k => by
    have := dIdx_add D m n k
    simp only [dAdd] at this
    simp only [dAdd, List.modify_succ_cons, dIdx, this]
theorem c_put (D : Dirs) (F : List (Str × Str)) (p q text : Str) (dir : Bool) (m : Nat) (hp : p.length ≤ 1099511627) (hm : dIdx D (upF p).1 = some m) (hd : dir = true → dIdx D p = none) :
    CallT Tryz.prog 17 [.ptr 0 0, vS p, .agg [vS q, vB dir, vS text]] (fsT D F) (.tup []) (fsT (putF D F p dir text m).1 (putF D F p dir text m).2) := by
  refine CallT.of Tryz.func17 (by kernel_rfl) rfl Tryz.ntmps17 (by simp) (by simp) fun cx hB => ?_
  refine Tr.seq ?_; refine Tr.region ?_; refine TrL.eff (effBox_sound rfl) (by exact True.intro) ?_; refine TrL.nil ?_; refine Tr.seq ?_; refine Tr.region ?_; refine TrL.quiets 1 rfl (by exact True.intro) ?_
  first | refine TrL.callV rfl rfl rfl rfl rfl (c_up p hp) ?_ | refine TrD.callV rfl rfl rfl rfl rfl (c_up p hp) rfl ?_
  refine TrL.quiets 5 rfl (by exact True.intro) ?_; refine TrL.nil ?_; refine Tr.seq ?_; refine Tr.region ?_; refine TrL.quiets 5 rfl (by exact True.intro) ?_
  refine TrL.dmSet z_dir rfl rfl rfl rfl rfl rfl rfl rfl rfl u_dirs u_str u_names u_str rfl rfl rfl rfl rfl hm ?_
  refine TrL.nil ?_; refine Tr.seq ?_; refine Tr.region ?_; refine TrL.quiets 2 rfl (by exact True.intro) ?_; refine TrL.nil ?_
  refine Tr.cond rfl (fun h1 => ?_) (fun h1 => ?_)
  · have h1' : dir = true := h1
    subst h1'
    refine Tr.region ?_; refine TrL.quiets 5 rfl (by exact True.intro) ?_
    refine TrL.dmNew rfl rfl rfl rfl (.inl rfl) rfl u_dirs u_str rfl rfl rfl rfl (by rw [dIdx_add]; exact hd rfl) ?_
    refine TrL.nil ?_
    refine retT.fall rfl ?_ ?_
    · rfl
    · rfl
  · have h1' : dir = false := h1
    subst h1'
    refine Tr.drawA 8 rfl (by kernel_rfl) ?_; refine TrA.take 0 rfl rfl (by kernel_rfl) rfl (by exact True.intro) ?_; refine TrA.take 1 rfl rfl (by kernel_rfl) rfl (by exact True.intro) ?_; refine TrA.take 2 rfl rfl (by kernel_rfl) rfl (by exact True.intro) ?_; refine TrA.take 4 rfl rfl (by kernel_rfl) rfl (by exact True.intro) ?_; refine TrA.take 5 rfl rfl (by kernel_rfl) rfl (by exact True.intro) ?_; refine TrA.two 3 6 (by kernel_rfl) rfl rfl ?_ ?_
    · refine TrL.quiets 1 rfl (by exact True.intro) ?_; refine TrL.nil ?_; refine TrA.one 6 (by kernel_rfl) rfl ?_; refine TrL.quiets 1 rfl (by exact True.intro) ?_; refine TrL.nil ?_; refine TrA.one 7 (by kernel_rfl) rfl ?_
      refine TrL.eff (fmPut_sound rfl rfl rfl u_files u_str rfl rfl rfl rfl) True.intro ?_
      refine TrL.nil ?_; refine TrA.done (by kernel_rfl) ?_
      refine retT.fall rfl ?_ ?_
      · rfl
      · rfl
    · refine TrL.quiets 1 rfl (by exact True.intro) ?_; refine TrL.nil ?_; refine TrA.one 3 (by kernel_rfl) rfl ?_; refine TrL.quiets 1 rfl (by exact True.intro) ?_; refine TrL.nil ?_; refine TrA.one 7 (by kernel_rfl) rfl ?_
      refine TrL.eff (fmPut_sound rfl rfl rfl u_files u_str rfl rfl rfl rfl) True.intro ?_
      refine TrL.nil ?_; refine TrA.done (by kernel_rfl) ?_
      refine retT.fall rfl ?_ ?_
      · rfl
      · rfl
end Go.Proofs.YteiickhgmmjcmaaGreatDoor.Sx
