/-
  cond: the reference's Read.
-/
import Derived.Test.YtckgeebihhhapaaDoorG19
set_option linter.unusedVariables false
set_option linter.unusedSimpArgs false
set_option maxRecDepth 20000
set_option maxHeartbeats 4000000
namespace Go.Proofs.YtckgeebihhhapaaDoor.Sx
open Go Go.RowKit Go.Proofs

def tailR (e : Bool) (w rest : Str) : CondD × Bool × Bool :=
  if (askF w rest).2.2 then ((e, w, (askF w rest).1, (askF w rest).2.1), true, false) else ((e, w, [], []), true, true)
def rReadF (s : Str) : CondD × Bool × Bool :=
  if (firstF s).1 = wEndif then ((false, wEndif, [], []), true, trim (firstF s).2 != [])
  else if (firstF s).1 = wElse then
    (if trim (firstF s).2 = [] then ((true, [], [], []), true, false)
     else if fourB (firstF (firstF s).2).1 then tailR true (firstF (firstF s).2).1 (firstF (firstF s).2).2
     else ((true, [], [], []), true, true))
  else if fourB (firstF s).1 then tailR false (firstF s).1 (firstF s).2
  else ((false, [], [], []), false, false)
theorem firstR_len : ∀ (r pre : Str), (firstR pre r).2.length ≤ r.length
  | [], pre => Nat.zero_le _
  | c :: r, pre => by
    rw [firstR]
    split
    · exact Nat.le_refl _
    · have := firstR_len r (pre ++ [c])
      simp only [List.length_cons]
      omega
theorem firstF_len (s : Str) : (firstF s).2.length ≤ s.length := Nat.le_trans (firstR_len _ _) (left_length s)
abbrev rBox (c : CondD) : Ent := .box 51 [vB c.1, vS c.2.1, vS c.2.2.1, vS c.2.2.2]
theorem c_rRead (s : Str) (hs : s.length ≤ 1000000) : CallV Tryd.prog 23 [vS s] (.tup [condSV (rReadF s).1, vB (rReadF s).2.1, vB (rReadF s).2.2]) := by
  have hsl := firstF_len s
  obtain ⟨R, hR⟩ : ∃ R, rReadF s = R := ⟨_, rfl⟩
  rw [hR]
  unfold rReadF at hR
  refine CallV.of Tryd.func23 (by kernel_rfl) rfl Tryd.ntmps23 (by simp) rfl fun cx hB => ?_
  have hB2 : ∀ i, cx.B i = true → i < 2 := fun i h => by have := hB i h; omega
  refine Tr.seq ?_; refine Tr.region ?_; refine TrL.eff (effBox_sound rfl) (by exact True.intro) ?_; refine TrL.quiets 2 rfl (by exact True.intro) ?_; refine TrL.nil ?_; refine Tr.seq ?_; refine Tr.region ?_; refine TrL.quiets 1 rfl (by exact True.intro) ?_
  first | refine TrL.callV rfl rfl rfl rfl rfl (c_first s (by omega)) ?_ | refine TrD.callV rfl rfl rfl rfl rfl (c_first s (by omega)) rfl ?_
  generalize firstF s = p at *
  obtain ⟨w, rest⟩ := p
  dsimp only at hsl hR ⊢
  refine TrL.quiets 5 rfl (by exact True.intro) ?_; refine TrL.nil ?_; refine Tr.seq ?_; refine Tr.region ?_; refine TrL.quiets 2 rfl (by exact True.intro) ?_; refine TrL.eff (effBox_sound rfl) (by exact True.intro) ?_; refine TrL.eff (effStore_sound rfl) (by exact True.intro) ?_; refine TrL.nil ?_
  change Tr _ _ _ _ _ _

  refine Tr.join (fun (x : Bool × Str × Str) => ⟨[(2, [], .ptr 0 0), (5, [], vS x.2.1), (6, [], vS x.2.2), (7, [], .ptr 1 0)], [rBox (false, [], [], []), rBox (x.1, x.2.1, [], [])]⟩) (fun x => x.2.2.length ≤ s.length ∧ R = tailR x.1 x.2.1 x.2.2) [2, 5, 6, 7] 2 hB2 ?_ fun x hx => ?_
  · refine Tr.block ?_; refine Tr.seq ?_; refine Tr.region ?_; refine TrL.quiets 3 rfl (by exact True.intro) ?_; refine TrL.nil ?_
    refine Tr.cond rfl (fun h2 => ?_) (fun h2 => ?_)
    · have e2 : w = wEndif := by simpa using h2
      rw [if_pos e2] at hR
      subst e2
      refine Tr.seq ?_; refine Tr.drawA 7 rfl (by kernel_rfl) ?_; refine TrA.take 1 rfl rfl (by kernel_rfl) rfl (by exact True.intro) ?_; refine TrA.two 0 2 (by kernel_rfl) rfl rfl ?_ ?_
      · refine TrL.quiets 1 rfl (by exact True.intro) ?_; refine TrL.nil ?_; refine TrA.one 2 (by kernel_rfl) rfl ?_
        first | refine TrL.callV rfl rfl rfl rfl rfl (c_ref_Trim rest (by omega)) ?_ | refine TrD.callV rfl rfl rfl rfl rfl (c_ref_Trim rest (by omega)) rfl ?_
        refine TrL.nil ?_; refine TrA.take 3 rfl rfl (by kernel_rfl) rfl (by exact True.intro) ?_; refine TrA.one 4 (by kernel_rfl) rfl ?_; refine TrL.eff (effStore_sound rfl) (by exact True.intro) ?_; refine TrL.nil ?_; refine TrA.take 5 rfl rfl (by kernel_rfl) rfl (by exact True.intro) ?_; refine TrA.take 6 rfl rfl (by kernel_rfl) rfl (by exact True.intro) ?_; refine TrA.done (by kernel_rfl) ?_; refine Tr.ret ?_
        refine retQ.of rfl ?_
        rw [← hR]
        rfl
      · first | refine TrL.callV rfl rfl rfl rfl rfl (c_ref_Trim rest (by omega)) ?_ | refine TrD.callV rfl rfl rfl rfl rfl (c_ref_Trim rest (by omega)) rfl ?_
        refine TrL.nil ?_; refine TrA.take 3 rfl rfl (by kernel_rfl) rfl (by exact True.intro) ?_; refine TrA.one 0 (by kernel_rfl) rfl ?_; refine TrL.quiets 1 rfl (by exact True.intro) ?_; refine TrL.nil ?_; refine TrA.one 4 (by kernel_rfl) rfl ?_; refine TrL.eff (effStore_sound rfl) (by exact True.intro) ?_; refine TrL.nil ?_; refine TrA.take 5 rfl rfl (by kernel_rfl) rfl (by exact True.intro) ?_; refine TrA.take 6 rfl rfl (by kernel_rfl) rfl (by exact True.intro) ?_; refine TrA.done (by kernel_rfl) ?_; refine Tr.ret ?_
        refine retQ.of rfl ?_
        rw [← hR]
        rfl
    have e2 : ¬ w = wEndif := by simpa using h2
    rw [if_neg e2] at hR
    refine Tr.seq ?_; refine Tr.region ?_; refine TrL.quiets 3 rfl (by exact True.intro) ?_; refine TrL.nil ?_
    refine Tr.cond rfl (fun h3 => ?_) (fun h3 => ?_)
    · have e3 : w = wElse := by simpa using h3
      rw [if_pos e3] at hR
      refine Tr.seq ?_; refine Tr.region ?_; refine TrL.quiets 1 rfl (by exact True.intro) ?_; refine TrL.eff (effStore_sound rfl) (by exact True.intro) ?_; refine TrL.quiets 1 rfl (by exact True.intro) ?_; refine TrL.eff (effStore_sound rfl) (by exact True.intro) ?_; refine TrL.nil ?_; refine Tr.seq ?_; refine Tr.seq ?_; refine Tr.region ?_; refine TrL.quiets 1 rfl (by exact True.intro) ?_
      first | refine TrL.callV rfl rfl rfl rfl rfl (c_ref_Trim rest (by omega)) ?_ | refine TrD.callV rfl rfl rfl rfl rfl (c_ref_Trim rest (by omega)) rfl ?_
      refine TrL.quiets 1 rfl (by exact True.intro) ?_; refine TrL.nil ?_
      refine Tr.cond rfl (fun h4 => ?_) (fun h4 => ?_)
      · have e4 : trim rest = [] := by simpa using h4
        rw [if_pos e4] at hR
        refine Tr.seq ?_; refine Tr.region ?_; refine TrL.quiets 1 rfl (by exact True.intro) ?_; refine TrL.eff (effStore_sound rfl) (by exact True.intro) ?_; refine TrL.quiets 2 rfl (by exact True.intro) ?_; refine TrL.nil ?_; refine Tr.ret ?_
        refine retQ.of rfl ?_
        rw [← hR]
        rfl
      have e4 : ¬ trim rest = [] := by simpa using h4
      rw [if_neg e4] at hR
      have hsl2 := firstF_len rest
      refine Tr.skip ?_; refine Tr.seq ?_; refine Tr.region ?_; refine TrL.quiets 1 rfl (by exact True.intro) ?_
      first | refine TrL.callV rfl rfl rfl rfl rfl (c_first rest (by omega)) ?_ | refine TrD.callV rfl rfl rfl rfl rfl (c_first rest (by omega)) rfl ?_
      generalize firstF rest = p2 at *
      obtain ⟨w2, rest2⟩ := p2
      dsimp only at hsl2 hR ⊢
      refine TrL.quiets 5 rfl (by exact True.intro) ?_; refine TrL.nil ?_; refine Tr.seq ?_; refine Tr.seq ?_; refine Tr.region ?_; refine TrL.quiets 1 rfl (by exact True.intro) ?_
      first | refine TrL.callV rfl rfl rfl rfl rfl (c_four w2) ?_ | refine TrD.callV rfl rfl rfl rfl rfl (c_four w2) rfl ?_
      refine TrL.quiets 1 rfl (by exact True.intro) ?_; refine TrL.nil ?_
      refine Tr.cond rfl (fun h5 => ?_) (fun h5 => ?_)
      · have e5 : ¬ fourB w2 = true := by simpa using h5
        rw [if_neg e5] at hR
        refine Tr.seq ?_; refine Tr.region ?_; refine TrL.quiets 1 rfl (by exact True.intro) ?_; refine TrL.eff (effStore_sound rfl) (by exact True.intro) ?_; refine TrL.quiets 2 rfl (by exact True.intro) ?_; refine TrL.nil ?_; refine Tr.ret ?_
        refine retQ.of rfl ?_
        rw [← hR]
        rfl
      have e5 : fourB w2 = true := by simpa using h5
      rw [if_pos e5] at hR
      refine Tr.skip ?_; refine Tr.region ?_; refine TrL.quiets 2 rfl (by exact True.intro) ?_; refine TrL.eff (effStore_sound rfl) (by exact True.intro) ?_; refine TrL.nil ?_
      exact ⟨(true, w2, rest2), ⟨by dsimp only; omega, hR.symm⟩, rfl⟩
    have e3 : ¬ w = wElse := by simpa using h3
    rw [if_neg e3] at hR
    refine Tr.seq ?_; refine Tr.region ?_; refine TrL.quiets 1 rfl (by exact True.intro) ?_
    first | refine TrL.callV rfl rfl rfl rfl rfl (c_four w) ?_ | refine TrD.callV rfl rfl rfl rfl rfl (c_four w) rfl ?_
    refine TrL.quiets 2 rfl (by exact True.intro) ?_; refine TrL.nil ?_
    refine Tr.cond rfl (fun h5 => ?_) (fun h5 => ?_)
    · have e5 : ¬ fourB w = true := by simpa using h5
      rw [if_neg e5] at hR
      refine Tr.seq ?_; refine Tr.region ?_; refine TrL.quiets 1 rfl (by exact True.intro) ?_; refine TrL.eff (effStore_sound rfl) (by exact True.intro) ?_; refine TrL.quiets 2 rfl (by exact True.intro) ?_; refine TrL.nil ?_; refine Tr.ret ?_
      refine retQ.of rfl ?_
      rw [← hR]
      rfl
    have e5 : fourB w = true := by simpa using h5
    rw [if_pos e5] at hR
    refine Tr.skip ?_
    exact ⟨(false, w, rest), ⟨hsl, hR.symm⟩, rfl⟩
  obtain ⟨e, w3, rest3⟩ := x
  obtain ⟨hx1, hx2⟩ := hx
  dsimp only at hx1 hx2 ⊢
  unfold tailR at hx2
  refine Tr.seq ?_; refine Tr.region ?_; refine TrL.quiets 2 rfl (by exact True.intro) ?_
  first | refine TrL.callV rfl rfl rfl rfl rfl (c_ask w3 rest3 (by omega)) ?_ | refine TrD.callV rfl rfl rfl rfl rfl (c_ask w3 rest3 (by omega)) rfl ?_
  generalize askF w3 rest3 = q at *
  obtain ⟨a, b, ok⟩ := q
  dsimp only at hx2 ⊢
  refine TrL.quiets 7 rfl (by exact True.intro) ?_; refine TrL.nil ?_; refine Tr.seq ?_; refine Tr.seq ?_; refine Tr.region ?_; refine TrL.quiets 2 rfl (by exact True.intro) ?_; refine TrL.nil ?_
  refine Tr.cond rfl (fun h7 => ?_) (fun h7 => ?_)
  · have h8 : ¬ ok = true := by simpa using h7
    rw [if_neg h8] at hx2
    refine Tr.seq ?_; refine Tr.region ?_; refine TrL.quiets 1 rfl (by exact True.intro) ?_; refine TrL.eff (effStore_sound rfl) (by exact True.intro) ?_; refine TrL.quiets 2 rfl (by exact True.intro) ?_; refine TrL.nil ?_; refine Tr.ret ?_
    refine retQ.of rfl ?_
    rw [hx2]
    rfl
  · have h8 : ok = true := by simpa using h7
    rw [if_pos h8] at hx2
    refine Tr.skip ?_; refine Tr.seq ?_; refine Tr.region ?_; refine TrL.quiets 3 rfl (by exact True.intro) ?_; refine TrL.eff (effStore_sound rfl) (by exact True.intro) ?_; refine TrL.quiets 1 rfl (by exact True.intro) ?_; refine TrL.eff (effStore_sound rfl) (by exact True.intro) ?_; refine TrL.nil ?_; refine Tr.seq ?_; refine Tr.region ?_; refine TrL.quiets 1 rfl (by exact True.intro) ?_; refine TrL.eff (effStore_sound rfl) (by exact True.intro) ?_; refine TrL.quiets 2 rfl (by exact True.intro) ?_; refine TrL.nil ?_; refine Tr.ret ?_
    refine retQ.of rfl ?_
    rw [hx2]
    rfl
end Go.Proofs.YtckgeebihhhapaaDoor.Sx
