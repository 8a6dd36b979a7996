/-
  Names of absolute paths; vfs: way.
-/
import Derived.Test.YteiickhgmmjcmaaGreatDoorV3
import Derived.Test.YteiickhgmmjcmaaGreatDoorM6
set_option linter.unusedVariables false
set_option linter.unusedSimpArgs false
set_option maxRecDepth 20000
set_option maxHeartbeats 4000000
namespace Go.Proofs.YteiickhgmmjcmaaGreatDoor.Sx
open Go Go.RowKit Go.Proofs

/-! ### Plain -/
def okN (x : Str) : Prop := x ≠ [] ∧ (47 : UInt8) ∉ x ∧ x ≠ [46] ∧ x ≠ [46, 46]
def okL (l : List Str) : Prop := ∀ x ∈ l, okN x
def flatS (l : List Str) : Str := l.flatMap (fun x => 47 :: x)
theorem absT_flat {l : List Str} (h : l ≠ []) : absT l = flatS l := by unfold absT; rw [if_neg h]; rfl
theorem absT_ne (l : List Str) : absT l ≠ [] := by
  unfold absT
  split
  · simp
  · rename_i h
    cases l with
    | nil => exact absurd rfl h
    | cons x l => simp
theorem spS_append : ∀ (u v acc : Str), spS acc (u ++ 47 :: v) = spS acc u ++ spS [] v
  | [], v, acc => by simp [spS]
  | c :: u, v, acc => by
    rw [List.cons_append, spS, spS]
    by_cases h : c = 47
    · rw [if_pos h, if_pos h, spS_append u v []]; rfl
    · rw [if_neg h, if_neg h, spS_append u v]
theorem spS_one : ∀ (x acc : Str), (47 : UInt8) ∉ x → spS acc x = [acc ++ x]
  | [], acc, _ => by simp [spS]
  | c :: x, acc, h => by
    rw [List.mem_cons, not_or] at h
    rw [spS, if_neg (fun e => h.1 e.symm), spS_one x _ h.2]
    simp
theorem spS_flat : ∀ (l : List Str) (x acc : Str), (47 : UInt8) ∉ x → okL l → spS acc (x ++ flatS l) = (acc ++ x) :: l
  | [], x, acc, hx, _ => by rw [show flatS [] = [] from rfl, List.append_nil, spS_one x acc hx]
  | y :: l, x, acc, hx, hl => by
    have hy := hl y (by simp)
    rw [show flatS (y :: l) = 47 :: (y ++ flatS l) by simp [flatS], spS_append, spS_one x acc hx, spS_flat l y [] hy.2.1 (fun z hz => hl z (by simp [hz]))]
    rfl
theorem stepA_ok {x : Str} (h : okN x) (p : List Str) : stepA p x = p ++ [x] := by
  unfold stepA
  rw [if_neg (by rintro (e | e); exact h.1 e; exact h.2.2.1 e), if_neg h.2.2.2]
theorem foldA_ok : ∀ (l p : List Str), okL l → l.foldl stepA p = p ++ l
  | [], p, _ => by simp
  | x :: l, p, h => by
    rw [List.foldl_cons, stepA_ok (h x (by simp)), foldA_ok l _ (fun z hz => h z (by simp [hz]))]
    simp
theorem stepA_nil (p : List Str) : stepA p [] = p := by simp [stepA]
theorem absL_flat (l : List Str) (h : okL l) : absL (flatS l) = l := by
  unfold absL
  have := spS_flat l [] [] (by simp) h
  rw [List.nil_append] at this
  rw [this, List.foldl_cons, List.append_nil, stepA_nil, foldA_ok l [] h]
  rfl
theorem absL_slash (l : List Str) (h : okL l) : absL (flatS l ++ [47]) = l := by
  unfold absL
  have h1 := spS_flat l [] [] (by simp) h
  rw [List.nil_append] at h1
  rw [show flatS l ++ [47] = flatS l ++ 47 :: [] from rfl, spS_append, h1]
  simp only [List.append_nil, List.cons_append, List.foldl_cons, List.foldl_append, stepA_nil, foldA_ok l [] h, List.nil_append, spS, List.foldl_nil]
theorem absP_absT (l : List Str) (h : okL l) : absP (absT l) = absT l := by
  unfold absP
  rw [if_neg (absT_ne l)]
  by_cases hl : l = []
  · subst hl; rfl
  · rw [absT_flat hl, absL_flat l h, absT_flat hl]
theorem stepA_okL {p : List Str} {x : Str} (hp : okL p) (hx : (47 : UInt8) ∉ x) : okL (stepA p x) := by
  unfold stepA
  split
  · exact hp
  · rename_i h1
    split
    · exact fun z hz => hp z (List.dropLast_subset _ hz)
    · rename_i h2
      intro z hz
      rcases List.mem_append.1 hz with hz | hz
      · exact hp z hz
      · rw [List.mem_singleton.1 hz]
        exact ⟨fun e => h1 (.inl e), hx, fun e => h1 (.inr e), h2⟩
theorem spS_noslash : ∀ (s acc : Str), (47 : UInt8) ∉ acc → ∀ x ∈ spS acc s, (47 : UInt8) ∉ x
  | [], acc, ha, x, hx => by rw [spS, List.mem_singleton] at hx; rw [hx]; exact ha
  | c :: s, acc, ha, x, hx => by
    rw [spS] at hx
    by_cases h : c = 47
    · rw [if_pos h] at hx
      rcases List.mem_cons.1 hx with rfl | hx
      · exact ha
      · exact spS_noslash s [] (by simp) x hx
    · rw [if_neg h] at hx
      refine spS_noslash s _ ?_ x hx
      rw [List.mem_append, List.mem_singleton]
      rintro (h1 | h1)
      · exact ha h1
      · exact h h1.symm
theorem foldA_okL : ∀ (l p : List Str), okL p → (∀ x ∈ l, (47 : UInt8) ∉ x) → okL (l.foldl stepA p)
  | [], p, hp, _ => hp
  | x :: l, p, hp, h => foldA_okL l _ (stepA_okL hp (h x (by simp))) (fun z hz => h z (by simp [hz]))
theorem absL_ok (s : Str) : okL (absL s) := foldA_okL _ _ (fun x hx => by cases hx) (spS_noslash s [] (by simp))
theorem flatS_append (a b : List Str) : flatS (a ++ b) = flatS a ++ flatS b := by simp [flatS]
theorem upF_absT (l : List Str) (x : Str) (hl : okL l) (hx : okN x) : upF (absT (l ++ [x])) = (absT l, x) := by
  rw [absT_flat (by simp), flatS_append]
  have e : flatS [x] = 47 :: x := by simp [flatS]
  unfold upF
  rw [e, cutS_behind _ _ hx.2.1]
  have e1 : (flatS l ++ 47 :: x).take ((flatS l).length + 1) = flatS l ++ [47] := by
    rw [List.take_append, List.take_of_length_le (by omega)]
    simp
  have e2 : (flatS l ++ 47 :: x).drop ((flatS l).length + 1) = x := by
    rw [List.drop_append, List.drop_of_length_le (by omega)]
    simp
  rw [e1, e2]
  unfold absP
  rw [if_neg (by simp), absL_slash l hl]

/-- The directories that are wanted on the way, the deepest first; none: one is a file. Of the names, turned round. -/
def wayR (D : Dirs) (F : List (Str × Str)) : List Str → Option (List Str)
  | [] => some []
  | x :: r => if (fGet F (absT r.reverse)).isSome then none else if (dIdx D (absT r.reverse)).isSome then some [] else (wayR D F r).map (absT r.reverse :: ·)
def mk1 (D : Dirs) (d : Str) : Dirs := match dIdx D (upF d).1 with | some m => dAdd D m (upF d).2 ++ [(d, [])] | none => D
def mkDirs (D : Dirs) (l : List Str) : Dirs := l.foldl mk1 D
def okDirs : Dirs → List Str → Prop
  | _, [] => True
  | D, d :: r => (dIdx D (upF d).1).isSome = true ∧ dIdx D d = none ∧ okDirs (mk1 D d) r
theorem okDirs_at : ∀ (l : List Str) (D : Dirs) (i : Nat) (h : i < l.length), okDirs D l → ∃ m, dIdx (mkDirs D (l.take i)) (upF l[i]).1 = some m ∧ dIdx (mkDirs D (l.take i)) l[i] = none ∧
    mkDirs D (l.take (i + 1)) = dAdd (mkDirs D (l.take i)) m (upF l[i]).2 ++ [(l[i], [])]
  | d :: r, D, 0, _, hok => by
    obtain ⟨h1, h2, _⟩ := hok
    obtain ⟨m, hm⟩ := Option.isSome_iff_exists.1 h1
    refine ⟨m, hm, h2, ?_⟩
    simp only [mkDirs, List.take_succ_cons, List.take_zero, List.foldl_cons, List.foldl_nil, mk1, hm, List.getElem_cons_zero]
  | d :: r, D, i + 1, h, hok => by
    have := okDirs_at r (mk1 D d) i (by simpa using h) hok.2.2
    simpa only [mkDirs, List.take_succ_cons, List.foldl_cons, List.getElem_cons_succ] using this

/-! ### The walk -/
theorem c_Backward (l : List Str) : CallT Tryz.prog 30 [vL .str l] [] (.fn 51 [] [.ptr 0 0]) [.box 36 [vL .str l]] := by
  refine CallT.of Tryz.func30 (by kernel_rfl) rfl Tryz.ntmps30 (by simp) (by simp) fun cx hB => ?_
  refine Tr.seq ?_; refine Tr.region ?_; refine TrL.eff (effBox_sound rfl) (by exact True.intro) ?_; refine TrL.quiets 1 rfl (by exact True.intro) ?_; refine TrL.nil ?_; refine Tr.seq ?_; refine Tr.region ?_; refine TrL.quiets 2 rfl (by exact True.intro) ?_; refine TrL.nil ?_; refine Tr.ret ?_
  exact retT.of rfl rfl rfl
abbrev wayT (D : Dirs) (F : List (Str × Str)) (todo : List Str) : List Ent := [.box 48 [.mp 1, .mp 2], .res (dmRes D), .res (fmRes F), .box 25 [.ptr 0 0], .gs 9 .str todo]
theorem c_upA (l : List Str) (x : Str) (hl : okL l) (hx : okN x) (hlen : (absT (l ++ [x])).length ≤ 1099511627) : CallV Tryz.prog 29 [vS (absT (l ++ [x]))] (.tup [vS (absT l), vS x]) := by
  have := c_up (absT (l ++ [x])) hlen
  rwa [upF_absT l x hl hx] at this
theorem absT_le (l : List Str) (x : Str) : (absT l).length ≤ (absT (l ++ [x])).length := by
  rw [absT_flat (l := l ++ [x]) (by simp), flatS_append]
  by_cases h : l = []
  · subst h
    simp [absT, flatS]
  · rw [absT_flat h]; simp
theorem wayR_snoc (D : Dirs) (F : List (Str × Str)) (l : List Str) (x : Str) : wayR D F (l ++ [x]).reverse = if (fGet F (absT l)).isSome then none else if (dIdx D (absT l)).isSome then some [] else (wayR D F l.reverse).map (absT l :: ·) := by
  rw [List.reverse_append, List.reverse_singleton, List.singleton_append, wayR, List.reverse_reverse]
theorem snoc_of {α : Type} {l : List α} (h : l ≠ []) : ∃ m x, l = m ++ [x] := ⟨l.dropLast, l.getLast h, (List.dropLast_concat_getLast h).symm⟩
abbrev wayS (D : Dirs) (F : List (Str × Str)) (x : List Str × List Str) : St := ⟨[(1, [], vS (absT x.1)), (2, [], .ptr 3 0), (5, [], .own 4)], wayT D F x.2⟩
theorem c_way_false (D : Dirs) (F : List (Str × Str)) (l : List Str) (hl : okL l) (hlen : (absT l).length ≤ 1099511627) (hl0 : l ≠ []) (hroot : (dIdx D [47]).isSome = true) (hw : wayR D F l.reverse = none) (hll : l.length ≤ 1099511627) :
    CallT Tryz.prog 16 [.ptr 0 0, vS (absT l)] (fsT D F) (vB false) (fsT D F) := by
  refine CallT.of Tryz.func16 (by kernel_rfl) rfl Tryz.ntmps16 (by simp) (by simp) fun cx hB => ?_
  have hB5 : ∀ i, cx.B i = true → i < 5 := fun i h => Nat.lt_of_lt_of_le (hB i h) (show 3 ≤ 5 by decide)
  refine Tr.seq ?_; refine Tr.region ?_; refine TrL.eff (effBox_sound rfl) (by exact True.intro) ?_; refine TrL.quiets 1 rfl (by exact True.intro) ?_; refine TrL.nil ?_; refine Tr.seq ?_; refine Tr.region ?_; refine TrL.quiets 1 rfl (by exact True.intro) ?_; refine TrL.nil ?_
  change Tr _ _ _ _ _ _
  refine Tr.nilRow 5 9 .str rfl ?_
  refine Tr.seq ?_; refine Tr.block ?_
  refine Tr.loop (wayS D F) (fun x => x.1 ≠ [] ∧ okL x.1 ∧ x.1.length + x.2.length = l.length ∧ (absT x.1).length ≤ 1099511627 ∧ wayR D F x.1.reverse = none) (fun x => x.1.length) (l, []) [1, 2, 5] 5 hB5 rfl ⟨hl0, hl, by simp, hlen, hw⟩ fun x hx => ?_
  obtain ⟨ns, todo⟩ := x
  obtain ⟨h1, h2, h3, h4, h5⟩ := hx
  dsimp only at h1 h2 h3 h4 h5
  obtain ⟨ms, x, rfl⟩ := snoc_of h1
  have k1 : okL ms := fun z hz => h2 z (by simp [hz])
  have k2 : okN x := h2 x (by simp)
  have k3 := absT_le ms x
  rw [wayR_snoc] at h5
  simp only [List.length_append, List.length_singleton] at h3
  refine Tr.block ?_; refine Tr.seq ?_; refine Tr.region ?_; refine TrL.quiets 1 rfl (by exact True.intro) ?_
  first | refine TrL.callV rfl rfl rfl rfl rfl (c_upA ms x k1 k2 h4) ?_ | refine TrD.callV rfl rfl rfl rfl rfl (c_upA ms x k1 k2 h4) rfl ?_
  refine TrL.quiets 4 rfl (by exact True.intro) ?_; refine TrL.nil ?_; refine Tr.seq ?_; refine Tr.region ?_; refine TrL.quiets 2 rfl (by exact True.intro) ?_
  refine TrL.callT [0, 1, 2] rfl rfl rfl rfl rfl (c_is D F (absT ms)) rfl rfl rfl ?_
  refine TrL.quiets 5 rfl (by exact True.intro) ?_; refine TrL.nil ?_; refine Tr.seq ?_; refine Tr.seq ?_; refine Tr.region ?_; refine TrL.quiets 1 rfl (by exact True.intro) ?_; refine TrL.nil ?_
  refine Tr.cond rfl (fun g1 => ?_) (fun g1 => ?_)
  · refine Tr.seq ?_; refine Tr.region ?_; refine TrL.quiets 1 rfl (by exact True.intro) ?_; refine TrL.nil ?_; refine Tr.ret ?_
    refine retT.of rfl ?_ ?_
    · rfl
    · rfl
  · have g1' : (fGet F (absT ms)).isSome = false := g1
    rw [g1', if_neg (by decide)] at h5
    refine Tr.skip ?_; refine Tr.seq ?_; refine Tr.seq ?_; refine Tr.region ?_; refine TrL.quiets 1 rfl (by exact True.intro) ?_; refine TrL.nil ?_
    refine Tr.cond rfl (fun g2 => ?_) (fun g2 => ?_)
    · have g2' : (dIdx D (absT ms)).isSome = true := g2
      rw [g2', if_pos rfl] at h5
      cases h5
    · have g2' : (dIdx D (absT ms)).isSome = false := g2
      rw [g2', if_neg (by decide)] at h5
      have h6 : wayR D F ms.reverse = none := by
        cases hc : wayR D F ms.reverse with
        | none => rfl
        | some y => rw [hc] at h5; cases h5
      have k4 : ms ≠ [] := by
        rintro rfl
        rw [show absT [] = [47] from rfl, hroot] at g2'
        cases g2'
      refine Tr.skip ?_; refine Tr.region ?_; refine TrL.quiets 2 rfl (by exact True.intro) ?_; refine TrL.eff (effLit_sound rfl) (by exact True.intro) ?_; refine TrL.eff (effAppend_sound rfl) ?_ ?_
      · show todo.length + 1 ≤ 1099511627776
        omega
      refine TrL.quiets 1 rfl (by exact True.intro) ?_; refine TrL.nil ?_
      refine ⟨(ms, todo ++ [absT ms]), ⟨k4, k1, by simp only [List.length_append, List.length_singleton]; omega, by dsimp only; omega, h6⟩, by simp, ?_⟩
      rfl
end Go.Proofs.YteiickhgmmjcmaaGreatDoor.Sx
