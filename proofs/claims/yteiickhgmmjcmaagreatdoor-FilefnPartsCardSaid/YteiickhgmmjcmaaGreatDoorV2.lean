/-
  Paths: path.Abs; the reference's slash, Notdir, Parts, Abs.
-/
import Derived.Test.YteiickhgmmjcmaaGreatDoorV1
set_option linter.unusedVariables false
set_option linter.unusedSimpArgs false
set_option maxRecDepth 20000
set_option maxHeartbeats 4000000
namespace Go.Proofs.YteiickhgmmjcmaaGreatDoor.Sx
open Go Go.RowKit Go.Proofs

def stepA (pile : List Str) (x : Str) : List Str := if x = [] ∨ x = [46] then pile else if x = [46, 46] then pile.dropLast else pile ++ [x]
def absL (s : Str) : List Str := (spS [] s).foldl stepA []
def absT (l : List Str) : Str := if l = [] then [47] else l.flatMap (fun x => 47 :: x)
def absP (s : Str) : Str := if s = [] then [] else absT (absL s)
theorem absT_join : ∀ l : List Str, 47 :: joinS l = absT l
  | [] => rfl
  | [a] => by simp [joinS, absT]
  | a :: b :: r => by
    have := absT_join (b :: r)
    simp only [joinS, absT, List.cons_ne_nil, if_false, List.flatMap_cons] at this ⊢
    rw [List.cons_append, List.cons.injEq]
    exact ⟨rfl, by rw [this]⟩
/-- How long all of them are. -/
def sumL (l : List Str) : Nat := (l.map List.length).sum
theorem sumL_append (a b : List Str) : sumL (a ++ b) = sumL a + sumL b := by simp [sumL]
theorem stepA_length (p : List Str) (x : Str) : (stepA p x).length ≤ p.length + 1 := by
  unfold stepA
  split
  · omega
  · split
    · simp; omega
    · simp
theorem dropLast_sum (p : List Str) : sumL p.dropLast ≤ sumL p := by
  rcases List.eq_nil_or_concat p with rfl | ⟨q, x, rfl⟩
  · exact Nat.le_refl _
  · simp [sumL]
theorem stepA_sum (p : List Str) (x : Str) : sumL (stepA p x) ≤ sumL p + x.length := by
  unfold stepA
  split
  · omega
  · split
    · have := dropLast_sum p; omega
    · rw [sumL_append]; simp [sumL]
theorem foldA_bound : ∀ (l p : List Str), (l.foldl stepA p).length ≤ p.length + l.length ∧ sumL (l.foldl stepA p) ≤ sumL p + sumL l
  | [], p => by simp [sumL]
  | x :: l, p => by
    have h := foldA_bound l (stepA p x)
    have h1 := stepA_length p x
    have h2 := stepA_sum p x
    simp only [List.foldl_cons, List.length_cons]
    have : sumL (x :: l) = x.length + sumL l := by simp [sumL]
    omega
theorem spS_sum : ∀ (s acc : Str), sumL (spS acc s) + s.count 47 = acc.length + s.length
  | [], acc => by simp [spS, sumL]
  | c :: l, acc => by
    rw [spS]
    by_cases h : c = 47
    · subst h
      have := spS_sum l []
      rw [if_pos rfl, List.count_cons_self]
      simp only [sumL, List.map_cons, List.sum_cons, List.length_cons, List.length_nil] at this ⊢
      omega
    · have := spS_sum l (acc ++ [c])
      rw [if_neg h, List.count_cons_of_ne (by simpa using h)]
      simp only [List.length_append, List.length_cons, List.length_nil] at this ⊢
      omega
theorem absL_bound (s : Str) : (absL s).length ≤ s.length + 1 ∧ sumL (absL s) ≤ s.length := by
  have h := foldA_bound (spS [] s) []
  have h1 := spS_le s
  have h2 := spS_sum s []
  simp only [sumL, List.map_nil, List.sum_nil, List.length_nil] at h h2
  unfold absL
  unfold sumL
  omega
theorem absT_length (l : List Str) : (absT l).length ≤ 1 + sumL l + l.length := by
  unfold absT
  split
  · simp only [List.length_cons, List.length_nil]; omega
  · have : ∀ l : List Str, (l.flatMap (fun x => (47 : UInt8) :: x)).length = sumL l + l.length := by
      intro l
      induction l with
      | nil => rfl
      | cons a l ih => simp only [List.flatMap_cons, List.length_append, List.length_cons, ih, sumL, List.map_cons, List.sum_cons]; omega
    rw [this]; omega

def absS (ps : List Str) (x : Bool × Nat × List Str) : St :=
  if x.1 then ⟨[(10, [], .fix .str ps), (11, [], vI ps.length), (12, [], vI x.2.1), (3, [], .own 0)], [.gs 9 .str x.2.2]⟩
  else ⟨[(10, [], .fix .str ps), (11, [], vI ps.length), (12, [], vI x.2.1), (3, [], .fix .str x.2.2)], []⟩
theorem c_path_Abs (s : Str) (hs : s.length ≤ 1099511627) : CallV Tryz.prog 14 [vS s] (vS (absP s)) := by
  refine CallV.of Tryz.func14 (by kernel_rfl) rfl Tryz.ntmps14 (by simp) rfl fun cx hB => ?_
  refine Tr.seq ?_; refine Tr.region ?_; refine TrL.quiets 1 rfl (by exact True.intro) ?_; refine TrL.nil ?_; refine Tr.seq ?_; refine Tr.seq ?_; refine Tr.region ?_; refine TrL.quiets 2 rfl (by exact True.intro) ?_; refine TrL.nil ?_
  refine Tr.cond rfl (fun h0 => ?_) (fun h0 => ?_)
  · have h0' : s = [] := by simpa using h0
    subst h0'
    refine Tr.seq ?_; refine Tr.region ?_; refine TrL.quiets 1 rfl (by exact True.intro) ?_; refine TrL.nil ?_; refine Tr.ret ?_
    refine retQ.of rfl ?_
    rfl
  have h0' : s ≠ [] := by simpa using h0
  refine Tr.skip ?_; refine Tr.seq ?_; refine Tr.region ?_; refine TrL.quiets 1 rfl (by exact True.intro) ?_; refine TrL.nil ?_; refine Tr.seq ?_; refine Tr.seq ?_; refine Tr.region ?_; refine TrL.quiets 1 rfl (by exact True.intro) ?_
  first | refine TrL.callV rfl rfl rfl rfl rfl (c_SplitS s (by omega)) ?_ | refine TrD.callV rfl rfl rfl rfl rfl (c_SplitS s (by omega)) rfl ?_
  have hpl := spS_le s
  have hE : absP s = absT ((spS [] s).foldl stepA []) := by unfold absP; rw [if_neg h0']; rfl
  have hbd := absL_bound s
  unfold absL at hbd
  generalize spS [] s = ps at *
  refine TrL.quiets 2 rfl (by exact True.intro) ?_; refine TrL.nil ?_
  change Tr _ _ _ _ _ _
  refine Tr.nilRow 3 9 .str rfl ?_
  refine Tr.block ?_
  refine Tr.loop (absS ps) (fun x => x.2.1 ≤ ps.length ∧ x.2.2 = (ps.take x.2.1).foldl stepA []) (fun x => ps.length - x.2.1) (true, 0, []) [10, 11, 12, 3] 1 (fun i h => Nat.lt_of_lt_of_le (hB i h) (by decide)) rfl ⟨Nat.zero_le _, rfl⟩ fun x hx => ?_
  obtain ⟨b, i, pile⟩ := x
  obtain ⟨hi, hp⟩ := hx
  dsimp only at hi hp
  have hlen : pile.length ≤ i := by
    have := (foldA_bound (ps.take i) []).1
    rw [hp]
    simp only [List.length_nil, List.length_take] at this ⊢
    omega
  cases b
  · change Tr _ _ _ _ ⟨[(10, [], .fix .str ps), (11, [], vI ps.length), (12, [], vI i), (3, [], .fix .str pile)], []⟩ _
    refine Tr.seq ?_; refine Tr.region ?_; refine TrL.quiets 1 rfl (by exact True.intro) ?_; refine TrL.nil ?_; refine Tr.seq ?_
    refine Tr.cond rfl (fun h1 => ?_) (fun h1 => ?_)
    · have hi1 : i < ps.length := by simpa using h1
      have hx0 : nth (t := .str) ps (i : Int) = ps[i] := nth_get' (t := .str) ps i hi1
      have htk : ps.take (i + 1) = ps.take i ++ [ps[i]] := by rw [List.take_add_one, List.getElem?_eq_getElem hi1]; rfl
      have hst : (ps.take (i + 1)).foldl stepA [] = stepA pile ps[i] := by rw [htk, List.foldl_append, ← hp]; rfl
      have e6 : max (IntKind.i64.wrap ((pile.length : Int) - 1)) 0 = ((pile.length - 1 : Nat) : Int) := by rw [w64 (by omega) (by omega)]; omega
      refine Tr.skip ?_; refine Tr.seq ?_; refine Tr.block ?_; refine Tr.seq ?_; refine Tr.region ?_; refine TrL.quiets 3 rfl (by (simp only [allOf, impO, imp, inR, loOk, and_true]; omega)) ?_; refine TrL.nil ?_; refine Tr.seq ?_; refine Tr.region ?_; refine TrL.quiets 1 rfl (by exact True.intro) ?_; refine TrL.nil ?_; refine Tr.block ?_; refine Tr.seq ?_; refine Tr.seq ?_; refine Tr.region ?_; refine TrL.quiets 2 rfl (by exact True.intro) ?_; refine TrL.nil ?_
      refine Tr.cond rfl (fun h2 => ?_) (fun h2 => ?_)
      · have k2 : ps[i] = [] := by rw [hx0] at h2; simpa using h2
        refine Tr.skip ?_
        refine Tr.cond rfl (fun h3 => ?_) (fun h3 => ?_)
        · refine Tr.skip ?_; refine Tr.region ?_; refine TrL.quiets 2 rfl (by exact True.intro) ?_; refine TrL.nil ?_
          refine ⟨(false, i + 1, pile), ⟨by dsimp only; omega, by dsimp only; rw [hst]; unfold stepA; rw [if_pos (.inl k2)]⟩, by dsimp only; omega, ?_⟩
          refine Eq.trans (b := (⟨[(_, [], _), (_, [], _), (_, [], _), (_, [], _)], []⟩ : St)) rfl ?_
          rw [w64n (y := i + 1) (by omega) (by omega)]
          rfl
        · rw [h2] at h3; cases h3
      · have k2 : ps[i] ≠ [] := by rw [hx0] at h2; simpa using h2
        refine Tr.region ?_; refine TrL.quiets 2 rfl (by exact True.intro) ?_; refine TrL.nil ?_
        refine Tr.cond rfl (fun h3 => ?_) (fun h3 => ?_)
        · have k3 : ps[i] = [46] := by rw [hx0] at h3; simpa using h3
          refine Tr.skip ?_; refine Tr.region ?_; refine TrL.quiets 2 rfl (by exact True.intro) ?_; refine TrL.nil ?_
          refine ⟨(false, i + 1, pile), ⟨by dsimp only; omega, by dsimp only; rw [hst]; unfold stepA; rw [if_pos (.inr k3)]⟩, by dsimp only; omega, ?_⟩
          refine Eq.trans (b := (⟨[(_, [], _), (_, [], _), (_, [], _), (_, [], _)], []⟩ : St)) rfl ?_
          rw [w64n (y := i + 1) (by omega) (by omega)]
          rfl
        · have k3 : ps[i] ≠ [46] := by rw [hx0] at h3; simpa using h3
          refine Tr.seq ?_; refine Tr.region ?_; refine TrL.quiets 2 rfl (by exact True.intro) ?_; refine TrL.nil ?_
          refine Tr.cond rfl (fun h4 => ?_) (fun h4 => ?_)
          · have k4 : ps[i] = [46, 46] := by rw [hx0] at h4; simpa using h4
            refine Tr.seq ?_; refine Tr.region ?_; refine TrL.quiets 5 rfl (by exact True.intro) ?_; refine TrL.nil ?_; refine Tr.region ?_; refine TrL.quiets 5 rfl (by (simp only [allOf, impO, imp, inR, loOk, and_true]; omega)) ?_; refine TrL.nil ?_; refine Tr.region ?_; refine TrL.quiets 2 rfl (by exact True.intro) ?_; refine TrL.nil ?_
            refine ⟨(false, i + 1, pile.dropLast), ⟨by dsimp only; omega, by dsimp only; rw [hst]; unfold stepA; rw [if_neg (by rintro (h | h) <;> contradiction), if_pos k4]⟩, by dsimp only; omega, ?_⟩
            refine Eq.trans (b := (⟨[(10, [], .fix .str ps), (11, [], vI ps.length), (12, [], vI (IntKind.i64.wrap ((i : Int) + 1))), (3, [], .fix .str (cut pile none (some (max (IntKind.i64.wrap ((pile.length : Int) - 1)) 0))))], []⟩ : St)) rfl ?_
            rw [w64n (y := i + 1) (by omega) (by omega), e6, show cut pile none (some ((pile.length - 1 : Nat) : Int)) = pile.dropLast by rw [List.dropLast_eq_take]; rfl]
            rfl
          · have k4 : ps[i] ≠ [46, 46] := by rw [hx0] at h4; simpa using h4
            refine Tr.region ?_; refine TrL.quiets 2 rfl (by exact True.intro) ?_; refine TrL.eff (effLit_sound rfl) (by exact True.intro) ?_; refine TrL.eff (effAppend_sound rfl) ?_ ?_
            · show 0 < 1 ∧ pile.length + 1 ≤ 1099511627776
              omega
            · refine TrL.quiets 1 rfl (by exact True.intro) ?_; refine TrL.nil ?_; refine Tr.region ?_; refine TrL.quiets 2 rfl (by exact True.intro) ?_; refine TrL.nil ?_
              refine ⟨(true, i + 1, pile ++ [ps[i]]), ⟨by dsimp only; omega, by dsimp only; rw [hst]; unfold stepA; rw [if_neg (by rintro (h | h) <;> contradiction), if_neg k4]⟩, by dsimp only; omega, ?_⟩
              refine Eq.trans (b := (⟨[(10, [], .fix .str ps), (11, [], vI ps.length), (12, [], vI (IntKind.i64.wrap ((i : Int) + 1))), (3, [], .own 0)], [.gs 9 .str (pile ++ [nth (t := .str) ps (i : Int)])]⟩ : St)) rfl ?_
              rw [w64n (y := i + 1) (by omega) (by omega), hx0]
              rfl
    · have hi1 : i = ps.length := by
        have : ¬ ((i : Int) < (ps.length : Int)) := by simpa using h1
        omega
      have hf : pile = ps.foldl stepA [] := by rw [hp, hi1, List.take_length]
      rw [← hf] at hE hbd
      have hj := absT_join pile
      have hjl : (joinS pile).length ≤ 1099511627776 := by
        have := absT_length pile
        rw [← hj, List.length_cons] at this
        omega
      refine Tr.exit ?_; refine Tr.seq ?_; refine Tr.region ?_; refine TrL.quiets 1 rfl (by exact True.intro) ?_
      refine TrL.plain 35 rfl ?_
      first | refine TrL.callV rfl rfl rfl rfl rfl (c_JoinS pile hjl (by omega)) ?_ | refine TrD.callV rfl rfl rfl rfl rfl (c_JoinS pile hjl (by omega)) rfl ?_
      refine TrL.quiets 2 rfl (by (simp (disch := omega) only [allOf, impO, imp, inR, loOk, and_true, w64, List.length_set, List.length_cons, List.length_nil, Option.getD_none, Option.getD_some, Ty.D, true_and, decide_eq_true_eq, decide_eq_false_iff_not, Bool.and_eq_true, Bool.or_eq_false_iff]; omega)) ?_; refine TrL.nil ?_; refine Tr.ret ?_
      refine retQ.of rfl ?_
      rw [hE, ← hj]
      rfl
  · change Tr _ _ _ _ ⟨[(10, [], .fix .str ps), (11, [], vI ps.length), (12, [], vI i), (3, [], .own 0)], [.gs 9 .str pile]⟩ _
    refine Tr.seq ?_; refine Tr.region ?_; refine TrL.quiets 1 rfl (by exact True.intro) ?_; refine TrL.nil ?_; refine Tr.seq ?_
    refine Tr.cond rfl (fun h1 => ?_) (fun h1 => ?_)
    · have hi1 : i < ps.length := by simpa using h1
      have hx0 : nth (t := .str) ps (i : Int) = ps[i] := nth_get' (t := .str) ps i hi1
      have htk : ps.take (i + 1) = ps.take i ++ [ps[i]] := by rw [List.take_add_one, List.getElem?_eq_getElem hi1]; rfl
      have hst : (ps.take (i + 1)).foldl stepA [] = stepA pile ps[i] := by rw [htk, List.foldl_append, ← hp]; rfl
      have e6 : max (IntKind.i64.wrap ((pile.length : Int) - 1)) 0 = ((pile.length - 1 : Nat) : Int) := by rw [w64 (by omega) (by omega)]; omega
      refine Tr.skip ?_; refine Tr.seq ?_; refine Tr.block ?_; refine Tr.seq ?_; refine Tr.region ?_; refine TrL.quiets 3 rfl (by (simp only [allOf, impO, imp, inR, loOk, and_true]; omega)) ?_; refine TrL.nil ?_; refine Tr.seq ?_; refine Tr.region ?_; refine TrL.quiets 1 rfl (by exact True.intro) ?_; refine TrL.nil ?_; refine Tr.block ?_; refine Tr.seq ?_; refine Tr.seq ?_; refine Tr.region ?_; refine TrL.quiets 2 rfl (by exact True.intro) ?_; refine TrL.nil ?_
      refine Tr.cond rfl (fun h2 => ?_) (fun h2 => ?_)
      · have k2 : ps[i] = [] := by rw [hx0] at h2; simpa using h2
        refine Tr.skip ?_
        refine Tr.cond rfl (fun h3 => ?_) (fun h3 => ?_)
        · refine Tr.skip ?_; refine Tr.region ?_; refine TrL.quiets 2 rfl (by exact True.intro) ?_; refine TrL.nil ?_
          refine ⟨(true, i + 1, pile), ⟨by dsimp only; omega, by dsimp only; rw [hst]; unfold stepA; rw [if_pos (.inl k2)]⟩, by dsimp only; omega, ?_⟩
          refine Eq.trans (b := (⟨[(_, [], _), (_, [], _), (_, [], _), (_, [], _)], [_]⟩ : St)) rfl ?_
          rw [w64n (y := i + 1) (by omega) (by omega)]
          rfl
        · rw [h2] at h3; cases h3
      · have k2 : ps[i] ≠ [] := by rw [hx0] at h2; simpa using h2
        refine Tr.region ?_; refine TrL.quiets 2 rfl (by exact True.intro) ?_; refine TrL.nil ?_
        refine Tr.cond rfl (fun h3 => ?_) (fun h3 => ?_)
        · have k3 : ps[i] = [46] := by rw [hx0] at h3; simpa using h3
          refine Tr.skip ?_; refine Tr.region ?_; refine TrL.quiets 2 rfl (by exact True.intro) ?_; refine TrL.nil ?_
          refine ⟨(true, i + 1, pile), ⟨by dsimp only; omega, by dsimp only; rw [hst]; unfold stepA; rw [if_pos (.inr k3)]⟩, by dsimp only; omega, ?_⟩
          refine Eq.trans (b := (⟨[(_, [], _), (_, [], _), (_, [], _), (_, [], _)], [_]⟩ : St)) rfl ?_
          rw [w64n (y := i + 1) (by omega) (by omega)]
          rfl
        · have k3 : ps[i] ≠ [46] := by rw [hx0] at h3; simpa using h3
          refine Tr.seq ?_; refine Tr.region ?_; refine TrL.quiets 2 rfl (by exact True.intro) ?_; refine TrL.nil ?_
          refine Tr.cond rfl (fun h4 => ?_) (fun h4 => ?_)
          · have k4 : ps[i] = [46, 46] := by rw [hx0] at h4; simpa using h4
            refine Tr.seq ?_; refine Tr.region ?_; refine TrL.quiets 5 rfl (by exact True.intro) ?_; refine TrL.nil ?_; refine Tr.region ?_; refine TrL.quiets 5 rfl (by (simp only [allOf, impO, imp, inR, loOk, and_true]; omega)) ?_; refine TrL.nil ?_
            change Tr _ _ _ _ _ _
            refine Tr.keep [10, 11, 12, 3] 0 hB (st' := ⟨[(10, [], .fix .str ps), (11, [], vI ps.length), (12, [], vI i), (3, [], .fix .str (cut pile none (some (max (IntKind.i64.wrap ((pile.length : Int) - 1)) 0))))], []⟩) rfl ?_
            refine Tr.region ?_; refine TrL.quiets 2 rfl (by exact True.intro) ?_; refine TrL.nil ?_
            refine ⟨(false, i + 1, pile.dropLast), ⟨by dsimp only; omega, by dsimp only; rw [hst]; unfold stepA; rw [if_neg (by rintro (h | h) <;> contradiction), if_pos k4]⟩, by dsimp only; omega, ?_⟩
            refine Eq.trans (b := (⟨[(10, [], .fix .str ps), (11, [], vI ps.length), (12, [], vI (IntKind.i64.wrap ((i : Int) + 1))), (3, [], .fix .str (cut pile none (some (max (IntKind.i64.wrap ((pile.length : Int) - 1)) 0))))], []⟩ : St)) rfl ?_
            rw [w64n (y := i + 1) (by omega) (by omega), e6, show cut pile none (some ((pile.length - 1 : Nat) : Int)) = pile.dropLast by rw [List.dropLast_eq_take]; rfl]
            rfl
          · have k4 : ps[i] ≠ [46, 46] := by rw [hx0] at h4; simpa using h4
            refine Tr.region ?_; refine TrL.quiets 2 rfl (by exact True.intro) ?_; refine TrL.eff (effLit_sound rfl) (by exact True.intro) ?_; refine TrL.eff (effAppend_sound rfl) ?_ ?_
            · show pile.length + 1 ≤ 1099511627776
              omega
            · refine TrL.quiets 1 rfl (by exact True.intro) ?_; refine TrL.nil ?_; refine Tr.region ?_; refine TrL.quiets 2 rfl (by exact True.intro) ?_; refine TrL.nil ?_
              refine ⟨(true, i + 1, pile ++ [ps[i]]), ⟨by dsimp only; omega, by dsimp only; rw [hst]; unfold stepA; rw [if_neg (by rintro (h | h) <;> contradiction), if_neg k4]⟩, by dsimp only; omega, ?_⟩
              refine Eq.trans (b := (⟨[(10, [], .fix .str ps), (11, [], vI ps.length), (12, [], vI (IntKind.i64.wrap ((i : Int) + 1))), (3, [], .own 0)], [.gs 9 .str (pile ++ [nth (t := .str) ps (i : Int)])]⟩ : St)) rfl ?_
              rw [w64n (y := i + 1) (by omega) (by omega), hx0]
              rfl
    · have hi1 : i = ps.length := by
        have : ¬ ((i : Int) < (ps.length : Int)) := by simpa using h1
        omega
      have hf : pile = ps.foldl stepA [] := by rw [hp, hi1, List.take_length]
      rw [← hf] at hE hbd
      have hj := absT_join pile
      have hjl : (joinS pile).length ≤ 1099511627776 := by
        have := absT_length pile
        rw [← hj, List.length_cons] at this
        omega
      refine Tr.exit ?_; refine Tr.seq ?_; refine Tr.region ?_; refine TrL.quiets 1 rfl (by exact True.intro) ?_
      first | refine TrL.callV rfl rfl rfl rfl rfl (c_JoinS pile hjl (by omega)) ?_ | refine TrD.callV rfl rfl rfl rfl rfl (c_JoinS pile hjl (by omega)) rfl ?_
      refine TrL.quiets 2 rfl (by (simp (disch := omega) only [allOf, impO, imp, inR, loOk, and_true, w64, List.length_set, List.length_cons, List.length_nil, Option.getD_none, Option.getD_some, Ty.D, true_and, decide_eq_true_eq, decide_eq_false_iff_not, Bool.and_eq_true, Bool.or_eq_false_iff]; omega)) ?_; refine TrL.nil ?_; refine Tr.ret ?_
      refine retQ.of rfl ?_
      rw [hE, ← hj]
      rfl
end Go.Proofs.YteiickhgmmjcmaaGreatDoor.Sx
