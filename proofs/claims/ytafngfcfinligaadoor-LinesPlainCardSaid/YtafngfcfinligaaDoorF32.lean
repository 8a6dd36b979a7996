/-
  LinesPlain.
-/
import Derived.Test.YtafngfcfinligaaDoorF31
import Derived.Test.YtafngfcfinligaaDoorSxV
set_option linter.unusedVariables false
set_option linter.unusedSimpArgs false
set_option maxRecDepth 20000
set_option maxHeartbeats 4000000
namespace Go.Proofs.YtafngfcfinligaaDoor.Sx
open Go Go.RowKit Go.Proofs

/-! ### Plain -/
theorem LWord.right {w : Str} (h : LWord w) (x : Str) : Sx.right (x ++ w) = x ++ w := by
  rcases List.eq_nil_or_concat w with e | ⟨y, c, e⟩
  · exact absurd e h.ne
  · subst e
    rw [List.concat_eq_append, ← List.append_assoc, right_snoc, if_neg (by rw [(h.nl c (by simp)).2.2.2]; decide)]
theorem LWord.left {w : Str} (h : LWord w) (x : Str) : Sx.left (w ++ x) = w ++ x := by
  cases w with
  | nil => exact absurd rfl h.ne
  | cons c w =>
    have hc := (h.nl c (by simp)).2.2.2
    simp only [Sx.left, List.cons_append, List.dropWhile_cons, hc, Bool.false_eq_true, if_false]
def onB (b : Bool) : Str := if b then [32, 32, 92] else []
def textR : List (Str × Bool) → Str
  | [] => []
  | (w, b) :: r => (w ++ onB b) ++ 10 :: textR r
def goes' : Option Str → List (Str × Bool) → List Str
  | none, [] => []
  | some u, [] => [u]
  | none, (w, b) :: r => if b then goes' (some w) r else w :: goes' none r
  | some u, (w, b) :: r => if b then goes' (some (u ++ 32 :: w)) r else (u ++ 32 :: w) :: goes' none r
def grp (u : Str) (r : List (Str × Bool)) : List Str := goes' (some u) r
def start (r : List (Str × Bool)) : List Str := goes' none r
theorem start_nil : start [] = [] := rfl
theorem start_cons (w : Str) (b : Bool) (r : List (Str × Bool)) : start ((w, b) :: r) = if b then grp w r else w :: start r := rfl
theorem grp_nil (u : Str) : grp u [] = [u] := rfl
theorem grp_cons (u w : Str) (b : Bool) (r : List (Str × Bool)) : grp u ((w, b) :: r) = if b then grp (u ++ 32 :: w) r else (u ++ 32 :: w) :: start r := rfl
def okS : List (Str × Bool) → Prop
  | [] => True
  | (w, b) :: r => LWord w ∧ (b = true → r ≠ []) ∧ okS r
theorem raw_step (P w : Str) (b : Bool) (r : List (Str × Bool)) (hw : LWord w) : rawS (P ++ textR ((w, b) :: r)) P.length = w ++ onB b ∧ rawN (P ++ textR ((w, b) :: r)) P.length = (P ++ (w ++ onB b) ++ [10]).length ∧
    P ++ textR ((w, b) :: r) = (P ++ (w ++ onB b) ++ [10]) ++ textR r ∧ P.length < (P ++ textR ((w, b) :: r)).length := by
  have hx : ∀ c ∈ w ++ onB b, c ≠ 10 := by
    intro c hc
    rcases List.mem_append.1 hc with hc | hc
    · exact (hw.nl c hc).1
    · cases b
      · cases hc
      · exact (show ∀ c ∈ onB true, c ≠ 10 by decide) c hc
  obtain ⟨h1, h2⟩ := raw_at P _ (textR r) hx
  have e : P ++ textR ((w, b) :: r) = P ++ (w ++ onB b) ++ 10 :: textR r := by simp [textR]
  rw [e]
  refine ⟨h1, by rw [h2]; simp [Nat.add_assoc], by simp, by simp; omega⟩
theorem bsl_on (u : Str) : bsl (u ++ [32, 32, 92]) = 1 := by
  have := bsl_snoc (u ++ [32, 32]) 92
  have h2 := bsl_snoc (u ++ [32]) 32
  simp only [List.append_assoc, List.cons_append, List.nil_append] at this h2
  rw [this, h2]
  simp
theorem join_on (u w : Str) (b : Bool) (hu : right u = u) (hw : LWord w) : joinPlain (u ++ [32, 32, 92]) (w ++ onB b) = (u ++ 32 :: w) ++ onB b := by
  have e1 : (u ++ [32, 32, 92]).take ((u ++ [32, 32, 92]).length - 1) = u ++ [32] ++ [32] := by
    rw [show u ++ [32, 32, 92] = (u ++ [32] ++ [32]) ++ [92] by simp, List.length_append]
    exact List.take_left
  rw [joinPlain, e1, right_snoc, if_pos (by decide), right_snoc, if_pos (by decide), hu, hw.left]
  simp
theorem more_grp : ∀ (r : List (Str × Bool)) (P u : Str) (n : Nat), okS r → r ≠ [] → right u = u → (∀ c ∈ u, c ≠ 35) →
    ∃ g r' Q k, more joinPlain (P ++ textR r) (u ++ [32, 32, 92]) P.length n = (g, Q.length, k) ∧ P ++ textR r = Q ++ textR r' ∧ grp u r = g :: start r' ∧ okS r' ∧ r'.length < r.length ∧ ∀ c ∈ g, c ≠ 35
  | [], P, u, n, _, h, _, _ => absurd rfl h
  | (w, b) :: r, P, u, n, hok, _, hu, hg => by
    obtain ⟨hw, hb, hr⟩ := hok
    obtain ⟨h1, h2, h3, h4⟩ := raw_step P w b r hw
    have hg' : ∀ c ∈ u ++ 32 :: w, c ≠ 35 := by
      intro c hc
      rcases List.mem_append.1 hc with hc | hc
      · exact hg c hc
      · rcases List.mem_cons.1 hc with hc | hc
        · subst hc; decide
        · exact (hw.nl c hc).2.2.1
    rw [more_step (by rw [bsl_on]) h4, h1, h2, join_on u w b hu hw, grp_cons]
    cases b with
    | false =>
      have hbs : bsl ((u ++ 32 :: w) ++ onB false) = 0 := by
        have := hw.bsl (u ++ [32])
        simpa [onB] using this
      rw [more_stop (by rw [hbs]; simp)]
      exact ⟨_, r, _, _, rfl, h3, by simp [onB], hr, by simp, by simpa [onB] using hg'⟩
    | true =>
      have hu' : right (u ++ 32 :: w) = u ++ 32 :: w := by
        have := hw.right (u ++ [32])
        simpa using this
      rw [h3]
      obtain ⟨g, r', Q, k, e1, e2, e3, e4, e5, e6⟩ := more_grp r (P ++ (w ++ onB true) ++ [10]) (u ++ 32 :: w) (n + 1) hr (hb rfl) hu' hg'
      exact ⟨g, r', Q, k, e1, e2, by rw [if_pos rfl, e3], e4, by simp; omega, e6⟩
theorem bare_no {g : Str} (h : ∀ c ∈ g, c ≠ 35) : bare g = g := by rw [bare, bareR_none _ _ h]; rfl
theorem lines_start : ∀ (m : Nat) (r : List (Str × Bool)) (P : Str) (n : Nat), r.length ≤ m → okS r → (linesF (P ++ textR r) P.length n).map (fun x => (x.1, x.2.2)) = (start r).map (fun g => (g, false))
  | m, [], P, n, _, _ => by
    rw [linesF_stop (by simp [textR]), start_nil]
    rfl
  | 0, _ :: _, _, _, h, _ => by simp at h
  | m + 1, (w, b) :: r, P, n, hm, hok => by
    obtain ⟨hw, hb, hr⟩ := hok
    obtain ⟨h1, h2, h3, h4⟩ := raw_step P w b r hw
    have hg : ∀ c ∈ w, c ≠ 35 := fun c hc => (hw.nl c hc).2.2.1
    have hp : hasPre (w ++ onB b) [9] = false := by
      cases w with
      | nil => exact absurd rfl hw.ne
      | cons c w =>
        have hc := (hw.nl c (by simp)).2.2.2
        have : c ≠ 9 := fun e => by subst e; revert hc; decide
        show ((9 : UInt8) == c && ([] : Str).isPrefixOf (w ++ onB b)) = false
        rw [beq_eq_false_iff_ne.2 (fun e => this e.symm)]
        rfl
    rw [linesF_step h4, start_cons, List.map_cons]
    have hL : lineAt (P ++ textR ((w, b) :: r)) P.length = ((bare (more joinPlain (P ++ textR ((w, b) :: r)) (w ++ onB b) (P ++ (w ++ onB b) ++ [10]).length 1).1, false), (more joinPlain (P ++ textR ((w, b) :: r)) (w ++ onB b) (P ++ (w ++ onB b) ++ [10]).length 1).2) := by
      unfold lineAt
      rw [h1, h2, if_neg (by rw [hp]; decide)]
    rw [hL]
    cases b with
    | false =>
      have hbs : bsl (w ++ onB false) = 0 := by
        have := hw.bsl []
        simpa [onB] using this
      rw [more_stop (by rw [hbs]; simp)]
      dsimp only
      rw [h3, lines_start m r _ _ (by simpa using hm) hr]
      simp [onB, bare_no hg]
    | true =>
      have hu : right w = w := by simpa using hw.right []
      obtain ⟨g, r', Q, k, e1, e2, e3, e4, e5, e6⟩ := more_grp r (P ++ (w ++ onB true) ++ [10]) w 1 hr (hb rfl) hu hg
      rw [h3]
      rw [show w ++ onB true = w ++ [32, 32, 92] from rfl] at e1 e2 ⊢
      rw [e1]
      dsimp only
      rw [e2, lines_start m r' Q _ (by simp at hm; omega) e4, if_pos rfl, e3, bare_no e6]
      rfl
theorem linesL_start (r : List (Str × Bool)) (hok : okS r) : (linesL (textR r)).map (fun x => (x.1, x.2.2)) = (start r).map (fun g => (g, false)) := by
  have := lines_start r.length r [] 1 (Nat.le_refl _) hok
  simpa [linesL] using this

/-! ### The walk -/
def moreB (l : List Int) (on : List Bool) (i : Nat) : Bool := decide (i < on.length) && nth (t := .bool) on (i : Int) && decide (i + 1 < l.length) && decide (i + 1 < 30)
def stepsFrom (l : List Int) (on : List Bool) : Nat → Nat → List (Str × Bool)
  | 0, _ => []
  | k + 1, i => (word (nth (t := .int .i64) l (i : Int)), moreB l on i) :: stepsFrom l on k (i + 1)
theorem steps_ok (l : List Int) (on : List Bool) : ∀ (k i : Nat), k + i = min l.length 30 → okS (stepsFrom l on k i)
  | 0, i, _ => trivial
  | k + 1, i, h => by
    refine ⟨word_LWord _, fun hb => ?_, steps_ok l on k (i + 1) (by omega)⟩
    simp only [moreB, Bool.and_eq_true, decide_eq_true_eq] at hb
    obtain ⟨k', rfl⟩ : ∃ k', k = k' + 1 := ⟨k - 1, by omega⟩
    simp [stepsFrom]
theorem steps_len (l : List Int) (on : List Bool) : ∀ (k i : Nat), (textR (stepsFrom l on k i)).length ≤ 13 * k
  | 0, i => by simp [stepsFrom, textR]
  | k + 1, i => by
    have ih := steps_len l on k (i + 1)
    have hw := word_le (nth (t := .int .i64) l (i : Int))
    have hb : (onB (moreB l on i)).length ≤ 3 := by cases moreB l on i <;> decide
    simp only [stepsFrom, textR, List.length_append, List.length_cons]
    omega

theorem c_LinesPlain (l : List Int) (on : List Bool) (hl : okInts l) : CallV Tryd.prog 11 [vL (.int .i64) l, vL .bool on] (vB true) := by
  refine CallV.of Tryd.func11 (by kernel_rfl) rfl Tryd.ntmps11 (by simp) rfl fun cx hB => ?_
  refine Tr.seq ?_; refine Tr.region ?_; refine TrL.quiets 1 rfl (by exact True.intro) ?_; refine TrL.nil ?_; refine Tr.seq ?_; refine Tr.region ?_; refine TrL.quiets 3 rfl (by exact True.intro) ?_; refine TrL.nil ?_; refine Tr.seq ?_; refine Tr.seq ?_; refine Tr.region ?_; refine TrL.quiets 1 rfl (by exact True.intro) ?_; refine TrL.nil ?_; refine Tr.block ?_
  have stE : ∀ {s1 s2 : Str} {w1 w2 : List Str} {j1 j2 : Int} {o : Bool}, s1 = s2 → w1 = w2 → j1 = j2 → (⟨[(0, [], vL (.int .i64) l), (1, [], vL .bool on), (5, [], vS s1), (6, [], .arr 0), (7, [], vB o), (8, [], vI j1)], [.ra 9 .str w1]⟩ : St) =
      ⟨[(0, [], vL (.int .i64) l), (1, [], vL .bool on), (5, [], vS s2), (6, [], .arr 0), (7, [], vB o), (8, [], vI j2)], [.ra 9 .str w2]⟩ := by
    rintro _ _ _ _ _ _ _ rfl rfl rfl
    rfl
  refine Tr.nilRowM 6 9 .str rfl ?_
  refine Tr.loop (fun ((i, s, w, o) : Nat × Str × List Str × Bool) => ⟨[(0, [], vL (.int .i64) l), (1, [], vL .bool on), (5, [], vS s), (6, [], .arr 0), (7, [], vB o), (8, [], vI i)], [.ra 9 .str w]⟩)
    (fun (i, s, w, o) => i ≤ min l.length 30 ∧ s.length ≤ 13 * i ∧ s ++ textR (stepsFrom l on (min l.length 30 - i) i) = textR (stepsFrom l on (min l.length 30) 0) ∧ w.length ≤ i ∧ (∀ x ∈ w, x.length ≤ 10 * i) ∧
      (bif o then ∃ pre u, w = pre ++ [u] ∧ pre ++ grp u (stepsFrom l on (min l.length 30 - i) i) = start (stepsFrom l on (min l.length 30) 0) else w ++ start (stepsFrom l on (min l.length 30 - i) i) = start (stepsFrom l on (min l.length 30) 0)))
    (fun (i, s, w, o) => 30 - i) (0, [], [], false) [0, 1, 5, 6, 7, 8] 1 (fun i h => by have := hB i h; omega) rfl ⟨Nat.zero_le _, by decide, rfl, Nat.zero_le _, by simp, rfl⟩ fun x hx => ?_
  obtain ⟨i, s, w, o⟩ := x
  obtain ⟨hi, hs, hS, hwl, hwx, hW⟩ := hx
  refine Tr.seq ?_; refine Tr.seq ?_; refine Tr.region ?_; refine TrL.quiets 8 rfl (by exact True.intro) ?_; refine TrL.nil ?_
  refine Tr.cond rfl (fun h1 => ?_) (fun h1 => ?_)
  · simp only [Bool.and_eq_true, decide_eq_true_eq] at h1
    have hi1 : i < l.length := by omega
    obtain ⟨hv1, hv2⟩ := okInts_nth hl i
    obtain ⟨k, hk⟩ : ∃ k, min l.length 30 - i = k + 1 := ⟨min l.length 30 - i - 1, by omega⟩
    have hk2 : min l.length 30 - (i + 1) = k := by omega
    rw [hk, stepsFrom] at hS hW
    refine Tr.skip ?_; refine Tr.seq ?_; refine Tr.block ?_; refine Tr.seq ?_; refine Tr.region ?_; refine TrL.quiets 4 rfl (by (simp only [allOf, impO, imp, inR, loOk, and_true]; omega)) ?_
    first | refine TrL.callV rfl rfl rfl rfl rfl (c_Word _ hv1 hv2) ?_ | refine TrD.callV rfl rfl rfl rfl rfl (c_Word _ hv1 hv2) rfl ?_
    generalize hx : nth (t := .int .i64) l (i : Int) = v at *
    have hw9 := word_le v
    refine TrL.quiets 1 rfl (by exact True.intro) ?_; refine TrL.nil ?_; refine Tr.seq ?_; refine Tr.region ?_; refine TrL.quiets 23 rfl (by (simp (disch := omega) only [allOf, impO, imp, inR, loOk, and_true, w64, List.length_set, List.length_cons, List.length_nil, Option.getD_none, Option.getD_some, Ty.D, true_and, decide_eq_true_eq, decide_eq_false_iff_not, Bool.and_eq_true, Bool.or_eq_false_iff]; omega)) ?_; refine TrL.nil ?_; refine Tr.seq ?_; refine Tr.seq ?_; refine Tr.region ?_; refine TrL.quiets 1 rfl (by exact True.intro) ?_; refine TrL.nil ?_
    have hmb : (decide ((i : Int) < (on.length : Int)) && nth (t := .bool) on (i : Int) && decide (IntKind.i64.wrap ((i : Int) + 1) < (l.length : Int)) && decide (IntKind.i64.wrap ((i : Int) + 1) < 30)) = moreB l on i := by
      rw [w64n (y := i + 1) (by omega) (by omega)]
      simp only [moreB]
      norm_cast
    refine Tr.is 10 (sv' := vB (moreB l on i)) rfl (congrArg vB hmb) ?_
    generalize moreB l on i = b at *
    refine Tr.cond rfl (fun h2 => ?_) (fun h2 => ?_)
    · subst h2
      obtain ⟨pre, u, rfl, hW⟩ := hW
      have hwr : IntKind.i64.wrap (((pre ++ [u]).length : Int) - 1) = (pre.length : Int) := w64n (by simp) (by simp at hwl; omega)
      have hn : nth (t := .str) (pre ++ [u]) (pre.length : Int) = u := by
        rw [nth_get' (t := .str) _ _ (by simp)]
        simp
      have hul : u.length ≤ 10 * i := hwx u (by simp)
      refine Tr.region ?_; refine TrL.quiets 14 rfl ?_ ?_
      · simp only [allOf, impO, imp, inR, loOk, and_true, hwr, Int.toNat_natCast, hn]
        simp only [List.length_append, List.length_cons, List.length_nil]
        omega
      refine TrL.eff (effStore_sound rfl) ?_ ?_
      · show (IntKind.i64.wrap (((pre ++ [u]).length : Int) - 1)).toNat < (pre ++ [u]).length
        rw [hwr]
        simp
      refine TrL.nil ?_; refine Tr.seq ?_; refine Tr.region ?_; refine TrL.quiets 4 rfl (by (simp only [allOf, impO, imp, inR, loOk, and_true]; omega)) ?_; refine TrL.nil ?_; refine Tr.seq ?_; refine Tr.seq ?_; refine Tr.region ?_; refine TrL.quiets 1 rfl (by exact True.intro) ?_; refine TrL.nil ?_
      have hset : (pre ++ [u]).set (IntKind.i64.wrap (((pre ++ [u]).length : Int) - 1)).toNat (nth (t := .str) (pre ++ [u]) ((IntKind.i64.wrap (((pre ++ [u]).length : Int) - 1)).toNat : Int) ++ [32] ++ word v) = pre ++ [u ++ 32 :: word v] := by
        rw [hwr, Int.toNat_natCast, hn, List.set_append_right _ _ (Nat.le_refl _)]
        simp
      have hx' : ∀ x ∈ pre ++ [u ++ 32 :: word v], x.length ≤ 10 * (i + 1) := by
        intro x hx
        rcases List.mem_append.1 hx with hx | hx
        · have := hwx x (by simp [hx]); omega
        · rw [List.mem_singleton.1 hx]
          simp only [List.length_append, List.length_cons]
          omega
      refine Tr.cond rfl (fun h3 => ?_) (fun h3 => ?_)
      · subst h3
        refine Tr.region ?_; refine TrL.quiets 3 rfl (by (simp (disch := omega) only [allOf, impO, imp, inR, loOk, and_true, w64, List.length_set, List.length_cons, List.length_nil, cut, List.length_take, List.length_drop, List.length_append, Int.toNat_natCast, Option.getD_none, Option.getD_some, Ty.D, true_and, decide_eq_true_eq, decide_eq_false_iff_not, Bool.and_eq_true, Bool.or_eq_false_iff]; omega)) ?_; refine TrL.nil ?_; refine Tr.seq ?_; refine Tr.region ?_; refine TrL.quiets 3 rfl (by (simp (disch := omega) only [allOf, impO, imp, inR, loOk, and_true, w64, List.length_set, List.length_cons, List.length_nil, cut, List.length_take, List.length_drop, List.length_append, Int.toNat_natCast, Option.getD_none, Option.getD_some, Ty.D, true_and, decide_eq_true_eq, decide_eq_false_iff_not, Bool.and_eq_true, Bool.or_eq_false_iff]; omega)) ?_; refine TrL.nil ?_; refine Tr.region ?_; refine TrL.quiets 2 rfl (by exact True.intro) ?_; refine TrL.nil ?_; refine Tr.region ?_; refine TrL.quiets 3 rfl (by exact True.intro) ?_; refine TrL.nil ?_
        refine ⟨(i + 1, s ++ (word v ++ onB true) ++ [10], pre ++ [u ++ 32 :: word v], true), ⟨by omega, ?_, ?_, ?_, hx', ?_⟩, by dsimp only; omega, ?_⟩
        · simp [onB]; omega
        · rw [hk2, ← hS]; simp [textR]
        · simp at hwl ⊢; omega
        · rw [hk2]
          exact ⟨pre, _, rfl, by rw [← hW, grp_cons, if_pos rfl]⟩
        · exact Eq.trans (by rfl) (stE (s1 := s ++ word v ++ [32, 32, 92] ++ [10]) (by simp [onB]) hset (w64n (y := i + 1) (by omega) (by omega)))
      · subst h3
        refine Tr.skip ?_; refine Tr.seq ?_; refine Tr.region ?_; refine TrL.quiets 3 rfl (by (simp (disch := omega) only [allOf, impO, imp, inR, loOk, and_true, w64, List.length_set, List.length_cons, List.length_nil, cut, List.length_take, List.length_drop, List.length_append, Int.toNat_natCast, Option.getD_none, Option.getD_some, Ty.D, true_and, decide_eq_true_eq, decide_eq_false_iff_not, Bool.and_eq_true, Bool.or_eq_false_iff]; omega)) ?_; refine TrL.nil ?_; refine Tr.region ?_; refine TrL.quiets 2 rfl (by exact True.intro) ?_; refine TrL.nil ?_; refine Tr.region ?_; refine TrL.quiets 3 rfl (by exact True.intro) ?_; refine TrL.nil ?_
        refine ⟨(i + 1, s ++ (word v ++ onB false) ++ [10], pre ++ [u ++ 32 :: word v], false), ⟨by omega, ?_, ?_, ?_, hx', ?_⟩, by dsimp only; omega, ?_⟩
        · simp [onB]; omega
        · rw [hk2, ← hS]; simp [textR]
        · simp at hwl ⊢; omega
        · rw [hk2, ← hW, grp_cons]
          simp
        · exact Eq.trans (by rfl) (stE (s1 := s ++ word v  ++ [10]) (by simp [onB]) hset (w64n (y := i + 1) (by omega) (by omega)))
    · subst h2
      have hW' : w ++ start ((word v, b) :: stepsFrom l on k (i + 1)) = start (stepsFrom l on (min l.length 30) 0) := hW
      refine Tr.region ?_; refine TrL.quiets 2 rfl (by exact True.intro) ?_; refine TrL.eff (effLit_sound rfl) (by exact True.intro) ?_; refine TrL.eff (effAppend_sound rfl) ?_ ?_
      · show w.length + 1 ≤ 1099511627776
        omega
      refine TrL.quiets 1 rfl (by exact True.intro) ?_; refine TrL.nil ?_; refine Tr.seq ?_; refine Tr.region ?_; refine TrL.quiets 4 rfl (by (simp only [allOf, impO, imp, inR, loOk, and_true]; omega)) ?_; refine TrL.nil ?_; refine Tr.seq ?_; refine Tr.seq ?_; refine Tr.region ?_; refine TrL.quiets 1 rfl (by exact True.intro) ?_; refine TrL.nil ?_
      have hx' : ∀ x ∈ w ++ [word v], x.length ≤ 10 * (i + 1) := by
        intro x hx
        rcases List.mem_append.1 hx with hx | hx
        · have := hwx x hx; omega
        · rw [List.mem_singleton.1 hx]
          omega
      refine Tr.cond rfl (fun h3 => ?_) (fun h3 => ?_)
      · subst h3
        refine Tr.region ?_; refine TrL.quiets 3 rfl (by (simp (disch := omega) only [allOf, impO, imp, inR, loOk, and_true, w64, List.length_set, List.length_cons, List.length_nil, cut, List.length_take, List.length_drop, List.length_append, Int.toNat_natCast, Option.getD_none, Option.getD_some, Ty.D, true_and, decide_eq_true_eq, decide_eq_false_iff_not, Bool.and_eq_true, Bool.or_eq_false_iff]; omega)) ?_; refine TrL.nil ?_; refine Tr.seq ?_; refine Tr.region ?_; refine TrL.quiets 3 rfl (by (simp (disch := omega) only [allOf, impO, imp, inR, loOk, and_true, w64, List.length_set, List.length_cons, List.length_nil, cut, List.length_take, List.length_drop, List.length_append, Int.toNat_natCast, Option.getD_none, Option.getD_some, Ty.D, true_and, decide_eq_true_eq, decide_eq_false_iff_not, Bool.and_eq_true, Bool.or_eq_false_iff]; omega)) ?_; refine TrL.nil ?_; refine Tr.region ?_; refine TrL.quiets 2 rfl (by exact True.intro) ?_; refine TrL.nil ?_; refine Tr.region ?_; refine TrL.quiets 3 rfl (by exact True.intro) ?_; refine TrL.nil ?_
        refine ⟨(i + 1, s ++ (word v ++ onB true) ++ [10], w ++ [word v], true), ⟨by omega, ?_, ?_, ?_, hx', ?_⟩, by dsimp only; omega, ?_⟩
        · simp [onB]; omega
        · rw [hk2, ← hS]; simp [textR]
        · simp; omega
        · rw [hk2]
          exact ⟨w, _, rfl, by rw [← hW', start_cons, if_pos rfl]⟩
        · exact Eq.trans (by rfl) (stE (s1 := s ++ word v ++ [32, 32, 92] ++ [10]) (by simp [onB]) rfl (w64n (y := i + 1) (by omega) (by omega)))
      · subst h3
        refine Tr.skip ?_; refine Tr.seq ?_; refine Tr.region ?_; refine TrL.quiets 3 rfl (by (simp (disch := omega) only [allOf, impO, imp, inR, loOk, and_true, w64, List.length_set, List.length_cons, List.length_nil, cut, List.length_take, List.length_drop, List.length_append, Int.toNat_natCast, Option.getD_none, Option.getD_some, Ty.D, true_and, decide_eq_true_eq, decide_eq_false_iff_not, Bool.and_eq_true, Bool.or_eq_false_iff]; omega)) ?_; refine TrL.nil ?_; refine Tr.region ?_; refine TrL.quiets 2 rfl (by exact True.intro) ?_; refine TrL.nil ?_; refine Tr.region ?_; refine TrL.quiets 3 rfl (by exact True.intro) ?_; refine TrL.nil ?_
        refine ⟨(i + 1, s ++ (word v ++ onB false) ++ [10], w ++ [word v], false), ⟨by omega, ?_, ?_, ?_, hx', ?_⟩, by dsimp only; omega, ?_⟩
        · simp [onB]; omega
        · rw [hk2, ← hS]; simp [textR]
        · simp; omega
        · rw [hk2, ← hW', start_cons]
          simp
        · exact Eq.trans (by rfl) (stE (s1 := s ++ word v ++ [10]) (by simp [onB]) rfl (w64n (y := i + 1) (by omega) (by omega)))
  have hi2 : min l.length 30 - i = 0 := by
    simp only [Bool.and_eq_false_iff, decide_eq_false_iff_not] at h1
    omega
  have hok := steps_ok l on (min l.length 30) 0 (by omega)
  generalize stepsFrom l on (min l.length 30) 0 = T at *
  rw [hi2] at hS hW
  have hsT : s = textR T := by simpa [stepsFrom, textR] using hS
  have hwT : w = start T := by
    cases o
    · have : w ++ start [] = start T := hW
      simpa [start_nil] using this
    · obtain ⟨pre, u, rfl, h⟩ := hW
      exact h
  have hL := linesL_start T hok
  rw [← hsT, ← hwT] at hL
  have hll : (linesL s).length = w.length := by simpa using congrArg List.length hL
  have hLj : ∀ j : Nat, j < w.length → (nth (t := lineTy) (linesL s) (j : Int)).1 = nth (t := .str) w (j : Int) ∧ (nth (t := lineTy) (linesL s) (j : Int)).2.2 = false := by
    intro j hj
    have := congrArg (fun x => x[j]?) hL
    simp only [List.getElem?_map, List.getElem?_eq_getElem (show j < (linesL s).length by omega), List.getElem?_eq_getElem hj, Option.map_some, Option.some.injEq, Prod.mk.injEq] at this
    rw [nth_get' (t := lineTy) _ j (by omega), nth_get' (t := .str) _ j hj]
    exact this
  have hs2 : s.length ≤ 390 := by omega
  have hall := c_lines_All s (by omega)
  generalize linesL s = a at *
  clear hL hS hW
  refine Tr.exit ?_; refine Tr.seq ?_; refine Tr.region ?_; refine TrL.quiets 1 rfl (by exact True.intro) ?_
  first | refine TrL.callV rfl rfl rfl rfl rfl hall ?_ | refine TrD.callV rfl rfl rfl rfl rfl hall rfl ?_
  refine TrL.quiets 1 rfl (by exact True.intro) ?_; refine TrL.nil ?_; refine Tr.seq ?_; refine Tr.seq ?_; refine Tr.region ?_; refine TrL.quiets 5 rfl (by exact True.intro) ?_; refine TrL.nil ?_
  refine Tr.cond rfl (fun h2 => ?_) (fun h2 => ?_)
  · simp [hll] at h2
  refine Tr.skip ?_; refine Tr.seq ?_; refine Tr.seq ?_; refine Tr.region ?_; refine TrL.quiets 1 rfl (by exact True.intro) ?_; refine TrL.nil ?_; refine Tr.block ?_
  refine Tr.loop (fun (j : Nat) => ⟨[(6, [], .arr 0), (11, [], vL lineTy a), (12, [], vI j)], [.ra 9 .str w]⟩) (fun j => j ≤ w.length) (fun j => w.length - j) 0 [6, 11, 12] 1 (fun i h => by have := hB i h; omega) rfl (Nat.zero_le _) fun j hj => ?_
  refine Tr.seq ?_; refine Tr.seq ?_; refine Tr.region ?_; refine TrL.quiets 4 rfl (by exact True.intro) ?_; refine TrL.nil ?_
  refine Tr.cond rfl (fun h3 => ?_) (fun h3 => ?_)
  · simp only [decide_eq_true_eq] at h3
    have hj1 : j < w.length := by omega
    obtain ⟨e1, e2⟩ := hLj j hj1
    refine Tr.skip ?_; refine Tr.seq ?_; refine Tr.block ?_; refine Tr.seq ?_; refine Tr.draw (by kernel_rfl) (by kernel_rfl) ?_; refine TrD.quiets 17 rfl (by (simp only [allOf, impO, imp, inR, loOk, and_true]; omega)) ?_; refine TrD.nil ?_
    refine Tr.cond rfl (fun h4 => ?_) (fun h4 => ?_)
    · have h5 : ((nth (t := lineTy) a (j : Int)).1 != nth (t := .str) w (j : Int) || (nth (t := lineTy) a (j : Int)).2.2) = true := h4
      rw [e1, e2] at h5
      simp at h5
    refine Tr.skip ?_; refine Tr.region ?_; refine TrL.quiets 3 rfl (by exact True.intro) ?_; refine TrL.nil ?_
    refine ⟨j + 1, hj1, by dsimp only; omega, ?_⟩
    refine Eq.trans (b := (⟨[(_, [], _), (_, [], _), (_, [], _)], [_]⟩ : St)) rfl ?_
    rw [w64n (y := j + 1) (by omega) (by omega)]
  refine Tr.exit ?_; refine Tr.seq ?_; refine Tr.region ?_
  first | refine TrL.callV rfl rfl rfl rfl rfl (c_ref_Trim [32, 120, 32] (by decide)) ?_ | refine TrD.callV rfl rfl rfl rfl rfl (c_ref_Trim [32, 120, 32] (by decide)) rfl ?_
  refine TrL.quiets 2 rfl (by exact True.intro) ?_
  first | refine TrL.callV rfl rfl rfl rfl rfl c_awake08 ?_ | refine TrD.callV rfl rfl rfl rfl rfl c_awake08 rfl ?_
  refine TrL.quiets 2 rfl (by exact True.intro) ?_; refine TrL.nil ?_; refine Tr.ret ?_
  refine retQ.of rfl ?_
  rfl
end Go.Proofs.YtafngfcfinligaaDoor.Sx
