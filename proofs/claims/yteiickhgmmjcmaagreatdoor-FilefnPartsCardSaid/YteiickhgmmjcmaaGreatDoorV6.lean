/-
  The file system, plain: what is there, by the order in which it came; the two maps of it.
-/
import Derived.Test.YteiickhgmmjcmaaGreatDoorV4
set_option linter.unusedVariables false
set_option linter.unusedSimpArgs false
namespace Go.Proofs.YteiickhgmmjcmaaGreatDoor.Sx
open Go Go.RowKit Go.Proofs

theorem absL_absT (l : List Str) (h : okL l) : absL (absT l) = l := by
  by_cases hl : l = []
  · subst hl; decide
  · rw [absT_flat hl, absL_flat l h]
theorem absT_inj {a b : List Str} (ha : okL a) (hb : okL b) (h : absT a = absT b) : a = b := by
  rw [← absL_absT a ha, ← absL_absT b hb, h]

abbrev Fent := List Str × Bool × Str
def hasP (L : List Fent) (q : List Str) : Bool := L.any (fun e => e.1 == q)
def isF (L : List Fent) (q : List Str) : Bool := L.any (fun e => e.1 == q && !e.2.1)
def isD (L : List Fent) (q : List Str) : Bool := L.any (fun e => e.1 == q && e.2.1)
theorem hasP_iff {L : List Fent} {q : List Str} : hasP L q = true ↔ ∃ e ∈ L, e.1 = q := by simp [hasP]
theorem isF_iff {L : List Fent} {q : List Str} : isF L q = true ↔ ∃ e ∈ L, e.1 = q ∧ e.2.1 = false := by simp [isF]
theorem isD_iff {L : List Fent} {q : List Str} : isD L q = true ↔ ∃ e ∈ L, e.1 = q ∧ e.2.1 = true := by simp [isD]
/-- What is in a directory. -/
def kidOf (d : List Str) (e : Fent) : Option Str := if e.1 ≠ [] ∧ e.1.dropLast = d then e.1.getLast? else none
def kids (L : List Fent) (d : List Str) : List Str := L.filterMap (kidOf d)
def dirsOf (L : List Fent) : Dirs := (L.filter (·.2.1)).map fun e => (absT e.1, kids L e.1)
def filesOf (L : List Fent) : List (Str × Str) := (L.filter (fun e => !e.2.1)).map fun e => (absT e.1, e.2.2)

structure FsOk (L : List Fent) : Prop where
  root : ∃ rest, L = ([], true, []) :: rest
  ok : ∀ e ∈ L, okL e.1
  nodup : (L.map (·.1)).Nodup
  par : ∀ e ∈ L, ∀ ms x, e.1 = ms ++ [x] → isD L ms = true
  text : ∀ e ∈ L, e.2.1 = true → e.2.2 = []
theorem fs_init : FsOk [([], true, [])] := ⟨⟨[], rfl⟩, by simp [okL], by simp, fun e he ms x h => by simp at he; subst he; simp at h, by simp⟩

theorem nodup_eq {L : List Fent} (h : (L.map (·.1)).Nodup) {e e' : Fent} (he : e ∈ L) (he' : e' ∈ L) (hq : e.1 = e'.1) : e = e' := by
  induction L with
  | nil => cases he
  | cons a L ih =>
    rw [List.map_cons, List.nodup_cons] at h
    rcases List.mem_cons.1 he with h1 | h1 <;> rcases List.mem_cons.1 he' with h2 | h2
    · rw [h1, h2]
    · exact (h.1 (List.mem_map.2 ⟨e', h2, by rw [← hq, h1]⟩)).elim
    · exact (h.1 (List.mem_map.2 ⟨e, h1, by rw [hq, h2]⟩)).elim
    · exact ih h.2 h1 h2
theorem FsOk.fd {L : List Fent} (h : FsOk L) {q : List Str} (h1 : isF L q = true) : isD L q = false := by
  obtain ⟨e, he, rfl, h2⟩ := isF_iff.1 h1
  rw [Bool.eq_false_iff]
  intro h3
  obtain ⟨e', he', hq, h4⟩ := isD_iff.1 h3
  rw [nodup_eq h.nodup he' he hq, h2] at h4
  cases h4
theorem has_or {L : List Fent} {q : List Str} (h : hasP L q = true) : isF L q = true ∨ isD L q = true := by
  obtain ⟨e, he, rfl⟩ := hasP_iff.1 h
  cases hd : e.2.1
  · exact .inl (isF_iff.2 ⟨e, he, rfl, hd⟩)
  · exact .inr (isD_iff.2 ⟨e, he, rfl, hd⟩)
theorem isD_has {L : List Fent} {q : List Str} (h : isD L q = true) : hasP L q = true := by
  obtain ⟨e, he, hq, _⟩ := isD_iff.1 h
  exact hasP_iff.2 ⟨e, he, hq⟩
theorem isF_has {L : List Fent} {q : List Str} (h : isF L q = true) : hasP L q = true := by
  obtain ⟨e, he, hq, _⟩ := isF_iff.1 h
  exact hasP_iff.2 ⟨e, he, hq⟩

/-! ### The maps answer -/
theorem dIdx_some : ∀ (D : Dirs) (k : Str), (dIdx D k).isSome = D.any (fun p => p.1 == k)
  | [], k => rfl
  | (k', l) :: D, k => by
    rw [dIdx, List.any_cons]
    by_cases h : k = k'
    · rw [if_pos h, h]; simp
    · rw [if_neg h, show ((k', l).1 == k) = false by simpa using fun e => h e.symm, Bool.false_or, ← dIdx_some D k]
      simp
theorem fGet_any : ∀ (F : List (Str × Str)) (k : Str), (fGet F k).isSome = F.any (fun p => p.1 == k)
  | [], k => rfl
  | (k', v) :: F, k => by
    rw [fGet, List.any_cons]
    by_cases h : k = k'
    · rw [if_pos h, h]; simp
    · rw [if_neg h, show ((k', v).1 == k) = false by simpa using fun e => h e.symm, Bool.false_or, ← fGet_any F k]
theorem dirs_has {L : List Fent} (h : FsOk L) {q : List Str} (hq : okL q) : (dIdx (dirsOf L) (absT q)).isSome = isD L q := by
  rw [dIdx_some, Bool.eq_iff_iff, isD_iff, List.any_eq_true]
  constructor
  · rintro ⟨p, hp, hpq⟩
    obtain ⟨e, he, rfl⟩ := List.mem_map.1 hp
    rw [List.mem_filter] at he
    exact ⟨e, he.1, absT_inj (h.ok e he.1) hq (by simpa using hpq), he.2⟩
  · rintro ⟨e, he, rfl, hd⟩
    exact ⟨_, List.mem_map.2 ⟨e, List.mem_filter.2 ⟨he, hd⟩, rfl⟩, by simp⟩
theorem files_has {L : List Fent} (h : FsOk L) {q : List Str} (hq : okL q) : (fGet (filesOf L) (absT q)).isSome = isF L q := by
  rw [fGet_any, Bool.eq_iff_iff, isF_iff, List.any_eq_true]
  constructor
  · rintro ⟨p, hp, hpq⟩
    obtain ⟨e, he, rfl⟩ := List.mem_map.1 hp
    rw [List.mem_filter] at he
    exact ⟨e, he.1, absT_inj (h.ok e he.1) hq (by simpa using hpq), by simpa using he.2⟩
  · rintro ⟨e, he, rfl, hd⟩
    exact ⟨_, List.mem_map.2 ⟨e, List.mem_filter.2 ⟨he, by simpa using hd⟩, rfl⟩, by simp⟩

/-! ### Something new -/
theorem kids_append (L M : List Fent) (d : List Str) : kids (L ++ M) d = kids L d ++ kids M d := by simp [kids]
theorem mem_kids {L : List Fent} {d : List Str} {x : Str} : x ∈ kids L d ↔ ∃ e ∈ L, e.1 = d ++ [x] := by
  unfold kids
  rw [List.mem_filterMap]
  constructor
  · rintro ⟨e, he, hx⟩
    refine ⟨e, he, ?_⟩
    unfold kidOf at hx
    split at hx
    · rename_i hc
      rw [← hc.2]
      rw [List.getLast?_eq_some_getLast hc.1] at hx
      obtain rfl := Option.some.inj hx
      exact (List.dropLast_concat_getLast hc.1).symm
    · cases hx
  · rintro ⟨e, he, hx⟩
    refine ⟨e, he, ?_⟩
    unfold kidOf
    rw [hx]
    simp
theorem kidOf_new (ms : List Str) (x : Str) (b : Bool) (t : Str) (d : List Str) : kids [(ms ++ [x], b, t)] d = if d = ms then [x] else [] := by
  unfold kids kidOf
  by_cases h : d = ms
  · subst h
    simp
  · rw [if_neg h]
    have : ¬ ms = d := fun e => h e.symm
    simp [this]
theorem sPut_new : ∀ (l : List Str) (x : Str), x ∉ l → sPut l x = l ++ [x]
  | [], x, _ => rfl
  | y :: l, x, h => by
    rw [List.mem_cons, not_or] at h
    rw [sPut, if_neg h.1, sPut_new l x h.2]
    rfl
theorem fPut_new : ∀ (F : List (Str × Str)) (k v : Str), (fGet F k).isSome = false → fPut F k v = F ++ [(k, v)]
  | [], k, v, _ => rfl
  | (k', v') :: F, k, v, h => by
    rw [fGet] at h
    by_cases hk : k = k'
    · rw [if_pos hk] at h; cases h
    · rw [if_neg hk] at h
      rw [fPut, if_neg hk, fPut_new F k v h]
      rfl
theorem dAdd_map : ∀ (D : Dirs) (k : Str) (m : Nat) (n : Str), dIdx D k = some m → (D.map (·.1)).Nodup → dAdd D m n = D.map fun p => if p.1 = k then (p.1, sPut p.2 n) else p
  | [], k, m, n, h, _ => by cases h
  | (k', l) :: D, k, m, n, h, hn => by
    rw [List.map_cons, List.nodup_cons] at hn
    rw [dIdx] at h
    by_cases hk : k = k'
    · rw [if_pos hk] at h
      obtain rfl := Option.some.inj h
      subst hk
      simp only [dAdd, List.modify_zero_cons, List.map_cons, if_pos]
      congr 1
      have : D.map (fun p => if p.1 = k then (p.1, sPut p.2 n) else p) = D.map id := List.map_congr_left fun p hp => by
        rw [if_neg (fun e => hn.1 (List.mem_map.2 ⟨p, hp, e⟩))]; rfl
      rw [this, List.map_id]
    · rw [if_neg hk] at h
      obtain ⟨m', hm, rfl⟩ := Option.map_eq_some_iff.1 h
      have := dAdd_map D k m' n hm hn.2
      simp only [dAdd] at this
      simp only [dAdd, List.modify_succ_cons, List.map_cons, this]
      rw [if_neg (fun e => hk e.symm)]
theorem dirs_nodup {L : List Fent} (h : FsOk L) : ((dirsOf L).map (·.1)).Nodup := by
  unfold dirsOf
  rw [List.map_map]
  have h1 : ((L.filter (·.2.1)).map (·.1)).Nodup := h.nodup.sublist (List.filter_sublist.map _)
  have h2 : (L.filter (·.2.1)).map ((fun p : Str × List Str => p.1) ∘ fun e => (absT e.1, kids L e.1)) = ((L.filter (·.2.1)).map (·.1)).map absT := by rw [List.map_map]; rfl
  rw [h2]
  have : ∀ (l : List (List Str)), (∀ q ∈ l, okL q) → l.Nodup → (l.map absT).Nodup := by
    intro l
    induction l with
    | nil => intro _ _; simp
    | cons a l ih =>
      intro ho hn
      rw [List.nodup_cons] at hn
      rw [List.map_cons, List.nodup_cons]
      refine ⟨fun hm => ?_, ih (fun q hq => ho q (by simp [hq])) hn.2⟩
      obtain ⟨b, hb, hab⟩ := List.mem_map.1 hm
      rw [absT_inj (ho b (by simp [hb])) (ho a (by simp)) hab] at hb
      exact hn.1 hb
  refine this _ (fun q hq => ?_) h1
  obtain ⟨e, he, rfl⟩ := List.mem_map.1 hq
  exact h.ok e (List.mem_filter.1 he).1
/-- Something new in a directory that is there. -/
theorem fs_new {L : List Fent} (h : FsOk L) {ms : List Str} {x : Str} (b : Bool) (t : Str) (hm : okL ms) (hx : okN x) (hno : hasP L (ms ++ [x]) = false) (hd : isD L ms = true) (ht : b = true → t = []) :
    FsOk (L ++ [(ms ++ [x], b, t)]) ∧ ∃ m, dIdx (dirsOf L) (upF (absT (ms ++ [x]))).1 = some m ∧ dIdx (dirsOf L) (absT (ms ++ [x])) = none ∧ fGet (filesOf L) (absT (ms ++ [x])) = none ∧
      putF (dirsOf L) (filesOf L) (absT (ms ++ [x])) b t m = (dirsOf (L ++ [(ms ++ [x], b, t)]), filesOf (L ++ [(ms ++ [x], b, t)])) := by
  have hokn : okL (ms ++ [x]) := fun z hz => by
    rcases List.mem_append.1 hz with hz | hz
    · exact hm z hz
    · rw [List.mem_singleton.1 hz]; exact hx
  have hno' : ∀ e ∈ L, e.1 ≠ ms ++ [x] := fun e he hq => by
    rw [hasP_iff.2 ⟨e, he, hq⟩] at hno
    cases hno
  refine ⟨⟨?_, ?_, ?_, ?_, ?_⟩, ?_⟩
  · obtain ⟨rest, hr⟩ := h.root
    exact ⟨rest ++ [(ms ++ [x], b, t)], by rw [hr]; rfl⟩
  · intro e he
    rcases List.mem_append.1 he with he | he
    · exact h.ok e he
    · rw [List.mem_singleton.1 he]; exact hokn
  · rw [List.map_append, List.nodup_append]
    refine ⟨h.nodup, by simp, fun a ha c hc => ?_⟩
    obtain ⟨e, he, rfl⟩ := List.mem_map.1 ha
    simp only [List.map_cons, List.map_nil, List.mem_singleton] at hc
    rw [hc]
    exact hno' e he
  · intro e he ms' x' hq
    have key : isD L ms' = true := by
      rcases List.mem_append.1 he with he | he
      · exact h.par e he ms' x' hq
      · rw [List.mem_singleton.1 he] at hq
        have := List.append_inj' hq rfl
        rw [← this.1]; exact hd
    obtain ⟨e', he', h1⟩ := isD_iff.1 key
    exact isD_iff.2 ⟨e', List.mem_append_left _ he', h1⟩
  · intro e he hb
    rcases List.mem_append.1 he with he | he
    · exact h.text e he hb
    · rw [List.mem_singleton.1 he] at hb ⊢; exact ht hb
  · have hD : isD L (ms ++ [x]) = false := by
      rw [Bool.eq_false_iff]; intro h1; rw [isD_has h1] at hno; cases hno
    have hF : isF L (ms ++ [x]) = false := by
      rw [Bool.eq_false_iff]; intro h1; rw [isF_has h1] at hno; cases hno
    rw [upF_absT ms x hm hx]
    obtain ⟨m, hmm⟩ := Option.isSome_iff_exists.1 ((dirs_has h hm).trans hd)
    refine ⟨m, hmm, ?_, ?_, ?_⟩
    · rw [← Option.not_isSome_iff_eq_none, dirs_has h hokn, hD]; decide
    · rw [← Option.not_isSome_iff_eq_none, files_has h hokn, hF]; decide
    · have e1 : dAdd (dirsOf L) m x = (L.filter (·.2.1)).map fun e => (absT e.1, kids (L ++ [(ms ++ [x], b, t)]) e.1) := by
        rw [dAdd_map _ _ m x hmm (dirs_nodup h)]
        unfold dirsOf
        rw [List.map_map]
        refine List.map_congr_left fun e he => ?_
        rw [List.mem_filter] at he
        simp only [Function.comp_def]
        rw [kids_append, kidOf_new]
        by_cases hc : e.1 = ms
        · rw [if_pos (by rw [hc]), if_pos hc, sPut_new _ _ (fun hk => ?_)]
          obtain ⟨e', he', hq⟩ := mem_kids.1 hk
          exact hno' e' he' (by rw [hq, hc])
        · rw [if_neg (fun e2 => hc (absT_inj (h.ok e he.1) hm e2)), if_neg hc, List.append_nil]
      have e2 : kids (L ++ [(ms ++ [x], b, t)]) (ms ++ [x]) = [] := by
        rw [List.eq_nil_iff_forall_not_mem]
        intro z hz
        obtain ⟨e, he, hq⟩ := mem_kids.1 hz
        rcases List.mem_append.1 he with he | he
        · have := h.par e he _ _ hq
          rw [hD] at this; cases this
        · rw [List.mem_singleton.1 he] at hq
          have := congrArg List.length hq
          simp at this
      unfold putF
      rw [upF_absT ms x hm hx]
      cases b
      · rw [if_neg (by decide)]
        have e3 : dirsOf (L ++ [(ms ++ [x], false, t)]) = dAdd (dirsOf L) m x := by
          rw [e1]; unfold dirsOf
          rw [List.filter_append]; simp
        have e4 : filesOf (L ++ [(ms ++ [x], false, t)]) = fPut (filesOf L) (absT (ms ++ [x])) t := by
          rw [fPut_new _ _ _ ((files_has h hokn).trans hF)]
          unfold filesOf
          rw [List.filter_append, List.map_append]; rfl
        rw [e3, e4]
      · rw [if_pos rfl]
        have e3 : dirsOf (L ++ [(ms ++ [x], true, t)]) = dAdd (dirsOf L) m x ++ [(absT (ms ++ [x]), [])] := by
          rw [e1]; unfold dirsOf
          rw [List.filter_append, List.map_append]
          show _ ++ [(_, kids _ _)] = _
          rw [e2]
        have e4 : filesOf (L ++ [(ms ++ [x], true, t)]) = filesOf L := by
          unfold filesOf
          rw [List.filter_append]; simp
        rw [e3, e4]

/-! ### The way -/
/-- All beginnings that are not empty, of names turned round. -/
def allPre : List Str → List (List Str)
  | [] => []
  | x :: r => allPre r ++ [(x :: r).reverse]
theorem allPre_len : ∀ (r : List Str), ∀ q ∈ allPre r, q.length ≤ r.length
  | [], q, h => by cases h
  | x :: r, q, h => by
    rw [allPre, List.mem_append, List.mem_singleton] at h
    rcases h with h | rfl
    · have := allPre_len r q h
      simp; omega
    · simp
theorem FsOk.pre {L : List Fent} (h : FsOk L) : ∀ (r : List Str), isD L r.reverse = true → ∀ q ∈ allPre r, isD L q = true
  | [], _, q, hq => by cases hq
  | x :: r, hd, q, hq => by
    rw [allPre, List.mem_append, List.mem_singleton] at hq
    rcases hq with hq | rfl
    · obtain ⟨e, he, h1, h2⟩ := isD_iff.1 hd
      rw [List.reverse_cons] at h1
      exact FsOk.pre h r (h.par e he _ _ h1) q hq
    · exact hd
theorem root_dir {L : List Fent} (h : FsOk L) : isD L [] = true := by
  obtain ⟨rest, hr⟩ := h.root
  exact isD_iff.2 ⟨_, by rw [hr]; exact List.mem_cons_self, rfl, rfl⟩
theorem wayR_is {L : List Fent} (h : FsOk L) : ∀ (r : List Str) (x : Str), okL r → wayR (dirsOf L) (filesOf L) (x :: r) = if (allPre r).any (isF L) then none else some (((allPre r).filter (fun q => !hasP L q)).reverse.map absT)
  | [], x, _ => by
    have hd := root_dir h
    have hf : isF L [] = false := by
      rw [Bool.eq_false_iff]; intro h1; rw [h.fd h1] at hd; cases hd
    rw [wayR, List.reverse_nil, files_has h (fun _ hz => by cases hz), hf, dirs_has h (fun _ hz => by cases hz), hd]
    rfl
  | y :: r, x, ho => by
    have ho' : okL (y :: r).reverse := fun z hz => ho z (List.mem_reverse.1 hz)
    have ih := wayR_is h r y (fun z hz => ho z (by simp [hz]))
    rw [wayR, files_has h ho', dirs_has h ho', ih]
    rw [allPre, List.any_append, List.filter_append]
    cases hf : isF L (y :: r).reverse with
    | true => rw [if_pos rfl, if_pos (by rw [Bool.or_eq_true]; right; simpa [-List.reverse_cons] using hf)]
    | false =>
      cases hd : isD L (y :: r).reverse with
      | true =>
        have hp := h.pre (y :: r) hd
        have h1 : (allPre r).any (isF L) = false := by
          rw [List.any_eq_false]
          intro q hq h2
          have := hp q (by rw [allPre]; exact List.mem_append_left _ hq)
          rw [h.fd h2] at this; cases this
        have h2 : (allPre r).filter (fun q => !hasP L q) = [] := by
          rw [List.filter_eq_nil_iff]
          intro q hq
          rw [isD_has (hp q (by rw [allPre]; exact List.mem_append_left _ hq))]
          decide
        have h3 := isD_has hd
        simp [hf, h1, h2, h3, -List.reverse_cons]
      | false =>
        have hn : hasP L (y :: r).reverse = false := by
          rw [Bool.eq_false_iff]
          intro h1
          rcases has_or h1 with h2 | h2
          · rw [hf] at h2; cases h2
          · rw [hd] at h2; cases h2
        cases ha : (allPre r).any (isF L) <;> simp [hf, hn, List.reverse_singleton, -List.reverse_cons]
/-- Directories one behind the other, each in one that is there. -/
def goodSeq : List Fent → List (List Str) → Prop
  | _, [] => True
  | L, q :: r => (∃ ms x, q = ms ++ [x] ∧ okL ms ∧ okN x ∧ isD L ms = true) ∧ hasP L q = false ∧ goodSeq (L ++ [(q, true, [])]) r
def asDirs (l : List (List Str)) : List Fent := l.map fun q => (q, true, [])
theorem good_append : ∀ (a b : List (List Str)) (L : List Fent), goodSeq L (a ++ b) ↔ goodSeq L a ∧ goodSeq (L ++ asDirs a) b
  | [], b, L => by simp [goodSeq, asDirs]
  | q :: a, b, L => by
    have := good_append a b (L ++ [(q, true, [])])
    simp only [List.cons_append, goodSeq, this, asDirs, List.map_cons, List.append_assoc, List.nil_append]
    simp only [and_assoc]
theorem fs_dirs : ∀ (l : List (List Str)) {L : List Fent}, FsOk L → goodSeq L l → FsOk (L ++ asDirs l) ∧ okDirs (dirsOf L) (l.map absT) ∧ mkDirs (dirsOf L) (l.map absT) = dirsOf (L ++ asDirs l) ∧ filesOf (L ++ asDirs l) = filesOf L
  | [], L, h, _ => by simp [asDirs, okDirs, mkDirs, h]
  | q :: l, L, h, ⟨⟨ms, x, e, hm, hx, hd⟩, hno, hr⟩ => by
    subst e
    obtain ⟨h1, m, h2, h3, h4, h5⟩ := fs_new h true [] hm hx hno hd (fun _ => rfl)
    obtain ⟨g1, g2, g3, g4⟩ := fs_dirs l h1 hr
    have h6 : mk1 (dirsOf L) (absT (ms ++ [x])) = dirsOf (L ++ [(ms ++ [x], true, [])]) := by
      unfold mk1
      rw [h2]
      have := congrArg Prod.fst h5
      simpa [putF] using this
    have h7 : filesOf (L ++ [(ms ++ [x], true, [])]) = filesOf L := by
      unfold filesOf; rw [List.filter_append]; simp
    have e : L ++ asDirs ((ms ++ [x]) :: l) = L ++ [(ms ++ [x], true, [])] ++ asDirs l := by simp [asDirs]
    rw [e]
    refine ⟨g1, ⟨by rw [h2]; rfl, h3, by rw [h6]; exact g2⟩, ?_, g4.trans h7⟩
    show mkDirs (mk1 (dirsOf L) (absT (ms ++ [x]))) (l.map absT) = _
    rw [h6, g3]
theorem good_pre {L : List Fent} (h : FsOk L) : ∀ (r : List Str), okL r → (allPre r).any (isF L) = false → goodSeq L ((allPre r).filter (fun q => !hasP L q)) ∧ isD (L ++ asDirs ((allPre r).filter (fun q => !hasP L q))) r.reverse = true
  | [], _, _ => by
    obtain ⟨e, he, h1⟩ := isD_iff.1 (root_dir h)
    exact ⟨True.intro, isD_iff.2 ⟨e, List.mem_append_left _ he, h1⟩⟩
  | y :: r, ho, hn => by
    rw [allPre, List.any_append, Bool.or_eq_false_iff] at hn
    obtain ⟨i1, i2⟩ := good_pre h r (fun z hz => ho z (by simp [hz])) hn.1
    have hn2 : isF L (y :: r).reverse = false := by simpa using hn.2
    rw [allPre, List.filter_append]
    cases hh : hasP L (y :: r).reverse with
    | true =>
      have hd := (has_or hh).resolve_left (by rw [hn2]; decide)
      obtain ⟨e, he, h1⟩ := isD_iff.1 hd
      have e1 : [(y :: r).reverse].filter (fun q => !hasP L q) = [] := by rw [List.filter_eq_nil_iff]; intro q hq; rw [List.mem_singleton.1 hq, hh]; decide
      rw [e1, List.append_nil]
      exact ⟨i1, isD_iff.2 ⟨e, List.mem_append_left _ he, h1⟩⟩
    | false =>
      have e1 : [(y :: r).reverse].filter (fun q => !hasP L q) = [(y :: r).reverse] := by rw [List.filter_eq_self]; intro q hq; rw [List.mem_singleton.1 hq, hh]; decide
      rw [e1]
      refine ⟨(good_append _ _ L).2 ⟨i1, ⟨r.reverse, y, by simp, fun z hz => ho z (by simp at hz; simp [hz]), ho y (by simp), i2⟩, ?_, True.intro⟩, isD_iff.2 ⟨((y :: r).reverse, true, []), ?_, rfl, rfl⟩⟩
      · rw [Bool.eq_false_iff]
        intro h1
        obtain ⟨e, he, hq⟩ := hasP_iff.1 h1
        rcases List.mem_append.1 he with he | he
        · rw [hasP_iff.2 ⟨e, he, hq⟩] at hh; cases hh
        · obtain ⟨q, hq2, rfl⟩ := List.mem_map.1 he
          have := allPre_len r q (List.mem_filter.1 hq2).1
          have := congrArg List.length hq
          simp at this; omega
      · refine List.mem_append_right _ ?_
        simp [asDirs]

/-! ### All of them -/
abbrev EntD := Str × Bool × Str
def preOf (ns : List Str) : List (List Str) := allPre ns.reverse.tail
def stepL (L : List Fent) (e : EntD) : List Fent :=
  if e.1 = [] ∨ hasP L (absL e.1) = true ∨ (preOf (absL e.1)).any (isF L) = true then L
  else L ++ asDirs ((preOf (absL e.1)).filter (fun q => !hasP L q)) ++ [(absL e.1, e.2.1, if e.2.1 then [] else e.2.2)]
def fsOf (l : List EntD) : List Fent := (l.take 200).foldl stepL [([], true, [])]
end Go.Proofs.YteiickhgmmjcmaaGreatDoor.Sx
