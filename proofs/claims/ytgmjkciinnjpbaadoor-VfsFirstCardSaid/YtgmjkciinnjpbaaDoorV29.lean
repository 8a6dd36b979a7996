/-
  What all are makes the same again; the first one wins: plain.
  law00: Files; VfsFirst.
-/
import Derived.Test.YtgmjkciinnjpbaaDoorV12
import Derived.Test.YtgmjkciinnjpbaaDoorV13
import Derived.Test.YtgmjkciinnjpbaaDoorV14
import Derived.Test.YtgmjkciinnjpbaaDoorV25
set_option linter.unusedVariables false
set_option linter.unusedSimpArgs false
set_option maxRecDepth 20000
set_option maxHeartbeats 4000000
namespace Go.Proofs.YtgmjkciinnjpbaaDoor.Sx
open Go Go.Proofs Go.RowKit

theorem stepL_sub {L : List Fent} {e : EntD} {x : Fent} (h : x ∈ L) : x ∈ stepL L e := by
  unfold stepL
  split
  · exact h
  · exact List.mem_append_left _ (List.mem_append_left _ h)
theorem stepL_isF {L : List Fent} {e : EntD} {q : List Str} (h : isF L q = true) : isF (stepL L e) q = true := by
  obtain ⟨x, hx, h1⟩ := isF_iff.1 h
  exact isF_iff.2 ⟨x, stepL_sub hx, h1⟩
theorem stepL_has {L : List Fent} {e : EntD} {q : List Str} (h : hasP L q = true) : hasP (stepL L e) q = true := by
  obtain ⟨x, hx, h1⟩ := hasP_iff.1 h
  exact hasP_iff.2 ⟨x, stepL_sub hx, h1⟩
theorem stepL_count (L : List Fent) (e : EntD) (h : (absL e.1).length ≤ 3) : (stepL L e).length ≤ L.length + 3 := by
  unfold stepL
  split
  · omega
  · rename_i hc
    simp only [List.length_append, asDirs, List.length_map, List.length_singleton]
    have h1 := List.length_filter_le (fun q => !hasP L q) (preOf (absL e.1))
    have h2 : (preOf (absL e.1)).length = (absL e.1).length - 1 := by
      unfold preOf
      rw [allPre_count, List.length_tail, List.length_reverse]
    omega
theorem fold_count : ∀ (l : List EntD) (L : List Fent), (∀ e ∈ l, (absL e.1).length ≤ 3) → (l.foldl stepL L).length ≤ L.length + 3 * l.length
  | [], L, _ => by simp
  | e :: l, L, h => by
    have h1 := stepL_count L e (h e (by simp))
    have h2 := fold_count l (stepL L e) (fun x hx => h x (by simp [hx]))
    rw [List.foldl_cons, List.length_cons]
    omega
theorem fold_ok : ∀ (l : List EntD) {L : List Fent}, FsOk L → FsOk (l.foldl stepL L) := by
  intro l
  induction l with
  | nil => exact fun h => h
  | cons e l ih =>
    intro L h
    refine ih ?_
    by_cases he : e.1 = []
    · unfold stepL; rw [if_pos (.inl he)]; exact h
    · cases hh : hasP L (absL e.1) with
      | true => unfold stepL; rw [if_pos (.inr (.inl hh))]; exact h
      | false =>
        obtain ⟨_, h1, h2⟩ := fs_step h e he hh
        cases hb : (preOf (absL e.1)).any (isF L) with
        | true => rw [(h1 hb).2]; exact h
        | false => obtain ⟨qs, _, _, _, m, _, _, _, h3⟩ := h2 hb; exact h3

/-! ### The same again -/
theorem again_step {L N : List Fent} (h : FsOk L) (hN : FsOk N) (hsub : ∀ x ∈ N, x ∈ L) {e : Fent} (he : e ∈ L) (h0 : e.1 ≠ []) : (∀ x ∈ stepL N (entOf e), x ∈ L) ∧ e ∈ stepL N (entOf e) := by
  have hab : absL (entOf e).1 = e.1 := absL_absT _ (h.ok e he)
  have hne : (entOf e).1 ≠ [] := absT_ne _
  have hpre : ∀ q ∈ preOf e.1, isD L q = true := by
    obtain ⟨ms, x, hq⟩ := snoc_of h0
    have hd := h.par e he ms x hq
    have hp : preOf e.1 = allPre ms.reverse := by unfold preOf; rw [hq]; simp
    rw [hp]
    exact h.pre ms.reverse (by rw [List.reverse_reverse]; exact hd)
  have hin : ∀ x ∈ N, x.1 = e.1 → e ∈ N := by
    intro x hx hq
    rw [← nodup_eq h.nodup (hsub x hx) he hq]
    exact hx
  unfold stepL
  rw [hab]
  by_cases hh : hasP N e.1 = true
  · rw [if_pos (.inr (.inl hh))]
    obtain ⟨x, hx, hq⟩ := hasP_iff.1 hh
    exact ⟨hsub, hin x hx hq⟩
  · have hb : (preOf e.1).any (isF N) = false := by
      rw [List.any_eq_false]
      intro q hq hf
      obtain ⟨x, hx, h1, h2⟩ := isF_iff.1 hf
      have h3 := hpre q hq
      rw [h.fd (isF_iff.2 ⟨x, hsub x hx, h1, h2⟩)] at h3
      cases h3
    rw [if_neg (by rw [hb]; rintro (h1 | h1 | h1); exact hne h1; exact hh h1; cases h1)]
    have hlast : (e.1, (entOf e).2.1, if (entOf e).2.1 then [] else (entOf e).2.2) = e := by
      obtain ⟨q, d, t⟩ := e
      cases d with
      | false => rfl
      | true =>
        have := h.text _ he rfl
        dsimp only at this
        rw [this]
        rfl
    rw [hlast]
    refine ⟨fun x hx => ?_, List.mem_append_right _ (by simp)⟩
    rcases List.mem_append.1 hx with hx | hx
    · rcases List.mem_append.1 hx with hx | hx
      · exact hsub x hx
      · obtain ⟨q, hq, rfl⟩ := List.mem_map.1 hx
        obtain ⟨y, hy, h1, h2⟩ := isD_iff.1 (hpre q (List.mem_filter.1 hq).1)
        have h3 := h.text y hy h2
        obtain ⟨yq, yd, yt⟩ := y
        dsimp only at h1 h2 h3
        rw [← h1, ← h2, ← h3]
        exact hy
    · rw [List.mem_singleton.1 hx]
      exact he
theorem again_fold {L : List Fent} (h : FsOk L) : ∀ (l : List Fent) (N : List Fent), (∀ e ∈ l, e ∈ L ∧ e.1 ≠ []) → FsOk N → (∀ x ∈ N, x ∈ L) → (∀ x ∈ (l.map entOf).foldl stepL N, x ∈ L) ∧ (∀ x ∈ N, x ∈ (l.map entOf).foldl stepL N) ∧ ∀ e ∈ l, e ∈ (l.map entOf).foldl stepL N
  | [], N, _, hN, hsub => ⟨hsub, fun x hx => hx, fun e he => by cases he⟩
  | e :: l, N, hl, hN, hsub => by
    obtain ⟨h1, h2⟩ := hl e (by simp)
    obtain ⟨a1, a2⟩ := again_step h hN hsub h1 h2
    have hN' : FsOk (stepL N (entOf e)) := fold_ok [entOf e] hN
    obtain ⟨b1, b2, b3⟩ := again_fold h l (stepL N (entOf e)) (fun x hx => hl x (by simp [hx])) hN' a1
    rw [List.map_cons, List.foldl_cons]
    refine ⟨b1, fun x hx => b2 x (stepL_sub hx), fun x hx => ?_⟩
    rcases List.mem_cons.1 hx with rfl | hx
    · exact b2 _ a2
    · exact b3 x hx
theorem tail_ne {L : List Fent} (h : FsOk L) : ∀ e ∈ L.tail, e ∈ L ∧ e.1 ≠ [] := by
  obtain ⟨rest, hr⟩ := h.root
  have hnd := h.nodup
  rw [hr, List.map_cons, List.nodup_cons] at hnd
  intro e he
  rw [hr] at he
  exact ⟨by rw [hr]; exact List.mem_cons_of_mem _ he, fun h0 => hnd.1 (List.mem_map.2 ⟨e, he, h0⟩)⟩
theorem ent_inj {L : List Fent} (h : FsOk L) {l m : List Fent} (hl : ∀ e ∈ l, e ∈ L) : ∀ (B : List EntD), B.Perm (l.map entOf) → ∃ l' : List Fent, l'.Perm l ∧ B = l'.map entOf := by
  intro B hB
  obtain ⟨l', h1, h2⟩ : ∃ l' : List Fent, l'.Perm l ∧ l'.map entOf = B := by
    have key : ∀ (A B : List EntD), B.Perm A → ∀ l : List Fent, A = l.map entOf → ∃ l' : List Fent, l'.Perm l ∧ l'.map entOf = B := by
      intro A B hp
      induction hp with
      | nil => intro l hl; exact ⟨l, List.Perm.refl _, hl.symm⟩
      | cons x p ih =>
        intro l hl
        cases l with
        | nil => cases hl
        | cons y l =>
          obtain ⟨rfl, hl2⟩ := List.cons.inj hl
          obtain ⟨l', p1, p2⟩ := ih l hl2
          exact ⟨y :: l', p1.cons y, by rw [List.map_cons, p2]⟩
      | swap x y p =>
        intro l hl
        match l, hl with
        | a :: b :: l, hl =>
          simp only [List.map_cons, List.cons.injEq] at hl
          obtain ⟨rfl, rfl, rfl⟩ := hl
          exact ⟨b :: a :: l, List.Perm.swap _ _ _, rfl⟩
      | trans p q ihp ihq =>
        intro l hl
        obtain ⟨l1, p1, rfl⟩ := ihq l hl
        obtain ⟨l2, p2, e2⟩ := ihp l1 rfl
        exact ⟨l2, p2.trans p1, e2⟩
    exact key _ B hB l rfl
  exact ⟨l', h1, h2.symm⟩
theorem again {L : List Fent} (h : FsOk L) (hlen : L.length ≤ 200) {B : List EntD} (hB : B.Perm (allL L)) : allL (fsOf B) = allL L := by
  have hB2 : B.Perm (L.tail.map entOf) := hB.trans (sortE_perm _)
  obtain ⟨l', hp, rfl⟩ := ent_inj h (m := []) (fun e he => (tail_ne h e he).1) B hB2
  have hl' : l'.length ≤ 200 := by
    rw [hp.length_eq, List.length_tail]
    omega
  have hfs : fsOf (l'.map entOf) = (l'.map entOf).foldl stepL [([], true, [])] := by
    unfold fsOf
    rw [List.take_of_length_le (by rw [List.length_map]; exact hl')]
  obtain ⟨rest, hr⟩ := h.root
  have hroot : (([], true, []) : Fent) ∈ L := by rw [hr]; exact List.mem_cons_self
  obtain ⟨b1, b2, b3⟩ := again_fold h l' [([], true, [])] (fun e he => tail_ne h e (hp.mem_iff.1 he)) fs_init (fun x hx => by rw [List.mem_singleton.1 hx]; exact hroot)
  have hM : FsOk (fsOf (l'.map entOf)) := fsOf_ok _
  rw [← hfs] at b1 b2 b3
  generalize fsOf (l'.map entOf) = M at b1 b2 b3 hM
  have hmem : ∀ x, x ∈ M.tail ↔ x ∈ L.tail := by
    intro x
    constructor
    · intro hx
      obtain ⟨h1, h2⟩ := tail_ne hM x hx
      have h3 := b1 x h1
      rw [hr] at h3 ⊢
      rcases List.mem_cons.1 h3 with rfl | h3
      · exact absurd rfl h2
      · exact h3
    · intro hx
      have h2 := (tail_ne h x hx).2
      have h3 := b3 x (hp.mem_iff.2 hx)
      obtain ⟨rest2, hr2⟩ := hM.root
      rw [hr2] at h3 ⊢
      rcases List.mem_cons.1 h3 with rfl | h3
      · exact absurd rfl h2
      · exact h3
  have nd : ∀ {K : List Fent}, FsOk K → K.tail.Nodup := by
    intro K hK
    have h1 := hK.nodup
    have h2 : K.Nodup := by
      unfold List.Nodup at h1 ⊢
      rw [List.pairwise_map] at h1
      exact h1.imp fun hne e => hne (by rw [e])
    exact h2.sublist (List.tail_sublist K)
  have hperm : M.tail.Perm L.tail := (List.perm_ext_iff_of_nodup (nd hM) (nd h)).2 hmem
  have hkey : ((L.tail.map entOf).map (·.1)).Nodup := by
    have h1 := paths_nodup h
    rw [hr, List.map_cons, List.nodup_cons] at h1
    rw [List.map_map, hr]
    exact h1.2
  unfold allL
  exact sortE_unique hkey ((sortE_perm _).trans (hperm.map entOf)) (sortE_sorted _)
/-- Strictly ascending. -/
theorem allL_lt {L : List Fent} (h : FsOk L) {i : Nat} (hi : i + 1 < (allL L).length) : ((allL L)[i]'(by omega)).1 < ((allL L)[i + 1]'hi).1 := by
  have hs := List.pairwise_iff_getElem.1 (sortE_sorted (L.tail.map entOf)) i (i + 1) (by unfold allL at hi; omega) hi (by omega)
  rw [decide_eq_true_eq] at hs
  by_cases h1 : ((allL L)[i]'(by omega)).1 < ((allL L)[i + 1]'hi).1
  · exact h1
  · exfalso
    replace h1 := List.le_antisymm hs (List.not_lt.1 h1)
    have hkey : ((allL L).map (·.1)).Nodup := by
      obtain ⟨rest, hr⟩ := h.root
      have h2 := paths_nodup h
      rw [hr, List.map_cons, List.nodup_cons] at h2
      have h3 : ((L.tail.map entOf).map (·.1)).Nodup := by rw [List.map_map, hr]; exact h2.2
      exact ((sortE_perm _).map (·.1)).nodup_iff.2 h3
    unfold List.Nodup at hkey
    rw [List.pairwise_map] at hkey
    exact List.pairwise_iff_getElem.1 hkey i (i + 1) (by omega) hi (by omega) h1

/-! ### The first one wins -/
def isE (q : List Str) (e : EntD) : Bool := !e.1.isEmpty && absL e.1 == q
structure FirstInv (m : List EntD) (L : List Fent) : Prop where
  fst : ∀ e ∈ L, e.2.1 = false → ∃ y, m.find? (isE e.1) = some y ∧ y.2.2 = e.2.2
  seen : ∀ y ∈ m, y.1 ≠ [] → hasP L (absL y.1) = true ∨ (preOf (absL y.1)).any (isF L) = true
theorem first_fold : ∀ (n : Nat) (m : List EntD), m.length = n → FirstInv m (m.foldl stepL [([], true, [])])
  | 0, m, hm => by
    obtain rfl := List.eq_nil_of_length_eq_zero hm
    exact ⟨fun e he hd => (by rw [List.mem_singleton.1 he] at hd; cases hd), fun y hy => (by cases hy)⟩
  | n + 1, m, hm => by
    obtain ⟨m, x, rfl⟩ := snoc_of (l := m) (by rintro rfl; cases hm)
    have ih := first_fold n m (by simpa using hm)
    rw [List.foldl_append, List.foldl_cons, List.foldl_nil]
    generalize m.foldl stepL [([], true, [])] = L at ih
    have hmono : ∀ (ns : List Str), (preOf ns).any (isF L) = true → (preOf ns).any (isF (stepL L x)) = true := by
      intro ns h
      rw [List.any_eq_true] at h ⊢
      obtain ⟨q, hq, hf⟩ := h
      exact ⟨q, hq, stepL_isF hf⟩
    constructor
    · intro e he hd
      by_cases heL : e ∈ L
      · obtain ⟨y, hy, hyt⟩ := ih.fst e heL hd
        exact ⟨y, by rw [List.find?_append, hy]; rfl, hyt⟩
      · unfold stepL at he
        split at he
        · exact absurd he heL
        · rename_i hc
          rw [not_or, not_or] at hc
          rcases List.mem_append.1 he with he | he
          · rcases List.mem_append.1 he with he | he
            · exact absurd he heL
            · obtain ⟨q, _, rfl⟩ := List.mem_map.1 he
              cases hd
          · rw [List.mem_singleton.1 he] at hd ⊢
            dsimp only at hd ⊢
            refine ⟨x, ?_, by rw [hd]; rfl⟩
            have hn : m.find? (isE (absL x.1)) = none := by
              rw [List.find?_eq_none]
              intro y hy hye
              unfold isE at hye
              simp only [Bool.and_eq_true, Bool.not_eq_true', List.isEmpty_eq_false_iff, beq_iff_eq] at hye
              rcases ih.seen y hy hye.1 with h1 | h1
              · rw [hye.2] at h1
                exact hc.2.1 h1
              · rw [hye.2] at h1
                exact hc.2.2 h1
            rw [List.find?_append, hn]
            have : isE (absL x.1) x = true := by
              unfold isE
              have := hc.1
              cases hx : x.1 with
              | nil => exact absurd hx this
              | cons a b => simp
            simp [List.find?_cons, this]
    · intro y hy hy0
      rcases List.mem_append.1 hy with hy | hy
      · rcases ih.seen y hy hy0 with h1 | h1
        · exact .inl (stepL_has h1)
        · exact .inr (hmono _ h1)
      · rw [List.mem_singleton.1 hy] at hy0 ⊢
        by_cases h1 : hasP L (absL x.1) = true
        · exact .inl (stepL_has h1)
        · by_cases h2 : (preOf (absL x.1)).any (isF L) = true
          · exact .inr (hmono _ h2)
          · refine .inl (hasP_iff.2 ⟨(absL x.1, x.2.1, if x.2.1 then [] else x.2.2), ?_, rfl⟩)
            unfold stepL
            rw [if_neg (by rintro (h3 | h3 | h3); exact hy0 h3; exact h1 h3; exact h2 h3)]
            exact List.mem_append_right _ (by simp)
theorem find_at {α : Type} {p : α → Bool} : ∀ {l : List α} {i : Nat} (hi : i < l.length), p l[i] = true → (∀ (j : Nat) (hj : j < l.length), j < i → p l[j] = false) → l.find? p = some l[i]
  | x :: l, 0, _, h, _ => by rw [List.find?_cons, show p x = true from h]; rfl
  | x :: l, i + 1, hi, h, hb => by
    have h0 := hb 0 (by simp) (by omega)
    rw [List.find?_cons, show p x = false from h0]
    exact find_at (i := i) (by simpa using hi) h (fun j hj hji => hb (j + 1) (by simpa using hj) (by omega))
/-- The text of what is found is the first one's. -/
theorem first_text {m : List EntD} (hm : m.length ≤ 200) (hne : ∀ e ∈ m, e.1 ≠ []) {i : Nat} (hi : i < m.length) (hok : (lookL (fsOf m) (m[i]).1).2 = true) (hfile : (lookL (fsOf m) (m[i]).1).1.2.1 = false)
    (hbefore : ∀ (j : Nat) (hj : j < m.length), j < i → absP (m[j]).1 ≠ (lookL (fsOf m) (m[i]).1).1.1) : (lookL (fsOf m) (m[i]).1).1.2.2 = (m[i]).2.2 := by
  have hL := fsOf_ok m
  have hinv := first_fold m.length m rfl
  have hfs : fsOf m = m.foldl stepL [([], true, [])] := by unfold fsOf; rw [List.take_of_length_le hm]
  rw [← hfs] at hinv
  generalize fsOf m = L at hL hinv hok hfile hbefore
  have h0 := hne _ (List.getElem_mem hi)
  unfold lookL at hok hfile hbefore ⊢
  rw [if_neg h0] at hok hfile hbefore ⊢
  cases hf : findE L (absL (m[i]).1) with
  | none => rw [hf] at hok; cases hok
  | some e =>
    rw [hf] at hfile hbefore
    obtain ⟨h1, h2⟩ := findE_some hf
    obtain ⟨y, hy, hyt⟩ := hinv.fst e h1 hfile
    have hfi : m.find? (isE e.1) = some m[i] := by
      refine find_at hi ?_ fun j hj hji => ?_
      · unfold isE
        rw [h2]
        cases hx : (m[i]).1 with
        | nil => exact absurd hx h0
        | cons a b => simp
      · unfold isE
        rw [Bool.and_eq_false_iff]
        refine .inr ?_
        rw [beq_eq_false_iff_ne]
        intro he
        apply hbefore j hj hji
        rw [absP_ne (hne _ (List.getElem_mem hj)), he]
        rfl
    rw [hfi] at hy
    rw [Option.some.inj hy]
    exact hyt.symm

def tblP : List Str := [[97, 46, 99], [98, 46, 99], [100, 105, 114, 47, 97, 46, 99], [100, 105, 114, 47, 115, 117, 98, 47, 120, 46, 111], [47, 102, 111, 111], [117, 112, 47, 46, 46, 47, 122], [105, 110, 99, 46, 109, 107], [100, 105, 114], [105, 110, 99, 46, 109, 107, 47, 120], [46, 104, 105, 100, 100, 101, 110]]
def tblX : List Str := [[97, 32, 61, 32, 49, 10], [36, 40, 105, 110, 102, 111, 32, 105, 110, 41, 10, 98, 32, 43, 61, 32, 50, 10], [116, 50, 58, 32, 36, 40, 97, 41, 10, 9, 100, 111, 10], [105, 102, 100, 101, 102, 32, 97, 10, 99, 61, 51, 10, 101, 110, 100, 105, 102, 10]]
def fileK (k : Int) : EntD := (nth (t := .str) tblP (Int.tmod k 10), Int.tmod (IntKind.i64.wrap (Int.tdiv k 10)) 5 == 0, nth (t := .str) tblX (Int.tmod (IntKind.i64.wrap (Int.tdiv k 50)) 4))
def filesF (l : List Int) : List EntD := (l.take 12).map fun v => fileK (v % 1073741824)
theorem tblP_ok : ∀ x ∈ tblP, x ≠ [] ∧ x.length ≤ 20 ∧ (absL x).length ≤ 3 := by decide
theorem nth_tbl {l : List Str} {v : Int} (h0 : 0 ≤ v) (h1 : v < l.length) : (nth (t := .str) l v : Str) ∈ l := by
  have h3 : v.toNat < l.length := by omega
  simp only [nth, List.getD_eq_getElem?_getD, List.getElem?_eq_getElem h3, Option.getD_some]
  exact List.getElem_mem h3
theorem fileK_ok {k : Int} (h0 : 0 ≤ k) : (fileK k).1 ∈ tblP := by
  refine nth_tbl ?_ ?_
  · rw [Int.tmod_eq_emod_of_nonneg h0]; omega
  · rw [Int.tmod_eq_emod_of_nonneg h0]
    show k % 10 < 10
    omega
theorem filesF_ok (l : List Int) : ∀ e ∈ filesF l, e.1 ≠ [] ∧ e.1.length ≤ 20 ∧ (absL e.1).length ≤ 3 := by
  intro e he
  obtain ⟨v, hv, rfl⟩ := List.mem_map.1 he
  exact tblP_ok _ (fileK_ok (Int.emod_nonneg _ (by decide)))
theorem filesF_len (l : List Int) : (filesF l).length ≤ 12 := by
  unfold filesF
  rw [List.length_map, List.length_take]
  omega
theorem c_Files (l : List Int) (hl : ∀ v ∈ l, -9223372036854775808 ≤ v ∧ v ≤ 9223372036854775807) (hll : l.length ≤ 9223372036854775807) : CallV Tryd.prog 19 [.val (.list (.int .i64)) l] (vL eTy (filesF l)) := by
  refine CallV.of Tryd.func19 (by kernel_rfl) rfl Tryd.ntmps19 (by simp) rfl fun cx hB => ?_
  refine Tr.seq ?_; refine Tr.region ?_; refine TrL.quiets 1 rfl (by exact True.intro) ?_; refine TrL.nil ?_; refine Tr.seq ?_; refine Tr.region ?_; refine TrL.quiets 1 rfl (by exact True.intro) ?_; refine TrL.nil ?_
  change Tr _ _ _ _ _ _
  refine Tr.nilRow 3 30 eTy rfl ?_
  refine Tr.seq ?_; refine Tr.seq ?_; refine Tr.region ?_; refine TrL.quiets 1 rfl (by exact True.intro) ?_; refine TrL.nil ?_; refine Tr.block ?_
  refine Tr.loop (fun i : Nat => ⟨[(0, [], .val (.list (.int .i64)) l), (3, [], .own 0), (4, [], vI i)], [.gs 30 eTy ((l.take i).map fun v => fileK (v % 1073741824))]⟩) (fun i => i ≤ l.length ∧ i ≤ 12) (fun i => 12 - i) 0 [0, 3, 4] 1 (fun i h => by have := hB i h; omega) rfl ⟨Nat.zero_le _, Nat.zero_le _⟩ fun i hi => ?_
  obtain ⟨hi, hi2⟩ := hi
  refine Tr.seq ?_; refine Tr.seq ?_; refine Tr.region ?_; refine TrL.quiets 8 rfl (by exact True.intro) ?_; refine TrL.nil ?_
  refine Tr.cond rfl (fun c1 => ?_) (fun c1 => ?_)
  · have hi1 : i < l.length ∧ i < 12 := by
      simp only [Bool.and_eq_true, decide_eq_true_eq] at c1
      omega
    have hnth : nth (t := .int .i64) l (i : Int) = l[i]'hi1.1 := nth_get' (t := .int .i64) _ _ hi1.1
    have hv := hl _ (List.getElem_mem hi1.1)
    refine Tr.skip ?_; refine Tr.seq ?_; refine Tr.block ?_; refine Tr.seq ?_; refine Tr.region ?_; refine TrL.quiets 4 rfl (by (simp only [allOf, impO, imp, inR, loOk, and_true]; omega)) ?_
    refine TrL.is 20 (sv' := vI (l[i]'hi1.1)) rfl (congrArg vI hnth) ?_
    first | refine TrL.callV rfl rfl rfl rfl rfl (c_Place (l[i]'hi1.1) 1073741824 (by decide) (by decide) hv.1 hv.2) ?_ | refine TrD.callV rfl rfl rfl rfl rfl (c_Place (l[i]'hi1.1) 1073741824 (by decide) (by decide) hv.1 hv.2) rfl ?_
    have hk0 : 0 ≤ (l[i]'hi1.1) % 1073741824 := Int.emod_nonneg _ (by decide)
    have hk1 : (l[i]'hi1.1) % 1073741824 < 1073741824 := Int.emod_lt_of_pos _ (by decide)
    have hst : (l.take (i + 1)).map (fun v => fileK (v % 1073741824)) = (l.take i).map (fun v => fileK (v % 1073741824)) ++ [fileK ((l[i]'hi1.1) % 1073741824)] := by
      rw [List.take_succ_eq_append_getElem hi1.1, List.map_append, List.map_singleton]
    have hol : ((l.take i).map fun v => fileK (v % 1073741824)).length ≤ 12 := by
      rw [List.length_map, List.length_take]
      omega
    generalize (l[i]'hi1.1) % 1073741824 = k at hk0 hk1 hst
    have q1 : Int.tmod k 10 = k % 10 := Int.tmod_eq_emod_of_nonneg hk0
    have q2 : IntKind.i64.wrap (Int.tdiv k 50) = k / 50 := by
      rw [Int.tdiv_eq_ediv_of_nonneg hk0, w64 (by omega) (by omega)]
    have q3 : Int.tmod (IntKind.i64.wrap (Int.tdiv k 50)) 4 = k / 50 % 4 := by rw [q2, Int.tmod_eq_emod_of_nonneg (by omega)]
    refine TrL.quiets 1 rfl (by exact True.intro) ?_; refine TrL.nil ?_; refine Tr.seq ?_; refine Tr.region ?_; refine TrL.quiets 5 rfl (by (simp only [allOf, impO, imp, inR, loOk, and_true]; omega)) ?_; refine TrL.nil ?_; refine Tr.region ?_; refine TrL.quiets 12 rfl (by (simp only [allOf, impO, imp, inR, loOk, and_true]; omega)) ?_; refine TrL.eff (effLit_sound rfl) (by exact True.intro) ?_; refine TrL.eff (effAppend_sound rfl) ?_ ?_
    · show ((l.take i).map fun v => fileK (v % 1073741824)).length + 1 ≤ 1099511627776
      omega
    refine TrL.quiets 1 rfl (by exact True.intro) ?_; refine TrL.nil ?_; refine Tr.region ?_; refine TrL.quiets 3 rfl (by exact True.intro) ?_; refine TrL.nil ?_
    refine ⟨i + 1, ⟨hi1.1, hi1.2⟩, by dsimp only; omega, ?_⟩
    refine Eq.trans (b := (⟨[(0, [], .val (.list (.int .i64)) l), (3, [], .own 0), (4, [], vI (IntKind.i64.wrap ((i : Int) + 1)))], [.gs 30 eTy ((l.take i).map (fun v => fileK (v % 1073741824)) ++ [fileK k])]⟩ : St)) rfl ?_
    dsimp only
    rw [hst, w64n (y := i + 1) (by omega) (by omega)]
  · have hi1 : i = l.length ∨ i = 12 := by
      simp only [Bool.and_eq_false_iff, decide_eq_false_iff_not] at c1
      omega
    have hf : filesF l = (l.take i).map fun v => fileK (v % 1073741824) := by
      unfold filesF
      congr 1
      rw [List.take_eq_take_iff]
      omega
    rw [hf]
    refine Tr.exit ?_; refine Tr.seq ?_; refine Tr.region ?_; refine TrL.quiets 2 rfl (by exact True.intro) ?_; refine TrL.nil ?_; refine Tr.ret ?_
    refine retQ.of rfl ?_
    rfl
theorem fold_short : ∀ (l : List EntD) (L : List Fent), (∀ e ∈ l, e.1.length ≤ 20) → (∀ x ∈ L, (absT x.1).length ≤ 100) → ∀ x ∈ l.foldl stepL L, (absT x.1).length ≤ 100
  | [], L, _, h => h
  | e :: l, L, hl, h => by
    refine fold_short l (stepL L e) (fun x hx => hl x (by simp [hx])) ?_
    have he := hl e (by simp)
    have h1 := absL_bound e.1
    have h2 := absT_length (absL e.1)
    have hq := preOf_short (ns := absL e.1) (B := 100) (by omega)
    intro x hx
    unfold stepL at hx
    split at hx
    · exact h x hx
    · rcases List.mem_append.1 hx with hx | hx
      · rcases List.mem_append.1 hx with hx | hx
        · exact h x hx
        · obtain ⟨q, hq2, rfl⟩ := List.mem_map.1 hx
          exact hq q (List.mem_filter.1 hq2).1
      · rw [List.mem_singleton.1 hx]
        dsimp only
        omega
abbrev fT (L : List Fent) : List Ent := nfT (dirsOf L) (filesOf L)
abbrev gT (L : List Fent) (B : List EntD) (M : List Fent) : List Ent := fT L ++ [.gs 30 eTy B, .res (dmRes (dirsOf M)), .res (fmRes (filesOf M)), .box 51 [.mp 4, .mp 5]]
theorem c_VfsFirst (l : List Int) (turn : Int) (hl : ∀ v ∈ l, -9223372036854775808 ≤ v ∧ v ≤ 9223372036854775807) (hll : l.length ≤ 9223372036854775807) (h1 : -9223372036854775808 ≤ turn) (h2 : turn ≤ 9223372036854775807) :
    CallV Tryd.prog 4 [.val (.list (.int .i64)) l, vI turn] (vB true) := by
  refine CallV.of Tryd.func4 (by kernel_rfl) rfl Tryd.ntmps4 (by simp) rfl fun cx hB => ?_
  refine Tr.seq ?_; refine Tr.region ?_; refine TrL.quiets 1 rfl (by exact True.intro) ?_; refine TrL.nil ?_; refine Tr.seq ?_; refine Tr.region ?_; refine TrL.quiets 1 rfl (by exact True.intro) ?_
  first | refine TrL.callV rfl rfl rfl rfl rfl (c_Files l hl hll) ?_ | refine TrD.callV rfl rfl rfl rfl rfl (c_Files l hl hll) rfl ?_
  have hmok := filesF_ok l
  have hmlen := filesF_len l
  generalize filesF l = m at hmok hmlen
  have hok := fsOf_ok m
  have hm1000 : ∀ e ∈ m, e.1.length ≤ 1000 := fun e he => by have := (hmok e he).2.1; omega
  have hlim : FsLim (fsOf m) := fsOf_lim hm1000
  have hLlen : (fsOf m).length ≤ 100 := by
    have := fold_count (m.take 200) [([], true, [])] (fun e he => (hmok e (List.mem_of_mem_take he)).2.2)
    rw [List.length_take] at this
    unfold fsOf
    simp only [List.length_singleton] at this
    omega
  have hshort : ∀ x ∈ fsOf m, (absT x.1).length ≤ 100 := by
    unfold fsOf
    exact fold_short (m.take 200) _ (fun e he => (hmok e (List.mem_of_mem_take he)).2.1) (fun x hx => by rw [List.mem_singleton.1 hx]; decide)
  have hAlen : (allL (fsOf m)).length ≤ 100 := by
    unfold allL
    rw [(sortE_perm _).length_eq, List.length_map, List.length_tail]
    omega
  have hAs : ∀ e ∈ allL (fsOf m), e.1.length ≤ 1000 := by
    intro e he
    obtain ⟨x, hx, rfl⟩ := List.mem_map.1 ((sortE_perm _).mem_iff.1 he)
    have := hshort x (List.mem_of_mem_tail hx)
    show (absT x.1).length ≤ 1000
    omega
  have hfirst : ∀ (i : Nat) (hi : i < m.length), (lookL (fsOf m) (m[i]).1).2 = true → (lookL (fsOf m) (m[i]).1).1.2.1 = false → (∀ (j : Nat) (hj : j < m.length), j < i → absP (m[j]).1 ≠ (lookL (fsOf m) (m[i]).1).1.1) → (lookL (fsOf m) (m[i]).1).1.2.2 = (m[i]).2.2 :=
    fun i hi a b c => first_text (by omega) (fun e he => (hmok e he).1) hi a b c
  have hagain : ∀ {B : List EntD}, B.Perm (allL (fsOf m)) → allL (fsOf B) = allL (fsOf m) := fun hB => again hok (by omega) hB
  have hasc : ∀ {i : Nat} (hi : i + 1 < (allL (fsOf m)).length), ((allL (fsOf m))[i]'(by omega)).1 < ((allL (fsOf m))[i + 1]'hi).1 := fun hi => allL_lt hok hi
  refine TrL.quiets 1 rfl (by exact True.intro) ?_; refine TrL.nil ?_; refine Tr.seq ?_; refine Tr.region ?_; refine TrL.quiets 1 rfl (by exact True.intro) ?_
  refine TrL.callT [] rfl rfl rfl rfl rfl (c_NewL m (by omega) hm1000) rfl rfl rfl ?_
  refine TrL.quiets 1 rfl (by exact True.intro) ?_; refine TrL.nil ?_; refine Tr.seq ?_; refine Tr.seq ?_; refine Tr.region ?_; refine TrL.quiets 2 rfl (by exact True.intro) ?_; refine TrL.nil ?_
  refine Tr.cond rfl (fun c1 => ?_) (fun c1 => ?_)
  · cases c1
  refine Tr.keep [1, 5, 6] 3 (fun i h => by have := hB i h; omega) (st' := ⟨[(1, [], vI turn), (5, [], vL eTy m), (6, [], .ptr 2 0)], fT (fsOf m)⟩) rfl ?_
  refine Tr.skip ?_; refine Tr.seq ?_; refine Tr.region ?_; refine TrL.quiets 1 rfl (by exact True.intro) ?_
  refine TrL.callT [2, 0, 1] rfl rfl rfl rfl rfl (c_AllL hok hlim) rfl rfl rfl ?_
  refine TrL.quiets 1 rfl (by exact True.intro) ?_; refine TrL.nil ?_; refine Tr.seq ?_; refine Tr.region ?_; refine TrL.quiets 1 rfl (by exact True.intro) ?_; refine TrL.nil ?_
  change Tr _ _ _ _ _ _
  refine Tr.keep [1, 5, 6, 7, 8] 3 (fun i h => by have := hB i h; omega) (st' := ⟨[(1, [], vI turn), (5, [], vL eTy m), (6, [], .ptr 2 0), (7, [], vL eTy (allL (fsOf m))), (8, [], vI 0)], fT (fsOf m)⟩) rfl ?_
  refine Tr.join (α := Nat) (fun k => ⟨[(5, [], vL eTy m), (6, [], .ptr 2 0), (7, [], vL eTy (allL (fsOf m))), (8, [], vI k)], fT (fsOf m)⟩) (fun k => k ≤ (allL (fsOf m)).length) [5, 6, 7, 8] 3 (fun i h => by have := hB i h; omega) ?_ fun k hk => ?_
  · refine Tr.seq ?_; refine Tr.region ?_; refine TrL.quiets 3 rfl (by exact True.intro) ?_; refine TrL.nil ?_
    refine Tr.cond rfl (fun c2 => ?_) (fun c2 => ?_)
    · have hpos : 0 < (allL (fsOf m)).length := by
        have : ((allL (fsOf m)).length : Int) > 0 := by simpa using c2
        omega
      have hp0 : 0 ≤ turn % ((allL (fsOf m)).length : Int) := Int.emod_nonneg _ (by omega)
      have hp1 : turn % ((allL (fsOf m)).length : Int) < ((allL (fsOf m)).length : Int) := Int.emod_lt_of_pos _ (by omega)
      refine Tr.region ?_; refine TrL.quiets 3 rfl (by exact True.intro) ?_
      first | refine TrL.callV rfl rfl rfl rfl rfl (c_Place turn ((allL (fsOf m)).length : Int) (by omega) (by omega) h1 h2) ?_ | refine TrD.callV rfl rfl rfl rfl rfl (c_Place turn ((allL (fsOf m)).length : Int) (by omega) (by omega) h1 h2) rfl ?_
      refine TrL.quiets 1 rfl (by exact True.intro) ?_; refine TrL.nil ?_
      obtain ⟨k, hk⟩ := Int.eq_ofNat_of_zero_le hp0
      rw [hk]
      exact ⟨k, by omega, rfl⟩
    · refine Tr.skip ?_
      exact ⟨0, Nat.zero_le _, rfl⟩
  have hBp : ((allL (fsOf m)).drop k ++ (allL (fsOf m)).take k).Perm (allL (fsOf m)) := by
    refine List.perm_append_comm.trans ?_
    rw [List.take_append_drop]
  have hMall := hagain hBp
  have hBs : ∀ e ∈ (allL (fsOf m)).drop k ++ (allL (fsOf m)).take k, e.1.length ≤ 1000 := fun e he => hAs e (hBp.mem_iff.1 he)
  have hBl : ((allL (fsOf m)).drop k ++ (allL (fsOf m)).take k).length ≤ 100 := by rw [hBp.length_eq]; exact hAlen
  have hk1 : cut (allL (fsOf m)) (some (k : Int)) none = (allL (fsOf m)).drop k := by simp only [cut, Int.toNat_natCast]
  have hk2 : cut (allL (fsOf m)) none (some (k : Int)) = (allL (fsOf m)).take k := by simp only [cut, Int.toNat_natCast]
  have hnew := c_NewL ((allL (fsOf m)).drop k ++ (allL (fsOf m)).take k) (by omega) hBs
  have hMok := fsOf_ok ((allL (fsOf m)).drop k ++ (allL (fsOf m)).take k)
  have hMlim : FsLim (fsOf ((allL (fsOf m)).drop k ++ (allL (fsOf m)).take k)) := fsOf_lim hBs
  generalize fsOf ((allL (fsOf m)).drop k ++ (allL (fsOf m)).take k) = M at hnew hMok hMlim hMall
  rw [← hk1, ← hk2] at hnew hBl
  generalize hBe : cut (allL (fsOf m)) (some (k : Int)) none = B1 at hnew hBl
  generalize hBe2 : cut (allL (fsOf m)) none (some (k : Int)) = B2 at hnew hBl
  rw [List.length_append] at hBl
  refine Tr.seq ?_
  refine Tr.drawA 10 rfl (by kernel_rfl) ?_
  refine TrA.take 0 rfl rfl (by kernel_rfl) rfl (by exact True.intro) ?_; refine TrA.take 1 rfl rfl (by kernel_rfl) rfl (by exact True.intro) ?_; refine TrA.take 2 rfl rfl (by kernel_rfl) rfl (by (simp (disch := omega) only [holds, impO, imp, loOk, w64, Option.getD_none, Option.getD_some, and_true, true_and]; omega)) ?_; refine TrA.take 4 rfl rfl (by kernel_rfl) rfl (by exact True.intro) ?_; refine TrA.take 5 rfl rfl (by kernel_rfl) rfl (by exact True.intro) ?_; refine TrA.take 6 rfl rfl (by kernel_rfl) rfl (by (simp (disch := omega) only [holds, impO, imp, loOk, w64, Option.getD_none, Option.getD_some, and_true, true_and]; omega)) ?_; refine TrA.one 3 (by kernel_rfl) rfl ?_; refine TrL.eff (effAppend_sound rfl) ?_ ?_
  · rw [hBe]
    show B1.length ≤ 1099511627776
    omega
  refine TrL.nil ?_; refine TrA.one 7 (by kernel_rfl) rfl ?_; refine TrL.eff (effAppend_sound rfl) ?_ ?_
  · rw [hBe, hBe2]
    show B1.length + B2.length ≤ 1099511627776
    omega
  refine TrL.nil ?_; refine TrA.one 8 (by kernel_rfl) rfl ?_
  rw [hBe, hBe2]
  refine TrL.callT [] rfl rfl rfl rfl rfl hnew rfl rfl rfl ?_
  refine TrL.nil ?_; refine TrA.take 9 rfl rfl (by kernel_rfl) rfl (by exact True.intro) ?_; refine TrA.done (by kernel_rfl) ?_
  change Tr _ _ _ _ _ _
  refine Tr.keep [5, 6, 7, 9] 7 (fun i h => by have := hB i h; omega) (st' := ⟨[(5, [], vL eTy m), (6, [], .ptr 2 0), (7, [], vL eTy (allL (fsOf m))), (9, [], .ptr 6 0)], gT (fsOf m) (B1 ++ B2) M⟩) rfl ?_
  refine Tr.seq ?_; refine Tr.seq ?_; refine Tr.region ?_; refine TrL.quiets 5 rfl (by exact True.intro) ?_
  refine TrL.known 44 rfl rfl ?_
  refine TrL.want rfl rfl rfl ?_
  refine TrL.callT [] rfl rfl rfl rfl rfl (c_refNew m (by omega) hm1000) rfl rfl rfl ?_
  refine TrL.want rfl rfl rfl ?_
  refine TrL.callT [8, 7] rfl rfl rfl rfl rfl (c_refAll hok hlim) rfl rfl rfl ?_
  refine TrL.known 43 rfl rfl ?_
  refine TrL.keep [5, 6, 7, 9, 42, 43, 46] 7 (fun i h => by have := hB i h; omega) (st' := ⟨[(5, [], vL eTy m), (6, [], .ptr 2 0), (7, [], vL eTy (allL (fsOf m))), (9, [], .ptr 6 0), (42, [], vB false), (43, [], vL eTy (allL (fsOf m))), (46, [], vL eTy (allL (fsOf m)))], gT (fsOf m) (B1 ++ B2) M⟩) rfl ?_
  refine TrL.want rfl rfl rfl ?_
  first | refine TrL.callV rfl rfl rfl rfl rfl (c_Same6 (allL (fsOf m)) (allL (fsOf m)) (by omega)) ?_ | refine TrD.callV rfl rfl rfl rfl rfl (c_Same6 (allL (fsOf m)) (allL (fsOf m)) (by omega)) rfl ?_
  refine TrL.quiets 2 rfl (by exact True.intro) ?_; refine TrL.nil ?_
  refine Tr.cond rfl (fun c3 => ?_) (fun c3 => ?_)
  · simp at c3
  refine Tr.keep [5, 6, 7, 9] 7 (fun i h => by have := hB i h; omega) (st' := ⟨[(5, [], vL eTy m), (6, [], .ptr 2 0), (7, [], vL eTy (allL (fsOf m))), (9, [], .ptr 6 0)], gT (fsOf m) (B1 ++ B2) M⟩) rfl ?_
  refine Tr.skip ?_; refine Tr.seq ?_; refine Tr.seq ?_; refine Tr.region ?_; refine TrL.quiets 1 rfl (by exact True.intro) ?_; refine TrL.nil ?_; refine Tr.block ?_
  refine Tr.loop (fun i : Nat => ⟨[(5, [], vL eTy m), (6, [], .ptr 2 0), (7, [], vL eTy (allL (fsOf m))), (9, [], .ptr 6 0), (10, [], vI i)], gT (fsOf m) (B1 ++ B2) M⟩) (fun i => 1 ≤ i ∧ (i ≤ (allL (fsOf m)).length ∨ i = 1)) (fun i => (allL (fsOf m)).length - i) 1 [5, 6, 7, 9, 10] 7 (fun i h => by have := hB i h; omega) rfl ⟨Nat.le_refl _, .inr rfl⟩ fun i hi => ?_
  obtain ⟨hi0, hi⟩ := hi
  refine Tr.seq ?_; refine Tr.seq ?_; refine Tr.region ?_; refine TrL.quiets 4 rfl (by exact True.intro) ?_; refine TrL.nil ?_
  refine Tr.cond rfl (fun c4 => ?_) (fun c4 => ?_)
  · have hi1 : i < (allL (fsOf m)).length := by simpa using c4
    have ew : IntKind.i64.wrap ((i : Int) - 1) = ((i - 1 : Nat) : Int) := by rw [w64 (by omega) (by omega)]; omega
    have n1 : nth (t := eTy) (allL (fsOf m)) (IntKind.i64.wrap ((i : Int) - 1)) = (allL (fsOf m))[i - 1]'(by omega) := by rw [ew]; exact nth_get' (t := eTy) _ _ (by omega)
    have n2 : nth (t := eTy) (allL (fsOf m)) (i : Int) = (allL (fsOf m))[i] := nth_get' (t := eTy) _ _ hi1
    have hlt : ((allL (fsOf m))[i - 1]'(by omega)).1 < ((allL (fsOf m))[i]).1 := by
      obtain ⟨j, rfl⟩ : ∃ j, i = j + 1 := ⟨i - 1, by omega⟩
      exact hasc hi1
    refine Tr.skip ?_; refine Tr.seq ?_; refine Tr.block ?_; refine Tr.seq ?_; refine Tr.draw (by kernel_rfl) (by kernel_rfl) ?_; refine TrD.quiets 12 rfl (by (simp only [allOf, impO, imp, inR, loOk, and_true]; omega)) ?_; refine TrD.nil ?_
    refine Tr.cond rfl (fun c5 => ?_) (fun c5 => ?_)
    · exfalso
      rw [n1, n2] at c5
      simp only [bytesLess_eq, Bool.not_eq_true', decide_eq_false_iff_not] at c5
      exact c5 hlt
    refine Tr.skip ?_; refine Tr.region ?_; refine TrL.quiets 3 rfl (by exact True.intro) ?_; refine TrL.nil ?_
    refine ⟨i + 1, ⟨by omega, .inl hi1⟩, by dsimp only; omega, ?_⟩
    refine Eq.trans (b := (⟨[(5, [], vL eTy m), (6, [], .ptr 2 0), (7, [], vL eTy (allL (fsOf m))), (9, [], .ptr 6 0), (10, [], vI (IntKind.i64.wrap ((i : Int) + 1)))], gT (fsOf m) (B1 ++ B2) M⟩ : St)) rfl ?_
    dsimp only
    rw [w64n (y := i + 1) (by omega) (by omega)]
  refine Tr.exit ?_; refine Tr.seq ?_; refine Tr.seq ?_; refine Tr.region ?_; refine TrL.quiets 1 rfl (by exact True.intro) ?_; refine TrL.nil ?_; refine Tr.block ?_
  refine Tr.loop (fun i : Nat => ⟨[(5, [], vL eTy m), (6, [], .ptr 2 0), (7, [], vL eTy (allL (fsOf m))), (9, [], .ptr 6 0), (11, [], vI i)], gT (fsOf m) (B1 ++ B2) M⟩) (fun i => i ≤ m.length) (fun i => m.length - i) 0 [5, 6, 7, 9, 11] 7 (fun i h => by have := hB i h; omega) rfl (Nat.zero_le _) fun i hi => ?_
  refine Tr.seq ?_; refine Tr.seq ?_; refine Tr.region ?_; refine TrL.quiets 4 rfl (by exact True.intro) ?_; refine TrL.nil ?_
  refine Tr.cond rfl (fun c6 => ?_) (fun c6 => ?_)
  · have hi1 : i < m.length := by simpa using c6
    have hnth : nth (t := eTy) m (i : Int) = m[i] := nth_get' (t := eTy) _ _ hi1
    have hpi := (hmok _ (List.getElem_mem hi1)).2.1
    have hfi := hfirst i hi1
    refine Tr.skip ?_; refine Tr.seq ?_; refine Tr.block ?_; refine Tr.seq ?_; refine Tr.region ?_; refine TrL.quiets 6 rfl (by (simp only [allOf, impO, imp, inR, loOk, and_true]; omega)) ?_
    refine TrL.is 80 (sv' := vS (m[i]).1) rfl (by rw [hnth]) ?_
    refine TrL.callT [2, 0, 1] rfl rfl rfl rfl rfl (c_LookL hok (m[i]).1 (by omega)) rfl rfl rfl ?_
    refine TrL.quiets 3 rfl (by exact True.intro) ?_; refine TrL.eff (effBox_sound rfl) (by exact True.intro) ?_; refine TrL.eff (effStore_sound rfl) (by exact True.intro) ?_; refine TrL.quiets 1 rfl (by exact True.intro) ?_; refine TrL.nil ?_
    change Tr _ _ _ _ _ _
    generalize hr : lookL (fsOf m) (m[i]).1 = r at hfi
    obtain ⟨⟨ep, ed, et⟩, ok⟩ := r
    dsimp only at hfi
    refine Tr.keep [5, 6, 7, 9, 11, 12, 13] 8 (fun i h => by have := hB i h; omega) (st' := ⟨[(5, [], vL eTy m), (6, [], .ptr 2 0), (7, [], vL eTy (allL (fsOf m))), (9, [], .ptr 6 0), (11, [], vI i), (12, [], .ptr 7 0), (13, [], vB ok)], gT (fsOf m) (B1 ++ B2) M ++ [.box 30 [vS ep, vB ed, vS et]]⟩) rfl ?_
    have hcA := c_refAbs (nth (t := eTy) m (i : Int)).1 (by rw [hnth]; omega)
    refine Tr.seq ?_; refine Tr.draw (by kernel_rfl) (by kernel_rfl) ?_; refine TrD.quiets 9 rfl (by (simp only [allOf, impO, imp, inR, loOk, and_true]; omega)) ?_
    first | refine TrL.callV rfl rfl rfl rfl rfl hcA ?_ | refine TrD.callV rfl rfl rfl rfl rfl hcA rfl ?_
    refine TrD.quiets 3 rfl (by exact True.intro) ?_; refine TrD.nil ?_; refine Tr.seq ?_; refine Tr.seq ?_; refine Tr.region ?_; refine TrL.quiets 1 rfl (by exact True.intro) ?_; refine TrL.nil ?_
    change Tr _ _ _ _ _ _
    refine Tr.keep [5, 6, 7, 9, 11, 12, 14, 15] 8 (fun i h => by have := hB i h; omega) (st' := ⟨[(5, [], vL eTy m), (6, [], .ptr 2 0), (7, [], vL eTy (allL (fsOf m))), (9, [], .ptr 6 0), (11, [], vI i), (12, [], .ptr 7 0), (14, [], vB (ok && ep == absP (nth (t := eTy) m (i : Int)).1)), (15, [], vI 0)], gT (fsOf m) (B1 ++ B2) M ++ [.box 30 [vS ep, vB ed, vS et]]⟩) rfl ?_
    rw [hnth]
    refine Tr.block ?_
    refine Tr.loop (fun x : Nat × Bool => ⟨[(5, [], vL eTy m), (6, [], .ptr 2 0), (7, [], vL eTy (allL (fsOf m))), (9, [], .ptr 6 0), (11, [], vI i), (12, [], .ptr 7 0), (14, [], vB x.2), (15, [], vI x.1)], gT (fsOf m) (B1 ++ B2) M ++ [.box 30 [vS ep, vB ed, vS et]]⟩) (fun x => x.1 ≤ i ∧ (x.2 = true → ok = true ∧ ∀ (j : Nat) (hj : j < m.length), j < x.1 → absP (m[j]).1 ≠ ep)) (fun x => i - x.1) (0, ok && ep == absP (m[i]).1) [5, 6, 7, 9, 11, 12, 14, 15] 8 (fun i h => by have := hB i h; omega) rfl ⟨Nat.zero_le _, fun h => ⟨by simp at h; exact h.1, fun j hj h0 => absurd h0 (Nat.not_lt_zero _)⟩⟩ ?_
    rintro ⟨j, b⟩ ⟨hji, hb⟩
    dsimp only at hji hb
    refine Tr.seq ?_; refine Tr.seq ?_; refine Tr.region ?_; refine TrL.quiets 6 rfl (by exact True.intro) ?_; refine TrL.nil ?_
    refine Tr.cond rfl (fun c7 => ?_) (fun c7 => ?_)
    · have hj1 : j < i ∧ b = true := by
        simp only [Bool.and_eq_true, decide_eq_true_eq] at c7
        exact ⟨by omega, c7.2⟩
      obtain ⟨b1, b2⟩ := hb hj1.2
      have hjm : j < m.length := by omega
      have hnj : nth (t := eTy) m (j : Int) = m[j] := nth_get' (t := eTy) _ _ hjm
      have hpj := (hmok _ (List.getElem_mem hjm)).2.1
      have hcB := c_refAbs (nth (t := eTy) m (j : Int)).1 (by rw [hnj]; omega)
      refine Tr.skip ?_; refine Tr.seq ?_; refine Tr.block ?_; refine Tr.draw (by kernel_rfl) (by kernel_rfl) ?_; refine TrD.quiets 5 rfl (by (simp only [allOf, impO, imp, inR, loOk, and_true]; omega)) ?_
      first | refine TrL.callV rfl rfl rfl rfl rfl hcB ?_ | refine TrD.callV rfl rfl rfl rfl rfl hcB rfl ?_
      refine TrD.quiets 4 rfl (by exact True.intro) ?_; refine TrD.nil ?_; refine Tr.region ?_; refine TrL.quiets 3 rfl (by exact True.intro) ?_; refine TrL.nil ?_
      refine ⟨(j + 1, absP (nth (t := eTy) m (j : Int)).1 != ep), ⟨hj1.1, fun h => ⟨b1, fun j' hj' hlt => ?_⟩⟩, by dsimp only; omega, ?_⟩
      · rw [hnj] at h
        by_cases hjj : j' = j
        · subst hjj
          simpa using h
        · exact b2 j' hj' (by omega)
      · refine Eq.trans (b := (⟨[(5, [], vL eTy m), (6, [], .ptr 2 0), (7, [], vL eTy (allL (fsOf m))), (9, [], .ptr 6 0), (11, [], vI i), (12, [], .ptr 7 0), (14, [], vB (absP (nth (t := eTy) m (j : Int)).1 != ep)), (15, [], vI (IntKind.i64.wrap ((j : Int) + 1)))], gT (fsOf m) (B1 ++ B2) M ++ [.box 30 [vS ep, vB ed, vS et]]⟩ : St)) rfl ?_
        dsimp only
        rw [w64n (y := j + 1) (by omega) (by omega)]
    have hend : b = true → j = i := by
      intro h
      subst h
      simp only [Bool.and_true, decide_eq_false_iff_not] at c7
      omega
    refine Tr.exit ?_; refine Tr.seq ?_; refine Tr.draw (by kernel_rfl) (by kernel_rfl) ?_; refine TrD.quiets 16 rfl (by (simp only [allOf, impO, imp, inR, loOk, and_true]; omega)) ?_; refine TrD.nil ?_
    refine Tr.cond rfl (fun c8 => ?_) (fun c8 => ?_)
    · exfalso
      rw [hnth] at c8
      simp only [Bool.and_eq_true, Bool.not_eq_true', bne_iff_ne] at c8
      obtain ⟨⟨c9, c10⟩, c11⟩ := c8
      obtain ⟨b1, b2⟩ := hb c9
      have c12 := hfi b1 c10 (by rw [← hend c9]; exact b2)
      rw [c12] at c11
      simp at c11
    refine Tr.skip ?_; refine Tr.region ?_; refine TrL.quiets 3 rfl (by exact True.intro) ?_; refine TrL.nil ?_
    refine ⟨i + 1, hi1, by dsimp only; omega, ?_⟩
    refine Eq.trans (b := (⟨[(5, [], vL eTy m), (6, [], .ptr 2 0), (7, [], vL eTy (allL (fsOf m))), (9, [], .ptr 6 0), (11, [], vI (IntKind.i64.wrap ((i : Int) + 1)))], gT (fsOf m) (B1 ++ B2) M⟩ : St)) rfl ?_
    dsimp only
    rw [w64n (y := i + 1) (by omega) (by omega)]
  refine Tr.exit ?_; refine Tr.seq ?_; refine Tr.region ?_; refine TrL.quiets 1 rfl (by exact True.intro) ?_
  refine TrL.callT [6, 4, 5] rfl rfl rfl rfl rfl (c_AllL hMok hMlim) rfl rfl rfl ?_
  rw [hMall]
  refine TrL.quiets 1 rfl (by exact True.intro) ?_
  first | refine TrL.callV rfl rfl rfl rfl rfl (c_Same6 (allL (fsOf m)) (allL (fsOf m)) (by omega)) ?_ | refine TrD.callV rfl rfl rfl rfl rfl (c_Same6 (allL (fsOf m)) (allL (fsOf m)) (by omega)) rfl ?_
  refine TrL.quiets 1 rfl (by exact True.intro) ?_
  refine TrL.is 133 (sv' := vB true) rfl (by simp) ?_
  refine TrL.want rfl rfl rfl ?_
  first | refine TrL.callV rfl rfl rfl rfl rfl c_awake ?_ | refine TrD.callV rfl rfl rfl rfl rfl c_awake rfl ?_
  refine TrL.quiets 2 rfl (by exact True.intro) ?_; refine TrL.nil ?_; refine Tr.ret ?_
  refine retQ.of rfl ?_
  rfl
end Go.Proofs.YtgmjkciinnjpbaaDoor.Sx
