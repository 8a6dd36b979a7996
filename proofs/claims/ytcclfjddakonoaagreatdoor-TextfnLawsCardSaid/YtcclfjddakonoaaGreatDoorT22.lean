/-
  TextfnLaws, plain.
  TextfnLaws.
-/
import Derived.Test.YtcclfjddakonoaaGreatDoorT19
set_option linter.unusedVariables false
set_option linter.unusedSimpArgs false
set_option maxRecDepth 20000
set_option maxHeartbeats 4000000
namespace Go.Proofs.YtcclfjddakonoaaGreatDoor.Sx
open Go Go.Proofs Go.RowKit

theorem spl_cut (c : UInt8) (hc : isBlank c = true) (y : Str) : ∀ (x acc : Str), spl acc (x ++ c :: y) = spl acc x ++ spl [] y := by
  intro x
  induction x with
  | nil =>
    intro acc
    simp only [List.nil_append, spl, hc, if_true]
    split <;> simp
  | cons d x ih =>
    intro acc
    simp only [List.cons_append, spl]
    split
    · split
      · exact ih []
      · rw [ih []]; rfl
    · exact ih _
/-- Bytes that are no blanks, one at least. -/
structure Word (w : Str) : Prop where
  ne : w ≠ []
  no : ∀ c ∈ w, isBlank c = false
theorem Word.tw {w : Str} (h : Word w) : w.takeWhile (fun c => !isBlank c) = w := by
  have : ∀ l : Str, (∀ c ∈ l, isBlank c = false) → l.takeWhile (fun c => !isBlank c) = l := by
    intro l
    induction l with
    | nil => intro _; rfl
    | cons c l ih => intro h; simp [List.takeWhile_cons, h c (by simp), ih (fun d hd => h d (by simp [hd]))]
  exact this w h.no
theorem Word.split {w : Str} (h : Word w) : splitW w = [w] := by
  have hd : w.dropWhile (fun c => !isBlank c) = [] := by
    have := List.takeWhile_append_dropWhile (p := fun c => !isBlank c) (l := w)
    rw [h.tw] at this
    exact List.append_cancel_left (this.trans (List.append_nil w).symm)
  simp only [splitW]
  rw [spl_word w [] (by rw [h.tw]; simpa using h.ne), h.tw, hd]
  rfl
structure Gap (g : Str) : Prop where
  ne : g ≠ []
  all : ∀ c ∈ g, isBlank c = true
theorem splitW_blank {g : Str} (h : ∀ c ∈ g, isBlank c = true) (s : Str) : splitW (g ++ s) = splitW s := by
  simp only [splitW]
  rw [← spl_left (g ++ s), ← spl_left s]
  congr 1
  induction g with
  | nil => rfl
  | cons c g ih =>
    have hc := h c (by simp)
    simp only [left, List.cons_append, List.dropWhile_cons, hc, if_true]
    exact ih (fun d hd => h d (by simp [hd]))
theorem splitW_gap {g : Str} (h : Gap g) (x s : Str) : splitW (x ++ g ++ s) = splitW x ++ splitW s := by
  cases g with
  | nil => exact absurd rfl h.ne
  | cons c g =>
    have := spl_cut c (h.all c (by simp)) (g ++ s) x []
    simp only [splitW, List.append_assoc, List.cons_append]
    rw [this]
    congr 1
    exact splitW_blank (fun d hd => h.all d (by simp [hd])) s
theorem splitW_snoc {g w : Str} (hg : Gap g) (hw : Word w) (s : Str) : splitW (s ++ g ++ w) = splitW s ++ [w] := by rw [splitW_gap hg, hw.split]
theorem splitW_joinW : ∀ (l : List Str), (∀ w ∈ l, Word w) → splitW (joinW l) = l
  | [], _ => rfl
  | [a], h => (h a (by simp)).split
  | a :: b :: l, h => by
    have e : joinW (a :: b :: l) = a ++ [32] ++ joinW (b :: l) := by simp [joinW]
    rw [e, splitW_gap ⟨by simp, by simp [isBlank]⟩, (h a (by simp)).split, splitW_joinW (b :: l) (fun w hw => h w (by simp [hw]))]
    rfl
theorem spl_words : ∀ (s acc : Str), (∀ c ∈ acc, isBlank c = false) → ∀ w ∈ spl acc s, Word w := by
  intro s
  induction s with
  | nil =>
    intro acc h w hw
    simp only [spl] at hw
    split at hw
    · cases hw
    · rename_i hn
      rw [List.mem_singleton.1 hw]
      exact ⟨hn, h⟩
  | cons c s ih =>
    intro acc h w hw
    simp only [spl] at hw
    split at hw
    · split at hw
      · exact ih [] (by simp) w hw
      · rename_i hn
        rcases List.mem_cons.1 hw with rfl | hw
        · exact ⟨hn, h⟩
        · exact ih [] (by simp) w hw
    · rename_i hb
      refine ih (acc ++ [c]) (fun d hd => ?_) w hw
      rcases List.mem_append.1 hd with hd | hd
      · exact h d hd
      · rw [List.mem_singleton.1 hd]
        simpa using hb
theorem splitW_words (s : Str) : ∀ w ∈ splitW s, Word w := spl_words s [] (by simp)
theorem split_join_split (s : Str) : splitW (joinW (splitW s)) = splitW s := splitW_joinW _ (splitW_words s)

/-! ### The laws -/
theorem law_sort (x : Str) : sortWF (sortWF x) = sortWF x := by
  have hw : ∀ w ∈ sortF (splitW x), Word w := fun w hw => splitW_words x w (sortF_mem hw)
  have e : splitW (sortWF x) = sortF (splitW x) := splitW_joinW _ hw
  have h : sortF (sortF (splitW x)) = sortF (splitW x) := by
    generalize splitW x = l
    obtain ⟨h3, h4, h5⟩ := cmp_facts (sortS_sorted l)
    have e1 : sortS (sortF l) = sortF l := (sortS_unique (List.Perm.refl _) h3).symm
    obtain ⟨h6, h7, h8⟩ := cmp_facts (show Asc (sortF l) from h3)
    have hp : (cmpS (sortF l)).Perm (sortF l) := (List.perm_ext_iff_of_nodup h7 h4).2 h8
    have e2 := sortS_unique hp h6
    show cmpS (sortS (sortF l)) = sortF l
    rw [e1, e2, e1]
  unfold sortWF at e ⊢
  rw [e, h]
theorem filter_both (P : List PatD) : ∀ l : List Str, (l.filter (soF P false)).length + (l.filter (soF P true)).length = l.length
  | [] => rfl
  | w :: l => by
    have ih := filter_both P l
    have h : soF P true w = !soF P false w := by
      unfold soF
      cases (P.any fun p => (matchF p w).2) <;> rfl
    cases h1 : soF P false w with
    | true =>
      rw [h1] at h
      rw [List.filter_cons_of_pos h1, List.filter_cons_of_neg (by rw [h]; decide), List.length_cons, List.length_cons]
      omega
    | false =>
      rw [h1] at h
      rw [List.filter_cons_of_neg (by rw [h1]; decide), List.filter_cons_of_pos h, List.length_cons, List.length_cons]
      omega
theorem law_filter (x y : Str) : (splitW (filtF y x false)).length + (splitW (filtF y x true)).length = (splitW x).length := by
  have h : ∀ out, splitW (filtF y x out) = filterF (splitW y) (splitW x) out := fun out => splitW_joinW _ fun w hw => splitW_words x w (List.mem_filter.1 hw).1
  rw [h, h]
  exact filter_both _ _
theorem law_strip (x : Str) : strip x = sufF [] x := by
  unfold strip sufF eachF
  simp
theorem word_pre {w : Str} (h : Word w) : Word ([112] ++ w) := ⟨by simp, fun c hc => by
  rcases List.mem_cons.1 hc with rfl | hc
  · decide
  · exact h.no c hc⟩
theorem word_suf {w : Str} (h : Word w) : Word (w ++ [115]) := ⟨by simp, fun c hc => by
  rcases List.mem_append.1 hc with hc | hc
  · exact h.no c hc
  · rw [List.mem_singleton.1 hc]; decide⟩
theorem law_join (x : Str) : joinF (preF [112] x) (sufF [115] x) = joinF (preF [112] (sufF [] x)) (preF [] (sufF [115] x)) := by
  have e1 : preF [112] (sufF [] x) = preF [112] x := by
    rw [← law_strip]
    unfold preF strip
    rw [split_join_split]
  have e2 : preF [] (sufF [115] x) = sufF [115] x := by
    have hs : splitW (sufF [115] x) = eachF (splitW x) [] [115] := splitW_joinW _ fun w hw => by
      obtain ⟨v, hv, rfl⟩ := List.mem_map.1 hw
      exact word_suf (splitW_words x v hv)
    unfold preF
    rw [hs]
    unfold sufF eachF
    simp [Function.comp_def]
  rw [e1, e2]
theorem repR_one (a b : UInt8) : ∀ s : Str, repR [a] [b] s = s.map fun c => if c = a then b else c
  | [] => repR_nil [b] (by simp)
  | c :: s => by
    have ih := repR_one a b s
    by_cases h : c = a
    · subst h
      rw [repR_hit [b] (by simp) (by simp [List.isPrefixOf])]
      simp [ih]
    · rw [repR_skip [b] (by simp) (by simp [List.isPrefixOf, Ne.symm h]), ih]
      simp [h]
theorem law_back (x : Str) (h : (113 : UInt8) ∉ x) : substF [113] [97] (substF [97] [113] x) = x := by
  unfold substF
  rw [if_neg (by simp), if_neg (by simp), replaceAll_rep _ _ (by simp), replaceAll_rep _ _ (by simp), repR_one, repR_one, List.map_map]
  refine (List.map_congr_left fun c hc => ?_).trans (List.map_id x)
  simp only [Function.comp_apply, id]
  by_cases h1 : c = 97
  · simp [h1]
  · have h2 : c ≠ 113 := fun e => h (e ▸ hc)
    simp [h1, h2]
theorem law_find (x : Str) : findF [] x = [] := by unfold findF; split <;> rfl
theorem law_first (z : Str) : firstF z = firstF (strip z) := by
  rw [firstF_is, firstF_is]
  unfold strip
  rw [split_join_split]
theorem no_q (ns : List Int) : (113 : UInt8) ∉ wordsL ns := by
  have hw : ∀ w ∈ tblWord, (113 : UInt8) ∉ w := by decide
  have hg : ∀ w ∈ tblGap, (113 : UInt8) ∉ w := by decide
  have key : ∀ (l : List Int) (f : Bool), (113 : UInt8) ∉ wordsFrom f l := by
    intro l
    induction l with
    | nil => intro f; simp [wordsFrom]
    | cons v r ih =>
      intro f
      simp only [wordsFrom, List.mem_append, not_or]
      refine ⟨⟨?_, hw _ (word_mem v)⟩, ih false⟩
      split
      · simp
      · exact hg _ (gapW_mem v)
  exact key _ _

/-! ### How long they are -/
def sumT (l : List Str) : Nat := (l.map List.length).sum
theorem joinW_sum : ∀ l : List Str, (joinW l).length ≤ sumT l + l.length ∧ sumT l ≤ (joinW l).length
  | [] => by simp [joinW, sumT]
  | [a] => by simp [joinW, sumT]
  | a :: b :: l => by
    have ih := joinW_sum (b :: l)
    simp only [joinW, sumT, List.map_cons, List.sum_cons, List.length_append, List.length_cons] at ih ⊢
    omega
theorem sumT_split (x : Str) : sumT (splitW x) ≤ x.length := Nat.le_trans (joinW_sum _).2 (joinW_splitW_le x)
theorem sumT_sub {l m : List Str} (h : l.Sublist m) : sumT l ≤ sumT m := by
  induction h with
  | slnil => exact Nat.le_refl _
  | cons a h ih => simp only [sumT, List.map_cons, List.sum_cons] at ih ⊢; omega
  | cons_cons a h ih => simp only [sumT, List.map_cons, List.sum_cons] at ih ⊢; omega
theorem sumT_perm {l m : List Str} (h : l.Perm m) : sumT l = sumT m := (h.map List.length).sum_nat
theorem len_sort (x : Str) : (sortWF x).length ≤ 2 * x.length + 1 := by
  have h1 := (joinW_sum (sortF (splitW x))).1
  have h2 : sumT (sortF (splitW x)) ≤ sumT (splitW x) := by
    have h3 : (sortF (splitW x)).Sublist (sortS (splitW x)) := by
      unfold sortF
      rw [cmpS_dd]
      exact ddF_sub _ _
    have h4 := sumT_sub h3
    rw [sumT_perm (sortS_perm _)] at h4
    exact h4
  have h5 := sumT_split x
  have h6 := sortF_len (splitW x)
  have h7 := splitW_len x
  unfold sortWF
  omega
theorem len_filt (y x : Str) (out : Bool) : (filtF y x out).length ≤ 2 * x.length + 1 := by
  have h1 := (joinW_sum (filterF (splitW y) (splitW x) out)).1
  have h2 : sumT (filterF (splitW y) (splitW x) out) ≤ sumT (splitW x) := sumT_sub List.filter_sublist
  have h3 : (filterF (splitW y) (splitW x) out).length ≤ (splitW x).length := List.length_filter_le _ _
  have h5 := sumT_split x
  have h7 := splitW_len x
  unfold filtF
  omega
theorem sumT_each (b e : Str) : ∀ l : List Str, sumT (eachF l b e) = sumT l + l.length * (b.length + e.length)
  | [] => by simp [sumT, eachF]
  | w :: l => by
    have ih := sumT_each b e l
    simp only [sumT, eachF, List.map_cons, List.sum_cons, List.length_append, List.length_cons, Nat.add_mul] at ih ⊢
    omega
theorem len_each (x b e : Str) (hb : b.length + e.length ≤ 1) : (joinW (eachF (splitW x) b e)).length ≤ 3 * x.length + 2 := by
  have h1 := (joinW_sum (eachF (splitW x) b e)).1
  have h2 := sumT_each b e (splitW x)
  have h3 : (eachF (splitW x) b e).length = (splitW x).length := List.length_map ..
  have h5 := sumT_split x
  have h7 := splitW_len x
  have h8 : (splitW x).length * (b.length + e.length) ≤ (splitW x).length * 1 := Nat.mul_le_mul_left _ hb
  omega
theorem len_suf1 (x : Str) : (sufF [115] x).length ≤ 3 * x.length + 2 := len_each x [] [115] (by decide)
theorem len_suf0 (x : Str) : (sufF [] x).length ≤ 3 * x.length + 2 := len_each x [] [] (by decide)
theorem len_pre1 (x : Str) : (preF [112] x).length ≤ 3 * x.length + 2 := len_each x [112] [] (by decide)
theorem len_pre0 (x : Str) : (preF [] x).length ≤ 3 * x.length + 2 := len_each x [] [] (by decide)
theorem len_subst (a b : UInt8) (x : Str) : (substF [a] [b] x).length = x.length := by
  unfold substF
  rw [if_neg (by simp), replaceAll_rep _ _ (by simp), repR_one, List.length_map]
theorem len_strip (x : Str) : (strip x).length ≤ x.length := joinW_splitW_le x
theorem CallV.fix2 {P : Program} {f : Nat} {a r : SV} {t : Ty} {l : List t.D} (h : CallV P f [a, vL t l] r) : CallV P f [a, .fix t l] r := by
  refine ⟨h.1, fun cx σ ρ w vs hw hd => h.2 cx σ ρ w vs hw ?_⟩
  simp only [SV.denL] at hd ⊢
  obtain ⟨v1, r1, rfl, h1, v2, r2, rfl, h2, rfl⟩ := hd
  refine ⟨v1, _, rfl, h1, v2, _, rfl, ?_, rfl⟩
  simp only [SV.den] at h2 ⊢
  exact h2.1
theorem c_do (name : Str) (l : List Str) (hl : l.length ≤ 1000) (hx : ∀ x ∈ l, x.length ≤ 10000) : CallV Tryz.prog 14 [vS name, vL .str l] (vS (doF name l).1) := by
  have h := c_Do name l hl hx
  unfold DoIs at h
  refine CallV.of Tryz.func14 (by kernel_rfl) rfl Tryz.ntmps14 (by simp) rfl fun cx hB => ?_
  refine Tr.seq ?_; refine Tr.region ?_; refine TrL.quiets 1 rfl (by exact True.intro) ?_; refine TrL.nil ?_; refine Tr.seq ?_; refine Tr.region ?_; refine TrL.quiets 2 rfl (by exact True.intro) ?_
  first | refine TrL.callV rfl rfl rfl rfl rfl h ?_ | refine TrD.callV rfl rfl rfl rfl rfl h rfl ?_
  refine TrL.quiets 5 rfl (by exact True.intro) ?_; refine TrL.nil ?_; refine Tr.seq ?_; refine Tr.region ?_; refine TrL.quiets 2 rfl (by exact True.intro) ?_; refine TrL.nil ?_; refine Tr.ret ?_
  refine retQ.of rfl ?_
  rfl
theorem d1 {n : Str} {g : Str → Str} (hd : ∀ a, doF n [a] = (g a, true)) (a : Str) (ha : a.length ≤ 10000) : CallV Tryz.prog 14 [vS n, .fix .str [a]] (vS (g a)) := by
  have h := (c_do n [a] (by simp) (l1 ha)).fix2
  rw [hd a] at h
  exact h
theorem d2 {n : Str} {g : Str → Str → Str} (hd : ∀ a b, doF n [a, b] = (g a b, true)) (a b : Str) (ha : a.length ≤ 10000) (hb : b.length ≤ 10000) : CallV Tryz.prog 14 [vS n, .fix .str [a, b]] (vS (g a b)) := by
  have h := (c_do n [a, b] (by simp) (l2 ha hb)).fix2
  rw [hd a b] at h
  exact h
theorem d3 {n : Str} {g : Str → Str → Str → Str} (hd : ∀ a b c, doF n [a, b, c] = (g a b c, true)) (a b c : Str) (ha : a.length ≤ 10000) (hb : b.length ≤ 10000) (hc : c.length ≤ 10000) : CallV Tryz.prog 14 [vS n, .fix .str [a, b, c]] (vS (g a b c)) := by
  have h := (c_do n [a, b, c] (by simp) (l3 ha hb hc)).fix2
  rw [hd a b c] at h
  exact h

theorem c_TextfnLaws (na np : List Int) (ha : okInts na) (hp : okInts np) : CallV Tryz.prog 5 [vL (.int .i64) na, vL (.int .i64) np] (vB true) := by
  have wa := c_Words na ha
  have wb := c_Words np hp
  have hx := wordsL_le na
  have hy := wordsL_le np
  have hq := no_q na
  generalize wordsL na = x at hx hq wa
  generalize wordsL np = y at hy wb
  have b1 := len_sort x
  have b2 := len_filt y x false
  have b3 := len_filt y x true
  have b4 := len_suf1 x
  have b5 := len_suf0 x
  have b6 := len_pre1 x
  have b7 := len_pre1 (sufF [] x)
  have b8 := len_pre0 (sufF [115] x)
  have b9 := len_subst 97 113 x
  have bz : (x ++ [32] ++ y).length ≤ 1000 := by simp only [List.length_append, List.length_singleton]; omega
  have b10 := len_strip (x ++ [32] ++ y)
  have k1 := law_sort x
  have k2 := law_filter x y
  have k3 := law_strip x
  have k4 := law_join x
  have k5 := law_back x hq
  have k6 := law_find x
  have k7 := law_first (x ++ [32] ++ y)
  have cSplit := c_ref_Split x (by omega)
  have cF := d2 (n := kFilter) (g := fun a b => filtF a b false) (fun a b => rfl) y x (by omega) (by omega)
  have cFO := d2 (n := kFilterOut) (g := fun a b => filtF a b true) (fun a b => rfl) y x (by omega) (by omega)
  have cFs := c_ref_Split (filtF y x false) (by omega)
  have cFOs := c_ref_Split (filtF y x true) (by omega)
  have cS := d1 (n := kSort) (g := sortWF) (fun a => rfl) x (by omega)
  have cS2 := d1 (n := kSort) (g := sortWF) (fun a => rfl) (sortWF x) (by omega)
  have cT1 := d3 (n := kSubst) (g := substF) (fun a b c => rfl) [97] [113] x (by decide) (by decide) (by omega)
  have cT2 := d3 (n := kSubst) (g := substF) (fun a b c => rfl) [113] [97] (substF [97] [113] x) (by decide) (by decide) (by omega)
  have cStrip := d1 (n := kStrip) (g := strip) (fun a => rfl) x (by omega)
  have cN := d2 (n := kSuffix) (g := sufF) (fun a b => rfl) [] x (by decide) (by omega)
  have cP := d2 (n := kPrefix) (g := preF) (fun a b => rfl) [112] x (by decide) (by omega)
  have cB := d2 (n := kSuffix) (g := sufF) (fun a b => rfl) [115] x (by decide) (by omega)
  have cJ := d2 (n := kJoin) (g := joinF) (fun a b => rfl) (preF [112] x) (sufF [115] x) (by omega) (by omega)
  have cP2 := d2 (n := kPrefix) (g := preF) (fun a b => rfl) [112] (sufF [] x) (by decide) (by omega)
  have cQ := d2 (n := kPrefix) (g := preF) (fun a b => rfl) [] (sufF [115] x) (by decide) (by omega)
  have cJ2 := d2 (n := kJoin) (g := joinF) (fun a b => rfl) (preF [112] (sufF [] x)) (preF [] (sufF [115] x)) (by omega) (by omega)
  have cFi := d2 (n := kFind) (g := findF) (fun a b => rfl) [] x (by decide) (by omega)
  have cW := d1 (n := kFirst) (g := firstF) (fun a => rfl) (x ++ [32] ++ y) (by omega)
  have cZ := d1 (n := kStrip) (g := strip) (fun a => rfl) (x ++ [32] ++ y) (by omega)
  have cW2 := d1 (n := kFirst) (g := firstF) (fun a => rfl) (strip (x ++ [32] ++ y)) (by omega)
  rw [k6] at cFi
  have hn1 : (splitW (filtF y x false)).length ≤ 1000 := by have := splitW_len x; omega
  have hn2 : (splitW (filtF y x true)).length ≤ 1000 := by have := splitW_len x; omega
  generalize joinF (preF [112] (sufF [] x)) (preF [] (sufF [115] x)) = J2 at k4 cJ2
  generalize joinF (preF [112] x) (sufF [115] x) = J at k4 cJ
  generalize preF [112] (sufF [] x) = P2 at cP2 cJ2
  generalize preF [] (sufF [115] x) = Q at cQ cJ2
  generalize sufF [115] x = B at cB cJ cQ
  generalize preF [112] x = P at cP cJ
  generalize sufF [] x = N at k3 cN cP2
  generalize strip x = ST at k3 cStrip
  generalize sortWF (sortWF x) = S2 at k1 cS2
  generalize sortWF x = S at k1 cS cS2
  generalize splitW (filtF y x false) = lF at k2 cFs hn1
  generalize splitW (filtF y x true) = lFO at k2 cFOs hn2
  generalize splitW x = lx at k2 cSplit
  generalize filtF y x false = F at cF cFs
  generalize filtF y x true = FO at cFO cFOs
  generalize substF [113] [97] (substF [97] [113] x) = T2 at k5 cT2
  generalize substF [97] [113] x = T1 at cT1 cT2
  generalize firstF (strip (x ++ [32] ++ y)) = W2 at k7 cW2
  generalize firstF (x ++ [32] ++ y) = W at k7 cW
  generalize strip (x ++ [32] ++ y) = Z at cZ cW2
  clear b1 b2 b3 b4 b5 b6 b7 b8 b9 b10
  refine CallV.of Tryz.func5 (by kernel_rfl) rfl Tryz.ntmps5 (by simp) rfl fun cx hB => ?_
  refine Tr.seq ?_; refine Tr.region ?_; refine TrL.quiets 1 rfl (by exact True.intro) ?_; refine TrL.nil ?_; refine Tr.seq ?_; refine Tr.region ?_; refine TrL.quiets 1 rfl (by exact True.intro) ?_; refine TrL.nil ?_; refine Tr.seq ?_; refine Tr.region ?_; refine TrL.quiets 1 rfl (by exact True.intro) ?_
  first | refine TrL.callV rfl rfl rfl rfl rfl wa ?_ | refine TrD.callV rfl rfl rfl rfl rfl wa rfl ?_
  refine TrL.quiets 1 rfl (by exact True.intro) ?_
  first | refine TrL.callV rfl rfl rfl rfl rfl wb ?_ | refine TrD.callV rfl rfl rfl rfl rfl wb rfl ?_
  refine TrL.quiets 2 rfl (by exact True.intro) ?_; refine TrL.nil ?_
  change Tr _ _ _ _ _ _
  refine Tr.keep [5, 6, 7] 0 hB (st' := ⟨[(5, [], .fn 14 [] []), (6, [], vS x), (7, [], vS y)], []⟩) rfl ?_
  refine Tr.seq ?_; refine Tr.region ?_; refine TrL.quiets 1 rfl (by exact True.intro) ?_
  first | refine TrL.callV rfl rfl rfl rfl rfl cSplit ?_ | refine TrD.callV rfl rfl rfl rfl rfl cSplit rfl ?_
  refine TrL.quiets 1 rfl (by exact True.intro) ?_; refine TrL.nil ?_; refine Tr.seq ?_; refine Tr.region ?_; refine TrL.quiets 3 rfl (by exact True.intro) ?_; refine TrL.eff (effLit_sound rfl) (by exact True.intro) ?_
  first | refine TrL.callV rfl rfl rfl rfl rfl cF ?_ | refine TrD.callV rfl rfl rfl rfl rfl cF rfl ?_
  first | refine TrL.callV rfl rfl rfl rfl rfl cFs ?_ | refine TrD.callV rfl rfl rfl rfl rfl cFs rfl ?_
  refine TrL.quiets 3 rfl (by exact True.intro) ?_; refine TrL.eff (effLit_sound rfl) (by exact True.intro) ?_
  first | refine TrL.callV rfl rfl rfl rfl rfl cFO ?_ | refine TrD.callV rfl rfl rfl rfl rfl cFO rfl ?_
  first | refine TrL.callV rfl rfl rfl rfl rfl cFOs ?_ | refine TrD.callV rfl rfl rfl rfl rfl cFOs rfl ?_
  refine TrL.quiets 2 rfl (by exact True.intro) ?_; refine TrL.nil ?_
  change Tr _ _ _ _ _ _
  refine Tr.keep [5, 6, 7, 8, 9, 10] 0 hB (st' := ⟨[(5, [], .fn 14 [] []), (6, [], vS x), (7, [], vS y), (8, [], vL .str lx), (9, [], vL .str lF), (10, [], vL .str lFO)], []⟩) rfl ?_
  refine Tr.seq ?_; refine Tr.region ?_; refine TrL.quiets 2 rfl (by exact True.intro) ?_; refine TrL.eff (effLit_sound rfl) (by exact True.intro) ?_
  first | refine TrL.callV rfl rfl rfl rfl rfl cS ?_ | refine TrD.callV rfl rfl rfl rfl rfl cS rfl ?_
  refine TrL.quiets 1 rfl (by exact True.intro) ?_; refine TrL.nil ?_; refine Tr.seq ?_; refine Tr.region ?_; refine TrL.quiets 3 rfl (by exact True.intro) ?_; refine TrL.eff (effLit_sound rfl) (by exact True.intro) ?_
  first | refine TrL.callV rfl rfl rfl rfl rfl cT1 ?_ | refine TrD.callV rfl rfl rfl rfl rfl cT1 rfl ?_
  refine TrL.eff (effLit_sound rfl) (by exact True.intro) ?_
  first | refine TrL.callV rfl rfl rfl rfl rfl cT2 ?_ | refine TrD.callV rfl rfl rfl rfl rfl cT2 rfl ?_
  refine TrL.quiets 1 rfl (by exact True.intro) ?_; refine TrL.nil ?_
  change Tr _ _ _ _ _ _
  refine Tr.keep [5, 6, 7, 8, 9, 10, 11, 12] 0 hB (st' := ⟨[(5, [], .fn 14 [] []), (6, [], vS x), (7, [], vS y), (8, [], vL .str lx), (9, [], vL .str lF), (10, [], vL .str lFO), (11, [], vS S), (12, [], vS T2)], []⟩) rfl ?_
  refine Tr.seq ?_; refine Tr.region ?_; refine TrL.quiets 2 rfl (by exact True.intro) ?_; refine TrL.eff (effLit_sound rfl) (by exact True.intro) ?_
  first | refine TrL.callV rfl rfl rfl rfl rfl cS2 ?_ | refine TrD.callV rfl rfl rfl rfl rfl cS2 rfl ?_
  refine TrL.quiets 15 rfl (by exact True.intro) ?_
  have hA : (S2 == S && (IntKind.i64.wrap ((lF.length : Int) + (lFO.length : Int)) == (lx.length : Int))) = true := by
    rw [k1, w64n (y := lF.length + lFO.length) (by omega) (by omega), k2]
    simp
  refine TrL.is 58 (sv' := vB true) rfl (congrArg vB hA) ?_
  refine TrL.known 59 rfl rfl ?_
  refine TrL.known 60 rfl rfl ?_
  refine TrL.keep [5, 6, 7, 12, 58, 59, 60] 0 hB (st' := ⟨[(5, [], .fn 14 [] []), (6, [], vS x), (7, [], vS y), (12, [], vS T2), (58, [], vB true), (59, [], .fn 14 [] []), (60, [], vS x)], []⟩) rfl ?_
  refine TrL.want rfl rfl rfl ?_
  refine TrL.eff (effLit_sound rfl) (by exact True.intro) ?_
  refine TrL.want rfl rfl rfl ?_
  first | refine TrL.callV rfl rfl rfl rfl rfl cStrip ?_ | refine TrD.callV rfl rfl rfl rfl rfl cStrip rfl ?_
  refine TrL.quiets 2 rfl (by exact True.intro) ?_
  refine TrL.known 63 rfl rfl ?_
  refine TrL.known 64 rfl rfl ?_
  refine TrL.want rfl rfl rfl ?_
  refine TrL.eff (effLit_sound rfl) (by exact True.intro) ?_
  refine TrL.want rfl rfl rfl ?_
  first | refine TrL.callV rfl rfl rfl rfl rfl cN ?_ | refine TrD.callV rfl rfl rfl rfl rfl cN rfl ?_
  refine TrL.quiets 6 rfl (by exact True.intro) ?_
  have hB2 : (true && (ST == N)) = true := by rw [k3]; simp
  refine TrL.is 69 (sv' := vB true) rfl (congrArg vB hB2) ?_
  refine TrL.known 70 rfl rfl ?_
  refine TrL.known 71 rfl rfl ?_
  refine TrL.known 72 rfl rfl ?_
  refine TrL.keep [5, 6, 7, 12, 69, 70, 71, 72] 0 hB (st' := ⟨[(5, [], .fn 14 [] []), (6, [], vS x), (7, [], vS y), (12, [], vS T2), (69, [], vB true), (70, [], .fn 14 [] []), (71, [], .fn 14 [] []), (72, [], vS x)], []⟩) rfl ?_
  refine TrL.want rfl rfl rfl ?_
  refine TrL.eff (effLit_sound rfl) (by exact True.intro) ?_
  refine TrL.want rfl rfl rfl ?_
  first | refine TrL.callV rfl rfl rfl rfl rfl cP ?_ | refine TrD.callV rfl rfl rfl rfl rfl cP rfl ?_
  refine TrL.quiets 2 rfl (by exact True.intro) ?_
  refine TrL.known 75 rfl rfl ?_
  refine TrL.known 76 rfl rfl ?_
  refine TrL.want rfl rfl rfl ?_
  refine TrL.eff (effLit_sound rfl) (by exact True.intro) ?_
  refine TrL.want rfl rfl rfl ?_
  first | refine TrL.callV rfl rfl rfl rfl rfl cB ?_ | refine TrD.callV rfl rfl rfl rfl rfl cB rfl ?_
  refine TrL.want rfl rfl rfl ?_
  refine TrL.eff (effLit_sound rfl) (by exact True.intro) ?_
  refine TrL.want rfl rfl rfl ?_
  first | refine TrL.callV rfl rfl rfl rfl rfl cJ ?_ | refine TrD.callV rfl rfl rfl rfl rfl cJ rfl ?_
  refine TrL.quiets 4 rfl (by exact True.intro) ?_
  refine TrL.known 81 rfl rfl ?_
  refine TrL.known 82 rfl rfl ?_
  refine TrL.known 83 rfl rfl ?_
  refine TrL.known 84 rfl rfl ?_
  refine TrL.keep [5, 6, 7, 12, 69, 80, 81, 82, 83, 84] 0 hB (st' := ⟨[(5, [], .fn 14 [] []), (6, [], vS x), (7, [], vS y), (12, [], vS T2), (69, [], vB true), (80, [], vS J), (81, [], .fn 14 [] []), (82, [], .fn 14 [] []), (83, [], .fn 14 [] []), (84, [], vS x)], []⟩) rfl ?_
  refine TrL.want rfl rfl rfl ?_
  refine TrL.eff (effLit_sound rfl) (by exact True.intro) ?_
  refine TrL.want rfl rfl rfl ?_
  first | refine TrL.callV rfl rfl rfl rfl rfl cN ?_ | refine TrD.callV rfl rfl rfl rfl rfl cN rfl ?_
  refine TrL.want rfl rfl rfl ?_
  refine TrL.eff (effLit_sound rfl) (by exact True.intro) ?_
  refine TrL.want rfl rfl rfl ?_
  first | refine TrL.callV rfl rfl rfl rfl rfl cP2 ?_ | refine TrD.callV rfl rfl rfl rfl rfl cP2 rfl ?_
  refine TrL.quiets 3 rfl (by exact True.intro) ?_
  refine TrL.known 89 rfl rfl ?_
  refine TrL.known 90 rfl rfl ?_
  refine TrL.known 91 rfl rfl ?_
  refine TrL.keep [5, 6, 7, 12, 69, 80, 81, 88, 89, 90, 91] 0 hB (st' := ⟨[(5, [], .fn 14 [] []), (6, [], vS x), (7, [], vS y), (12, [], vS T2), (69, [], vB true), (80, [], vS J), (81, [], .fn 14 [] []), (88, [], vS P2), (89, [], .fn 14 [] []), (90, [], .fn 14 [] []), (91, [], vS x)], []⟩) rfl ?_
  refine TrL.want rfl rfl rfl ?_
  refine TrL.eff (effLit_sound rfl) (by exact True.intro) ?_
  refine TrL.want rfl rfl rfl ?_
  first | refine TrL.callV rfl rfl rfl rfl rfl cB ?_ | refine TrD.callV rfl rfl rfl rfl rfl cB rfl ?_
  refine TrL.want rfl rfl rfl ?_
  refine TrL.eff (effLit_sound rfl) (by exact True.intro) ?_
  refine TrL.want rfl rfl rfl ?_
  first | refine TrL.callV rfl rfl rfl rfl rfl cQ ?_ | refine TrD.callV rfl rfl rfl rfl rfl cQ rfl ?_
  refine TrL.want rfl rfl rfl ?_
  refine TrL.eff (effLit_sound rfl) (by exact True.intro) ?_
  refine TrL.want rfl rfl rfl ?_
  first | refine TrL.callV rfl rfl rfl rfl rfl cJ2 ?_ | refine TrD.callV rfl rfl rfl rfl rfl cJ2 rfl ?_
  refine TrL.quiets 10 rfl (by exact True.intro) ?_
  have hC : (true && (J == J2) && (T2 == x)) = true := by rw [k4, k5]; simp
  refine TrL.is 105 (sv' := vB true) rfl (congrArg vB hC) ?_
  refine TrL.known 106 rfl rfl ?_
  refine TrL.known 107 rfl rfl ?_
  refine TrL.keep [5, 6, 7, 105, 106, 107] 0 hB (st' := ⟨[(5, [], .fn 14 [] []), (6, [], vS x), (7, [], vS y), (105, [], vB true), (106, [], .fn 14 [] []), (107, [], vS x)], []⟩) rfl ?_
  refine TrL.want rfl rfl rfl ?_
  refine TrL.eff (effLit_sound rfl) (by exact True.intro) ?_
  refine TrL.want rfl rfl rfl ?_
  first | refine TrL.callV rfl rfl rfl rfl rfl cFi ?_ | refine TrD.callV rfl rfl rfl rfl rfl cFi rfl ?_
  refine TrL.quiets 8 rfl (by (simp (disch := omega) only [allOf, impO, imp, inR, loOk, and_true, w64, List.length_set, List.length_cons, List.length_nil, cut, List.length_take, List.length_drop, List.length_append, Int.toNat_natCast, Option.getD_none, Option.getD_some, Ty.D, true_and, decide_eq_true_eq, decide_eq_false_iff_not, Bool.and_eq_true, Bool.or_eq_false_iff]; omega)) ?_
  refine TrL.is 112 (sv' := vB true) rfl rfl ?_
  refine TrL.known 113 rfl rfl ?_
  refine TrL.known 117 rfl rfl ?_
  refine TrL.keep [5, 6, 7, 112, 113, 117] 0 hB (st' := ⟨[(5, [], .fn 14 [] []), (6, [], vS x), (7, [], vS y), (112, [], vB true), (113, [], .fn 14 [] []), (117, [], vS (x ++ [32] ++ y))], []⟩) rfl ?_
  refine TrL.want rfl rfl rfl ?_
  refine TrL.eff (effLit_sound rfl) (by exact True.intro) ?_
  refine TrL.want rfl rfl rfl ?_
  first | refine TrL.callV rfl rfl rfl rfl rfl cW ?_ | refine TrD.callV rfl rfl rfl rfl rfl cW rfl ?_
  refine TrL.quiets 6 rfl (by (simp (disch := omega) only [allOf, impO, imp, inR, loOk, and_true, w64, List.length_set, List.length_cons, List.length_nil, cut, List.length_take, List.length_drop, List.length_append, Int.toNat_natCast, Option.getD_none, Option.getD_some, Ty.D, true_and, decide_eq_true_eq, decide_eq_false_iff_not, Bool.and_eq_true, Bool.or_eq_false_iff]; omega)) ?_
  refine TrL.known 120 rfl rfl ?_
  refine TrL.known 121 rfl rfl ?_
  refine TrL.known 125 rfl rfl ?_
  refine TrL.keep [5, 6, 7, 112, 119, 120, 121, 125] 0 hB (st' := ⟨[(5, [], .fn 14 [] []), (6, [], vS x), (7, [], vS y), (112, [], vB true), (119, [], vS W), (120, [], .fn 14 [] []), (121, [], .fn 14 [] []), (125, [], vS (x ++ [32] ++ y))], []⟩) rfl ?_
  refine TrL.want rfl rfl rfl ?_
  refine TrL.eff (effLit_sound rfl) (by exact True.intro) ?_
  refine TrL.want rfl rfl rfl ?_
  first | refine TrL.callV rfl rfl rfl rfl rfl cZ ?_ | refine TrD.callV rfl rfl rfl rfl rfl cZ rfl ?_
  refine TrL.want rfl rfl rfl ?_
  refine TrL.eff (effLit_sound rfl) (by exact True.intro) ?_
  refine TrL.want rfl rfl rfl ?_
  first | refine TrL.callV rfl rfl rfl rfl rfl cW2 ?_ | refine TrD.callV rfl rfl rfl rfl rfl cW2 rfl ?_
  refine TrL.quiets 3 rfl (by exact True.intro) ?_
  first | refine TrL.callV rfl rfl rfl rfl rfl c_awake18 ?_ | refine TrD.callV rfl rfl rfl rfl rfl c_awake18 rfl ?_
  refine TrL.quiets 2 rfl (by exact True.intro) ?_; refine TrL.nil ?_; refine Tr.ret ?_
  refine retQ.of rfl ?_
  refine congrArg vB ?_
  rw [k7]
  simp
end Go.Proofs.YtcclfjddakonoaaGreatDoor.Sx
