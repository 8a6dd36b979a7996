/-
  WordsMany.
-/
import Derived.Test.YtafngfcfinligaaDoorF17
set_option linter.unusedVariables false
set_option linter.unusedSimpArgs false
set_option maxRecDepth 20000
set_option maxHeartbeats 4000000
namespace Go.Proofs.YtafngfcfinligaaDoor.Sx
open Go Go.RowKit Go.Proofs

/-! ### Plain -/
def L7 : Str := [97, 98, 99, 100, 101, 102, 103]
def ltr (n : Nat) : UInt8 := L7.getD (n % 7) 0
def blk (n : Nat) : UInt8 := blanks.getD (n % 3) 0
def wordN (i m : Nat) : Str := (List.range m).map fun j => ltr (i + j)
def gapN (i g : Nat) : Str := (List.range g).map fun j => blk (i + j)
def many (m g : Nat) : Nat → Str
  | 0 => []
  | i + 1 => many m g i ++ (wordN i m ++ gapN i g)
theorem wordN_succ (i j : Nat) : wordN i (j + 1) = wordN i j ++ [ltr (i + j)] := by simp [wordN, List.range_succ]
theorem gapN_succ (i j : Nat) : gapN i (j + 1) = gapN i j ++ [blk (i + j)] := by simp [gapN, List.range_succ]
theorem ltr_no (n : Nat) : isBlank (ltr n) = false := by
  have : ∀ k < 7, isBlank (L7.getD k 0) = false := by decide
  exact this _ (Nat.mod_lt _ (by decide))
theorem blk_all (n : Nat) : isBlank (blk n) = true := by
  have : ∀ k < 3, isBlank (blanks.getD k 0) = true := by decide
  exact this _ (Nat.mod_lt _ (by decide))
theorem wordN_len (i m : Nat) : (wordN i m).length = m := by simp [wordN]
theorem gapN_len (i m : Nat) : (gapN i m).length = m := by simp [gapN]
theorem wordN_Word (i m : Nat) (hm : 1 ≤ m) : Word (wordN i m) := by
  refine ⟨fun e => ?_, fun c hc => ?_⟩
  · have := wordN_len i m
    rw [e] at this
    simp at this
    omega
  · simp only [wordN, List.mem_map] at hc
    obtain ⟨j, _, rfl⟩ := hc
    exact ltr_no _
theorem gapN_Gap (i g : Nat) (hg : 1 ≤ g) : Gap (gapN i g) := by
  refine ⟨fun e => ?_, fun c hc => ?_⟩
  · have := gapN_len i g
    rw [e] at this
    simp at this
    omega
  · simp only [gapN, List.mem_map] at hc
    obtain ⟨j, _, rfl⟩ := hc
    exact blk_all _
theorem many_split (m g : Nat) (hm : 1 ≤ m) (hg : 1 ≤ g) : ∀ (i : Nat) (t : Str), splitW (many m g i ++ t) = (List.range i).map (fun a => wordN a m) ++ splitW t
  | 0, t => rfl
  | i + 1, t => by
    have := many_split m g hm hg i (wordN i m ++ gapN i g ++ t)
    rw [splitW_gap (gapN_Gap i g hg), (wordN_Word i m hm).split] at this
    simp only [many, List.append_assoc] at this ⊢
    rw [this]
    simp [List.range_succ]
theorem many_len (m g : Nat) : ∀ i, (many m g i).length = i * (m + g)
  | 0 => by simp [many]
  | i + 1 => by
    simp only [many, List.length_append, many_len m g i, wordN_len, gapN_len, Nat.add_mul]
    omega
theorem many_head (m g : Nat) (hm : 1 ≤ m) : ∀ i, (many m g (i + 1)).head? = some 97
  | 0 => by
    obtain ⟨m', rfl⟩ : ∃ m', m = m' + 1 := ⟨m - 1, by omega⟩
    simp [many, wordN, List.range_succ_eq_map]
    rfl
  | i + 1 => by
    have := many_head m g hm i
    rw [many]
    cases h : many m g (i + 1) with
    | nil => rw [h] at this; cases this
    | cons c r => rw [h] at this; simpa using this
theorem many_left (m g : Nat) (hm : 1 ≤ m) (i : Nat) : left (many m g i) = many m g i := by
  cases i with
  | zero => rfl
  | succ i =>
    have := many_head m g hm i
    cases h : many m g (i + 1) with
    | nil => rfl
    | cons c r =>
      rw [h] at this
      obtain rfl : c = 97 := by simpa using this
      simp [left, List.dropWhile_cons, isBlank]
theorem many_trim (m g : Nat) (hm : 1 ≤ m) (hg : 1 ≤ g) (i : Nat) : (trim (many m g i)).length = i * (m + g) - g := by
  rw [trim, many_left m g hm]
  cases i with
  | zero => simp [many, right]
  | succ i =>
    have e : many m g (i + 1) = (many m g i ++ wordN i m) ++ gapN i g := by simp [many]
    rw [e, right_blank _ _ (gapN_Gap i g hg).all, (wordN_Word i m hm).right_app, List.length_append, many_len, wordN_len, Nat.add_mul]
    omega
theorem joinW_len (m : Nat) : ∀ l : List Str, (∀ w ∈ l, w.length = m) → (joinW l).length = l.length * (m + 1) - 1
  | [], _ => by simp [joinW]
  | [a], h => by simp [joinW, h a (by simp)]
  | a :: b :: l, h => by
    have := joinW_len m (b :: l) (fun w hw => h w (by simp [hw]))
    simp only [joinW, List.length_append, List.length_cons, this, h a (by simp), Nat.add_mul] at *
    omega
theorem cut_one (l : Str) (n : Nat) (h : n < l.length) : cut l (some (n : Int)) (some ((n + 1 : Nat) : Int)) = [l.getD n 0] := by
  show (l.take (n + 1)).drop n = _
  rw [List.drop_take, show n + 1 - n = 1 by omega, List.drop_eq_getElem_cons h]
  simp only [List.getD_eq_getElem?_getD, List.getElem?_eq_getElem h, Option.getD_some]
  rfl
theorem tmod_nat (a b : Nat) : Int.tmod (a : Int) (b : Int) = ((a % b : Nat) : Int) := by
  rw [Int.tmod_eq_emod_of_nonneg (by omega)]
  omega
theorem wrapAdd (i j : Nat) (h : i + j < 1000) : IntKind.i64.wrap ((i : Int) + (j : Int)) = ((i + j : Nat) : Int) := w64n (by omega) (by omega)
theorem tm (i j p : Nat) (h : i + j < 1000) : Int.tmod (IntKind.i64.wrap ((i : Int) + (j : Int))) (p : Int) = (((i + j) % p : Nat) : Int) := by rw [wrapAdd i j h, tmod_nat]
theorem tm1 (k : Nat) (h : k < 1000) : IntKind.i64.wrap ((k : Int) + 1) = ((k + 1 : Nat) : Int) := w64n (by omega) (by omega)
theorem pick7 (i j : Nat) (h : i + j < 1000) : cut L7 (some (Int.tmod (IntKind.i64.wrap ((i : Int) + (j : Int))) 7)) (some (IntKind.i64.wrap (Int.tmod (IntKind.i64.wrap ((i : Int) + (j : Int))) 7 + 1))) = [ltr (i + j)] := by
  have h7 : (i + j) % 7 < 7 := Nat.mod_lt _ (by decide)
  rw [wrapAdd i j h, show (7 : Int) = ((7 : Nat) : Int) from rfl, tmod_nat, w64n (y := (i + j) % 7 + 1) (by omega) (by omega)]
  exact cut_one L7 _ h7
theorem pick3 (i j : Nat) (h : i + j < 1000) : cut blanks (some (Int.tmod (IntKind.i64.wrap ((i : Int) + (j : Int))) 3)) (some (IntKind.i64.wrap (Int.tmod (IntKind.i64.wrap ((i : Int) + (j : Int))) 3 + 1))) = [blk (i + j)] := by
  have h7 : (i + j) % 3 < 3 := Nat.mod_lt _ (by decide)
  rw [wrapAdd i j h, show (3 : Int) = ((3 : Nat) : Int) from rfl, tmod_nat, w64n (y := (i + j) % 3 + 1) (by omega) (by omega)]
  exact cut_one blanks _ h7

/-! ### The walk -/
theorem c_WordsMany (n size gap : Int) (h1 : -9223372036854775808 ≤ n) (h2 : n ≤ 9223372036854775807) (h3 : -9223372036854775808 ≤ size) (h4 : size ≤ 9223372036854775807) (h5 : -9223372036854775808 ≤ gap) (h6 : gap ≤ 9223372036854775807) :
    CallV Tryd.prog 8 [vI n, vI size, vI gap] (vB true) := by
  obtain ⟨K, hK, hK2⟩ : ∃ K : Nat, n % 60 = (K : Int) ∧ K < 60 := ⟨(n % 60).toNat, by omega, by omega⟩
  obtain ⟨M, hM, hM1, hM2⟩ : ∃ M : Nat, IntKind.i64.wrap (1 + size % 20) = (M : Int) ∧ 1 ≤ M ∧ M ≤ 20 := ⟨(1 + size % 20).toNat, by rw [w64 (by omega) (by omega)]; omega, by omega, by omega⟩
  obtain ⟨G, hG, hG1, hG2⟩ : ∃ G : Nat, IntKind.i64.wrap (1 + gap % 6) = (G : Int) ∧ 1 ≤ G ∧ G ≤ 6 := ⟨(1 + gap % 6).toNat, by rw [w64 (by omega) (by omega)]; omega, by omega, by omega⟩
  refine CallV.of Tryd.func8 (by kernel_rfl) rfl Tryd.ntmps8 (by simp) rfl fun cx hB => ?_
  refine Tr.seq ?_; refine Tr.region ?_; refine TrL.quiets 1 rfl (by exact True.intro) ?_; refine TrL.nil ?_; refine Tr.seq ?_; refine Tr.region ?_; refine TrL.quiets 1 rfl (by exact True.intro) ?_
  first | refine TrL.callV rfl rfl rfl rfl rfl (c_Place n 60 (by decide) (by decide) h1 h2) ?_ | refine TrD.callV rfl rfl rfl rfl rfl (c_Place n 60 (by decide) (by decide) h1 h2) rfl ?_
  refine TrL.quiets 1 rfl (by exact True.intro) ?_
  first | refine TrL.callV rfl rfl rfl rfl rfl (c_Place size 20 (by decide) (by decide) h3 h4) ?_ | refine TrD.callV rfl rfl rfl rfl rfl (c_Place size 20 (by decide) (by decide) h3 h4) rfl ?_
  refine TrL.quiets 2 rfl (by exact True.intro) ?_
  first | refine TrL.callV rfl rfl rfl rfl rfl (c_Place gap 6 (by decide) (by decide) h5 h6) ?_ | refine TrD.callV rfl rfl rfl rfl rfl (c_Place gap 6 (by decide) (by decide) h5 h6) rfl ?_
  refine TrL.quiets 4 rfl (by exact True.intro) ?_; refine TrL.nil ?_; refine Tr.seq ?_; refine Tr.region ?_; refine TrL.quiets 1 rfl (by exact True.intro) ?_; refine TrL.nil ?_; refine Tr.seq ?_; refine Tr.seq ?_; refine Tr.region ?_; refine TrL.quiets 1 rfl (by exact True.intro) ?_; refine TrL.nil ?_; refine Tr.block ?_
  refine Tr.is 7 (sv' := vI (K : Int)) rfl (congrArg vI hK) ?_
  refine Tr.is 8 (sv' := vI (M : Int)) rfl (congrArg vI hM) ?_
  refine Tr.is 9 (sv' := vI (G : Int)) rfl (congrArg vI hG) ?_
  refine Tr.loop (fun (i : Nat) => ⟨[(7, [], vI (K : Int)), (8, [], vI (M : Int)), (9, [], vI (G : Int)), (10, [], vS (many M G i)), (11, [], vI i)], []⟩)
    (fun i => i ≤ K) (fun i => K - i) 0 [7, 8, 9, 10, 11] 0 hB rfl (Nat.zero_le _) fun i hi => ?_
  have hmi := many_len M G i
  have hmb : i * (M + G) ≤ 60 * 26 := Nat.mul_le_mul (by omega) (by omega)
  refine Tr.seq ?_; refine Tr.seq ?_; refine Tr.region ?_; refine TrL.quiets 3 rfl (by exact True.intro) ?_; refine TrL.nil ?_
  refine Tr.cond rfl (fun c1 => ?_) (fun c1 => ?_)
  · have hiK : i < K := by
      have : ((i : Nat) : Int) < (K : Int) := of_decide_eq_true c1
      omega
    refine Tr.skip ?_; refine Tr.seq ?_; refine Tr.block ?_; refine Tr.seq ?_; refine Tr.seq ?_; refine Tr.region ?_; refine TrL.quiets 1 rfl (by exact True.intro) ?_; refine TrL.nil ?_; refine Tr.block ?_
    refine Tr.loop (fun (j : Nat) => ⟨[(7, [], vI (K : Int)), (8, [], vI (M : Int)), (9, [], vI (G : Int)), (10, [], vS (many M G i ++ wordN i j)), (11, [], vI i), (12, [], vI j)], []⟩)
      (fun j => j ≤ M) (fun j => M - j) 0 [7, 8, 9, 10, 11, 12] 0 hB ?_ (Nat.zero_le _) fun j hj => ?_
    · refine Eq.trans (b := (⟨[(_, [], _), (_, [], _), (_, [], _), (_, [], _), (_, [], _), (_, [], _)], []⟩ : St)) rfl ?_
      simp [wordN]
    have hwl := wordN_len i j
    refine Tr.seq ?_; refine Tr.seq ?_; refine Tr.region ?_; refine TrL.quiets 3 rfl (by exact True.intro) ?_; refine TrL.nil ?_
    refine Tr.cond rfl (fun c2 => ?_) (fun c2 => ?_)
    · have hjM : j < M := by
        have : ((j : Nat) : Int) < (M : Int) := of_decide_eq_true c2
        omega
      have h7 : (i + j) % 7 < 7 := Nat.mod_lt _ (by decide)
      refine Tr.skip ?_; refine Tr.seq ?_; refine Tr.block ?_; refine Tr.region ?_
      refine TrL.quiets 11 rfl ?_ ?_
      · have e1 := tm i j 7 (by omega)
        have e2 := tm1 ((i + j) % 7) (by omega)
        simp only [allOf, impO, imp, loOk, and_true, Option.getD_some]
        refine ⟨by decide, by decide, ?_⟩
        rw [show (7 : Int) = ((7 : Nat) : Int) from rfl, e1, e2]
        change ((0 : Int) ≤ (((i + j) % 7 + 1 : Nat) : Int) ∧ (((i + j) % 7 + 1 : Nat) : Int) ≤ 7) ∧ (0 : Int) ≤ (((i + j) % 7 : Nat) : Int) ∧ (((i + j) % 7 : Nat) : Int) ≤ (((i + j) % 7 + 1 : Nat) : Int)
        omega
      refine TrL.is 45 (sv' := vS [ltr (i + j)]) rfl (congrArg vS (pick7 i j (by omega))) ?_
      refine TrL.quiets 2 rfl (by (simp (disch := omega) only [allOf, impO, imp, inR, loOk, and_true, w64, List.length_set, List.length_cons, List.length_nil, cut, List.length_take, List.length_drop, List.length_append, Int.toNat_natCast, Option.getD_none, Option.getD_some, Ty.D, true_and, decide_eq_true_eq, decide_eq_false_iff_not, Bool.and_eq_true, Bool.or_eq_false_iff]; omega)) ?_; refine TrL.nil ?_; refine Tr.region ?_; refine TrL.quiets 3 rfl (by exact True.intro) ?_; refine TrL.nil ?_
      refine ⟨j + 1, by omega, by dsimp only; omega, ?_⟩
      refine Eq.trans (b := (⟨[(_, [], _), (_, [], _), (_, [], _), (_, [], _), (_, [], _), (_, [], _)], []⟩ : St)) rfl ?_
      rw [w64n (y := j + 1) (by omega) (by omega)]
      dsimp only
      rw [wordN_succ, List.append_assoc]
    have hjM : j = M := by
      have : ¬ ((j : Nat) : Int) < (M : Int) := of_decide_eq_false c2
      omega
    subst hjM
    refine Tr.exit ?_; refine Tr.seq ?_; refine Tr.region ?_; refine TrL.quiets 1 rfl (by exact True.intro) ?_; refine TrL.nil ?_; refine Tr.block ?_
    refine Tr.loop (fun (k : Nat) => ⟨[(7, [], vI (K : Int)), (8, [], vI (j : Int)), (9, [], vI (G : Int)), (10, [], vS (many j G i ++ (wordN i j ++ gapN i k))), (11, [], vI i), (13, [], vI k)], []⟩)
      (fun k => k ≤ G) (fun k => G - k) 0 [7, 8, 9, 10, 11, 13] 0 hB ?_ (Nat.zero_le _) fun k hk => ?_
    · refine Eq.trans (b := (⟨[(_, [], _), (_, [], _), (_, [], _), (_, [], _), (_, [], _), (_, [], _)], []⟩ : St)) rfl ?_
      simp [gapN]
    have hgl := gapN_len i k
    refine Tr.seq ?_; refine Tr.seq ?_; refine Tr.region ?_; refine TrL.quiets 3 rfl (by exact True.intro) ?_; refine TrL.nil ?_
    refine Tr.cond rfl (fun c3 => ?_) (fun c3 => ?_)
    · have hkG : k < G := by
        have : ((k : Nat) : Int) < (G : Int) := of_decide_eq_true c3
        omega
      have h7 : (i + k) % 3 < 3 := Nat.mod_lt _ (by decide)
      refine Tr.skip ?_; refine Tr.seq ?_; refine Tr.block ?_; refine Tr.region ?_
      refine TrL.quiets 11 rfl ?_ ?_
      · have e1 := tm i k 3 (by omega)
        have e2 := tm1 ((i + k) % 3) (by omega)
        simp only [allOf, impO, imp, loOk, and_true, Option.getD_some]
        refine ⟨by decide, by decide, ?_⟩
        rw [show (3 : Int) = ((3 : Nat) : Int) from rfl, e1, e2]
        change ((0 : Int) ≤ (((i + k) % 3 + 1 : Nat) : Int) ∧ (((i + k) % 3 + 1 : Nat) : Int) ≤ 3) ∧ (0 : Int) ≤ (((i + k) % 3 : Nat) : Int) ∧ (((i + k) % 3 : Nat) : Int) ≤ (((i + k) % 3 + 1 : Nat) : Int)
        omega
      refine TrL.is 62 (sv' := vS [blk (i + k)]) rfl (congrArg vS (pick3 i k (by omega))) ?_
      refine TrL.quiets 2 rfl (by (simp (disch := omega) only [allOf, impO, imp, inR, loOk, and_true, w64, List.length_set, List.length_cons, List.length_nil, cut, List.length_take, List.length_drop, List.length_append, Int.toNat_natCast, Option.getD_none, Option.getD_some, Ty.D, true_and, decide_eq_true_eq, decide_eq_false_iff_not, Bool.and_eq_true, Bool.or_eq_false_iff]; omega)) ?_; refine TrL.nil ?_; refine Tr.region ?_; refine TrL.quiets 3 rfl (by exact True.intro) ?_; refine TrL.nil ?_
      refine ⟨k + 1, by omega, by dsimp only; omega, ?_⟩
      refine Eq.trans (b := (⟨[(_, [], _), (_, [], _), (_, [], _), (_, [], _), (_, [], _), (_, [], _)], []⟩ : St)) rfl ?_
      rw [w64n (y := k + 1) (by omega) (by omega)]
      dsimp only
      rw [gapN_succ]
      simp only [List.append_assoc]
    have hkG : k = G := by
      have : ¬ ((k : Nat) : Int) < (G : Int) := of_decide_eq_false c3
      omega
    subst hkG
    refine Tr.exit ?_; refine Tr.region ?_; refine TrL.quiets 3 rfl (by exact True.intro) ?_; refine TrL.nil ?_
    refine ⟨i + 1, by omega, by dsimp only; omega, ?_⟩
    refine Eq.trans (b := (⟨[(_, [], _), (_, [], _), (_, [], _), (_, [], _), (_, [], _)], []⟩ : St)) rfl ?_
    rw [w64n (y := i + 1) (by omega) (by omega)]
    rfl
  have hiK : i = K := by
    have : ¬ ((i : Nat) : Int) < (K : Int) := of_decide_eq_false c1
    omega
  subst hiK
  have hsp : splitW (many M G i) = (List.range i).map (fun a => wordN a M) := by
    have := many_split M G hM1 hG1 i []
    simpa [splitW, spl] using this
  have hspl : (splitW (many M G i)).length = i := by rw [hsp]; simp
  refine Tr.exit ?_; refine Tr.seq ?_; refine Tr.region ?_; refine TrL.quiets 1 rfl (by exact True.intro) ?_
  first | refine TrL.callV rfl rfl rfl rfl rfl (c_Split _ (by omega)) ?_ | refine TrD.callV rfl rfl rfl rfl rfl (c_Split _ (by omega)) rfl ?_
  refine TrL.quiets 1 rfl (by exact True.intro) ?_; refine TrL.nil ?_; refine Tr.seq ?_; refine Tr.seq ?_; refine Tr.region ?_; refine TrL.quiets 1 rfl (by exact True.intro) ?_; refine TrL.nil ?_; refine Tr.block ?_
  refine Tr.loop (fun (k : Nat) => ⟨[(7, [], vI (i : Int)), (8, [], vI (M : Int)), (9, [], vI (G : Int)), (10, [], vS (many M G i)), (14, [], vL .str (splitW (many M G i))), (15, [], vI k)], []⟩)
    (fun k => k ≤ i) (fun k => i - k) 0 [7, 8, 9, 10, 14, 15] 0 hB rfl (Nat.zero_le _) fun k hk => ?_
  refine Tr.seq ?_; refine Tr.seq ?_; refine Tr.region ?_; refine TrL.quiets 4 rfl (by exact True.intro) ?_; refine TrL.nil ?_
  refine Tr.cond rfl (fun c4 => ?_) (fun c4 => ?_)
  · have hk1 : k < i := by
      have : ((k : Nat) : Int) < ((splitW (many M G i)).length : Int) := of_decide_eq_true c4
      omega
    have hnth : nth (t := .str) (splitW (many M G i)) (k : Int) = wordN k M := by
      rw [nth_get' (t := .str) _ k (by omega)]
      simp [hsp]
    have h7 : Int.tmod (k : Int) 7 = ((k % 7 : Nat) : Int) := by
      rw [show (7 : Int) = ((7 : Nat) : Int) from rfl, tmod_nat]
    have h77 : k % 7 < 7 := Nat.mod_lt _ (by decide)
    refine Tr.skip ?_; refine Tr.seq ?_; refine Tr.block ?_; refine Tr.seq ?_; refine Tr.draw (by kernel_rfl) (by kernel_rfl) ?_; refine TrD.quiets 18 rfl ?_ ?_
    · simp only [allOf, impO, imp, inR, and_true, hnth, wordN_len, h7]
      refine ⟨by omega, fun _ => by omega, fun _ => by omega, fun _ => by decide, fun _ => ?_⟩
      change (0 : Int) ≤ ((k % 7 : Nat) : Int) ∧ ((k % 7 : Nat) : Int) < 7
      omega
    refine TrD.nil ?_
    refine Tr.cond rfl (fun c5 => ?_) (fun c5 => ?_)
    · exfalso
      have e1 : byteAt (wordN k M) 0 = (((ltr k).toNat : Nat) : Int) := by
        have := byteAt_get (wordN k M) 0 (by rw [wordN_len]; omega)
        rw [show ((0 : Nat) : Int) = 0 from rfl] at this
        rw [this]
        simp [wordN]
      have e2 : byteAt L7 ((k % 7 : Nat) : Int) = (((ltr k).toNat : Nat) : Int) := by
        show (((L7.getD (((k % 7 : Nat) : Int)).toNat 0).toNat : Nat) : Int) = _
        rw [Int.toNat_natCast]
        rfl
      rw [hnth, wordN_len, h7, e1] at c5
      simp only [bne_self_eq_false, Bool.false_or, bne_iff_ne, ne_eq] at c5
      exact c5 e2.symm
    refine Tr.skip ?_; refine Tr.region ?_; refine TrL.quiets 3 rfl (by exact True.intro) ?_; refine TrL.nil ?_
    refine ⟨k + 1, by omega, by dsimp only; omega, ?_⟩
    refine Eq.trans (b := (⟨[(_, [], _), (_, [], _), (_, [], _), (_, [], _), (_, [], _), (_, [], _)], []⟩ : St)) rfl ?_
    rw [w64n (y := k + 1) (by omega) (by omega)]
  have hst : (strip (many M G i)).length = i * (M + 1) - 1 := by
    rw [strip, joinW_len M _ (by rw [hsp]; intro w hw; obtain ⟨a, _, rfl⟩ := List.mem_map.1 hw; exact wordN_len a M), hspl]
  have htr := many_trim M G hM1 hG1 i
  have hleft := many_left M G hM1 i
  have hb1 : i * (M + 1) ≤ 60 * 21 := Nat.mul_le_mul (by omega) (by omega)
  refine Tr.exit ?_; refine Tr.seq ?_; refine Tr.region ?_; refine TrL.quiets 1 rfl (by exact True.intro) ?_
  first | refine TrL.callV rfl rfl rfl rfl rfl (c_words_Strip _ (by omega)) ?_ | refine TrD.callV rfl rfl rfl rfl rfl (c_words_Strip _ (by omega)) rfl ?_
  refine TrL.quiets 1 rfl (by exact True.intro) ?_; refine TrL.nil ?_; refine Tr.seq ?_; refine Tr.region ?_; refine TrL.quiets 17 rfl (by exact True.intro) ?_
  first | refine TrL.callV rfl rfl rfl rfl rfl (c_words_Trim _ (by omega)) ?_ | refine TrD.callV rfl rfl rfl rfl rfl (c_words_Trim _ (by omega)) rfl ?_
  refine TrL.quiets 10 rfl (by exact True.intro) ?_
  first | refine TrL.callV rfl rfl rfl rfl rfl (c_words_Left _) ?_ | refine TrD.callV rfl rfl rfl rfl rfl (c_words_Left _) rfl ?_
  refine TrL.quiets 4 rfl (by exact True.intro) ?_
  first | refine TrL.callV rfl rfl rfl rfl rfl c_awake01 ?_ | refine TrD.callV rfl rfl rfl rfl rfl c_awake01 rfl ?_
  refine TrL.quiets 2 rfl (by exact True.intro) ?_; refine TrL.nil ?_; refine Tr.ret ?_
  refine retQ.of rfl ?_
  refine congrArg vB ?_
  rw [hspl, hst, htr, hleft, hmi]
  have m1 : IntKind.i64.wrap ((M : Int) + 1) = ((M + 1 : Nat) : Int) := w64n (by omega) (by omega)
  have m2 : IntKind.i64.wrap ((i : Int) * ((M + 1 : Nat) : Int)) = ((i * (M + 1) : Nat) : Int) := w64n (by rw [Int.natCast_mul]) (by omega)
  have m3 : IntKind.i64.wrap (((i * (M + 1) : Nat) : Int) - 1) = ((i * (M + 1) : Nat) : Int) - 1 := w64 (by omega) (by omega)
  have m4 : IntKind.i64.wrap (((i * (M + G) : Nat) : Int) - (G : Int)) = ((i * (M + G) : Nat) : Int) - (G : Int) := w64 (by omega) (by omega)
  rw [m1, m2, m3, m4]
  have e1 : ((i * (M + 1) - 1 : Nat) : Int) = max (((i * (M + 1) : Nat) : Int) - 1) 0 := by omega
  have e2 : ((i * (M + G) - G : Nat) : Int) = max (((i * (M + G) : Nat) : Int) - (G : Int)) 0 := by omega
  rw [e1, e2]
  simp
end Go.Proofs.YtafngfcfinligaaDoor.Sx
