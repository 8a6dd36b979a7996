/-
  VfsAll.
-/
import Derived.Test.YtgmjkciinnjpbaaDoorV13
import Derived.Test.YtgmjkciinnjpbaaDoorV25
set_option linter.unusedVariables false
set_option linter.unusedSimpArgs false
set_option maxRecDepth 20000
set_option maxHeartbeats 4000000
namespace Go.Proofs.YtgmjkciinnjpbaaDoor.Sx
open Go Go.RowKit Go.Proofs

def fewE (e : EntD) : Bool := decide (e.1.length ≤ 200) && decide (e.2.2.length ≤ 1000)
def fewF (l : List EntD) : Bool := (l.take 40).all fewE && decide (l.length ≤ 40)
theorem c_FewFiles (l : List EntD) (hl : l.length ≤ 9223372036854775807) : CallV Tryd.prog 7 [vL eTy l] (vB (fewF l)) := by
  refine CallV.of Tryd.func7 (by kernel_rfl) rfl Tryd.ntmps7 (by simp) rfl fun cx hB => ?_
  refine Tr.seq ?_; refine Tr.region ?_; refine TrL.quiets 1 rfl (by exact True.intro) ?_; refine TrL.nil ?_; refine Tr.seq ?_; refine Tr.seq ?_; refine Tr.region ?_; refine TrL.quiets 1 rfl (by exact True.intro) ?_; refine TrL.nil ?_; refine Tr.block ?_
  refine Tr.loop (fun i : Nat => ⟨[(0, [], vL eTy l), (3, [], vI i)], []⟩) (fun i => i ≤ l.length ∧ i ≤ 40 ∧ (l.take i).all fewE = true) (fun i => 40 - i) 0 [0, 3] 0 (fun i h => hB i h) rfl ⟨Nat.zero_le _, Nat.zero_le _, rfl⟩ fun i hi => ?_
  obtain ⟨hi, hi2, hi3⟩ := hi
  refine Tr.seq ?_; refine Tr.seq ?_; refine Tr.region ?_; refine TrL.quiets 8 rfl (by exact True.intro) ?_; refine TrL.nil ?_
  refine Tr.cond rfl (fun c1 => ?_) (fun c1 => ?_)
  · have hi1 : i < l.length ∧ i < 40 := by
      simp only [Bool.and_eq_true, decide_eq_true_eq] at c1
      omega
    have hnth : nth (t := eTy) l (i : Int) = l[i]'hi1.1 := nth_get' (t := eTy) _ _ hi1.1
    refine Tr.skip ?_; refine Tr.seq ?_; refine Tr.block ?_; refine Tr.seq ?_; refine Tr.region ?_; refine TrL.quiets 16 rfl (by (simp only [allOf, impO, imp, inR, loOk, and_true]; omega)) ?_; refine TrL.nil ?_
    refine Tr.cond rfl (fun c2 => ?_) (fun c2 => ?_)
    · have hno : fewE (l[i]'hi1.1) = false := by
        rw [hnth] at c2
        unfold fewE
        simp only [Bool.or_eq_true, decide_eq_true_eq] at c2
        rw [Bool.and_eq_false_iff, decide_eq_false_iff_not, decide_eq_false_iff_not]
        omega
      have hf : fewF l = false := by
        unfold fewF
        rw [show (l.take 40).all fewE = false from List.all_eq_false.2 ⟨l[i]'hi1.1, by
          rw [List.mem_iff_getElem?]
          exact ⟨i, by rw [List.getElem?_take, if_pos hi1.2, List.getElem?_eq_getElem hi1.1]⟩, by rw [hno]; decide⟩]
        rfl
      refine Tr.seq ?_; refine Tr.region ?_; refine TrL.quiets 1 rfl (by exact True.intro) ?_; refine TrL.nil ?_; refine Tr.ret ?_
      refine retQ.of rfl ?_
      rw [hf]
    · have hyes : fewE (l[i]'hi1.1) = true := by
        rw [hnth] at c2
        unfold fewE
        simp only [Bool.or_eq_false_iff, decide_eq_false_iff_not] at c2
        rw [Bool.and_eq_true, decide_eq_true_eq, decide_eq_true_eq]
        omega
      refine Tr.skip ?_; refine Tr.region ?_; refine TrL.quiets 3 rfl (by exact True.intro) ?_; refine TrL.nil ?_
      refine ⟨i + 1, ⟨hi1.1, hi1.2, by rw [List.take_succ_eq_append_getElem hi1.1, List.all_append, hi3]; simp [hyes]⟩, by dsimp only; omega, ?_⟩
      refine Eq.trans (b := (⟨[(0, [], vL eTy l), (3, [], vI (IntKind.i64.wrap ((i : Int) + 1)))], []⟩ : St)) rfl ?_
      dsimp only
      rw [w64n (y := i + 1) (by omega) (by omega)]
  · have hi1 : i = l.length ∨ i = 40 := by
      simp only [Bool.and_eq_false_iff, decide_eq_false_iff_not] at c1
      omega
    have hf : fewF l = decide ((l.length : Int) ≤ 40) := by
      unfold fewF
      have : l.take 40 = l.take i := by
        rw [List.take_eq_take_iff]
        omega
      rw [this, hi3, Bool.true_and]
      exact decide_eq_decide.2 (by omega)
    refine Tr.exit ?_; refine Tr.seq ?_; refine Tr.region ?_; refine TrL.quiets 4 rfl (by exact True.intro) ?_; refine TrL.nil ?_; refine Tr.ret ?_
    refine retQ.of rfl ?_
    rw [hf]
theorem few_of {l : List EntD} (h : fewF l = true) : l.length ≤ 40 ∧ ∀ e ∈ l, e.1.length ≤ 200 := by
  unfold fewF at h
  rw [Bool.and_eq_true, decide_eq_true_eq] at h
  refine ⟨h.2, fun e he => ?_⟩
  rw [List.take_of_length_le h.2] at h
  have := List.all_eq_true.1 h.1 e he
  unfold fewE at this
  rw [Bool.and_eq_true, decide_eq_true_eq] at this
  exact this.1
abbrev allT (l : List EntD) (L : List Fent) : List Ent := [.gs 30 eTy l, .res (dmRes (dirsOf L)), .res (fmRes (filesOf L)), .box 51 [.mp 1, .mp 2], .gs 30 eTy (L.map entOf), .box 57 [.own 4]]
abbrev boxE (e : EntD) : Ent := .box 30 [vS e.1, vB e.2.1, vS e.2.2]
theorem c_VfsAll (l : List EntD) (p : Str) (hl : l.length ≤ 9223372036854775807) : CallV Tryd.prog 3 [vL eTy l, vS p] (vB true) := by
  refine CallV.of Tryd.func3 (by kernel_rfl) rfl Tryd.ntmps3 (by simp) rfl fun cx hB => ?_
  refine Tr.seq ?_; refine Tr.region ?_; refine TrL.quiets 1 rfl (by exact True.intro) ?_; refine TrL.nil ?_; refine Tr.seq ?_; refine Tr.seq ?_; refine Tr.region ?_; refine TrL.quiets 1 rfl (by exact True.intro) ?_
  first | refine TrL.callV rfl rfl rfl rfl rfl (c_FewFiles l hl) ?_ | refine TrD.callV rfl rfl rfl rfl rfl (c_FewFiles l hl) rfl ?_
  refine TrL.quiets 6 rfl (by exact True.intro) ?_; refine TrL.nil ?_
  refine Tr.cond rfl (fun c1 => ?_) (fun c1 => ?_)
  · refine Tr.seq ?_; refine Tr.region ?_
    first | refine TrL.callV rfl rfl rfl rfl rfl c_awake ?_ | refine TrD.callV rfl rfl rfl rfl rfl c_awake rfl ?_
    refine TrL.quiets 1 rfl (by exact True.intro) ?_; refine TrL.nil ?_; refine Tr.ret ?_
    refine retQ.of rfl ?_
    rfl
  have hfew : fewF l = true ∧ p.length ≤ 300 := by
    simp only [Bool.or_eq_false_iff, Bool.not_eq_false', decide_eq_false_iff_not] at c1
    exact ⟨c1.1, by omega⟩
  obtain ⟨hll, hlp⟩ := few_of hfew.1
  have hpl := hfew.2
  have hok := fsOf_ok l
  have hlim : FsLim (fsOf l) := fsOf_lim (fun e he => by have := hlp e he; omega)
  refine Tr.skip ?_; refine Tr.seq ?_; refine Tr.region ?_; refine TrL.quiets 1 rfl (by exact True.intro) ?_; refine TrL.eff (effAppend_sound rfl) ?_ ?_
  · show l.length ≤ 1099511627776
    omega
  refine TrL.callT [] rfl rfl rfl rfl rfl (c_NewL l (by omega) (fun e he => by have := hlp e he; omega)) rfl rfl rfl ?_
  refine TrL.quiets 1 rfl (by exact True.intro) ?_
  refine TrL.callT [] rfl rfl rfl rfl rfl (c_refNew l (by omega) (fun e he => by have := hlp e he; omega)) rfl rfl rfl ?_
  generalize fsOf l = L at hok hlim
  refine TrL.quiets 2 rfl (by exact True.intro) ?_; refine TrL.nil ?_
  change Tr _ _ _ _ _ _
  refine Tr.keep [0, 1, 5, 6] 6 (fun i h => by have := hB i h; omega) (st' := ⟨[(0, [], vL eTy l), (1, [], vS p), (5, [], .ptr 3 0), (6, [], .ptr 5 0)], allT l L⟩) rfl ?_
  refine Tr.seq ?_; refine Tr.seq ?_; refine Tr.region ?_; refine TrL.quiets 2 rfl (by exact True.intro) ?_; refine TrL.nil ?_
  refine Tr.cond rfl (fun c2 => ?_) (fun c2 => ?_)
  · cases c2
  refine Tr.skip ?_; refine Tr.seq ?_; refine Tr.seq ?_; refine Tr.region ?_; refine TrL.quiets 1 rfl (by exact True.intro) ?_; refine TrL.nil ?_; refine Tr.block ?_
  refine Tr.loop (fun j : Nat => ⟨[(0, [], vL eTy l), (1, [], vS p), (5, [], .ptr 3 0), (6, [], .ptr 5 0), (7, [], vI ((j : Int) - 1))], allT l L⟩) (fun j => j ≤ l.length + 1) (fun j => l.length + 1 - j) 0 [0, 1, 5, 6, 7] 6 (fun i h => by have := hB i h; omega) rfl (Nat.zero_le _) fun j hj => ?_
  refine Tr.seq ?_; refine Tr.seq ?_; refine Tr.region ?_; refine TrL.quiets 4 rfl (by exact True.intro) ?_; refine TrL.nil ?_
  refine Tr.cond rfl (fun c3 => ?_) (fun c3 => ?_)
  · have hj1 : j < l.length + 1 := by
      have : (j : Int) - 1 < (l.length : Int) := by simpa using c3
      omega
    refine Tr.skip ?_; refine Tr.seq ?_; refine Tr.block ?_; refine Tr.seq ?_; refine Tr.region ?_; refine TrL.quiets 2 rfl (by exact True.intro) ?_; refine TrL.nil ?_
    refine Tr.join (α := Str) (fun q => ⟨[(0, [], vL eTy l), (1, [], vS p), (5, [], .ptr 3 0), (6, [], .ptr 5 0), (7, [], vI ((j : Int) - 1)), (8, [], vS q)], allT l L⟩) (fun q => q.length ≤ 300) [0, 1, 5, 6, 7, 8] 6 (fun i h => by have := hB i h; omega) ?_ fun q hq => ?_
    · refine Tr.seq ?_; refine Tr.region ?_; refine TrL.quiets 2 rfl (by exact True.intro) ?_; refine TrL.nil ?_
      refine Tr.cond rfl (fun c4 => ?_) (fun c4 => ?_)
      · have hj0 : 1 ≤ j := by
          have : (j : Int) - 1 ≥ 0 := by simpa using c4
          omega
        have hjl : j - 1 < l.length := by omega
        have hnth : nth (t := eTy) l ((j : Int) - 1) = l[j - 1] := by
          rw [show (j : Int) - 1 = ((j - 1 : Nat) : Int) by omega]
          exact nth_get' (t := eTy) _ _ hjl
        refine Tr.region ?_; refine TrL.quiets 6 rfl (by (simp only [allOf, impO, imp, inR, loOk, and_true]; omega)) ?_; refine TrL.nil ?_
        exact ⟨(nth (t := eTy) l ((j : Int) - 1)).1, by rw [hnth]; have := hlp _ (List.getElem_mem hjl); omega, rfl⟩
      · refine Tr.skip ?_
        exact ⟨p, hpl, rfl⟩
    refine Tr.seq ?_; refine Tr.region ?_; refine TrL.quiets 2 rfl (by exact True.intro) ?_
    refine TrL.callT [3, 1, 2] rfl rfl rfl rfl rfl (c_LookL hok q (by omega)) rfl rfl rfl ?_
    refine TrL.quiets 3 rfl (by exact True.intro) ?_; refine TrL.eff (effBox_sound rfl) (by exact True.intro) ?_; refine TrL.eff (effStore_sound rfl) (by exact True.intro) ?_; refine TrL.quiets 1 rfl (by exact True.intro) ?_; refine TrL.nil ?_
    change Tr _ _ _ _ _ _
    refine Tr.keep [0, 1, 5, 6, 7, 8, 9, 10] 7 (fun i h => by have := hB i h; omega) (st' := ⟨[(0, [], vL eTy l), (1, [], vS p), (5, [], .ptr 3 0), (6, [], .ptr 5 0), (7, [], vI ((j : Int) - 1)), (8, [], vS q), (9, [], .ptr 6 0), (10, [], vB (lookL L q).2)], allT l L ++ [boxE (lookL L q).1]⟩) rfl ?_
    refine Tr.seq ?_; refine Tr.region ?_; refine TrL.quiets 2 rfl (by exact True.intro) ?_
    refine TrL.callT [5, 4] rfl rfl rfl rfl rfl (c_refLook hok q (by omega) hlim.1) rfl rfl rfl ?_
    refine TrL.quiets 3 rfl (by exact True.intro) ?_; refine TrL.eff (effBox_sound rfl) (by exact True.intro) ?_; refine TrL.eff (effStore_sound rfl) (by exact True.intro) ?_; refine TrL.quiets 1 rfl (by exact True.intro) ?_; refine TrL.nil ?_
    change Tr _ _ _ _ _ _
    refine Tr.keep [0, 1, 5, 6, 7, 8, 9, 10, 11, 12] 8 (fun i h => by have := hB i h; omega) (st' := ⟨[(0, [], vL eTy l), (1, [], vS p), (5, [], .ptr 3 0), (6, [], .ptr 5 0), (7, [], vI ((j : Int) - 1)), (8, [], vS q), (9, [], .ptr 6 0), (10, [], vB (lookL L q).2), (11, [], .ptr 7 0), (12, [], vB (lookL L q).2)], allT l L ++ [boxE (lookL L q).1, boxE (lookL L q).1]⟩) rfl ?_
    generalize lookL L q = r
    refine Tr.seq ?_; refine Tr.region ?_; refine TrL.quiets 27 rfl (by exact True.intro) ?_
    refine TrL.is 79 (sv' := vB false) rfl (by simp) ?_
    refine TrL.known 80 rfl rfl ?_
    refine TrL.known 81 rfl rfl ?_
    refine TrL.want rfl rfl rfl ?_
    refine TrL.callT [3, 1, 2] rfl rfl rfl rfl rfl (c_ListL hok hlim q (by omega)) rfl rfl rfl ?_
    refine TrL.keep [0, 1, 5, 6, 7, 8, 79, 82] 6 (fun i h => by have := hB i h; omega) (st' := ⟨[(0, [], vL eTy l), (1, [], vS p), (5, [], .ptr 3 0), (6, [], .ptr 5 0), (7, [], vI ((j : Int) - 1)), (8, [], vS q), (79, [], vB false), (82, [], vL .str (listL L q))], allT l L⟩) rfl ?_
    refine TrL.quiets 2 rfl (by exact True.intro) ?_
    refine TrL.known 83 rfl rfl ?_
    refine TrL.known 84 rfl rfl ?_
    refine TrL.want rfl rfl rfl ?_
    refine TrL.callT [5, 4] rfl rfl rfl rfl rfl (c_refList hok hlim q (by omega)) rfl rfl rfl ?_
    refine TrL.keep [0, 1, 5, 6, 7, 8, 79, 82, 85] 6 (fun i h => by have := hB i h; omega) (st' := ⟨[(0, [], vL eTy l), (1, [], vS p), (5, [], .ptr 3 0), (6, [], .ptr 5 0), (7, [], vI ((j : Int) - 1)), (8, [], vS q), (79, [], vB false), (82, [], vL .str (listL L q)), (85, [], vL .str (listL L q))], allT l L⟩) rfl ?_
    refine TrL.want rfl rfl rfl ?_
    have hls : (listL L q).length ≤ 1099511627 := by
      unfold listL
      split
      · simp
      · rw [(sortS_perm _).length_eq]
        have := kids_len L (absL q)
        have := hlim.1
        omega
    first | refine TrL.callV rfl rfl rfl rfl rfl (c_Same (listL L q) (listL L q) hls) ?_ | refine TrD.callV rfl rfl rfl rfl rfl (c_Same (listL L q) (listL L q) hls) rfl ?_
    refine TrL.quiets 2 rfl (by exact True.intro) ?_; refine TrL.nil ?_
    refine Tr.cond rfl (fun c5 => ?_) (fun c5 => ?_)
    · simp at c5
    refine Tr.skip ?_; refine Tr.region ?_; refine TrL.quiets 3 rfl (by exact True.intro) ?_; refine TrL.nil ?_
    refine ⟨j + 1, by omega, by dsimp only; omega, ?_⟩
    refine Eq.trans (b := (⟨[(0, [], vL eTy l), (1, [], vS p), (5, [], .ptr 3 0), (6, [], .ptr 5 0), (7, [], vI (IntKind.i64.wrap ((j : Int) - 1 + 1)))], allT l L⟩ : St)) rfl ?_
    dsimp only
    rw [w64 (by omega) (by omega), show (j : Int) - 1 + 1 = ((j + 1 : Nat) : Int) - 1 by omega]
  · have hal : (allL L).length ≤ 1099511627 := by
      unfold allL
      rw [(sortE_perm _).length_eq, List.length_map, List.length_tail]
      have := hlim.1
      omega
    refine Tr.exit ?_; refine Tr.seq ?_; refine Tr.region ?_; refine TrL.quiets 1 rfl (by exact True.intro) ?_
    refine TrL.callT [3, 1, 2] rfl rfl rfl rfl rfl (c_AllL hok hlim) rfl rfl rfl ?_
    refine TrL.quiets 1 rfl (by exact True.intro) ?_
    refine TrL.callT [5, 4] rfl rfl rfl rfl rfl (c_refAll hok hlim) rfl rfl rfl ?_
    first | refine TrL.callV rfl rfl rfl rfl rfl (c_Same6 (allL L) (allL L) hal) ?_ | refine TrD.callV rfl rfl rfl rfl rfl (c_Same6 (allL L) (allL L) hal) rfl ?_
    refine TrL.quiets 1 rfl (by exact True.intro) ?_
    refine TrL.is 94 (sv' := vB true) rfl (by simp) ?_
    refine TrL.want rfl rfl rfl ?_
    first | refine TrL.callV rfl rfl rfl rfl rfl c_awake ?_ | refine TrD.callV rfl rfl rfl rfl rfl c_awake rfl ?_
    refine TrL.quiets 2 rfl (by exact True.intro) ?_; refine TrL.nil ?_; refine Tr.ret ?_
    refine retQ.of rfl ?_
    rfl
end Go.Proofs.YtgmjkciinnjpbaaDoor.Sx
