/-
  AssignBack: what it asks.
-/
import Derived.Test.YtafngfcfinligaaDoorF10
import Derived.Test.YtafngfcfinligaaDoorSxQ
set_option linter.unusedVariables false
set_option linter.unusedSimpArgs false
set_option maxRecDepth 20000
set_option maxHeartbeats 4000000
namespace Go.Proofs.YtafngfcfinligaaDoor.Sx
open Go Go.RowKit Go.Proofs

def tblName : List Str := [[97], [36, 40, 98, 58, 99, 61, 100, 41], [36, 123, 101, 61, 102, 125], [120, 32, 121], [103], [36, 36]]
/-- A name: references are closed, no blank at an end, no sign. -/
structure IsName (x : Str) : Prop where
  even : ∃ m, Even pSign x m
  tight : Tight x
  calm : calm x
theorem name_part : ∀ x ∈ tblName, IsName x ∧ x ≠ [] := by
  have ht : ∀ x ∈ tblName, ((∀ c, x.head? = some c → isBlank c = false) ∧ (∀ c, x.getLast? = some c → isBlank c = false)) := by
    intro x hx
    simp only [tblName, List.mem_cons, List.not_mem_nil, or_false] at hx
    rcases hx with rfl | rfl | rfl | rfl | rfl | rfl <;> exact ⟨fun c hc => by obtain rfl := Option.some.inj hc; decide, fun c hc => by obtain rfl := Option.some.inj hc; decide⟩
  intro x hx
  obtain ⟨t1, t2⟩ := ht x hx
  simp only [tblName, List.mem_cons, List.not_mem_nil, or_false] at hx
  rcases hx with rfl | rfl | rfl | rfl | rfl | rfl
  · exact ⟨⟨⟨[true], rfl, fun r => by rw [List.cons_append, outs_cons]; rfl, by decide⟩, ⟨t1, t2⟩, by decide⟩, by decide⟩
  · exact ⟨⟨⟨[false, false, false, false, false, false, false, false], rfl, fun r => by simp [outs_cons, isOpen, isClose], by decide⟩, ⟨t1, t2⟩, by decide⟩, by decide⟩
  · exact ⟨⟨⟨[false, false, false, false, false, false], rfl, fun r => by simp [outs_cons, isOpen, isClose], by decide⟩, ⟨t1, t2⟩, by decide⟩, by decide⟩
  · exact ⟨⟨⟨[true, true, true], rfl, fun r => by simp [outs_cons, isOpen, isClose], by decide⟩, ⟨t1, t2⟩, by decide⟩, by decide⟩
  · exact ⟨⟨⟨[true], rfl, fun r => by simp [outs_cons, isOpen, isClose], by decide⟩, ⟨t1, t2⟩, by decide⟩, by decide⟩
  · exact ⟨⟨⟨[false, false], rfl, fun r => by simp [outs_cons, isOpen, isClose], by decide⟩, ⟨t1, t2⟩, by decide⟩, by decide⟩
theorem IsName.nil : IsName [] := ⟨⟨[], Even.nil _⟩, Tight.nil, by decide⟩
theorem IsName.append {x y : Str} (h : IsName x) (k : IsName y) (hy : y ≠ []) : IsName (x ++ y) := by
  obtain ⟨m, hm⟩ := h.even
  obtain ⟨n, hn⟩ := k.even
  refine ⟨⟨m ++ n, hm.append hn⟩, h.tight.append k.tight, ?_⟩
  unfold Sx.calm
  rw [List.getLast?_append]
  cases hl : y.getLast? with
  | none => exact absurd (List.getLast?_eq_none_iff.1 hl) hy
  | some c =>
    have := k.calm
    unfold Sx.calm at this
    rw [hl] at this
    exact this
theorem blank_even : Even pSign [32] [true] := ⟨rfl, fun r => by rw [List.cons_append, outs_cons]; rfl, by decide⟩

def blankOf (tight : Bool) : Str := if tight then [] else [32]
/-- What is put together is read as it. -/
theorem back_reads {n w o : Str} (hn : IsName n) (h0 : n ≠ []) (hw : Tight w) (ho : o ∈ tblOp) (tight : Bool) : readR (n ++ blankOf tight ++ o ++ blankOf tight ++ w) = (n, o, w, true) := by
  obtain ⟨m, hm⟩ := hn.even
  have hb : ∀ c ∈ blankOf tight, isBlank c = true := by
    intro c hc
    cases tight <;> simp [blankOf] at hc
    subst hc
    decide
  have hl : left (blankOf tight ++ w) = w := by rw [left_blank _ _ hb, hw.left]
  have ht : trim (n ++ blankOf tight) = n := hn.tight.trim_app h0 _ hb
  have hcalm : calm (n ++ blankOf tight) := by
    cases tight
    · unfold Sx.calm blankOf
      rw [List.getLast?_append]
      simp
    · simpa [blankOf] using hn.calm
  have he : ∃ m, Even pSign (n ++ blankOf tight) m := by
    cases tight
    · exact ⟨_, hm.append blank_even⟩
    · simp only [blankOf, if_true, List.append_nil]; exact ⟨m, hm⟩
  obtain ⟨m2, hm2⟩ := he
  have := readR_sign (n ++ blankOf tight) (blankOf tight ++ w) o m2 hm2 hcalm ho
  rw [ht, hl] at this
  rw [← this]
  simp
theorem back_rule {n : Str} (hn : IsName n) (t : Str) : (readR (n ++ [32, 58, 32] ++ t)).2.2.2 = false := by
  obtain ⟨m, hm⟩ := hn.even
  have := readR_rule (n ++ [32]) t _ 32 (hm.append blank_even) (by decide) (by decide)
  rw [← this]
  simp

def opOf (v : Int) : Str := nth (t := .str) tblOp (v % 5)
theorem opOf_mem (v : Int) : opOf v ∈ tblOp := nth_mem (n := 5) (l := tblOp) (by decide) rfl
theorem opOf_le (v : Int) : (opOf v).length ≤ 3 := nth_le tblOp _ 3 (by decide)

theorem c_AssignBack (ns : List Int) (op : Int) (vs : List Int) (tight : Bool) (hn : okInts ns) (hv : okInts vs) (ho1 : -9223372036854775808 ≤ op) (ho2 : op ≤ 9223372036854775807) :
    CallV Tryd.prog 4 [vL (.int .i64) ns, vI op, vL (.int .i64) vs, vB tight] (vB true) := by
  refine CallV.of Tryd.func4 (by kernel_rfl) rfl Tryd.ntmps4 (by simp) rfl fun cx hB => ?_
  refine Tr.seq ?_; refine Tr.region ?_; refine TrL.quiets 1 rfl (by exact True.intro) ?_; refine TrL.nil ?_; refine Tr.seq ?_; refine Tr.region ?_; refine TrL.quiets 1 rfl (by exact True.intro) ?_; refine TrL.nil ?_; refine Tr.seq ?_; refine Tr.seq ?_; refine Tr.region ?_; refine TrL.quiets 1 rfl (by exact True.intro) ?_; refine TrL.nil ?_; refine Tr.block ?_
  refine Tr.loop (fun ((i, t) : Nat × Str) => ⟨[(0, [], vL (.int .i64) ns), (1, [], vI op), (2, [], vL (.int .i64) vs), (3, [], vB tight), (9, [], vS t), (10, [], vI i)], []⟩)
    (fun (i, t) => i ≤ 4 ∧ t.length ≤ 8 * i ∧ IsName t) (fun (i, t) => 4 - i) (0, []) [0, 1, 2, 3, 9, 10] 0 hB rfl ⟨by decide, by decide, IsName.nil⟩ fun x hx => ?_
  obtain ⟨i, t⟩ := x
  obtain ⟨hi, hl, ht⟩ := hx
  refine Tr.seq ?_; refine Tr.seq ?_; refine Tr.region ?_; refine TrL.quiets 8 rfl (by exact True.intro) ?_; refine TrL.nil ?_
  refine Tr.cond rfl (fun h1 => ?_) (fun h1 => ?_)
  · simp only [Bool.and_eq_true, decide_eq_true_eq] at h1
    have hi1 : i < ns.length := by omega
    obtain ⟨hv1, hv2⟩ := okInts_nth hn i
    have hk := nth_le tblName (nth (t := .int .i64) ns (i : Int) % 6) 8 (by decide)
    obtain ⟨p1, p2⟩ := name_part _ (nth_mem (v := nth (t := .int .i64) ns (i : Int)) (n := 6) (l := tblName) (by decide) rfl)
    refine Tr.skip ?_; refine Tr.seq ?_; refine Tr.block ?_; refine Tr.region ?_; refine TrL.quiets 6 rfl (by (simp only [allOf, impO, imp, inR, loOk, and_true]; omega)) ?_
    first | refine TrL.callV rfl rfl rfl rfl rfl (c_Place _ 6 (by decide) (by decide) hv1 hv2) ?_ | refine TrD.callV rfl rfl rfl rfl rfl (c_Place _ 6 (by decide) (by decide) hv1 hv2) rfl ?_
    refine TrL.quiets 3 rfl ?_ ?_
    · simp only [allOf, impO, imp, inR, loOk, and_true]
      refine ⟨⟨Int.emod_nonneg _ (by decide), Int.emod_lt_of_pos _ (by decide)⟩, ?_⟩
      show ((t.length + (nth (t := .str) tblName (nth (t := .int .i64) ns (i : Int) % 6) : Str).length : Nat) : Int) ≤ 9223372036854775807
      omega
    refine TrL.nil ?_; refine Tr.region ?_; refine TrL.quiets 3 rfl (by exact True.intro) ?_; refine TrL.nil ?_
    refine ⟨(i + 1, t ++ nth (t := .str) tblName (nth (t := .int .i64) ns (i : Int) % 6)), ⟨by omega, ?_, ht.append p1 p2⟩, by dsimp only; omega, ?_⟩
    · simp only [List.length_append]
      omega
    · refine Eq.trans (b := (⟨[(_, [], _), (_, [], _), (_, [], _), (_, [], _), (_, [], _), (_, [], _)], []⟩ : St)) rfl ?_
      rw [w64n (y := i + 1) (by omega) (by omega)]
      rfl
  refine Tr.exit ?_
  refine Tr.join (fun n : Str => ⟨[(1, [], vI op), (2, [], vL (.int .i64) vs), (3, [], vB tight), (9, [], vS n)], []⟩) (fun n => n.length ≤ 32 ∧ IsName n ∧ n ≠ []) [1, 2, 3, 9] 0 hB ?_ fun n hn => ?_
  · refine Tr.seq ?_; refine Tr.region ?_; refine TrL.quiets 2 rfl (by exact True.intro) ?_; refine TrL.nil ?_
    refine Tr.cond rfl (fun h2 => ?_) (fun h2 => ?_)
    · refine Tr.region ?_; refine TrL.quiets 1 rfl (by exact True.intro) ?_; refine TrL.nil ?_
      exact ⟨[122], ⟨by decide, ⟨⟨[true], rfl, fun r => by rw [List.cons_append, outs_cons]; rfl, by decide⟩, ⟨fun c hc => by obtain rfl := Option.some.inj hc; decide, fun c hc => by obtain rfl := Option.some.inj hc; decide⟩, by decide⟩, by decide⟩, rfl⟩
    · refine Tr.skip ?_
      exact ⟨t, ⟨by omega, ht, fun e => by subst e; simp at h2⟩, rfl⟩
  obtain ⟨hnl, hnn, hn0⟩ := hn
  refine Tr.seq ?_; refine Tr.draw (by kernel_rfl) (by kernel_rfl) ?_; refine TrD.quiets 2 rfl (by exact True.intro) ?_
  first | refine TrL.callV rfl rfl rfl rfl rfl (c_Place _ 5 (by decide) (by decide) ho1 ho2) ?_ | refine TrD.callV rfl rfl rfl rfl rfl (c_Place _ 5 (by decide) (by decide) ho1 ho2) rfl ?_
  refine TrD.quiets 2 rfl (by (simp only [allOf, impO, imp, inR, loOk, and_true]; omega)) ?_
  first | refine TrL.callV rfl rfl rfl rfl rfl (c_Words vs hv) ?_ | refine TrD.callV rfl rfl rfl rfl rfl (c_Words vs hv) rfl ?_
  refine TrD.quiets 2 rfl (by exact True.intro) ?_; refine TrD.nil ?_; refine Tr.seq ?_; refine Tr.region ?_; refine TrL.quiets 1 rfl (by exact True.intro) ?_; refine TrL.nil ?_
  have hol := opOf_le op
  have hwl := wordsL_le vs
  have hbl : (blankOf tight).length ≤ 1 := by cases tight <;> decide
  refine Tr.join (fun _ : Unit => ⟨[(9, [], vS n), (11, [], vS (opOf op)), (12, [], vS (wordsL vs)), (13, [], vS (blankOf tight))], []⟩) (fun _ => True) [9, 11, 12, 13] 0 hB ?_ fun _ _ => ?_
  · refine Tr.seq ?_; refine Tr.region ?_; refine TrL.quiets 1 rfl (by exact True.intro) ?_; refine TrL.nil ?_
    refine Tr.cond rfl (fun h3 => ?_) (fun h3 => ?_)
    · obtain rfl : tight = true := h3
      refine Tr.region ?_; refine TrL.quiets 1 rfl (by exact True.intro) ?_; refine TrL.nil ?_
      exact ⟨(), trivial, rfl⟩
    · obtain rfl : tight = false := h3
      refine Tr.skip ?_
      exact ⟨(), trivial, rfl⟩
  refine Tr.seq ?_; refine Tr.region ?_; refine TrL.quiets 9 rfl (by (simp (disch := omega) only [allOf, impO, imp, inR, loOk, and_true, w64, List.length_set, List.length_cons, List.length_nil, cut, List.length_take, List.length_drop, List.length_append, Int.toNat_natCast, Option.getD_none, Option.getD_some, Ty.D, true_and, decide_eq_true_eq, decide_eq_false_iff_not, Bool.and_eq_true, Bool.or_eq_false_iff]; omega)) ?_
  first | refine TrL.callV rfl rfl rfl rfl rfl (c_assign_Read _ (by simp only [List.length_append]; omega)) ?_ | refine TrD.callV rfl rfl rfl rfl rfl (c_assign_Read _ (by simp only [List.length_append]; omega)) rfl ?_
  refine TrL.is 60 (sv' := tup4 (n, opOf op, wordsL vs, true)) rfl (congrArg tup4 (back_reads hnn hn0 (wordsL_tight vs) (opOf_mem op) tight)) ?_
  refine TrL.quiets 9 rfl (by exact True.intro) ?_; refine TrL.nil ?_; refine Tr.seq ?_; refine Tr.region ?_; refine TrL.quiets 10 rfl (by (simp (disch := omega) only [allOf, impO, imp, inR, loOk, and_true, w64, List.length_set, List.length_cons, List.length_nil, cut, List.length_take, List.length_drop, List.length_append, Int.toNat_natCast, Option.getD_none, Option.getD_some, Ty.D, true_and, decide_eq_true_eq, decide_eq_false_iff_not, Bool.and_eq_true, Bool.or_eq_false_iff]; omega)) ?_
  first | refine TrL.callV rfl rfl rfl rfl rfl (c_assign_Read _ (by simp only [List.length_append, List.length_cons, List.length_nil]; omega)) ?_ | refine TrD.callV rfl rfl rfl rfl rfl (c_assign_Read _ (by simp only [List.length_append, List.length_cons, List.length_nil]; omega)) rfl ?_
  refine TrL.quiets 9 rfl (by exact True.intro) ?_; refine TrL.nil ?_; refine Tr.seq ?_; refine Tr.region ?_; refine TrL.quiets 21 rfl (by exact True.intro) ?_; refine TrL.callV rfl rfl rfl rfl rfl (by apply (c_awake24) <;> first | assumption | omega | (simp only [cut, List.length_take, List.length_drop, Int.toNat_natCast]; omega)) ?_; refine TrL.quiets 2 rfl (by exact True.intro) ?_; refine TrL.nil ?_; refine Tr.ret ?_
  refine retQ.of rfl ?_
  have e2 : (readR (n ++ [32, 58, 32] ++ n ++ blankOf tight ++ opOf op ++ wordsL vs)).2.2.2 = false := by
    have := back_rule hnn (n ++ blankOf tight ++ opOf op ++ wordsL vs)
    rw [← this]
    simp
  refine congrArg vB ?_
  show (((((true && n == n) && opOf op == opOf op) && wordsL vs == wordsL vs) && !((readR (n ++ [32, 58, 32] ++ n ++ blankOf tight ++ opOf op ++ wordsL vs)).2.2.2)) && true) = true
  rw [e2]
  simp
end Go.Proofs.YtafngfcfinligaaDoor.Sx
