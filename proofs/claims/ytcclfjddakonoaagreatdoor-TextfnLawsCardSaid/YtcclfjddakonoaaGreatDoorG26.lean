/-
  Patterns: the reference's Of.
-/
import Derived.Test.YtcclfjddakonoaaGreatDoorG25
import Derived.Test.YtcclfjddakonoaaGreatDoorSxX
set_option linter.unusedVariables false
set_option linter.unusedSimpArgs false
set_option maxRecDepth 20000
set_option maxHeartbeats 4000000
namespace Go.Proofs.YtcclfjddakonoaaGreatDoor.Sx
open Go Go.RowKit Go.Proofs

theorem strBytes_snoc (s : Str) (c : UInt8) : strBytes (s ++ [c]) = strBytes s ++ [((c.toNat : Nat) : Int)] := by simp [strBytes]
theorem numStr_bytes (s : Str) : numStr (strBytes s) = s := by
  unfold numStr strBytes
  rw [List.map_map]
  have : ((fun n : Int => UInt8.ofNat n.toNat) ∘ fun b : UInt8 => ((b.toNat : Nat) : Int)) = id := by
    funext b
    simp
  rw [this, List.map_id]
theorem strBytes_take (s : Str) (n : Nat) : (strBytes s).take n = strBytes (s.take n) := by simp [strBytes, List.map_take]
abbrev rpBox (p : PatD) : Ent := .box 64 [vB p.1, vS p.2.1, vS p.2.2]
abbrev rowOf (l : List Int) : List Ent := [rpBox (false, [], []), .ra 5 (.int .u8) l]
theorem c_rOf (s : Str) (hs : s.length ≤ 1099511627775) : CallV Tryz.prog 42 [vS s] (patSV (patF s)) := by
  refine CallV.of Tryz.func42 (by kernel_rfl) rfl Tryz.ntmps42 (by simp) rfl fun cx hB => ?_
  have hB2 : ∀ i, cx.B i = true → i < 2 := fun i h => by have := hB i h; omega
  refine Tr.seq ?_; refine Tr.region ?_; refine TrL.eff (effBox_sound rfl) (by exact True.intro) ?_; refine TrL.nil ?_; refine Tr.seq ?_; refine Tr.region ?_; refine TrL.quiets 1 rfl (by exact True.intro) ?_; refine TrL.nil ?_
  change Tr _ _ _ _ _ _
  refine Tr.nilRowM 3 5 (.int .u8) rfl ?_
  refine Tr.seq ?_; refine Tr.region ?_; refine TrL.quiets 1 rfl (by exact True.intro) ?_; refine TrL.nil ?_; refine Tr.seq ?_; refine Tr.seq ?_; refine Tr.region ?_; refine TrL.quiets 1 rfl (by exact True.intro) ?_; refine TrL.nil ?_; refine Tr.block ?_
  refine Tr.loop (fun (x : Str × Nat × Nat) => ⟨[(0, [], vS s), (2, [], .ptr 0 0), (3, [], .arr 1), (4, [], vI x.2.1), (5, [], vI x.2.2)], rowOf (strBytes x.1)⟩)
    (fun x => x.2.2 ≤ s.length ∧ x.2.1 ≤ x.1.length ∧ x.1.length ≤ x.2.2 ∧ patF s = ofR x.1 x.2.1 (s.drop x.2.2)) (fun x => s.length - x.2.2) ([], 0, 0) [0, 2, 3, 4, 5] 2 hB2 rfl ⟨Nat.zero_le _, Nat.le_refl _, Nat.le_refl _, rfl⟩ fun x hx => ?_
  obtain ⟨u, b, i⟩ := x
  obtain ⟨hi, hb, hu, hI⟩ := hx
  dsimp only at hi hb hu hI
  refine Tr.seq ?_; refine Tr.seq ?_; refine Tr.region ?_; refine TrL.quiets 4 rfl (by exact True.intro) ?_; refine TrL.nil ?_
  refine Tr.cond rfl (fun h1 => ?_) (fun h1 => ?_)
  · have hi1 : i < s.length := by
      have h3' : decide ((i : Int) < (s.length : Int)) = true := h1
      rw [decide_eq_true_eq] at h3'
      omega
    obtain ⟨c, hc⟩ : ∃ c, s[i] = c := ⟨_, rfl⟩
    rw [List.drop_eq_getElem_cons hi1, hc, ofR] at hI
    have hbt : byteAt s (i : Int) = ((c.toNat : Nat) : Int) := by rw [byteAt_get s i hi1, hc]
    have c92 : (byteAt s (i : Int) == 92) = decide (c = 92) := by rw [show (92 : Int) = ((92 : UInt8).toNat : Int) from rfl, byte_eq s i hi1, hc]
    have c37 : (byteAt s (i : Int) == 37) = decide (c = 37) := by rw [show (37 : Int) = ((37 : UInt8).toNat : Int) from rfl, byte_eq s i hi1, hc]
    refine Tr.skip ?_; refine Tr.seq ?_; refine Tr.block ?_; refine Tr.seq ?_; refine Tr.seq ?_; refine Tr.region ?_; refine TrL.quiets 3 rfl (by (simp only [allOf, impO, imp, inR, loOk, and_true]; omega)) ?_; refine TrL.nil ?_
    refine Tr.joinN (fun (x : Str × Nat) => ⟨[(0, [], vS s), (2, [], .ptr 0 0), (3, [], .arr 1), (4, [], vI x.2), (5, [], vI i)], rowOf (strBytes x.1)⟩) (fun x => x.2 ≤ x.1.length + 1 ∧ x.1.length ≤ i ∧ patF s = ofR (x.1 ++ [c]) x.2 (s.drop (i + 1))) [0, 2, 3, 4, 5] 2 hB2 ?_ fun x hx => ?_
    · refine Tr.block ?_; refine Tr.seq ?_; refine Tr.region ?_; refine TrL.quiets 2 rfl (by exact True.intro) ?_; refine TrL.nil ?_
      refine Tr.cond rfl (fun g1 => ?_) (fun g1 => ?_)
      · have k1 : c = 92 := by rw [c92] at g1; simpa using g1
        rw [if_pos k1] at hI
        refine Tr.region ?_; refine TrL.quiets 3 rfl (by exact True.intro) ?_; refine TrL.nil ?_
        refine ⟨(u, b + 1), ⟨by dsimp only; omega, hu, hI⟩, ?_⟩
        refine Eq.trans (b := (⟨[(0, [], vS s), (2, [], .ptr 0 0), (3, [], .arr 1), (4, [], vI (IntKind.i64.wrap ((b : Int) + 1))), (5, [], vI i)], rowOf (strBytes u)⟩ : St)) rfl ?_
        rw [w64n (y := b + 1) (by omega) (by omega)]
      have k1 : ¬ c = 92 := by rw [c92] at g1; simpa using g1
      rw [if_neg k1] at hI
      refine Tr.seq ?_; refine Tr.region ?_; refine TrL.quiets 2 rfl (by exact True.intro) ?_; refine TrL.nil ?_
      refine Tr.cond rfl (fun g2 => ?_) (fun g2 => ?_)
      · have k2 : c = 37 := by rw [c37] at g2; simpa using g2
        rw [if_pos k2] at hI
        have hlen : (strBytes u).length = u.length := strBytes_length u
        have w1 : IntKind.i64.wrap (IntKind.i64.wrap (((strBytes u).length : Int) - (b : Int)) + IntKind.i64.wrap (Int.tdiv (b : Int) 2)) = ((u.length - b + b / 2 : Nat) : Int) := by
          have e : Int.tdiv (b : Int) 2 = ((b / 2 : Nat) : Int) := by
            rw [Int.tdiv_eq_ediv_of_nonneg (by omega)]; omega
          rw [hlen, e, w64 (x := (u.length : Int) - (b : Int)) (by omega) (by omega), w64 (x := ((b / 2 : Nat) : Int)) (by omega) (by omega)]
          exact w64n (by omega) (by omega)
        refine Tr.seq ?_; refine Tr.region ?_; refine TrL.quiets 10 rfl ?_ ?_
        · simp only [allOf, impO, imp, loOk, and_true, true_and, Option.getD_some]
          rw [w1]
          refine ⟨by decide, Int.natCast_nonneg _, ?_⟩
          show ((u.length - b + b / 2 : Nat) : Int) ≤ ((strBytes u).length : Int)
          rw [hlen]
          omega
        refine TrL.nil ?_
        change Tr _ _ _ _ _ _
        refine Tr.is 3 (sv' := .sub 1 (u.length - b + b / 2)) rfl (congrArg (fun v => SV.sub 1 v) ?_) ?_
        · show (IntKind.i64.wrap (IntKind.i64.wrap (((strBytes u).length : Int) - (b : Int)) + IntKind.i64.wrap (Int.tdiv (b : Int) 2))).toNat = _
          rw [w1, Int.toNat_natCast]
        refine Tr.shortVar 1 (u.length - b + b / 2) 3 rfl rfl (by rw [hlen]; omega) ?_
        rw [strBytes_take]
        refine Tr.seq ?_; refine Tr.seq ?_; refine Tr.region ?_; refine TrL.quiets 3 rfl (by (simp only [allOf, impO, imp, inR, loOk, and_true]; omega)) ?_; refine TrL.nil ?_
        have hev : (Int.tmod (b : Int) 2 == 0) = decide (b % 2 = 0) := by
          rw [show (2 : Int) = ((2 : Nat) : Int) from rfl, Int.tmod_eq_emod_of_nonneg (by omega), Bool.eq_iff_iff]
          simp only [beq_iff_eq, decide_eq_true_eq]
          omega
        refine Tr.is 32 (sv' := vB (decide (b % 2 = 0))) rfl (congrArg vB hev) ?_
        refine Tr.cond rfl (fun g3 => ?_) (fun g3 => ?_)
        · have k3 : b % 2 = 0 := of_decide_eq_true g3
          rw [if_pos k3] at hI
          have wn := w64n (x := (i : Int) + 1) (y := i + 1) (by omega) (by omega)
          have e2 : cut s (some (IntKind.i64.wrap ((i : Int) + 1))) none = s.drop (i + 1) := by rw [wn]; rfl
          refine Tr.seq ?_; refine Tr.drawA 8 rfl (by kernel_rfl) ?_; refine TrA.take 0 rfl rfl (by kernel_rfl) rfl (by exact True.intro) ?_; refine TrA.take 2 rfl rfl (by kernel_rfl) rfl (by exact True.intro) ?_; refine TrA.take 3 rfl rfl (by kernel_rfl) rfl (by exact True.intro) ?_; refine TrA.take 4 rfl rfl (by kernel_rfl) rfl (by exact True.intro) ?_; refine TrA.take 5 rfl rfl (by kernel_rfl) rfl ?_ ?_
          · simp only [holds, impO, imp, loOk, wn, Option.getD_none, and_true, true_and]
            omega
          refine TrA.one 1 (by kernel_rfl) rfl ?_
          refine TrL.convM 1 rfl rfl rfl rfl rfl rfl True.intro rfl ?_
          refine TrL.nil ?_; refine TrA.take 6 rfl rfl (by kernel_rfl) rfl (by exact True.intro) ?_; refine TrA.one 7 (by kernel_rfl) rfl ?_; refine TrL.eff (effStore_sound rfl) (by exact True.intro) ?_; refine TrL.nil ?_; refine TrA.done (by kernel_rfl) ?_; refine Tr.ret ?_
          refine retQ.of rfl ?_
          rw [hI]
          exact Eq.trans (b := patSV (true, numStr (strBytes (u.take (u.length - b + b / 2))), cut s (some (IntKind.i64.wrap ((i : Int) + 1))) none)) rfl (by rw [numStr_bytes, e2])
        · have k3 : ¬ b % 2 = 0 := of_decide_eq_false g3
          rw [if_neg k3] at hI
          refine Tr.skip ?_; refine Tr.region ?_; refine TrL.quiets 1 rfl (by exact True.intro) ?_; refine TrL.nil ?_
          exact ⟨(u.take (u.length - b + b / 2), 0), ⟨by dsimp only; omega, by simp only [List.length_take]; omega, hI⟩, rfl⟩
      · have k2 : ¬ c = 37 := by rw [c37] at g2; simpa using g2
        rw [if_neg k2] at hI
        refine Tr.region ?_; refine TrL.quiets 1 rfl (by exact True.intro) ?_; refine TrL.nil ?_
        exact ⟨(u, 0), ⟨by dsimp only; omega, hu, hI⟩, rfl⟩
    · obtain ⟨u', b'⟩ := x
      obtain ⟨hx1, hx2, hx3⟩ := hx
      dsimp only at hx1 hx2 hx3
      have hcap : (strBytes u').length + 1 ≤ 1099511627776 := by rw [strBytes_length]; omega
      refine Tr.region ?_; refine TrL.quiets 4 rfl (by (simp only [allOf, impO, imp, inR, loOk, and_true]; omega)) ?_; refine TrL.eff (effLit_sound rfl) (by exact True.intro) ?_; refine TrL.eff (effAppend_sound rfl) (by assumption) ?_; refine TrL.quiets 1 rfl (by exact True.intro) ?_; refine TrL.nil ?_; refine Tr.region ?_; refine TrL.quiets 3 rfl (by exact True.intro) ?_; refine TrL.nil ?_
      refine ⟨(u' ++ [c], b', i + 1), ⟨by dsimp only; omega, by simp only [List.length_append, List.length_cons, List.length_nil]; omega, by simp only [List.length_append, List.length_cons, List.length_nil]; omega, hx3⟩, by dsimp only; omega, ?_⟩
      refine Eq.trans (b := (⟨[(0, [], vS s), (2, [], .ptr 0 0), (3, [], .arr 1), (4, [], vI b'), (5, [], vI (IntKind.i64.wrap ((i : Int) + 1)))], rowOf (strBytes u' ++ [byteAt s (i : Int)])⟩ : St)) rfl ?_
      rw [w64n (y := i + 1) (by omega) (by omega), hbt, ← strBytes_snoc]
  · have h1' : decide ((i : Int) < (s.length : Int)) = false := h1
    rw [decide_eq_false_iff_not] at h1'
    rw [List.drop_eq_nil_of_le (by omega), ofR] at hI
    refine Tr.exit ?_; refine Tr.seq ?_; refine Tr.region ?_
    refine TrL.quiets 1 rfl True.intro ?_
    refine TrL.convM 1 rfl rfl rfl rfl rfl rfl True.intro rfl ?_
    refine TrL.quiets 1 rfl (by exact True.intro) ?_; refine TrL.eff (effStore_sound rfl) (by exact True.intro) ?_; refine TrL.nil ?_; refine Tr.ret ?_
    refine retQ.of rfl ?_
    rw [hI]
    exact Eq.trans (b := patSV (false, numStr (strBytes u), [])) rfl (by rw [numStr_bytes])
end Go.Proofs.YtcclfjddakonoaaGreatDoor.Sx
