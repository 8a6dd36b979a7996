/-
  strings.Builder's methods.
-/
import Derived.Test.YteiickhgmmjcmaaGreatDoorSxU
import Derived.Test.YteiickhgmmjcmaaGreatDoorF4
import Derived.Shelf.Strings.Builder2Cap
set_option linter.unusedVariables false
set_option linter.unusedSimpArgs false
set_option maxRecDepth 20000
set_option maxHeartbeats 4000000
namespace Go.Proofs.YteiickhgmmjcmaaGreatDoor.Sx
open Go Go.RowKit Go.Proofs Go.Shelf

def renCC : Go.Shelf.Ren := ⟨fun | 240 => 80 | 276 => 108 | n => n, fun | 0 => 0 | 4 => 4 | 9 => 9 | 20 => 20 | 70 => 85 | 72 => 87 | 37 => 82 | 164 => 132 | n => n, fun | n => n⟩
theorem laysCC : Lays.n240 Tryz.prog renCC := {
  mixed := by kernel_rfl
  f240 := Tryz.func80.trans (congrArg some (by kernel_rfl))
  f276 := Tryz.func108.trans (congrArg some (by kernel_rfl))
  t0 := Tryz.underlying0
  a0 := Tryz.isAgg0
  z0 := Tryz.sizeOf0
  v0 := Tryz.zeroValue0
  t4 := Tryz.underlying4
  a4 := Tryz.isAgg4
  z4 := Tryz.sizeOf4
  v4 := Tryz.zeroValue4
  t9 := Tryz.underlying9
  a9 := Tryz.isAgg9
  z9 := Tryz.sizeOf9
  v9 := Tryz.zeroValue9
  t20 := Tryz.underlying20
  a20 := Tryz.isAgg20
  z20 := Tryz.sizeOf20
  v20 := Tryz.zeroValue20
  t70 := Tryz.underlying85
  a70 := Tryz.isAgg85
  z70 := Tryz.sizeOf85
  v70 := Tryz.zeroValue85
  t72 := Tryz.underlying87
  a72 := Tryz.isAgg87
  z72 := Tryz.sizeOf87
  v72 := Tryz.zeroValue87
  t164 := Tryz.underlying132
  a164 := Tryz.isAgg132
  z164 := Tryz.sizeOf132
  v164 := Tryz.zeroValue132 }
theorem laysX72 : Builder.X72 Tryz.prog renCC := { sizeBuilder := by kernel_rfl, liesBuilder := by kernel_rfl }
theorem c_copyCheck (s : Str) : CallT Tryz.prog 80 [.ptr 0 0] (bldT 87 5 s) (.tup []) (bldT 87 5 s) := by
  refine ⟨Go.Proofs.enters_of Tryz.func80 (by kernel_rfl) rfl, Nat.le_refl _, fun cx σ ρ w vs hw hB hd => ?_⟩
  simp only [SV.denL, SV.den] at hd
  obtain ⟨_, _, rfl, rfl, rfl⟩ := hd
  have hb := bld_is (B := 0) hw (.inl rfl) (i := 0) (k := 1) rfl rfl (fun _ _ _ _ _ => Nat.zero_le _)
  rcases hb with hb | hb
  · refine (Any.Builder_copyCheck_fresh laysCC laysX72 (ρ 0).blk w hb.cell0 hb.shape hb.frozen0).mono ?_
    rintro e w' ⟨rfl, rfl⟩
    refine ⟨_, σ, ρ, rfl, Mem.le_refl _, ?_, by simp only [SV.den]; exact ⟨[], rfl, rfl⟩⟩
    obtain ⟨vs, q1, q2, q3, q4⟩ := hw.ent 0 _ rfl
    simp only [SV.denL] at q2
    obtain ⟨p, _, rfl, hp, v, _, rfl, hv, rfl⟩ := q2
    have hset : (w.setCell ⟨(ρ 0).blk, 0, none⟩ (.pointer (some ⟨(ρ 0).blk, 0, none⟩))).heap[(ρ 0).blk]? = some (.cells #[.pointer (some ⟨(ρ 0).blk, 0, none⟩), v] 87 (0, 0)) := by
      obtain ⟨hlt, hk⟩ := Array.getElem?_eq_some_iff.1 q1
      show (w.heap.modify (ρ 0).blk _)[(ρ 0).blk]? = _
      rw [Array.getElem?_eq_getElem (by rw [Array.size_modify]; exact hlt), Array.getElem_modify_self, hk]
      rfl
    have := hw.step (k := 0) (e' := .box 87 [.mptr 0, .own 1]) (w' := w.setCell ⟨(ρ 0).blk, 0, none⟩ (.pointer (some ⟨(ρ 0).blk, 0, none⟩))) (τ := σ) (ρ' := ρ) (fun _ => true) rfl (Mem.le_refl σ)
      (fun a u ha => by rw [World.cell?_of_block (w := w) (heap_setCell_other w _ _ _ (q4 a u ha))]; exact hw.sub a u ha) (fun _ _ => rfl) (fun _ _ => rfl) (fun b hb hne => heap_setCell_other w _ _ _ (fun e => hne (by rw [e]; rfl)))
      (fun a u ha => .inl ⟨u, ha⟩) (fun _ => ⟨rfl, rfl⟩) ⟨[.pointer (some ⟨(ρ 0).blk, 0, none⟩), v], hset, ⟨_, _, rfl, by simp [SV.den], _, _, rfl, hv, rfl⟩, ?_, q4⟩ (fun b hb => .inl hb) rfl rfl rfl (by simp [World.setCell])
    · rwa [cleanT_true] at this
    · intro u hu
      simp only [List.mem_cons, List.not_mem_nil, or_false] at hu
      rcases hu with rfl | rfl
      · rfl
      · exact q3 _ (by simp)
  · refine (Any.Builder_copyCheck_used laysCC laysX72 (ρ 0).blk w hb.cell0).mono ?_
    rintro e w' ⟨rfl, rfl⟩
    exact ⟨_, σ, ρ, rfl, Mem.le_refl _, hw, by simp only [SV.den]; exact ⟨[], rfl, rfl⟩⟩

theorem c_WriteString (s t : Str) (h : s.length + t.length ≤ 1099511627776) : CallT Tryz.prog 48 [.ptr 0 0, vS t] (bldT 87 5 s) (.tup [vI t.length, .top]) (bldT 87 5 (s ++ t)) := by
  refine CallT.of Tryz.func48 (by kernel_rfl) rfl Tryz.ntmps48 (by simp) (by simp) fun cx hB => ?_
  refine Tr.seq ?_; refine Tr.region ?_; refine TrL.quiets 2 rfl (by exact True.intro) ?_; refine TrL.nil ?_; refine Tr.seq ?_; refine Tr.region ?_; refine TrL.quiets 1 rfl (by exact True.intro) ?_
  refine TrL.callT [0, 1] rfl rfl rfl rfl rfl (c_copyCheck s) rfl rfl rfl ?_
  refine TrL.nil ?_; refine Tr.seq ?_; refine Tr.region ?_; refine TrL.quiets 6 rfl (by exact True.intro) ?_; refine TrL.eff (effAppend_sound rfl) ?_ ?_
  · show (strBytes s).length + (strBytes t).length ≤ 1099511627776
    simp only [strBytes_length]
    exact h
  refine TrL.quiets 2 rfl (by exact True.intro) ?_; refine TrL.eff (effStore_sound rfl) (by exact True.intro) ?_; refine TrL.nil ?_; refine Tr.seq ?_; refine Tr.region ?_; refine TrL.quiets 4 rfl (by exact True.intro) ?_; refine TrL.nil ?_; refine Tr.ret ?_
  refine retT.of rfl rfl ?_
  exact congrArg (fun x => [Ent.box 87 [.mptr 0, .own 1], Ent.gs 5 (.int .u8) x]) (strBytes_append s t).symm
theorem c_WriteByte (s : Str) (c : UInt8) (h : s.length + 1 ≤ 1099511627776) : CallT Tryz.prog 91 [.ptr 0 0, vY (c.toNat : Int)] (bldT 87 5 s) .top (bldT 87 5 (s ++ [c])) := by
  refine CallT.of Tryz.func91 (by kernel_rfl) rfl Tryz.ntmps91 (by simp) (by simp) fun cx hB => ?_
  refine Tr.seq ?_; refine Tr.region ?_; refine TrL.quiets 1 rfl (by exact True.intro) ?_; refine TrL.nil ?_; refine Tr.seq ?_; refine Tr.region ?_; refine TrL.quiets 1 rfl (by exact True.intro) ?_
  refine TrL.callT [0, 1] rfl rfl rfl rfl rfl (c_copyCheck s) rfl rfl rfl ?_
  refine TrL.nil ?_; refine Tr.seq ?_; refine Tr.region ?_; refine TrL.quiets 6 rfl (by exact True.intro) ?_; refine TrL.eff (effLit_sound rfl) (by exact True.intro) ?_; refine TrL.eff (effAppend_sound rfl) ?_ ?_
  · show (strBytes s).length + 1 ≤ 1099511627776
    simp only [strBytes_length]
    exact h
  refine TrL.quiets 2 rfl (by exact True.intro) ?_; refine TrL.eff (effStore_sound rfl) (by exact True.intro) ?_; refine TrL.nil ?_; refine Tr.seq ?_; refine Tr.region ?_; refine TrL.quiets 1 rfl (by exact True.intro) ?_; refine TrL.nil ?_; refine Tr.ret ?_
  refine retT.of rfl rfl ?_
  exact congrArg (fun x => [Ent.box 87 [.mptr 0, .own 1], Ent.gs 5 (.int .u8) x]) (strBytes_append s [c]).symm
theorem builder_String (B b : Nat) (s : List UInt8) (w : World) (h : Lib.IsBuilder 87 5 B b (Lib.byteCells s) w) (hB : B ≤ w.heap.size) : Calls Tryz.prog 49 #[.pointer (some ⟨b, 0, none⟩)] w fun e w' => e = .returned (.string ⟨s.toArray⟩) ∧ Below B w w' :=
  Tryz.Builder_String_any B b s w h hB
theorem enters_String : Go.Proofs.Enters Tryz.prog 49 := Go.Proofs.enters_of Tryz.func49 (by kernel_rfl) rfl
end Go.Proofs.YteiickhgmmjcmaaGreatDoor.Sx
