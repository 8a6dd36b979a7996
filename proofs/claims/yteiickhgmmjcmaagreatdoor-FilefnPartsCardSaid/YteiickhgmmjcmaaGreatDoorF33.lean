/-
  The text of a builder, and what stays behind it.
-/
import Derived.Test.YteiickhgmmjcmaaGreatDoorF20
import Derived.Lib.UnsafeStr
import Derived.WalkSpells
import Derived.WalkLawsBesides
set_option linter.unusedVariables false
set_option linter.unusedSimpArgs false
set_option maxRecDepth 100000
set_option maxHeartbeats 2000000
namespace Go.Proofs.YteiickhgmmjcmaaGreatDoor.Sx
open Go Go.RowKit Go.Proofs

/-- Nothing but a row of bytes has turned: it is frozen, or not. -/
structure Kept (g : Option Nat) (w w' : World) : Prop where
  cell : ∀ a v, w.cell? a = some v → w'.cell? a = some v
  heap : ∀ k o, w.heap[k]? = some o → g ≠ some k → w'.heap[k]? = some o
  os : w'.os = w.os
  tape : w'.tape = w.tape
  output : w'.output = w.output
  size : w.heap.size ≤ w'.heap.size

theorem Kept.drew (w : World) : Kept none w w.drew := ⟨fun _ _ h => h, fun _ _ h _ => h, rfl, rfl, rfl, Nat.le_refl _⟩
theorem Kept.any {g : Option Nat} {w w' : World} (h : Kept none w w') : Kept g w w' := ⟨h.cell, fun k o hk _ => h.heap k o hk (by simp), h.os, h.tape, h.output, h.size⟩
theorem freeze_cell (w : World) (p : Addr) (n : Nat) (a : Addr) (v : Value) (h : w.cell? a = some v) : (w.freeze p n).cell? a = some v := by
  unfold World.freeze
  split
  · exact h
  · unfold World.cell? at h ⊢
    simp only [Array.getElem?_modify]
    by_cases e : p.block = a.block
    · rw [if_pos e]
      cases hb : w.heap[a.block]? with
      | none => rw [hb] at h; cases h
      | some o =>
        rw [hb] at h
        cases o <;> first | exact h | (simp only [Option.map_some] at h ⊢; exact h)
    · rw [if_neg e]
      exact h
theorem freeze_heap (w : World) (p : Addr) (n k : Nat) (o : Obj) (h : w.heap[k]? = some o) (hk : p.block ≠ k) : (w.freeze p n).heap[k]? = some o := by
  unfold World.freeze
  split
  · exact h
  · simp only [Array.getElem?_modify]
    rw [if_neg hk]
    exact h
theorem Kept.freeze {w : World} (g n : Nat) : Kept (some g) w (w.drew.freeze ⟨g, 0, none⟩ n) := by
  refine ⟨fun a v h => freeze_cell _ _ _ _ _ h, fun k o h hk => freeze_heap _ _ _ _ _ h (fun e => hk (by rw [← e])), ?_, ?_, ?_, ?_⟩
  · unfold World.freeze; split <;> rfl
  · unfold World.freeze; split <;> rfl
  · unfold World.freeze; split <;> rfl
  · unfold World.freeze
    split
    · exact Nat.le_refl _
    · simp only [Array.size_modify]; exact Nat.le_refl _
theorem Kept.alloc (w : World) (o : Obj) : Kept none w (w.drew.alloc o) := by
  have hold : ∀ (k : Nat) (x : Obj), w.heap[k]? = some x → (w.drew.alloc o).heap[k]? = some x := fun k x h => (Lib.alloc_old w.drew o k (Array.getElem?_eq_some_iff.1 h).1).trans h
  refine ⟨fun a v h => ?_, fun k x h _ => hold k x h, rfl, rfl, rfl, ?_⟩
  · unfold World.cell? at h ⊢
    cases hb : w.heap[a.block]? with
    | none => rw [hb] at h; cases h
    | some x =>
      rw [hold _ _ hb]
      rw [hb] at h
      exact h
  show w.heap.size ≤ (w.heap.push o).size
  rw [Array.size_push]
  omega

theorem s_nil (b : Nat) (p : Value) (w : World) (hbk : w.heap[b]? = some (.cells #[p, .slice none 0 0] 87 (0, 0))) :
    Calls Tryz.prog 49 #[.pointer (some ⟨b, 0, none⟩)] w fun e w' => e = .returned (.string ⟨#[]⟩) ∧ Kept none w w' := by
  have c1 : w.drew.cell? ⟨b, 1, none⟩ = some (.slice none 0 0) := by
    have : w.drew.heap[b]? = some (.cells #[p, .slice none 0 0] 87 (0, 0)) := hbk
    rw [Lib.cell_of_heap this]; rfl
  have c0 : w.cell? ⟨b, 1, none⟩ = some (.slice none 0 0) := c1
  have hUS : ∀ (W : World) (q : Option Addr), (Builtin.unsafeString_ #[107, 3] 9 #[.pointer q, .int .i64 0]).run Tryz.prog W = .ok (.string .empty) W := fun W q => Lib.run_unsafeString_none W _ _ _ q
  have hSD : (Builtin.unsafeSliceData_ #[82] 107 #[.slice none 0 0]).run Tryz.prog w.drew = .ok (.pointer none) w.drew := rfl
  go_enter Tryz.func49, Tryz.ntmps49
  go_wp2
  go_region
  all_goals (go_wp2; go_ret; exact ⟨rfl, Kept.drew w⟩)
theorem s_noroom (b g : Nat) (p : Value) (cur : Array Value) (w : World) (hbk : w.heap[b]? = some (.cells #[p, .slice (some ⟨g, 0, none⟩) 0 0] 87 (0, 0))) (hg : w.heap[g]? = some (.cells cur 5 (0, 0))) :
    Calls Tryz.prog 49 #[.pointer (some ⟨b, 0, none⟩)] w fun e w' => e = .returned (.string ⟨#[]⟩) ∧ Kept none w w' := by
  have hlt : b < w.heap.size := (Array.getElem?_eq_some_iff.1 hbk).1
  have c1 : w.drew.cell? ⟨b, 1, none⟩ = some (.slice (some ⟨g, 0, none⟩) 0 0) := by
    have : w.drew.heap[b]? = some (.cells #[p, .slice (some ⟨g, 0, none⟩) 0 0] 87 (0, 0)) := hbk
    rw [Lib.cell_of_heap this]; rfl
  have c0 : w.cell? ⟨b, 1, none⟩ = some (.slice (some ⟨g, 0, none⟩) 0 0) := c1
  have hUS : ∀ (W : World) (q : Option Addr), (Builtin.unsafeString_ #[107, 3] 9 #[.pointer q, .int .i64 0]).run Tryz.prog W = .ok (.string .empty) W := fun W q => Lib.run_unsafeString_none W _ _ _ q
  have hSD : (Builtin.unsafeSliceData_ #[82] 107 #[.slice (some ⟨g, 0, none⟩) 0 0]).run Tryz.prog w.drew = .ok (.pointer (some ⟨w.drew.heap.size, 0, none⟩)) (w.drew.alloc (.view ⟨g, 0, none⟩ 5)) :=
    Lib.run_unsafeSliceData_zero w.drew _ _ 5 Tryz.underlying107 ⟨g, 0, none⟩ 0 (5, cur.size) (by have hg' : w.drew.heap[g]? = some (.cells cur 5 (0, 0)) := hg; simp [World.shape?, hg'])
  have c2 : (w.drew.alloc (.view ⟨g, 0, none⟩ 5)).cell? ⟨b, 1, none⟩ = some (.slice (some ⟨g, 0, none⟩) 0 0) := by
    have : (w.drew.alloc (.view ⟨g, 0, none⟩ 5)).heap[b]? = _ := (Lib.alloc_old w.drew _ b hlt).trans hbk
    rw [Lib.cell_of_heap this]; rfl
  have c3 : (w.alloc (.view ⟨g, 0, none⟩ 5)).drew.cell? ⟨b, 1, none⟩ = some (.slice (some ⟨g, 0, none⟩) 0 0) := c2
  go_enter Tryz.func49, Tryz.ntmps49
  go_wp2
  go_region
  all_goals (go_wp2; go_ret; exact ⟨rfl, Kept.alloc w _⟩)
theorem s_room (b g cap : Nat) (p : Value) (w : World) (hc0 : cap ≠ 0) (hbk : w.heap[b]? = some (.cells #[p, .slice (some ⟨g, 0, none⟩) 0 cap] 87 (0, 0))) :
    Calls Tryz.prog 49 #[.pointer (some ⟨b, 0, none⟩)] w fun e w' => e = .returned (.string ⟨#[]⟩) ∧ Kept none w w' := by
  have c1 : w.drew.cell? ⟨b, 1, none⟩ = some (.slice (some ⟨g, 0, none⟩) 0 cap) := by
    have : w.drew.heap[b]? = some (.cells #[p, .slice (some ⟨g, 0, none⟩) 0 cap] 87 (0, 0)) := hbk
    rw [Lib.cell_of_heap this]; rfl
  have c0 : w.cell? ⟨b, 1, none⟩ = some (.slice (some ⟨g, 0, none⟩) 0 cap) := c1
  have hUS : ∀ (W : World) (q : Option Addr), (Builtin.unsafeString_ #[107, 3] 9 #[.pointer q, .int .i64 0]).run Tryz.prog W = .ok (.string .empty) W := fun W q => Lib.run_unsafeString_none W _ _ _ q
  have hSD : (Builtin.unsafeSliceData_ #[82] 107 #[.slice (some ⟨g, 0, none⟩) 0 cap]).run Tryz.prog w.drew = .ok (.pointer (some ⟨g, 0, none⟩)) w.drew :=
    Lib.run_unsafeSliceData_row _ _ _ _ _ _ hc0
  clear hc0
  go_enter Tryz.func49, Tryz.ntmps49
  go_wp2
  go_region
  all_goals (go_wp2; go_ret; exact ⟨rfl, Kept.drew w⟩)
theorem s_some (b g cap : Nat) (p : Value) (cur : Array Value) (w : World) (l : List UInt8) (h0 : l ≠ []) (hbk : w.heap[b]? = some (.cells #[p, .slice (some ⟨g, 0, none⟩) l.length cap] 87 (0, 0)))
    (hg : w.heap[g]? = some (.cells cur 5 (0, 0))) (hnc : l.length ≤ cap) (hcm : cap ≤ maxLen) (hcs : cur.size = cap) (hcell : ∀ j x, l[j]? = some x → w.cell? ((⟨g, 0, none⟩ : Addr).add j) = some (.int .u8 x.toNat)) :
    Calls Tryz.prog 49 #[.pointer (some ⟨b, 0, none⟩)] w fun e w' => e = .returned (.string ⟨l.toArray⟩) ∧ Kept (some g) w w' := by
  have hl0 : l.length ≠ 0 := by simpa using h0
  have c1 : w.drew.cell? ⟨b, 1, none⟩ = some (.slice (some ⟨g, 0, none⟩) l.length cap) := by
    have : w.drew.heap[b]? = some (.cells #[p, .slice (some ⟨g, 0, none⟩) l.length cap] 87 (0, 0)) := hbk
    rw [Lib.cell_of_heap this]; rfl
  have c0 : w.cell? ⟨b, 1, none⟩ = some (.slice (some ⟨g, 0, none⟩) l.length cap) := c1
  have hSD : (Builtin.unsafeSliceData_ #[82] 107 #[.slice (some ⟨g, 0, none⟩) l.length cap]).run Tryz.prog w.drew = .ok (.pointer (some ⟨g, 0, none⟩)) w.drew :=
    Lib.run_unsafeSliceData_row _ _ _ _ _ _ (by omega)
  have hUS : (Builtin.unsafeString_ #[107, 3] 9 #[.pointer (some ⟨g, 0, none⟩), .int .i64 l.length]).run Tryz.prog w.drew = .ok (.string ⟨l.toArray⟩) (w.drew.freeze ⟨g, 0, none⟩ l.length) :=
    Lib.run_unsafeString_row w.drew 107 3 9 5 Tryz.underlying107 (by kernel_rfl) g cur.size (by have hg' : w.drew.heap[g]? = some (.cells cur 5 (0, 0)) := hg; simp [World.shape?, hg']) l h0 (by omega) (by unfold maxLen at hcm; omega) hcell
  go_enter Tryz.func49, Tryz.ntmps49
  go_wp2
  go_region
  all_goals (go_wp2; go_ret; exact ⟨rfl, Kept.freeze g l.length⟩)
theorem c_BString (s : Str) : CallT Tryz.prog 49 [.ptr 0 0] (bldT 87 5 s) (vS s) [.box 87 [.mptr 0, .top], .gone] := by
  refine ⟨enters_String, Nat.le_refl _, fun cx σ ρ w vs hw hB hd => ?_⟩
  simp only [SV.denL, SV.den] at hd
  obtain ⟨_, _, rfl, rfl, rfl⟩ := hd
  obtain ⟨bvs, q1, q2, q3, q4⟩ := hw.ent 0 _ rfl
  obtain ⟨xs, r1, r2, r3⟩ := hw.ent 1 _ rfl
  obtain rfl := rows_bytes r1
  simp only [SV.denL, SV.den] at q2
  obtain ⟨p, _, rfl, hp, v, _, rfl, rfl, rfl⟩ := q2
  have hne : (ρ 1).sl.ownBlock ≠ some (ρ 0).blk := by
    intro e1
    have := hw.dis 0 1 _ _ (ρ 0).blk rfl rfl rfl e1
    cases this
  rw [strBytes_length] at r2
  have key : Calls Tryz.prog 49 #[.pointer (some ⟨(ρ 0).blk, 0, none⟩)] w fun e w' => e = .returned (.string ⟨s.toArray⟩) ∧ Kept (ρ 1).sl.ownBlock w w' := by
    have hcells := r2
    rcases r2.2 with ⟨hv, hz⟩ | ⟨g, cap, cur, hv, _, hg, hnc, hcm, hcs, htake⟩
    · obtain rfl : s = [] := List.length_eq_zero_iff.1 hz
      rw [hv] at q1
      exact (s_nil _ _ _ q1).mono fun e w' h => ⟨h.1, h.2.any⟩
    · rw [hv] at q1
      cases hs : s with
      | nil =>
        rw [hs] at q1
        by_cases hc0 : cap = 0
        · subst hc0
          exact (s_noroom _ g _ cur _ q1 hg).mono fun e w' h => ⟨h.1, h.2.any⟩
        · exact (s_room _ g cap _ _ hc0 q1).mono fun e w' h => ⟨h.1, h.2.any⟩
      | cons c r =>
        rw [← hs]
        have hb : (ρ 1).sl.ownBlock = some g := by rw [hv]; rfl
        rw [hb]
        rw [hv] at hcells
        refine s_some _ g cap _ cur _ s (by rw [hs]; simp) q1 hg hnc hcm (hcs.trans (Nat.mul_one cap)) fun j x hx => ?_
        exact hcells.cells (g := g) rfl j (.int .u8 x.toNat) (by simp [Lib.byteCells, hx])
  refine key.mono ?_
  rintro e w' ⟨rfl, hk⟩
  refine ⟨_, σ, ρ, rfl, Mem.le_refl _, ⟨fun a v h => hk.cell _ _ (hw.sub a v h), fun i e h => ?_, fun i j e e' b hi hj hbi hbj => ?_, hk.os.trans hw.os, hk.tape.trans hw.tape, hk.output.trans hw.output, Nat.le_trans hw.size hk.size,
    fun k hlt hR => ?_, hw.le, hw.new, fun i e b hi hb => ?_, hw.glob, hw.keepρ, fun i hi => ?_⟩, rfl⟩
  · match i, h with
    | 0, h =>
      obtain rfl := Option.some.inj h
      exact ⟨_, hk.heap _ _ q1 hne, by simp only [SV.denL, SV.den]; exact ⟨_, _, rfl, hp, _, _, rfl, q3 _ (by simp), rfl⟩, q3, q4⟩
    | 1, h =>
      obtain rfl := Option.some.inj h
      exact True.intro
    | i + 2, h => cases h
  · have one : ∀ (i : Nat) (e : Ent) b, [Ent.box 87 [.mptr 0, .top], Ent.gone][i]? = some e → e.at_ ρ i b → i = 0 := fun i e b h hb => by
      match i, h with
      | 0, _ => rfl
      | 1, h =>
        obtain rfl := Option.some.inj h
        cases hb
      | i + 2, h => cases h
    rw [one i e b hi hbi, one j e' b hj hbj]
  · have hR1 : (ρ 1).sl.ownBlock ≠ some k := by
      intro hb
      rcases hw.live 1 _ k rfl hb with hl | hl
      · omega
      · exact hR hl
    have h1 := hw.old k hlt hR
    have h2 : k < w.heap.size := Nat.lt_of_lt_of_le hlt hw.size
    rw [← h1]
    exact (hk.heap k _ (Array.getElem?_eq_getElem h2) hR1).trans (Array.getElem?_eq_getElem h2).symm
  · match i, hi with
    | 0, h =>
      obtain rfl := Option.some.inj h
      exact hw.live 0 _ b rfl hb
    | 1, h =>
      obtain rfl := Option.some.inj h
      cases hb
    | i + 2, h => cases h
  · obtain ⟨tt, cs, h⟩ := hw.isb i hi
    match i, h with
    | 0, h => exact ⟨_, _, rfl⟩
    | 1, h => cases h
    | i + 2, h => cases h
end Go.Proofs.YteiickhgmmjcmaaGreatDoor.Sx
