/-
  strings.IndexAny at texts that are not ASCII.
-/
import Derived.Test.YteiickhgmmjcmaaGreatDoorF4
import Derived.Shelf.Strings.IndexAny
import Derived.Shelf.Strings.IndexAnyAll
import Derived.Lib.MapLaws
import Derived.Lib.OthersKept
import Derived.Laws.RangeAny
import Derived.Test.YteiickhgmmjcmaaGreatDoorSxT
set_option linter.unusedVariables false
set_option linter.unusedSimpArgs false
set_option maxRecDepth 1000000
set_option maxHeartbeats 8000000
namespace Go.Proofs.YteiickhgmmjcmaaGreatDoor.Sx
open Go Go.RowKit Go.Proofs Go.Shelf Go.Lib

/-! ### What is decoded at a byte that is not ASCII -/
theorem decode_big (s : ByteArray) (pos : Nat) (h : pos < s.size) (hb : 128 ≤ (s[pos]'h).toNat) :
    128 ≤ (Utf8.decode s pos).1 ∧ (Utf8.decode s pos).1 ≤ 1114111 ∧ Lib.validRune ((Utf8.decode s pos).1 : Int) = true ∧ 1 ≤ (Utf8.decode s pos).2 ∧ pos + (Utf8.decode s pos).2 ≤ s.size ∧
      ∀ (j : Nat) b, pos ≤ j → j < pos + (Utf8.decode s pos).2 → s.data.toList[j]? = some b → 128 ≤ b.toNat := by
  have hlen : s.data.toList.length = s.size := (Lib.size_eq s).symm
  have hg : ∀ j b, s.data.toList[j]? = some b → s.data.toList.getD j 0 = b := fun j b hj => by simp [List.getD_eq_getElem?_getD, hj]
  have h0 := hg pos _ (Lib.data_getElem? s pos h)
  have hlt : ∀ j, (s.data.toList.getD j 0).toNat < 256 := fun j => (s.data.toList.getD j 0).toNat_lt
  have b1 := hlt (pos + 1); have b2 := hlt (pos + 2); have b3 := hlt (pos + 3)
  rw [Lib.decode_N]
  rw [← h0] at hb
  generalize e0 : (s.data.toList.getD pos 0).toNat = c0 at *
  generalize e1 : (s.data.toList.getD (pos + 1) 0).toNat = c1 at *
  generalize e2 : (s.data.toList.getD (pos + 2) 0).toNat = c2 at *
  generalize e3 : (s.data.toList.getD (pos + 3) 0).toNat = c3 at *
  have at0 : ∀ b, s.data.toList[pos]? = some b → b.toNat = c0 := fun b hj => by rw [← e0, hg _ _ hj]
  have at1 : ∀ b, s.data.toList[pos + 1]? = some b → b.toNat = c1 := fun b hj => by rw [← e1, hg _ _ hj]
  have at2 : ∀ b, s.data.toList[pos + 2]? = some b → b.toNat = c2 := fun b hj => by rw [← e2, hg _ _ hj]
  have at3 : ∀ b, s.data.toList[pos + 3]? = some b → b.toNat = c3 := fun b hj => by rw [← e3, hg _ _ hj]
  have split4 : ∀ (j k : Nat), pos ≤ j → j < pos + k → k ≤ 4 → j = pos ∨ (1 < k ∧ j = pos + 1) ∨ (2 < k ∧ j = pos + 2) ∨ (3 < k ∧ j = pos + 3) := fun j k _ _ _ => by omega
  have hbound : ∀ (k : Nat) (j : Nat) (b : UInt8), k ≤ 4 → (1 < k → 128 ≤ c1) → (2 < k → 128 ≤ c2) → (3 < k → 128 ≤ c3) → pos ≤ j → j < pos + k → s.data.toList[j]? = some b → 128 ≤ b.toNat := by
    intro k j b hk h1 h2 h3 hj hjk hb'
    rcases split4 j k hj hjk hk with rfl | ⟨hx, rfl⟩ | ⟨hx, rfl⟩ | ⟨hx, rfl⟩
    · rw [at0 b hb']; exact hb
    · rw [at1 b hb']; exact h1 hx
    · rw [at2 b hb']; exact h2 hx
    · rw [at3 b hb']; exact h3 hx
  have vr : ∀ n : Nat, (n < 55296 ∨ 57344 ≤ n) → n ≤ 1114111 → Lib.validRune (n : Int) = true := fun n h1 h2 => by
    simp only [Lib.validRune, decide_eq_true_eq]
    omega
  rcases Lib.decodeN_shape (s.data.toList.length - pos) c0 c1 c2 c3 with ⟨c, e⟩ | ⟨q1, q2, q3, q4, e⟩ | ⟨q1, q2, q3, q4, q5, q6, e⟩ | ⟨q1, q2, q3, q4, q5, q6, q7, e⟩ | e <;> rw [e] <;> simp only
  · omega
  · exact ⟨by omega, by omega, vr _ (by omega) (by omega), by omega, by omega, fun j b hj hj2 hb' => hbound 2 j b (by omega) (by omega) (by omega) (by omega) hj hj2 hb'⟩
  · exact ⟨by omega, by omega, vr _ (by omega) (by omega), by omega, by omega, fun j b hj hj2 hb' => hbound 3 j b (by omega) (by omega) (by omega) (by omega) hj hj2 hb'⟩
  · exact ⟨by omega, by omega, vr _ (by omega) (by omega), by omega, by omega, fun j b hj hj2 hb' => hbound 4 j b (by omega) (by omega) (by omega) (by omega) hj hj2 hb'⟩
  · exact ⟨by omega, by omega, vr 65533 (by omega) (by omega), by omega, by omega, fun j b hj hj2 hb' => hbound 1 j b (by omega) (by omega) (by omega) (by omega) hj hj2 hb'⟩

/-! ### strings.IndexRune at U+FFFD -/
theorem indexRune_err {P : Program} {ρ : Ren} (L : Lays.n152 P ρ) (s : ByteArray) (w : World) (hascii : ∀ (j : Nat) b, s.data.toList[j]? = some b → b.toNat < 128) :
    Calls P (ρ.f 152) #[.string s, .int .i32 65533] w fun e w' => e = .returned (.int .i64 (-1)) ∧ Below w.heap.size w w' := by
  have HA : Aside (∀ (j : Nat) b, s.data.toList[j]? = some b → b.toNat < 128) := hascii
  clear hascii
  have t3 := L.t3; have a3 := L.a3; have z3 := L.z3; have v3 := L.v3
  have t4 := L.t4; have a4 := L.a4; have z4 := L.z4; have v4 := L.v4
  have t5 := L.t5; have a5 := L.a5; have z5 := L.z5; have v5 := L.v5
  have t9 := L.t9; have a9 := L.a9; have z9 := L.z9; have v9 := L.v9
  have t21 := L.t21; have a21 := L.a21; have z21 := L.z21; have v21 := L.v21
  go_enter L.f152, Body.n152_ntmps ρ
  go_wp2
  go_loopg [5, 6] s.size (fun g _ _ wx => ∃ i : Nat, i + g = s.size ∧ wx = w.iter s i)
  case atStart => exact ⟨0, by omega, rfl⟩
  case round =>
    obtain ⟨i, hig, rfl⟩ := hrel
    cases gk with
    | zero =>
      obtain rfl : i = s.size := by omega
      have hnx := run_next_end (P := P) w s s.size
      go_wp2
      go_ret
      exact ⟨rfl, (Below.refl _ _).alloc (Nat.le_refl _) _⟩
    | succ g =>
      have hi : i < s.size := by omega
      obtain ⟨x, hx⟩ : ∃ x : UInt8, s[i]'hi = x := ⟨_, rfl⟩
      have hxl : s.data.toList[i]? = some x := by rw [← hx]; exact Lib.data_getElem? s i hi
      have hx128 : x.toNat < 128 := HA.out i x hxl
      have hnx := fun ty => run_next_ascii (P := P) w s i ty hi (by rw [hx]; exact hx128)
      rw [hx] at hnx
      clear hxl hx
      have hne : ¬ ((x.toNat : Int) = 65533) := by omega
      have hneb : ((x.toNat : Int) == 65533) = false := beq_eq_false_iff_ne.2 hne
      go_wp2
      go_roundg g
      case measure => omega
      case rel => exact ⟨i + 1, by omega, rfl⟩

/-! ### strings.IndexAny at a short text -/
theorem indexAny_short {P : Program} {ρ : Ren} (L : Lays.n153 P ρ) (s chars : ByteArray) (w : World) (h2 : 2 ≤ chars.size) (h8 : s.size ≤ 8) (hac : ∀ (j : Nat) b, chars.data.toList[j]? = some b → b.toNat < 128)
    (hR : ∀ (w' : World) (r : Int), Below w.heap.size w w' → 128 ≤ r → r ≤ 1114111 → Lib.validRune r = true → Calls P (ρ.f 152) #[.string chars, .int .i32 r] w' fun e w'' => e = .returned (.int .i64 (-1)) ∧ Below w'.heap.size w' w'') :
    Calls P (ρ.f 153) #[.string s, .string chars] w fun e w' => e = .returned (.int .i64 (Lib.indexAny s.data.toList chars.data.toList)) ∧ Below w.heap.size w w' := by
  have HR : Aside (∀ (w' : World) (r : Int), Below w.heap.size w w' → 128 ≤ r → r ≤ 1114111 → Lib.validRune r = true → Calls P (ρ.f 152) #[.string chars, .int .i32 r] w' fun e w'' => e = .returned (.int .i64 (-1)) ∧ Below w'.heap.size w' w'') := hR
  have HC : Aside (∀ (j : Nat) b, chars.data.toList[j]? = some b → b.toNat < 128) := hac
  clear hR hac
  have hemp : chars.toList.isEmpty = false := by
    rw [Lib.toList_data]
    cases h : chars.data.toList with
    | nil => have := Lib.size_eq chars; rw [h, List.length_nil] at this; omega
    | cons _ _ => rfl
  have hn1 : ((chars.size : Int) == 1) = false := beq_eq_false_iff_ne.2 (by omega)
  have h8z : decide ((8 : Int) < (s.size : Int)) = false := decide_eq_false (by omega)
  have t3 := L.t3; have a3 := L.a3; have z3 := L.z3; have v3 := L.v3
  have t4 := L.t4; have a4 := L.a4; have z4 := L.z4; have v4 := L.v4
  have t5 := L.t5; have a5 := L.a5; have z5 := L.z5; have v5 := L.v5
  have t9 := L.t9; have a9 := L.a9; have z9 := L.z9; have v9 := L.v9
  have t21 := L.t21; have a21 := L.a21; have z21 := L.z21; have v21 := L.v21
  have e152 : ∀ args w, (callFunc (ρ.f 152) args).run P w = .ok (.enter (ρ.f 152) args) w := enters_of L.f152 (by kernel_rfl) rfl
  have e226 : ∀ args w, (callFunc (ρ.f 226) args).run P w = .ok (.enter (ρ.f 226) args) w := enters_of L.f226 (by kernel_rfl) rfl
  go_enter L.f153, Body.n153_ntmps ρ
  go_wp2_with (go_at_fn (ρ.f 226); refine (Any.strings_shouldUseASCIISet { L with } _ _).mono ?_; rintro e w' ⟨rfl, hw⟩; rw [hw, h8z])
  go_loopg [9, 10] s.size (fun g _ _ wx => ∃ (i : Nat) (wq : World), i + g = s.size ∧ wq = wx ∧ (Below w.heap.size w wq ∧ wq.heap[w.heap.size]? = some (.stringIter s i)) ∧ Lib.NoAny s.data.toList chars.data.toList i)
  case atStart => exact ⟨0, _, by omega, rfl, ⟨(Below.refl _ _).alloc (Nat.le_refl _) _, World.iter_heap w s 0⟩, Lib.NoAny.zero _ _⟩
  case round =>
    obtain ⟨i, wq, hig, rfl, ⟨hB, hk⟩, hno⟩ := hrel
    have HN : Aside (Lib.NoAny s.data.toList chars.data.toList i) := hno
    have HB : Aside (Below w.heap.size w wq) := hB
    have HK : Aside (wq.heap[w.heap.size]? = some (.stringIter s i)) := hk
    clear hno
    cases gk with
    | zero =>
      obtain rfl : i = s.size := by omega
      have hnx := fun ty => run_next_end_at (P := P) wq w.heap.size s s.size ty hk (Nat.lt_irrefl _)
      clear hk hB
      go_wp2
      go_ret
      exact ⟨by rw [Lib.indexAny_none (by rw [← Lib.size_eq]; exact HN.out)]; rfl, HB.out⟩
    | succ g =>
      have hi : i < s.size := by omega
      obtain ⟨x, hx⟩ : ∃ x : UInt8, s[i]'hi = x := ⟨_, rfl⟩
      have hxl : s.data.toList[i]? = some x := by rw [← hx]; exact Lib.data_getElem? s i hi
      have Hx : Aside (s.data.toList[i]? = some x) := hxl
      clear hxl
      by_cases hx128 : x.toNat < 128
      · obtain ⟨w2, hw2⟩ : ∃ w2, wq.iterAt w.heap.size s (i + 1) = w2 := ⟨_, rfl⟩
        have hnx := fun ty => run_next_ascii_at (P := P) wq w.heap.size s i ty hk hi (by rw [hx]; exact hx128)
        rw [hx, hw2] at hnx
        have HB2 : Aside (Below w.heap.size w w2) := by rw [← hw2]; exact below_iterAt hB (Nat.le_refl _) s _
        have HK2 : Aside (w2.heap[w.heap.size]? = some (.stringIter s (i + 1))) := by rw [← hw2]; exact iterAt_heap wq _ s i _ hk
        clear hx hk hB hw2
        have hcon := Lib.contains_iff_indexByte chars.data.toList x
        have hback : ((x.toNat : Int)).toNat.toUInt8 = x := by simp
        cases hin : chars.data.toList.contains x
        · rw [hin] at hcon
          have hlt : ¬ ((0 : Int) ≤ Lib.indexByte chars.data.toList x) := of_decide_eq_false hcon.symm
          clear hcon
          go_wp2_with (go_at_fn (ρ.f 152); refine (Any.strings_IndexRune_ascii { L with } _ _ _ (by omega) (by omega)).mono ?_; rintro e w' ⟨rfl, hw⟩; rw [hw, hback])
          go_roundg g
          case measure => omega
          case rel => exact ⟨i + 1, _, by omega, rfl, ⟨HB2.out, HK2.out⟩, HN.out.succ Hx.out hin⟩
        · rw [hin] at hcon
          have hge : (0 : Int) ≤ Lib.indexByte chars.data.toList x := of_decide_eq_true hcon.symm
          clear hcon
          go_wp2_with (go_at_fn (ρ.f 152); refine (Any.strings_IndexRune_ascii { L with } _ _ _ (by omega) (by omega)).mono ?_; rintro e w' ⟨rfl, hw⟩; rw [hw, hback])
          go_ret
          exact ⟨by rw [Lib.indexAny_hit HN.out Hx.out hin]; rfl, HB2.out⟩
      · obtain ⟨d1, d2, d3, d4, d5, d6⟩ := decode_big s i hi (by rw [hx]; omega)
        have hnx := fun ty => run_next_any_at (P := P) wq w.heap.size s i ty hk hi
        generalize hr : (Utf8.decode s i).1 = r at *
        generalize hkk : (Utf8.decode s i).2 = k at *
        obtain ⟨w2, hw2⟩ : ∃ w2, wq.iterAt w.heap.size s (i + k) = w2 := ⟨_, rfl⟩
        simp only [hw2] at hnx
        have HB2 : Aside (Below w.heap.size w w2) := by rw [← hw2]; exact below_iterAt hB (Nat.le_refl _) s _
        have HK2 : Aside (w2.heap[w.heap.size]? = some (.stringIter s (i + k))) := by rw [← hw2]; exact iterAt_heap wq _ s i _ hk
        have HN2 : Aside (Lib.NoAny s.data.toList chars.data.toList (i + k)) := by
          intro j b hj hb
          by_cases hji : j < i
          · exact HN.out j b hji hb
          · have h128 := d6 j b (by omega) hj hb
            rw [Bool.eq_false_iff]
            intro hcc
            obtain ⟨m, hm⟩ := List.mem_iff_getElem?.1 (List.contains_iff_mem.1 hcc)
            have := HC.out m b hm
            omega
        clear hx hk hB hw2 d6 hr hkk
        have hlt : ¬ ((0 : Int) ≤ -1) := by omega
        go_wp2_with (go_at_fn (ρ.f 152); refine (HR.out _ (r : Int) HB2.out (by omega) (by omega) d3).mono ?_; rintro e w' ⟨rfl, hw⟩)
        go_roundg (s.size - (i + k))
        case measure => omega
        case rel => exact ⟨i + k, _, by omega, rfl, ⟨HB2.out.trans (hw.mono HB2.out.size), (hw.block _ (Array.getElem?_eq_some_iff.1 HK2.out).1).trans HK2.out⟩, HN2.out⟩

end Go.Proofs.YteiickhgmmjcmaaGreatDoor.Sx
