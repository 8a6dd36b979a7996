/-
  strings.IndexRune at a rune that is not ASCII, among blanks; strings.IndexAny of blanks.
-/
import Derived.Test.YteiickhgmmjcmaaGreatDoorF13
set_option linter.unusedVariables false
set_option linter.unusedSimpArgs false
set_option maxRecDepth 20000
set_option maxHeartbeats 4000000
namespace Go.Proofs.YteiickhgmmjcmaaGreatDoor.Sx
open Go Go.RowKit Go.Proofs

abbrev vR (x : Int) : SV := .val (.int .i32) x
theorem c_ValidRune (r : Int) : CallV Tryz.prog 127 [vR r] (vB (Lib.validRune r)) :=
  CallV.of_same (Go.Proofs.enters_of Tryz.func127 (by kernel_rfl) rfl) rfl rfl fun w => Tryz.utf8_ValidRune r w

theorem runeStr_spec (r : Int) (h1 : 128 ≤ r) (h2 : r ≤ 1114111) : ∃ L : Nat, (runeStr r).length = L + 1 ∧ 1 ≤ L ∧ L ≤ 3 ∧ 128 ≤ byteAt (runeStr r) (L : Int) := by
  have key : ∀ n : Nat, 128 ≤ n → n < 256 → (((UInt8.ofNat n).toNat : Nat) : Int) ≥ 128 := fun n h h' => by
    rw [UInt8.toNat_ofNat']; omega
  simp only [runeStr, Utf8.encode]
  generalize hc : (if Utf8.valid r = true then r.toNat else Utf8.runeError) = c
  have hc128 : 128 ≤ c := by
    rw [← hc]; split
    · omega
    · decide
  rw [if_neg (by omega)]
  split
  · exact ⟨1, rfl, by omega, by omega, key _ (by omega) (by omega)⟩
  · split
    · exact ⟨2, rfl, by omega, by omega, key _ (by omega) (by omega)⟩
    · exact ⟨3, rfl, by omega, by omega, key _ (by omega) (by omega)⟩

theorem high_no (l : Str) (h : ∀ x ∈ l, x.toNat < 128) (b : Int) (h1 : 128 ≤ b) (h2 : b < 256) : Lib.indexByte l b.toNat.toUInt8 < 0 := by
  have := Lib.contains_iff_indexByte l b.toNat.toUInt8
  have hn : ¬ (l.contains b.toNat.toUInt8 = true) := fun hc => by
    have hm := h _ (List.contains_iff_mem.1 hc)
    have hb : b.toNat.toUInt8.toNat = b.toNat := by
      show (UInt8.ofNat b.toNat).toNat = _
      rw [UInt8.toNat_ofNat']; omega
    omega
  rw [this, decide_eq_true_eq] at hn
  omega
theorem c_IndexRune_val (ch : Str) (hch : ∀ x ∈ ch, x.toNat < 128) (hl3 : ch.length ≤ 3) (r : Int) (h1 : 128 ≤ r) (h2 : r ≤ 1114111) (h3 : Lib.validRune r = true) (h4 : r ≠ 65533) : CallV Tryz.prog 96 [vS ch, vR r] (vI (-1)) := by
  obtain ⟨L, q1, q2, q3, q4⟩ := runeStr_spec r h1 h2
  refine CallV.of Tryz.func96 (by kernel_rfl) rfl Tryz.ntmps96 (by simp) rfl fun cx hB => ?_
  refine Tr.seq ?_; refine Tr.region ?_; refine TrL.quiets 1 rfl (by exact True.intro) ?_; refine TrL.nil ?_; refine Tr.block ?_; refine Tr.seq ?_; refine Tr.region ?_; refine TrL.quiets 7 rfl (by exact True.intro) ?_; refine TrL.nil ?_
  refine Tr.cond rfl (fun c1 => ?_) (fun c1 => ?_)
  · simp only [Bool.and_eq_true, decide_eq_true_eq] at c1
    omega
  refine Tr.seq ?_; refine Tr.region ?_; refine TrL.quiets 3 rfl (by exact True.intro) ?_; refine TrL.nil ?_
  refine Tr.cond rfl (fun c2 => ?_) (fun c2 => ?_)
  · simp only [beq_iff_eq] at c2
    omega
  refine Tr.seq ?_; refine Tr.region ?_; refine TrL.quiets 1 rfl (by exact True.intro) ?_; refine TrL.callV rfl rfl rfl rfl rfl (by apply (c_ValidRune) <;> first | assumption | omega | (simp only [cut, List.length_take, List.length_drop, Int.toNat_natCast]; omega)) ?_; refine TrL.quiets 2 rfl (by exact True.intro) ?_; refine TrL.nil ?_
  refine Tr.cond rfl (fun c3 => ?_) (fun c3 => ?_)
  · simp [h3] at c3
  refine Tr.scope ?_; refine Tr.seq ?_; refine Tr.region ?_; refine TrL.quiets 3 rfl (by exact True.intro) ?_; refine TrL.nil ?_; refine Tr.seq ?_; refine Tr.region ?_; refine TrL.quiets 4 rfl (by exact True.intro) ?_; refine TrL.nil ?_; refine Tr.seq ?_; refine Tr.region ?_; refine TrL.quiets 2 rfl (by exact True.intro) ?_; refine TrL.nil ?_; refine Tr.seq ?_; refine Tr.region ?_; refine TrL.quiets 1 rfl (by exact True.intro) ?_; refine TrL.nil ?_; refine Tr.seq ?_; refine Tr.block ?_
  have hL : SV.val (.int .i64) (IntKind.i64.wrap (((runeStr r).length : Int) - 1)) = vI (L : Int) := by
    rw [q1]
    exact congrArg (SV.val (.int .i64)) (w64n (by omega) (by omega))
  refine Tr.is 8 (sv' := vI (L : Int)) rfl hL ?_
  refine Tr.is 9 (sv' := vI (L : Int)) rfl hL ?_
  refine Tr.loop (fun (_ : Unit) => ⟨[(0, [], vS ch), (7, [], vS (runeStr r)), (8, [], vI (L : Int)), (9, [], vI (L : Int))], []⟩) (fun _ => True) (fun _ => 0) () [0, 7, 8, 9] 0 hB rfl True.intro fun _ _ => ?_
  refine Tr.seq ?_; refine Tr.seq ?_; refine Tr.region ?_; refine TrL.quiets 4 rfl (by exact True.intro) ?_; refine TrL.nil ?_
  refine Tr.cond rfl (fun c4 => ?_) (fun c4 => ?_)
  · have c5 : L < ch.length := by
      have : ((L : Nat) : Int) < (ch.length : Int) := of_decide_eq_true c4
      omega
    have b1 : byteAt ch (L : Int) < 128 := by
      rw [byteAt_get _ _ c5]
      have := hch _ (List.getElem_mem c5)
      omega
    refine Tr.skip ?_; refine Tr.block ?_; refine Tr.scope ?_; refine Tr.seq ?_; refine Tr.seq ?_; refine Tr.draw (by kernel_rfl) (by kernel_rfl) ?_; refine TrD.quiets 7 rfl (by (simp only [allOf, impO, imp, inR, loOk, and_true]; omega)) ?_; refine TrD.nil ?_
    refine Tr.cond rfl (fun c6 => ?_) (fun c6 => ?_)
    · refine Tr.seq ?_; refine Tr.draw (by kernel_rfl) (by kernel_rfl) ?_; refine TrD.quiets 7 rfl (by (simp (disch := omega) only [allOf, impO, imp, inR, loOk, and_true, w64, List.length_set, List.length_cons, List.length_nil, Option.getD_none, Option.getD_some, Ty.D, true_and, decide_eq_true_eq, decide_eq_false_iff_not, Bool.and_eq_true, Bool.or_eq_false_iff]; omega)) ?_
      first | refine TrL.callV rfl rfl rfl rfl rfl (c_IndexByte ..) ?_ | refine TrD.callV rfl rfl rfl rfl rfl (c_IndexByte ..) rfl ?_
      have hneg := high_no (cut ch (some (IntKind.i64.wrap ((L : Int) + 1))) none) (fun x hx => hch x (List.mem_of_mem_drop hx)) (byteAt (runeStr r) (L : Int)) q4 (byteAt_lt _ _).2
      refine TrD.quiets 1 rfl (by exact True.intro) ?_; refine TrD.nil ?_; refine Tr.seq ?_; refine Tr.seq ?_; refine Tr.region ?_; refine TrL.quiets 2 rfl (by exact True.intro) ?_; refine TrL.nil ?_
      refine Tr.cond rfl (fun c7 => ?_) (fun c7 => ?_)
      · refine Tr.seq ?_; refine Tr.region ?_; refine TrL.quiets 1 rfl (by exact True.intro) ?_; refine TrL.nil ?_; refine Tr.ret ?_
        refine retQ.of rfl ?_
        rfl
      · simp only [decide_eq_false_iff_not] at c7
        exact absurd hneg c7
    · simp only [bne_eq_false_iff_eq] at c6
      omega
  · refine Tr.exit ?_; refine Tr.seq ?_; refine Tr.seq ?_; refine Tr.region ?_; refine TrL.quiets 1 rfl (by exact True.intro) ?_; refine TrL.nil ?_; refine Tr.ret ?_
    refine retQ.of rfl ?_
    rfl

theorem CallV.below {P : Program} {f : Nat} {args : List SV} {r : SV} {avs : List Value} {rv : Value} (h : CallV P f args r) (ha : rigids args = some avs) (hr : rigidT r = some rv) {σ : Mem} {w : World} (hσ : ∀ a v, σ a = some v → w.cell? a = some v) (hG : GL σ) :
    Calls P f avs.toArray w fun e w' => e = .returned rv ∧ Below w.heap.size w w' := by
  refine (h.2 ⟨w, σ, fun _ => False, fun _ => ⟨0, none, 0, 0, []⟩, fun _ => false, []⟩ σ (fun _ => ⟨0, none, 0, 0, []⟩) w avs ?_ ((rigids_den _ _ _ ha).2 rfl)).mono ?_
  · exact ⟨hσ, fun i e h => by simp at h, fun i j e e' b h => by simp at h, rfl, rfl, rfl, Nat.le_refl _, fun _ _ _ => rfl, Mem.le_refl _, fun a v h => .inl ⟨v, h⟩, fun i e b h => by simp at h, hG, fun i h => (by cases h), fun i h => (by cases h)⟩
  · rintro e w' ⟨v, τ, rfl, hle, hw, hd⟩
    rw [(rigidT_den hr).1 hd]
    exact ⟨rfl, hw.os, hw.tape, hw.output, hw.size, fun k hk => hw.old k hk (fun h => h)⟩

theorem ascii_of {s : Str} (h : ∀ x ∈ s, x.toNat < 128) : ∀ (j : Nat) b, (⟨s.toArray⟩ : ByteArray).data.toList[j]? = some b → b.toNat < 128 := fun j b hj => h b (List.mem_of_getElem? hj)

theorem c_IndexAnyC (s ch : Str) (hs : s.length ≤ 4294967280) (hl2 : 2 ≤ ch.length) (hl3 : ch.length ≤ 3) (hch : ∀ x ∈ ch, x.toNat < 128) : CallV Tryz.prog 70 [vS s, vS ch] (vI (Lib.indexAny s ch)) := by
  by_cases h8 : 8 < s.length
  · refine CallV.of_below (Go.Proofs.enters_of Tryz.func70 (by kernel_rfl) rfl) rfl rfl fun w => ?_
    have h116 : (Tryz.prog.info? (Tryz.lays153_ren.t 116)).map (fun i => (i.zero, i.size)) = some (some (.agg (Array.replicate 256 (.bool false))), 256) := by kernel_rfl
    refine (Any.strings_IndexAny_long Tryz.lays153 (zero_of_info h116).1 (zero_of_info h116).2 ⟨s.toArray⟩ ⟨ch.toArray⟩ w (by rw [size_mk]; omega) (by rw [size_mk]; exact h8) (by rw [size_mk]; omega) (by rw [size_mk]; omega) (ascii_of hch)).mono ?_
    rintro e w' ⟨rfl, rfl⟩
    exact ⟨rfl, ((Below.refl _ _).alloc (Nat.le_refl _) _).alloc (by simp) _⟩
  · refine ⟨Go.Proofs.enters_of Tryz.func70 (by kernel_rfl) rfl, fun cx σ ρ w vs hw hd => ?_⟩
    obtain rfl := (rigids_den _ [strV s, strV ch] _ rfl).1 hd
    refine (indexAny_short Tryz.lays153 ⟨s.toArray⟩ ⟨ch.toArray⟩ w (by rw [size_mk]; omega) (by rw [size_mk]; omega) (ascii_of hch) fun w' r hB h1 h2 h3 => ?_).mono ?_
    · by_cases he : r = 65533
      · subst he
        exact indexRune_err Tryz.lays152 ⟨ch.toArray⟩ w' (ascii_of hch)
      · exact (c_IndexRune_val ch hch hl3 r h1 h2 h3 he).below rfl rfl (fun a v ha => (hB.cell (sub_lt hw.sub ha)).trans (hw.sub a v ha)) hw.glob
    · rintro e w' ⟨rfl, hB⟩
      exact ⟨_, σ, rfl, Mem.le_refl _, hw.below (Mem.le_refl _) (fun a v ha => (hB.cell (sub_lt hw.sub ha)).trans (hw.sub a v ha)) hB (fun a v ha => .inl ⟨v, ha⟩), by simp only [SV.den, Den]⟩
theorem c_IndexAny (s : Str) (hs : s.length ≤ 4294967280) : CallV Tryz.prog 70 [vS s, vS blanks] (vI (Lib.indexAny s blanks)) := c_IndexAnyC s blanks hs (by decide) (by decide) (by decide)

end Go.Proofs.YteiickhgmmjcmaaGreatDoor.Sx
