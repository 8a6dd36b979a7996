/-
  A slice that is made, written, and handed on.
-/
import Derived.Test.YteiickhgmmjcmaaGreatDoorSxO
import Derived.Laws.MakeOwn
set_option linter.unusedVariables false
set_option linter.unusedSimpArgs false
namespace Go.Proofs.YteiickhgmmjcmaaGreatDoor.Sx
open Go Go.RowKit

theorem madeCells_flat (z : Array Value) (n : Nat) (hz : 0 < z.size) : (madeCells z (n * z.size)).toList = (List.replicate n z.toList).flatten := by
  apply List.ext_getElem?
  intro j
  have hall : ∀ c ∈ List.replicate n z.toList, c.length = z.size := fun c hc => by rw [(List.mem_replicate.1 hc).2, Array.length_toList]
  by_cases hj : j < n * z.size
  · have hi : j / z.size < n := (Nat.div_lt_iff_lt_mul hz).2 hj
    have hp : j % z.size < z.size := Nat.mod_lt _ hz
    have hdec : j / z.size * z.size + j % z.size = j := by rw [Nat.mul_comm]; exact Nat.div_add_mod j z.size
    have := flatten_get (m := z.size) (List.replicate n z.toList) hall (j / z.size) (j % z.size) z.toList (by simp [List.getElem?_replicate, hi]) hp
    rw [hdec] at this
    rw [this]
    simp [madeCells, hj, hp]
  · rw [List.getElem?_eq_none (by simp [madeCells]; omega), List.getElem?_eq_none (by rw [flatten_length_const _ hall]; simp; omega)]

theorem int_nat (l : Int) (h0 : 0 ≤ l) (hbig : l ≤ 1099511627776) : ∃ N : Nat, l = (N : Int) ∧ Int.toNat l = N ∧ N ≤ 1099511627776 ∧ l ≤ 9223372036854775807 := ⟨l.toNat, by omega, rfl, by omega, by omega⟩
def effMake (P : Program) (n : Nat) (env : Env) (tab : List Ent) (o : Oper) : Option (Option Prop × St) :=
  match o.guard, o.dst, o.op with
  | none, some d, .makeSlice t x y => match opnd env [] x, opnd env [] y, P.underlying t with
    | some (.val (.int kl) l), some (.val (.int kc) c), some (.slice e) => match P.info? e, zeroSV P e, tyOf P 8 e with
      | some inf, some z, some ty => match parse ty z with
        | some x0 => if d < n ∧ okPut env d = true ∧ inf.size = ty.cells ∧ z.length = inf.size ∧ 0 < inf.size ∧ inf.bytes ≤ 128 then
            some (some (0 ≤ (l : Int) ∧ (l : Int) = (c : Int) ∧ (l : Int) ≤ 1099511627776),
              ⟨put (cleanE (fun i => decide (i < tab.length)) env) d [] (.arr tab.length), cleanT (fun i => decide (i < tab.length)) tab ++ [.ra e ty (List.replicate (Int.toNat l) x0)]⟩)
          else none
        | none => none
      | _, _, _ => none
    | _, _, _ => none
  | _, _, _ => none
theorem effMake_sound {P : Program} {n : Nat} {env : Env} {tab : List Ent} {st' : St} {o : Oper} {c : Option Prop} (h : effMake P n env tab o = some (c, st')) : Eff P n o ⟨env, tab⟩ st' c := by
  unfold effMake at h
  split at h
  · rename_i d t x y hg hdst ho
    split at h
    · rename_i kl l kc c0 e hx hy hu
      split at h
      · rename_i inf z ty hinf hz hty
        split at h
        · rename_i x0 hx0
          split at h
          · rename_i hs
            obtain ⟨s1, s2, s3, s4, s5, s6⟩ := hs
            simp only [Option.some.injEq, Prod.mk.injEq] at h
            obtain ⟨rfl, rfl⟩ := h
            refine ⟨hg, fun cx a w hc hr => ?_⟩
            obtain ⟨σ, ρ, hw, he, hn, hd⟩ : ∃ σ ρ, WR cx σ ρ tab w ∧ EnvA σ ρ env a ∧ a.tmps.size = n ∧ a.defers = cx.ds := hr
            obtain ⟨h0, hlc, hbig⟩ : (0 : Int) ≤ l ∧ (l : Int) = c0 ∧ (l : Int) ≤ 1099511627776 := hc
            subst hlc
            have dx := opnd_den (known := []) he (fun p hp => by cases hp) hx
            have dy := opnd_den (known := []) he (fun p hp => by cases hp) hy
            simp only [SV.den, Den, List.cons.injEq, and_true] at dx dy
            unfold zeroSV at hz
            split at hz
            · rename_i it hit
              rw [hinf] at hit
              obtain rfl := Option.some.inj hit
              split at hz
              · rename_i zv hzv
                have hzd := constSVL_den (σ := σ) (ρ := ρ) _ _ hz
                have hzl := denL_length _ _ hzd
                have hzs : zv.cells.size = inf.size := by rw [← Array.length_toList, hzl]; exact s4
                have hx0d := parse_den ty z x0 _ hx0 hzd
                obtain ⟨N, hN, hlN, hNb, hl63⟩ := int_nat l h0 hbig
                have hb : (inf.bytes : Int) * l ≤ 281474976710656 := by
                  rw [hN]
                  have := Nat.mul_le_mul s6 hNb
                  have h2 : ((inf.bytes * N : Nat) : Int) ≤ 281474976710656 := by omega
                  rwa [Int.natCast_mul] at h2
                have hrun := run_make (P := P) w t e inf zv hu hinf hzv kl kc l l h0 (Int.le_refl _) hb (by first | exact hl63 | omega)
                rw [hlN] at hrun
                have hflat := madeCells_flat zv.cells N (by rw [hzs]; exact s5)
                rw [hzs] at hflat
                have hm : N ≤ maxLen := by unfold maxLen; omega
                have hρ : ∀ i, (decide (i < tab.length)) = true → upd ρ tab.length ⟨w.heap.size, some ⟨w.heap.size, 0, none⟩, N, N, []⟩ i = ρ i := upd_lt
                have hcs : (madeCells zv.cells (N * inf.size)).size = N * inf.size := size_madeCells _ _
                have hxl : (List.replicate N zv.cells.toList).flatten.length = N * inf.size := by rw [← hflat, Array.length_toList, hcs]
                refine ⟨_, w.alloc (.cells (madeCells zv.cells (N * inf.size)) e), by simp only [execOp, ho, dx, dy]; simp [hrun]; rfl, .inl ⟨_, rfl, σ, upd ρ tab.length ⟨w.heap.size, some ⟨w.heap.size, 0, none⟩, N, N, []⟩, ?_, ?_, by rw [put_size]; exact hn, by rw [put_defers]; exact hd⟩⟩
                · refine hw.newEnt (Mem.le_refl σ) (fun a v ha => ((below_alloc' w _).cell (sub_lt hw.sub ha)).trans (hw.sub a v ha)) (fun b hb => Below.heap_alloc w _ b hb) (fun a v ha => .inl ⟨v, ha⟩) ?_ (fun b hb => ?_) rfl rfl rfl (by simp)
                  · rw [hlN]
                    refine ⟨(List.replicate N zv.cells.toList).flatten, ⟨List.replicate N zv.cells.toList, by simp, rfl, fun i y hy => ?_⟩, ?_, fun g hg => ?_, fun a v ha => ?_⟩
                    · rw [List.getElem?_replicate] at hy
                      split at hy
                      · rename_i hi
                        obtain rfl := Option.some.inj hy
                        exact ⟨_, by rw [List.getElem?_replicate, if_pos hi], hx0d⟩
                      · cases hy
                    · rw [upd_same]
                      simp only [List.length_replicate]
                      rw [← s3]
                      refine ⟨hxl, .inr ⟨w.heap.size, N, _, rfl, Nat.zero_le _, heap_alloc_new w _, Nat.le_refl _, hm, hcs, ?_⟩⟩
                      rw [hflat, List.take_of_length_le (by rw [hxl]; exact Nat.le_refl _)]
                    · rw [upd_same] at hg ⊢
                      exact (Option.some.inj hg).symm
                    · rw [upd_same]
                      have := sub_lt hw.sub ha
                      intro heq
                      have heq' := Option.some.inj heq
                      simp only at heq'
                      omega
                  · simp only [Ent.at_, upd_same, Loc.sl, Value.ownBlock, Option.some.injEq] at hb
                    omega
                · rw [hdst]
                  refine (he.clean _ hρ).put (okPut_clean s2) (by rw [hn]; exact s1) rfl (fun _ => ?_) (fun h => absurd (fun p hp => by cases hp) h)
                  simp only [SV.den, upd_same]
                  rfl
              · cases hz
            · cases hz
          · cases h
        · cases h
      · cases h
    · cases h
  · cases h

theorem Rows.take {σ : Mem} {t : Ty} {l : List t.D} {xs : List Value} (hr : Rows σ t l xs) (k : Nat) : Rows σ t (l.take k) (xs.take (k * t.cells)) := by
  obtain ⟨css, a1, rfl, a3⟩ := hr
  have hall := Rows.all a1 a3
  refine ⟨css.take k, by simp [a1], ?_, fun i y hy => ?_⟩
  · clear a1 a3
    induction css generalizing k with
    | nil => simp
    | cons c r ih =>
      have hc := hall c (by simp)
      cases k with
      | zero => simp
      | succ k =>
        simp only [List.take_succ_cons, List.flatten_cons, Nat.add_mul, Nat.one_mul]
        rw [Nat.add_comm, ← hc, List.take_length_add_append, hc, ih k (fun x hx => hall x (by simp [hx]))]
  · rw [List.getElem?_take] at hy ⊢
    split at hy
    · rename_i hlt
      rw [if_pos hlt]
      exact a3 i y hy
    · cases hy
/-! ### A row that is written no more -/
def frzV (i : Nat) (t : Ty) (l : List t.D) : SV → SV
  | .arr j => if j = i then .val (.list t) l else .arr j
  | s => s
def frzE (i : Nat) (t : Ty) (l : List t.D) (env : Env) : Env := env.map fun x => (x.1, x.2.1, frzV i t l x.2.2)
theorem frzE_look {i : Nat} {t : Ty} {l : List t.D} : ∀ (env : Env) (s : Nat) ch sv, look (frzE i t l env) s = some (ch, sv) → ∃ sv0, look env s = some (ch, sv0) ∧ sv = frzV i t l sv0
  | [], s, ch, sv, h => by simp [frzE, look] at h
  | (s0, c0, v0) :: r, s, ch, sv, h => by
    simp only [frzE, List.map_cons, look] at h ⊢
    split at h
    · rename_i he
      simp only [Option.some.injEq, Prod.mk.injEq] at h
      rw [if_pos he]
      exact ⟨v0, by rw [h.1], h.2.symm⟩
    · rename_i he
      rw [if_neg he]
      exact frzE_look r s ch sv h
/-- A row of the call's own, its cells told as memory that never turns. -/
theorem ra_seal {cx : Cx} {σ : Mem} {ρ : Rho} {tab : List Ent} {w : World} {i : Nat} {e : TypeId} {t : Ty} {l : List t.D} (hw : WR cx σ ρ tab w) (hi : tab[i]? = some (.ra e t l)) :
    ∃ xs, σ.le (rowM σ (ρ i).sl xs) ∧ (∀ a v, rowM σ (ρ i).sl xs a = some v → w.cell? a = some v) ∧ (∀ a v, rowM σ (ρ i).sl xs a = some v → (∃ u, σ a = some u) ∨ (ρ i).sl.ownBlock = some a.block) ∧
      (∀ (k : Nat), k ≤ l.length → ∀ (c : Nat), (ρ i).c = c → Den (rowM σ (ρ i).sl xs) (.list t) (l.take k) [.slice (ρ i).ad k c]) ∧ Den (rowM σ (ρ i).sl xs) (.list t) l [(ρ i).sl] := by
  obtain ⟨xs, q1, q2, q3, q4⟩ := hw.ent i _ hi
  have hle : σ.le (rowM σ (ρ i).sl xs) := by
    intro a v ha
    simp only [rowM]
    split
    · rename_i g hg
      simp only [sealM]
      rw [if_neg (fun hb => q4 a v ha (by rw [hg, hb.1]))]
      exact ha
    · exact ha
  have hseal : ∀ g, (ρ i).sl.ownBlock = some g → ∀ (j : Nat) u, xs[j]? = some u → rowM σ (ρ i).sl xs ⟨g, j, none⟩ = some u := by
    intro g hg j u hu
    simp only [rowM, hg]
    exact (sealM_at j).trans hu
  have hden : ∀ (k : Nat), k ≤ l.length → Den (rowM σ (ρ i).sl xs) (.list t) (l.take k) [.slice (ρ i).ad k (ρ i).c] := by
    intro k hk
    rcases q2.2 with ⟨hv, hn⟩ | ⟨g, cap, cur, hv, _, hg, hnc, hcm, hcs, _⟩
    · obtain rfl : k = 0 := by omega
      simp only [Loc.sl, Value.slice.injEq] at hv
      rw [hv.1, hv.2.2]
      exact ⟨none, 0, 0, rfl, by simp, Nat.le_refl _, Nat.zero_le _, fun h0 => absurd h0 (by omega)⟩
    · have hv' := hv
      simp only [Loc.sl, Value.slice.injEq] at hv'
      rw [hv'.1, hv'.2.2]
      have hkl : (l.take k).length = k := by rw [List.length_take]; omega
      have hrk : Rows σ t (l.take k) (xs.take (k * t.cells)) := q1.take k
      have := (hrk.mono hle).den (A := some ⟨g, 0, none⟩) (c := cap) (by rw [hkl]; omega) hcm (fun _ => ⟨_, rfl, fun j u hu => by
        rw [add_lit, Nat.zero_add]
        refine hseal g (by rw [hv]; rfl) j u ?_
        rw [List.getElem?_take] at hu
        split at hu
        · exact hu
        · cases hu⟩)
      rwa [hkl] at this
  refine ⟨xs, hle, ?_, ?_, fun k hk c hc => by rw [← hc]; exact hden k hk, ?_⟩
  · intro a v ha
    simp only [rowM] at ha
    split at ha
    · rename_i g hg
      simp only [sealM] at ha
      split at ha
      · rename_i hb
        have := q2.cells hg a.off v ha
        rw [add_lit, Nat.zero_add] at this
        obtain ⟨b, o, sp⟩ := a
        simp only at hb this ⊢
        rw [hb.1, hb.2]
        exact this
      · exact hw.sub a v ha
    · exact hw.sub a v ha
  · intro a v ha
    simp only [rowM] at ha
    split at ha
    · rename_i g hg
      simp only [sealM] at ha
      split at ha
      · rename_i hb
        exact .inr (by rw [hg, hb.1])
      · exact .inl ⟨v, ha⟩
    · exact .inl ⟨v, ha⟩
  · have := hden l.length (Nat.le_refl _)
    rw [List.take_of_length_le (Nat.le_refl _)] at this
    obtain ⟨A, cap, hsl⟩ := ra_any (hw.ent i _ hi)
    have hn : (ρ i).n = l.length := by
      unfold Loc.sl at hsl
      simp only [Value.slice.injEq] at hsl
      exact hsl.2.1
    rw [← hn] at this
    exact this
theorem SRel.freeze {cx : Cx} {n : Nat} {env : Env} {tab : List Ent} {a : Act} {w : World} {e : TypeId} {t : Ty} {l : List t.D} (i : Nat) (hi : tab[i]? = some (.ra e t l)) (h : SRel cx n ⟨env, tab⟩ a w) :
    SRel cx n ⟨cleanE (fun j => decide (j ≠ i)) (frzE i t l env), (cleanT (fun j => decide (j ≠ i)) tab).set i .gone⟩ a w := by
  obtain ⟨σ, ρ, hw, he, hn, hd⟩ : ∃ σ ρ, WR cx σ ρ tab w ∧ EnvA σ ρ env a ∧ a.tmps.size = n ∧ a.defers = cx.ds := h
  obtain ⟨xs, hle, hsub, hnew, _, hden⟩ := ra_seal hw hi
  refine ⟨rowM σ (ρ i).sl xs, ρ, ?_, ?_, hn, hd⟩
  · refine hw.step (k := i) (fun j => decide (j ≠ i)) hi hle hsub (fun _ _ => rfl) (fun _ _ => rfl) (fun _ _ _ => rfl) (fun a v ha => ?_) (fun h => by cases h) trivial (fun b hb => by cases hb) rfl rfl rfl (Nat.le_refl _)
    rcases hnew a v ha with h | h
    · exact .inl h
    · exact .inr (.inl ⟨h, rfl⟩)
  · refine EnvR.clean (ρ := ρ) ?_ _ (fun _ _ => rfl)
    intro s ch sv hl
    obtain ⟨sv0, h1, rfl⟩ := frzE_look _ _ _ _ hl
    obtain ⟨g1, g2⟩ := he s ch sv0 h1
    refine ⟨fun hf => ?_, g2⟩
    obtain ⟨v, hv, hdv⟩ := g1 hf
    refine ⟨v, hv, ?_⟩
    unfold frzV
    split
    · rename_i j
      split
      · rename_i hj
        subst hj
        simp only [SV.den] at hdv ⊢
        subst hdv
        exact hden
      · exact den_grow hle hdv
    · exact den_grow hle hdv
theorem Tr.freeze {P : Program} {cx : Cx} {n : Nat} {env : Env} {tab : List Ent} {Q : Post} {c : Code} {e : TypeId} {t : Ty} {l : List t.D} (i : Nat) (hi : tab[i]? = some (.ra e t l))
    (h : Tr P cx n c ⟨cleanE (fun j => decide (j ≠ i)) (frzE i t l env), (cleanT (fun j => decide (j ≠ i)) tab).set i .gone⟩ Q) : Tr P cx n c ⟨env, tab⟩ Q :=
  Tr.of h fun a w hs => hs.freeze i hi
end Go.Proofs.YteiickhgmmjcmaaGreatDoor.Sx
