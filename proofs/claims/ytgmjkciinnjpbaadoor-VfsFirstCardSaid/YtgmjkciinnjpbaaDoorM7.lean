/-
  A slice written out, as a row of the call's own.
-/
import Derived.Test.YtgmjkciinnjpbaaDoorM6
set_option linter.unusedVariables false
set_option linter.unusedSimpArgs false
set_option maxRecDepth 20000
namespace Go.Proofs.YtgmjkciinnjpbaaDoor.Sx
open Go Go.RowKit Go.Proofs

def effLitOwn (P : Program) (n : Nat) (env : Env) (tab : List Ent) (o : Oper) : Option (Option Prop × St) :=
  match o.guard, o.dst, o.op with
  | none, some d, .buildSlice t len parts => match P.underlying t with
    | some (.slice e) => match P.info? e, zeroSV P e, tyOf P 8 e, partsSV env [] parts.toList with
      | some inf, some z, some ty, some ps =>
        match fillFast (fun i => some (i * inf.size, inf.size)) ((List.range (len * inf.size)).map (fun i => z.getD (i % z.length) .top)) ps with
        | some cells => match parseN ty len (cells.map (res tab)) with
          | some l => if d < n ∧ inf.size = ty.cells ∧ z.length = inf.size ∧ 0 < len * inf.size ∧ len * inf.size ≤ 16777216 ∧ len ≤ 16777216 ∧ okPut env d = true then some (none, addRow env tab d e ty l) else none
          | none => none
        | none => none
      | _, _, _, _ => none
    | _ => none
  | _, _, _ => none
theorem effLitOwn_sound {P : Program} {n : Nat} {env : Env} {tab : List Ent} {st' : St} {o : Oper} {c : Option Prop} (h : effLitOwn P n env tab o = some (c, st')) : Eff P n o ⟨env, tab⟩ st' c := by
  unfold effLitOwn at h
  split at h
  · rename_i d t len parts hg hdst ho
    split at h
    · rename_i e hu
      split at h
      · rename_i inf z ty ps hinf hz hty hps
        split at h
        · rename_i cells hcells0
          have hcells := fillFast_eq hcells0
          split at h
          · rename_i l hl
            split at h
            · rename_i hs
              obtain ⟨s1, s2, s3, s0, s4, s5, s6⟩ := hs
              simp only [Option.some.injEq, Prod.mk.injEq] at h
              obtain ⟨rfl, rfl⟩ := h
              refine ⟨hg, fun cx a w _ hr => ?_⟩
              obtain ⟨σ, ρ, hw, he, hn, hd⟩ : ∃ σ ρ, WR cx σ ρ tab w ∧ EnvA σ ρ env a ∧ a.tmps.size = n ∧ a.defers = cx.ds := hr
              unfold zeroSV at hz
              split at hz
              · rename_i it hit
                rw [hinf] at hit
                obtain rfl := Option.some.inj hit
                split at hz
                · rename_i zv hzv
                  have hzd := constSVL_den (σ := σ) (ρ := ρ) _ _ hz
                  have hpd := partsSV_den (known := []) he.env (fun p hp => by cases hp) _ _ hps
                  have hparts : (parts.map fun x => (x.1, a.eval x.2)).toList = parts.toList.map fun x => (x.1, a.eval x.2) := by rw [Array.toList_map]
                  have hpos : 0 < z.length := by
                    rcases Nat.eq_zero_or_pos z.length with hz0 | hz0
                    · rw [s3] at hz0; rw [hz0] at s0; simp at s0
                    · exact hz0
                  obtain ⟨vs, v1, v2⟩ := range_cells hzd hpos (len * inf.size)
                  obtain ⟨rs, r1, r2⟩ := fill_run (σ := σ) (ρ := ρ) ps _ _ vs cells v1 hpd hcells
                  have hrun : (Instr.buildSlice t len (parts.map fun x => (x.1, a.eval x.2))).run P w = .ok (.slice (some ⟨w.heap.size, 0, none⟩) len len) (w.alloc (.cells rs.toArray e)) := run_buildSlice w t e len _ _ inf zv hu hinf hzv (by omega) (by omega) (by rw [hparts, ← r1, v2])
                  obtain ⟨p1, p2⟩ := parseN_rows len _ l rs hl (resL hw _ _ r2)
                  refine ⟨.value (.slice (some ⟨w.heap.size, 0, none⟩) len len), w.alloc (.cells rs.toArray e), by simp only [execOp, ho]; simp [hrun], .inl ⟨_, rfl, ?_⟩⟩
                  rw [hdst]
                  have hm : len ≤ maxLen := by unfold maxLen; omega
                  have hrl := p2.length
                  have := addRowG_sound (P := P) (e := e) (l := []) (m := l) (v' := .slice (some ⟨w.heap.size, 0, none⟩) len len) (w' := w.alloc (.cells rs.toArray e)) false hw he hn hd s1 s6 (Rows.nil σ ty) p2
                    ⟨by simpa using hrl, .inr ⟨w.heap.size, len, rs.toArray, by simp [p1], Nat.zero_le _, heap_alloc_new w _, by simp [p1], hm, by simp [hrl, p1], by
                      simp only [List.length_nil, Nat.zero_add, List.nil_append]
                      rw [← hrl, List.take_length]⟩⟩
                    (.inr ⟨⟨rfl, rfl, rfl, by simp, fun b hb _ => Below.heap_alloc w _ b hb⟩, fun g hg => by
                      obtain rfl := Option.some.inj hg
                      exact Nat.le_refl _⟩)
                  exact this
                · cases hz
              · cases hz
            · cases h
          · cases h
        · cases h
      · cases h
    · cases h
  · cases h
end Go.Proofs.YtgmjkciinnjpbaaDoor.Sx
