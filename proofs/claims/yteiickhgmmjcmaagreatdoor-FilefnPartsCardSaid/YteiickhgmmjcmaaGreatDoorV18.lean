/-
  copy within a row of texts, from a place to another one.
  ref05: Sort.
-/
import Derived.Test.YteiickhgmmjcmaaGreatDoorV8
import Derived.Laws.CopyRow
set_option linter.unusedVariables false
set_option linter.unusedSimpArgs false
set_option maxRecDepth 20000
set_option maxHeartbeats 4000000
namespace Go.Proofs.YteiickhgmmjcmaaGreatDoor.Sx
open Go Go.Proofs Go.RowKit

/-- A row of texts that holds other ones, as many. -/
theorem WR.setTexts {cx : Cx} {σ : Mem} {ρ : Rho} {tab : List Ent} {w : World} {i g cap : Nat} {e : TypeId} {l l' : List Str} {cur : Array Value} (hw : WR cx σ ρ tab w) (hi : tab[i]? = some (.ra e .str l)) (hsl : (ρ i).sl = .slice (some ⟨g, 0, none⟩) l.length cap)
    (hg : w.heap[g]? = some (.cells cur e (0, 0))) (hnc : l.length ≤ cap) (hcm : cap ≤ maxLen) (hcs : cur.size = cap) (hl : l'.length = l.length) {c' : List Value} (hc' : c'.length = cap) (ht : c'.take l.length = l'.map strV) :
    WR cx σ ρ (tab.set i (.ra e .str l')) (w.setRow g c'.toArray) := by
  obtain ⟨xs, q1, q2, q3, q4⟩ := hw.ent i _ hi
  have hob : (ρ i).sl.ownBlock = some g := by rw [hsl]; rfl
  have hq4 : ∀ a u, σ a = some u → a.block ≠ g := by
    intro a u ha heq
    exact q4 a u ha (by rw [hob, heq])
  have := hw.step (k := i) (e' := .ra e .str l') (w' := w.setRow g c'.toArray) (τ := σ) (ρ' := ρ) (fun _ => true) hi (Mem.le_refl σ)
    (fun a u ha => by rw [World.cell?_of_block (w := w) (setRow_other w _ _ _ (hq4 a u ha))]; exact hw.sub a u ha) (fun _ _ => rfl) (fun _ _ => rfl) (fun b hb hne => setRow_other w _ _ _ (fun e => hne (by simp only [Ent.at_]; rw [hob, e]))) (fun a u ha => .inl ⟨u, ha⟩) (fun h => by cases h)
    ⟨_, rows_of_str σ _, ?_, q3, q4⟩ (fun b hb => .inl hb) rfl rfl rfl (by simp)
  · rwa [cleanT_true] at this
  · rw [hsl]
    refine ⟨by simp [Ty.cells], .inr ⟨g, cap, _, by rw [hl], Nat.zero_le _, setRow_cell _ hg, by omega, hcm, ?_, ?_⟩⟩
    · simp [hc', Ty.cells]
    · simp only [Ty.cells, Nat.mul_one, hl]
      exact ht
/-- What copy leaves. -/
def copyL (l : List Str) (j1 j2 : Nat) : List Str := l.take j1 ++ (l.drop j2).take (min (l.length - j2) (l.length - j1)) ++ l.drop (j1 + min (l.length - j2) (l.length - j1))
theorem copyL_len (l : List Str) (j1 j2 : Nat) (h1 : j1 ≤ l.length) : (copyL l j1 j2).length = l.length := by
  unfold copyL
  simp only [List.length_append, List.length_take, List.length_drop]
  omega
theorem copyL_up (l : List Str) (x y : Str) (j : Nat) (h : j ≤ l.length) : (copyL (l ++ [x]) (j + 1) j).set j y = l.take j ++ y :: l.drop j := by
  unfold copyL
  have e : min ((l ++ [x]).length - j) ((l ++ [x]).length - (j + 1)) = l.length - j := by simp; omega
  rw [e]
  have e2 : (l ++ [x]).drop (j + 1 + (l.length - j)) = [] := List.drop_eq_nil_of_le (by simp; omega)
  have e3 : ((l ++ [x]).drop j).take (l.length - j) = l.drop j := by
    rw [List.drop_append_of_le_length h, List.take_append_of_le_length (by rw [List.length_drop]; omega), List.take_of_length_le (by rw [List.length_drop]; omega)]
  rw [e2, e3, List.append_nil]
  apply List.ext_getElem?
  intro p
  simp only [List.getElem?_set, List.getElem?_append, List.length_append, List.length_take, List.length_drop, List.length_singleton]
  have e4 : min (j + 1) (l.length + 1) = j + 1 := by omega
  have e5 : min j l.length = j := by omega
  rw [e4, e5]
  by_cases hp : j = p
  · subst hp
    simp
    omega
  · rw [if_neg hp]
    by_cases h2 : p < j
    · rw [if_pos (by omega), if_pos h2, List.getElem?_take, if_pos (by omega), List.getElem?_append_left (by omega), List.getElem?_take, if_pos h2]
    · rw [if_neg (by omega), if_neg h2, show p - j = (p - (j + 1)) + 1 by omega, List.getElem?_cons_succ]
theorem TrL.copyS {P : Program} {cx : Cx} {n : Nat} {ops : Array Oper} {o : Oper} {L : List Oper} {env : Env} {tab : List Ent} {Q : Post} {c : Call} {d i j1 j2 : Nat} {t u e : TypeId} {x y : Operand} {l : List Str} {inf : TypeInfo}
    (hg : o.guard = none) (ho : o.op = .call c) (hdst : o.dst = some d) (hc : c.callee = .builtin .copy) (ha : c.args.toList = [x, y]) (ht : c.argTypes.toList = [t, u]) (hu : P.underlying t = some (.slice e)) (hi : P.info? e = some inf) (hs : inf.size = 1)
    (hd : (decide (d < n) && okPut env d) = true) (hx : opnd env [] x = some (.offs i j1 1 l.length)) (hy : opnd env [] y = some (.offs i j2 1 l.length)) (hr : tab[i]? = some (.ra e .str l)) (h0 : 0 < l.length) (h1 : j1 ≤ l.length) (h2 : j2 ≤ l.length)
    (k : TrL P cx n ops L ⟨put env d [] (.val (.int .i64) (min (l.length - j2) (l.length - j1) : Nat)), tab.set i (.ra e .str (copyL l j1 j2))⟩ Q) : TrL P cx n ops (o :: L) ⟨env, tab⟩ Q := by
  intro a w hsr
  obtain ⟨σ, ρ, hw, he, hn, hdf⟩ : ∃ σ ρ, WR cx σ ρ tab w ∧ EnvA σ ρ env a ∧ a.tmps.size = n ∧ a.defers = cx.ds := hsr
  simp only [Bool.and_eq_true, decide_eq_true_eq] at hd
  have dx := opnd_den (known := []) he.env (fun p hp => by cases hp) hx
  have dy := opnd_den (known := []) he.env (fun p hp => by cases hp) hy
  simp only [SV.den] at dx dy
  obtain ⟨xs, q1, q2, q3, q4⟩ := hw.ent i _ hr
  obtain rfl := rows_str q1
  rcases q2.2 with ⟨_, hz⟩ | ⟨g, cap, cur, hsl, _, hgc, hnc, hcm, hcs, htake⟩
  · omega
  simp only [Ty.cells, Nat.mul_one] at hcs htake
  have hρ : (ρ i).ad = some ⟨g, 0, none⟩ ∧ (ρ i).c = cap := by
    unfold Loc.sl at hsl
    simp only [Value.slice.injEq] at hsl
    exact ⟨hsl.1, hsl.2.2⟩
  rw [hρ.1, hρ.2] at dx dy
  have hcur : ∀ p, p < l.length → cur[p]? = (l.map strV)[p]? := by
    intro p hp
    rw [← htake, List.getElem?_take, if_pos hp, Array.getElem?_toList]
  have hadd : ∀ m, (⟨g, 0, none⟩ : Addr).add m = ⟨g, m, none⟩ := fun m => by unfold Addr.add; simp; omega
  have ex : ∀ j, (if cap = j then (some ⟨g, 0, none⟩ : Option Addr) else (some ⟨g, 0, none⟩ : Option Addr).map (·.add (j * 1))) = some ⟨g, if cap = j then 0 else j, none⟩ := by
    intro j
    by_cases hj : cap = j
    · rw [if_pos hj, if_pos hj]
    · rw [if_neg hj, if_neg hj, Option.map_some, Nat.mul_one, hadd]
  rw [ex] at dx dy
  have hm : (((l.drop j2).take (min (l.length - j2) (l.length - j1))).map strV).length = min (l.length - j2) (l.length - j1) := by
    simp only [List.length_map, List.length_take, List.length_drop]
    omega
  have hrun := run_copy_row (P := P) w t u o.type e g (if cap = j1 then 0 else j1) (l.length - j1) (cap - j1) ⟨g, if cap = j2 then 0 else j2, none⟩ (l.length - j2) (cap - j2) cur e (((l.drop j2).take (min (l.length - j2) (l.length - j1))).map strV)
    hu (by rw [hi]; simp [hs]) hgc hm (fun p v hv => ?_) ?_ (fun v hv => ?_)
  rotate_left
  · have hp : p < min (l.length - j2) (l.length - j1) := by rw [← hm]; exact (List.getElem?_eq_some_iff.1 hv).1
    rw [if_neg (by omega)]
    have ea : (⟨g, j2, none⟩ : Addr).add p = ⟨g, j2 + p, none⟩ := by unfold Addr.add; simp
    rw [ea]
    unfold World.cell?
    rw [hgc]
    show cur[j2 + p]? = some v
    rw [hcur _ (by omega), ← hv, List.getElem?_map, List.getElem?_map, List.getElem?_take, if_pos hp, List.getElem?_drop]
  · rw [hm]
    split
    · omega
    · omega
  · obtain ⟨z, _, rfl⟩ := List.mem_map.1 hv
    rfl
  rw [hm] at hrun
  have hrun' : (execOp a.eval o).run P w = .ok (.value (.int .i64 (min (l.length - j2) (l.length - j1) : Nat)))
      (w.setRow g (cur.toList.take (if cap = j1 then 0 else j1) ++ ((l.drop j2).take (min (l.length - j2) (l.length - j1))).map strV ++ cur.toList.drop ((if cap = j1 then 0 else j1) + min (l.length - j2) (l.length - j1))).toArray) := by
    have e1 : c.args = #[x, y] := Array.toList_inj.1 (by rw [ha])
    have e2 : c.argTypes = #[t, u] := Array.toList_inj.1 (by rw [ht])
    simp only [execOp, ho, resolve, hc, invoke, builtin, Sem.run_bind, Sem.run_pure, Result.andThen_ok, e1, e2, List.map_toArray, List.map_cons, List.map_nil, dx, dy, hrun]
    rfl
  refine wpList_plain hg fun K hK => wp_of_value hrun' (hK _ _ (k _ _ ⟨σ, ρ, ?_, ?_, by rw [put_size]; exact hn, by rw [put_defers]; exact hdf⟩))
  · have hcl : cur.toList.length = cap := by rw [Array.length_toList, hcs]
    refine hw.setTexts hr hsl hgc hnc hcm hcs (copyL_len l j1 j2 h1) ?_ ?_
    · simp only [List.length_append, List.length_take, List.length_drop, hm, hcl]
      split <;> omega
    · have hcurL : ∀ p, p < l.length → cur.toList[p]? = (l.map strV)[p]? := fun p hp => by rw [Array.getElem?_toList]; exact hcur p hp
      by_cases hj : cap = j1
      · have e0 : min (l.length - j2) (l.length - j1) = 0 := by omega
        have e1 : copyL l j1 j2 = l := by
          unfold copyL
          rw [e0, List.take_zero, List.append_nil, Nat.add_zero, List.take_append_drop]
        rw [e1, e0, if_pos hj]
        simpa using htake
      · rw [if_neg hj]
        apply List.ext_getElem?
        intro p
        unfold copyL
        simp only [List.map_append, List.getElem?_take, List.getElem?_append, List.getElem?_map, List.getElem?_drop, List.length_append, List.length_take, List.length_drop, List.length_map, hcl]
        have e2 : min j1 cap = j1 := by omega
        have e3 : min j1 l.length = j1 := by omega
        have e4 : min (min (l.length - j2) (l.length - j1)) (l.length - j2) = min (l.length - j2) (l.length - j1) := by omega
        simp only [e2, e3, e4]
        by_cases hp : p < l.length
        · rw [if_pos hp]
          have h3 := hcurL p hp
          rw [List.getElem?_map] at h3
          by_cases hp1 : p < j1
          · simp only [if_pos hp1, if_pos (show p < j1 + min (l.length - j2) (l.length - j1) by omega), h3]
          · by_cases hp2 : p < j1 + min (l.length - j2) (l.length - j1)
            · simp only [if_neg hp1, if_pos hp2, if_pos (show p - j1 < min (l.length - j2) (l.length - j1) by omega)]
            · have e5 : j1 + min (l.length - j2) (l.length - j1) + (p - (j1 + min (l.length - j2) (l.length - j1))) = p := by omega
              simp only [if_neg hp1, if_neg hp2, e5, h3]
        · rw [if_neg hp, if_neg (by omega)]
          rw [List.getElem?_eq_none (by omega)]
          rfl
  · rw [hdst]
    exact he.put hd.2 (by rw [hn]; exact hd.1) rfl (fun _ => by simp only [SV.den, Den]) (fun h => absurd (fun p hp => by cases hp) h)

def insS (m : List Str) (x : Str) : List Str := if x ∈ m then m else sortS (m ++ [x])
def usort (l : List Str) : List Str := l.foldl insS []
abbrev Asc (m : List Str) : Prop := m.Pairwise (fun a b => decide (a ≤ b) = true)
theorem insS_asc {m : List Str} (h : Asc m) (x : Str) : Asc (insS m x) := by
  unfold insS
  split
  · exact h
  · exact sortS_sorted _
theorem insS_len (m : List Str) (x : Str) : (insS m x).length ≤ m.length + 1 := by
  unfold insS
  split
  · omega
  · rw [(sortS_perm _).length_eq, List.length_append, List.length_singleton]
    exact Nat.le_refl _
/-- Where the search ends: what is before is less, what is behind isn't. -/
theorem ins_at {m : List Str} {x : Str} {p : Nat} (h : Asc m) (hp : p ≤ m.length) (h1 : ∀ (j : Nat) y, j < p → m[j]? = some y → y < x) (h2 : ∀ (j : Nat) y, p ≤ j → m[j]? = some y → ¬ y < x) :
    (m[p]? = some x → insS m x = m) ∧ (m[p]? ≠ some x → insS m x = m.take p ++ x :: m.drop p) := by
  constructor
  · intro he
    unfold insS
    rw [if_pos (List.mem_of_getElem? he)]
  · intro he
    have hno : x ∉ m := by
      intro hm
      obtain ⟨j, hj⟩ := List.mem_iff_getElem?.1 hm
      by_cases hjp : j < p
      · exact List.lt_irrefl _ (h1 j x hjp hj)
      · by_cases hje : j = p
        · rw [hje] at hj; exact he hj
        · have hpl : p < m.length := by
            have := (List.getElem?_eq_some_iff.1 hj).1
            omega
          obtain ⟨hjl, hjv⟩ := List.getElem?_eq_some_iff.1 hj
          have hle := List.pairwise_iff_getElem.1 h p j hpl hjl (by omega)
          rw [decide_eq_true_eq, hjv] at hle
          have hn := h2 p m[p] (Nat.le_refl _) (List.getElem?_eq_getElem hpl)
          have : m[p] = x := List.le_antisymm hle (List.not_lt.1 hn)
          exact he (by rw [List.getElem?_eq_getElem hpl, this])
    unfold insS
    rw [if_neg hno]
    symm
    refine sortS_unique ?_ ?_
    · refine List.perm_middle.trans ?_
      rw [List.take_append_drop]
      exact (List.perm_append_singleton x m).symm
    · rw [List.pairwise_append]
      refine ⟨h.sublist (List.take_sublist _ _), ?_, ?_⟩
      · rw [List.pairwise_cons]
        refine ⟨fun b hb => ?_, h.sublist (List.drop_sublist _ _)⟩
        obtain ⟨j, hj⟩ := List.mem_iff_getElem?.1 hb
        rw [List.getElem?_drop] at hj
        rw [decide_eq_true_eq]
        exact List.not_lt.1 (h2 _ b (by omega) hj)
      · intro a ha b hb
        obtain ⟨j, hj⟩ := List.mem_iff_getElem?.1 ha
        rw [List.getElem?_take] at hj
        split at hj
        · rename_i hjp
          have hax := h1 j a hjp hj
          rw [decide_eq_true_eq]
          rcases List.mem_cons.1 hb with rfl | hb
          · exact List.le_of_lt hax
          · obtain ⟨j', hj'⟩ := List.mem_iff_getElem?.1 hb
            rw [List.getElem?_drop] at hj'
            exact List.le_trans (List.le_of_lt hax) (List.not_lt.1 (h2 _ b (by omega) hj'))
        · cases hj
theorem usort_snoc (l : List Str) (x : Str) : usort (l ++ [x]) = insS (usort l) x := by
  unfold usort
  rw [List.foldl_append]
  rfl
theorem usort_nodup : ∀ {l : List Str}, l.Nodup → usort l = sortS l := by
  intro l
  have key : ∀ (n : Nat) (l : List Str), l.length = n → l.Nodup → usort l = sortS l := by
    intro n
    induction n with
    | zero =>
      intro l hl _
      obtain rfl := List.eq_nil_of_length_eq_zero hl
      simp [usort, sortS]
    | succ n ih =>
      intro l hl hn
      obtain ⟨m, x, rfl⟩ : ∃ m x, l = m ++ [x] := ⟨l.dropLast, l.getLast (by rintro rfl; cases hl), (List.dropLast_concat_getLast _).symm⟩
      rw [List.nodup_append] at hn
      have hx : x ∉ usort m := by
        rw [ih m (by simp at hl; exact hl) hn.1, (sortS_perm m).mem_iff]
        exact fun h => hn.2.2 x h x (by simp) rfl
      rw [usort_snoc]
      unfold insS
      rw [if_neg hx, ih m (by simp at hl; exact hl) hn.1]
      exact sortS_of_perm (List.Perm.append_right _ (sortS_perm m))
  exact key l.length l rfl
theorem usort_asc (l : List Str) : Asc (usort l) := by
  have key : ∀ (l m : List Str), Asc m → Asc (l.foldl insS m) := by
    intro l
    induction l with
    | nil => exact fun m h => h
    | cons x l ih => exact fun m h => ih _ (insS_asc h x)
  exact key l [] List.Pairwise.nil
theorem usort_len (l : List Str) : (usort l).length ≤ l.length := by
  have key : ∀ (l m : List Str), (l.foldl insS m).length ≤ m.length + l.length := by
    intro l
    induction l with
    | nil => intro m; simp
    | cons x l ih =>
      intro m
      have h1 := ih (insS m x)
      have h2 := insS_len m x
      rw [List.foldl_cons, List.length_cons]
      omega
  have := key l []
  rwa [List.length_nil, Nat.zero_add] at this

theorem c_refSort (l : List Str) (hl : l.length ≤ 1099511627) : CallV Tryz.prog 75 [vL .str l] (vL .str (usort l)) := by
  refine CallV.of Tryz.func75 (by kernel_rfl) rfl Tryz.ntmps75 (by simp) rfl fun cx hB => ?_
  refine Tr.seq ?_; refine Tr.region ?_; refine TrL.quiets 1 rfl (by exact True.intro) ?_; refine TrL.nil ?_; refine Tr.seq ?_; refine Tr.region ?_; refine TrL.quiets 1 rfl (by exact True.intro) ?_; refine TrL.nil ?_
  change Tr _ _ _ _ _ _
  refine Tr.nilRowM 3 9 .str rfl ?_
  refine Tr.seq ?_; refine Tr.seq ?_; refine Tr.region ?_; refine TrL.quiets 1 rfl (by exact True.intro) ?_; refine TrL.nil ?_; refine Tr.block ?_
  refine Tr.loop (fun i : Nat => ⟨[(0, [], vL .str l), (3, [], .arr 0), (4, [], vI i)], [.ra 9 .str (usort (l.take i))]⟩) (fun i => i ≤ l.length) (fun i => l.length - i) 0 [0, 3, 4] 1 (fun i h => by have := hB i h; omega) rfl (Nat.zero_le _) fun i hi => ?_
  refine Tr.seq ?_; refine Tr.seq ?_; refine Tr.region ?_; refine TrL.quiets 4 rfl (by exact True.intro) ?_; refine TrL.nil ?_
  refine Tr.cond rfl (fun c1 => ?_) (fun c1 => ?_)
  · have hi1 : i < l.length := by simpa using c1
    have hx : nth (t := .str) l (i : Int) = l[i] := nth_get' (t := .str) _ _ hi1
    have hasc : Asc (usort (l.take i)) := usort_asc _
    have hlen := usort_len (l.take i)
    rw [List.length_take] at hlen
    have hnext : usort (l.take (i + 1)) = insS (usort (l.take i)) l[i] := by rw [List.take_succ_eq_append_getElem hi1, usort_snoc]
    generalize usort (l.take i) = m at hasc hlen hnext
    generalize hxe : l[i] = x at hx hnext
    refine Tr.skip ?_; refine Tr.seq ?_; refine Tr.block ?_; refine Tr.seq ?_; refine Tr.region ?_; refine TrL.quiets 4 rfl (by exact True.intro) ?_; refine TrL.nil ?_; refine Tr.seq ?_; refine Tr.block ?_
    refine Tr.loop (fun q : Nat × Nat => ⟨[(0, [], vL .str l), (3, [], .arr 0), (4, [], vI i), (5, [], vI q.1), (6, [], vI q.2)], [.ra 9 .str m]⟩)
      (fun q => q.1 ≤ q.2 ∧ q.2 ≤ m.length ∧ (∀ (j : Nat) y, j < q.1 → m[j]? = some y → y < x) ∧ (∀ (j : Nat) y, q.2 ≤ j → m[j]? = some y → ¬ y < x)) (fun q => q.2 - q.1) (0, m.length) [0, 3, 4, 5, 6] 1 (fun i h => by have := hB i h; omega) rfl
      ⟨Nat.zero_le _, Nat.le_refl _, fun j y h => absurd h (Nat.not_lt_zero _), fun j y h hj => by rw [List.getElem?_eq_none h] at hj; cases hj⟩ ?_
    rintro ⟨low, high⟩ ⟨i1, i2, i3, i4⟩
    dsimp only at i1 i2 i3 i4
    refine Tr.seq ?_; refine Tr.seq ?_; refine Tr.region ?_; refine TrL.quiets 3 rfl (by exact True.intro) ?_; refine TrL.nil ?_
    refine Tr.cond rfl (fun c2 => ?_) (fun c2 => ?_)
    · have hlh : low < high := by simpa using c2
      have ek : IntKind.i64.wrap (Int.tdiv (IntKind.i64.wrap ((low : Int) + high)) 2) = (((low + high) / 2 : Nat) : Int) := by
        rw [w64 (x := (low : Int) + high) (by omega) (by omega), Int.tdiv_eq_ediv_of_nonneg (by omega), w64 (by omega) (by omega)]
        omega
      have hkl : (low + high) / 2 < m.length := by omega
      have hk0 : low ≤ (low + high) / 2 := by omega
      have hk1 : (low + high) / 2 < high := by omega
      refine Tr.skip ?_; refine Tr.block ?_; refine Tr.seq ?_; refine Tr.region ?_; refine TrL.quiets 5 rfl (by (simp only [allOf, impO, imp, inR, loOk, and_true]; omega)) ?_; refine TrL.nil ?_
      refine Tr.keep [0, 3, 4, 5, 6, 7] 1 (fun i h => by have := hB i h; omega) (st' := ⟨[(0, [], vL .str l), (3, [], .arr 0), (4, [], vI i), (5, [], vI low), (6, [], vI high), (7, [], vI (IntKind.i64.wrap (Int.tdiv (IntKind.i64.wrap ((low : Int) + high)) 2)))], [.ra 9 .str m]⟩) rfl ?_
      rw [ek]
      generalize (low + high) / 2 = k at hkl hk0 hk1
      have hmk : nth (t := .str) m (k : Int) = m[k] := nth_get' (t := .str) _ _ hkl
      refine Tr.seq ?_; refine Tr.draw (by kernel_rfl) (by kernel_rfl) ?_; refine TrD.quiets 9 rfl (by (simp only [allOf, impO, imp, inR, loOk, and_true]; omega)) ?_; refine TrD.nil ?_
      refine Tr.cond rfl (fun c3 => ?_) (fun c3 => ?_)
      · have hlt : m[k] < x := by
          rw [Int.toNat_natCast, hmk, hx, bytesLess_eq] at c3
          simpa using c3
        refine Tr.region ?_; refine TrL.quiets 3 rfl (by exact True.intro) ?_; refine TrL.nil ?_
        refine ⟨(k + 1, high), ⟨by dsimp only; omega, i2, fun j y hj hy => ?_, i4⟩, by dsimp only; omega, ?_⟩
        · by_cases hjk : j = k
          · subst hjk
            rw [List.getElem?_eq_getElem hkl] at hy
            rw [← Option.some.inj hy]
            exact hlt
          · obtain ⟨hjl, hjv⟩ := List.getElem?_eq_some_iff.1 hy
            have hle := List.pairwise_iff_getElem.1 hasc j k hjl hkl (by dsimp only at hj; omega)
            rw [decide_eq_true_eq, hjv] at hle
            exact List.lt_of_le_of_lt hle hlt
        · refine Eq.trans (b := (⟨[(0, [], vL .str l), (3, [], .arr 0), (4, [], vI i), (5, [], vI (IntKind.i64.wrap ((k : Int) + 1))), (6, [], vI high)], [.ra 9 .str m]⟩ : St)) rfl ?_
          dsimp only
          rw [w64 (by omega) (by omega)]
          rfl
      · have hlt : ¬ m[k] < x := by
          rw [Int.toNat_natCast, hmk, hx, bytesLess_eq] at c3
          simpa using c3
        refine Tr.region ?_; refine TrL.quiets 2 rfl (by exact True.intro) ?_; refine TrL.nil ?_
        refine ⟨(low, k), ⟨by dsimp only; omega, by dsimp only; omega, i3, fun j y hj hy => ?_⟩, by dsimp only; omega, rfl⟩
        by_cases hjk : j = k
        · subst hjk
          rw [List.getElem?_eq_getElem hkl] at hy
          rw [← Option.some.inj hy]
          exact hlt
        · obtain ⟨hjl, hjv⟩ := List.getElem?_eq_some_iff.1 hy
          have hle := List.pairwise_iff_getElem.1 hasc k j hkl hjl (by dsimp only at hj; omega)
          rw [decide_eq_true_eq, hjv] at hle
          exact fun h => hlt (List.lt_of_le_of_lt hle h)
    · have hlh : low = high := by
        have : ¬ (low : Int) < high := by simpa using c2
        omega
      subst hlh
      obtain ⟨a1, a2⟩ := ins_at hasc i2 i3 i4
      refine Tr.exit ?_; refine Tr.seq ?_; refine Tr.seq ?_; refine Tr.draw (by kernel_rfl) (by kernel_rfl) ?_; refine TrD.quiets 15 rfl (by (simp (disch := omega) only [allOf, impO, imp, inR, loOk, and_true, w64, List.length_set, List.length_cons, List.length_nil, Option.getD_none, Option.getD_some, Ty.D, true_and, decide_eq_true_eq, decide_eq_false_iff_not, Bool.and_eq_true, Bool.or_eq_false_iff]; omega)) ?_; refine TrD.nil ?_
      refine Tr.cond rfl (fun c4 => ?_) (fun c4 => ?_)
      · have hin : m[low]? = some x := by
          simp only [Bool.and_eq_true, decide_eq_true_eq, beq_iff_eq] at c4
          obtain ⟨c5, c6⟩ := c4
          have hll : low < m.length := by omega
          rw [Int.toNat_natCast, nth_get' (t := .str) m low hll, hx] at c6
          rw [List.getElem?_eq_getElem hll, c6]
        refine Tr.exit ?_; refine Tr.region ?_; refine TrL.quiets 3 rfl (by exact True.intro) ?_; refine TrL.nil ?_
        refine ⟨i + 1, hi1, by dsimp only; omega, ?_⟩
        refine Eq.trans (b := (⟨[(0, [], vL .str l), (3, [], .arr 0), (4, [], vI (IntKind.i64.wrap ((i : Int) + 1)))], [.ra 9 .str m]⟩ : St)) rfl ?_
        dsimp only
        rw [hnext, a1 hin, w64 (by omega) (by omega)]
        rfl
      · have hin : m[low]? ≠ some x := by
          intro he
          obtain ⟨hll, hv⟩ := List.getElem?_eq_some_iff.1 he
          rw [Int.toNat_natCast, nth_get' (t := .str) m low hll, hx, hv] at c4
          simp at c4
          omega
        refine Tr.skip ?_; refine Tr.seq ?_; refine Tr.region ?_; refine TrL.quiets 1 rfl (by exact True.intro) ?_; refine TrL.eff (effLit_sound rfl) (by exact True.intro) ?_; refine TrL.eff (effAppend_sound rfl) ?_ ?_
        · show m.length + 1 ≤ 1099511627776
          omega
        refine TrL.quiets 1 rfl (by exact True.intro) ?_; refine TrL.nil ?_; refine Tr.seq ?_
        refine Tr.keep [0, 3, 4, 5] 1 (fun i h => by have := hB i h; omega) (st' := ⟨[(0, [], vL .str l), (3, [], .arr 0), (4, [], vI i), (5, [], vI low)], [.ra 9 .str (m ++ [[]])]⟩) rfl ?_
        have ew : IntKind.i64.wrap ((low : Int) + 1) = ((low + 1 : Nat) : Int) := by rw [w64 (by omega) (by omega)]; omega
        have hml : (m ++ [([] : Str)]).length = m.length + 1 := by simp
        refine Tr.drawA 8 rfl (by kernel_rfl) ?_
        refine TrA.take 0 rfl rfl (by kernel_rfl) rfl (by exact True.intro) ?_; refine TrA.take 1 rfl rfl (by kernel_rfl) rfl (by exact True.intro) ?_; refine TrA.take 2 rfl rfl (by kernel_rfl) rfl (by exact True.intro) ?_; refine TrA.take 3 rfl rfl (by kernel_rfl) rfl ?_ ?_
        · show 0 ≤ IntKind.i64.wrap ((low : Int) + 1) ∧ IntKind.i64.wrap ((low : Int) + 1) ≤ ((m ++ [([] : Str)]).length : Int)
          rw [ew, hml]
          omega
        refine TrA.take 4 rfl rfl (by kernel_rfl) rfl (by exact True.intro) ?_; refine TrA.take 5 rfl rfl (by kernel_rfl) rfl (by exact True.intro) ?_; refine TrA.take 6 rfl rfl (by kernel_rfl) rfl ?_ ?_
        · show 0 ≤ (low : Int) ∧ (low : Int) ≤ ((m ++ [([] : Str)]).length : Int)
          rw [hml]
          omega
        have hcl := copyL_len (m ++ [([] : Str)]) (low + 1) low (by omega)
        refine TrA.one 7 (by kernel_rfl) rfl ?_
        refine TrL.is 56 (sv' := .offs 0 (low + 1) 1 (m ++ [([] : Str)]).length) rfl (by rw [ew]; rfl) ?_
        refine TrL.is 59 (sv' := .offs 0 low 1 (m ++ [([] : Str)]).length) rfl rfl ?_
        refine TrL.copyS (i := 0) (j1 := low + 1) (j2 := low) (l := m ++ [([] : Str)]) rfl rfl rfl rfl rfl rfl Tryz.underlying36 rfl rfl rfl rfl rfl rfl (by omega) (by omega) (by omega) ?_
        refine TrL.nil ?_; refine TrA.done (by kernel_rfl) ?_; refine Tr.region ?_; refine TrL.quiets 7 rfl (by (simp only [allOf, impO, imp, inR, loOk, and_true]; omega)) ?_; refine TrL.eff (effStore_sound rfl) (by (simp only [holds, impO, imp, inR]; omega)) ?_; refine TrL.nil ?_; refine Tr.region ?_; refine TrL.quiets 3 rfl (by exact True.intro) ?_; refine TrL.nil ?_
        refine ⟨i + 1, hi1, by dsimp only; omega, ?_⟩
        refine Eq.trans (b := (⟨[(0, [], vL .str l), (3, [], .arr 0), (4, [], vI (IntKind.i64.wrap ((i : Int) + 1)))], [.ra 9 .str ((copyL (m ++ [([] : Str)]) (low + 1) low).set low (nth (t := .str) l (i : Int)))]⟩ : St)) rfl ?_
        dsimp only
        rw [hx, copyL_up m [] x low i2, hnext, a2 hin, w64 (by omega) (by omega)]
        rfl
  · have hi1 : i = l.length := by
      have : ¬ (i : Int) < l.length := by simpa using c1
      omega
    subst hi1
    rw [List.take_length]
    refine Tr.exit ?_; refine Tr.seq ?_; refine Tr.region ?_; refine TrL.quiets 2 rfl (by exact True.intro) ?_; refine TrL.nil ?_
    change Tr _ _ _ _ _ _
    refine Tr.freeze 0 rfl ?_
    refine Tr.ret ?_
    refine retQ.of rfl ?_
    rfl

end Go.Proofs.YteiickhgmmjcmaaGreatDoor.Sx
