/-
  Calls that are lent some of the caller's memory.
-/
import Derived.Test.YteiickhgmmjcmaaGreatDoorSxN
set_option linter.unusedVariables false
set_option linter.unusedSimpArgs false
namespace Go.Proofs.YteiickhgmmjcmaaGreatDoor.Sx
open Go Go.RowKit

/-! ### Other numbers for entries -/
mutual
def SV.ren (m : Nat → Nat) : SV → SV
  | .val t x => .val t x
  | .nils => .nils
  | .nilp => .nilp
  | .nilf => .nilf
  | .top => .top
  | .yv l => .yv l
  | .fix t l => .fix t l
  | .own i => .own (m i)
  | .arr i => .arr (m i)
  | .mp i => .mp (m i)
  | .itr b => .itr b
  | .ptr i o => .ptr (m i) o
  | .mptr i => .mptr (m i)
  | .sub i n => .sub (m i) n
  | .offs i j k n => .offs (m i) j k n
  | .eptr i j k o => .eptr (m i) j k o
  | .rptr cs o => .rptr (SV.renL m cs) o
  | .fn f a b => .fn f (SV.renL m a) (SV.renL m b)
  | .tup l => .tup (SV.renL m l)
  | .agg l => .agg (SV.renL m l)
def SV.renL (m : Nat → Nat) : List SV → List SV
  | [] => []
  | s :: l => SV.ren m s :: SV.renL m l
end
mutual
theorem den_ren {σ : Mem} {ρ : Rho} {m : Nat → Nat} : ∀ (s : SV) (v : Value), SV.den σ ρ (s.ren m) v ↔ SV.den σ (fun i => ρ (m i)) s v
  | .val t x, v => by simp only [SV.ren, SV.den]
  | .nils, v => by simp only [SV.ren, SV.den]
  | .nilp, v => by simp only [SV.ren, SV.den]
  | .nilf, v => by simp only [SV.ren, SV.den]
  | .top, v => by simp only [SV.ren, SV.den]
  | .yv _, v => by simp only [SV.ren, SV.den]
  | .fix t l, v => by simp only [SV.ren, SV.den]
  | .own i, v => by simp only [SV.ren, SV.den]
  | .arr i, v => by simp only [SV.ren, SV.den]
  | .mp i, v => by simp only [SV.ren, SV.den]
  | .itr i, v => by simp only [SV.ren, SV.den]
  | .ptr i o, v => by simp only [SV.ren, SV.den]
  | .mptr i, v => by simp only [SV.ren, SV.den]
  | .sub i n, v => by simp only [SV.ren, SV.den]
  | .offs i j k n, v => by simp only [SV.ren, SV.den]
  | .eptr i j k o, v => by simp only [SV.ren, SV.den]
  | .rptr cs o, v => by
    simp only [SV.ren, SV.den]
    exact exists_congr fun base => and_congr_right fun _ => denC_ren base 0 cs
  | .fn f a b, v => by
    simp only [SV.ren, SV.den]
    exact exists_congr fun vs => exists_congr fun us => and_congr_right fun _ => and_congr (denL_ren a vs) (denL_ren b us)
  | .tup l, v => by
    simp only [SV.ren, SV.den]
    exact exists_congr fun vs => and_congr_right fun _ => denL_ren l vs
  | .agg l, v => by
    simp only [SV.ren, SV.den]
    exact exists_congr fun vs => and_congr_right fun _ => denL_ren l vs
theorem denL_ren {σ : Mem} {ρ : Rho} {m : Nat → Nat} : ∀ (l : List SV) (vs : List Value), SV.denL σ ρ (SV.renL m l) vs ↔ SV.denL σ (fun i => ρ (m i)) l vs
  | [], vs => by simp only [SV.renL, SV.denL]
  | s :: l, vs => by
    simp only [SV.renL, SV.denL]
    exact exists_congr fun v => exists_congr fun r => and_congr_right fun _ => and_congr (den_ren s v) (denL_ren l r)
theorem denC_ren {σ : Mem} {ρ : Rho} {m : Nat → Nat} (base : Addr) : ∀ (k : Nat) (l : List SV), SV.denC σ ρ base k (SV.renL m l) ↔ SV.denC σ (fun i => ρ (m i)) base k l
  | k, [] => by simp only [SV.renL, SV.denC]
  | k, s :: l => by
    simp only [SV.renL, SV.denC]
    exact and_congr (exists_congr fun v => and_congr_right fun _ => den_ren s v) (denC_ren base (k + 1) l)
end
def Ent.ren (m : Nat → Nat) : Ent → Ent
  | .box tt cs => .box tt (SV.renL m cs)
  | .gs e t l => .gs e t l
  | .ra e t l => .ra e t l
  | .res R => .res R
  | .gone => .gone
theorem rel_ren {σ : Mem} {ρ : Rho} {w : World} {m : Nat → Nat} {i : Nat} (e : Ent) : (e.ren m).rel σ ρ w (m i) ↔ e.rel σ (fun i => ρ (m i)) w i := by
  cases e with
  | box tt cs =>
    simp only [Ent.ren, Ent.rel]
    exact exists_congr fun vs => and_congr_right fun _ => and_congr_left fun _ => denL_ren cs vs
  | gs e t l => exact Iff.rfl
  | ra e t l => exact Iff.rfl
  | res R => exact Iff.rfl
  | gone => exact Iff.rfl
theorem blk_ren {ρ : Rho} {m : Nat → Nat} {i : Nat} (e : Ent) : (e.ren m).at_ ρ (m i) = e.at_ (fun i => ρ (m i)) i := by cases e <;> rfl

/-! ### Places in a list -/
def pos : List Nat → Nat → Option Nat
  | [], _ => none
  | x :: m, j => if x = j then some 0 else match pos m j with | some i => some (i + 1) | none => none
theorem pos_get : ∀ (m : List Nat) (j i : Nat), pos m j = some i → m[i]? = some j
  | [], j, i, h => by cases h
  | x :: m, j, i, h => by
    simp only [pos] at h
    split at h
    · rename_i e
      obtain rfl := Option.some.inj h
      simp [e]
    · split at h
      · rename_i i' hi
        obtain rfl := Option.some.inj h
        simpa using pos_get m j i' hi
      · cases h
theorem pos_none : ∀ (m : List Nat) (j : Nat), pos m j = none → j ∉ m
  | [], j, h => by simp
  | x :: m, j, h => by
    simp only [pos] at h
    split at h
    · cases h
    · rename_i hne
      split at h
      · cases h
      · rename_i hn
        have := pos_none m j hn
        simp only [List.mem_cons, not_or]
        exact ⟨fun e => hne e.symm, this⟩
theorem pos_of : ∀ (m : List Nat) (j i : Nat), m.Nodup → m[i]? = some j → pos m j = some i
  | [], j, i, _, h => by simp at h
  | x :: m, j, i, hn, h => by
    rw [List.nodup_cons] at hn
    cases i with
    | zero => simp at h; simp [pos, h]
    | succ i =>
      have h' : m[i]? = some j := by simpa using h
      have hne : x ≠ j := fun e => hn.1 (by rw [e]; exact List.mem_of_getElem? h')
      simp only [pos, if_neg hne, pos_of m j i hn.2 h']

def mu (m : List Nat) (N : Nat) (i : Nat) : Nat := if i < m.length then m.getD i 0 else N + (i - m.length)
def isBoxAt (tab : List Ent) (j : Nat) : Bool := match tab[j]? with | some (.box _ _) => true | _ => false
def keepP (tab : List Ent) (m : List Nat) (j : Nat) : Bool := decide (j < tab.length) && ((pos m j).isNone || isBoxAt tab j)
def cleanEnt (p : Nat → Bool) : Ent → Ent
  | .box tt cs => .box tt (cleanC p cs)
  | e => e
def mergeAt (tab : List Ent) (m : List Nat) (L' : List Ent) (j : Nat) : Ent :=
  match pos m j with
  | some i => (L'.getD i .gone).ren (mu m tab.length)
  | none => cleanEnt (keepP tab m) (tab.getD j .gone)
def mergeTab (tab : List Ent) (m : List Nat) (L' : List Ent) : List Ent :=
  (List.range tab.length).map (mergeAt tab m L') ++ (L'.drop m.length).map (Ent.ren (mu m tab.length))
def rhoM (ρ ρ' : Rho) (m : List Nat) (N : Nat) : Rho := fun j => if j < N then (match pos m j with | some i => ρ' i | none => ρ j) else ρ' (m.length + (j - N))

/-- A call that is lent these entries: what it yields, and how it leaves them (and what is new behind them). -/
def CallT (P : Program) (f : Nat) (args : List SV) (L : List Ent) (r : SV) (L' : List Ent) : Prop :=
  Go.Proofs.Enters P f ∧ L.length ≤ L'.length ∧ ∀ (cx : Cx) (σ : Mem) (ρ : Rho) (w : World) (vs : List Value), WR cx σ ρ L w → (∀ i, cx.B i = isBoxAt L i) → SV.denL σ ρ args vs →
    Calls P f vs.toArray w fun e w' => ∃ v τ ρ', e = .returned v ∧ σ.le τ ∧ WR cx τ ρ' L' w' ∧ SV.den τ ρ' r v

/-- The lent entries, by themselves. -/
def lentR (tab : List Ent) (ρ : Rho) (m : List Nat) (b : Nat) : Prop := ∃ j e, j ∈ m ∧ tab[j]? = some e ∧ e.at_ ρ j b

section
variable {P : Program} {cx : Cx} {σ τ : Mem} {ρ ρ' : Rho} {tab L L' : List Ent} {w w' : World} {m : List Nat}

theorem mu_lt {i : Nat} (h : i < m.length) (N : Nat) : m[i]? = some (mu m N i) := by
  simp [mu, h]

theorem WR.lend (hw : WR cx σ ρ tab w) (hn : m.Nodup) (hlen : m.length = L.length) (hL : ∀ (i : Nat) e, L[i]? = some e → tab[mu m tab.length i]? = some (e.ren (mu m tab.length))) :
    WR ⟨w, σ, lentR tab ρ m, fun i => ρ (mu m tab.length i), isBoxAt L, []⟩ σ (fun i => ρ (mu m tab.length i)) L w := by
  refine ⟨hw.sub, fun i e he => (rel_ren e).1 (hw.ent _ _ (hL i e he)), fun i j e e' b hi hj hb hb' => ?_, rfl, rfl, rfl, Nat.le_refl _, fun _ _ _ => rfl, Mem.le_refl _, fun a v h => .inl ⟨v, h⟩, fun i e b hi hb => .inr ?_, hw.glob, fun _ _ => rfl, fun i hi => ?_⟩
  · have h := hw.dis _ _ _ _ b (hL i e hi) (hL j e' hj) (by rw [blk_ren]; exact hb) (by rw [blk_ren]; exact hb')
    have hi' : i < m.length := by rw [hlen]; exact (List.getElem?_eq_some_iff.1 hi).1
    have hj' : j < m.length := by rw [hlen]; exact (List.getElem?_eq_some_iff.1 hj).1
    have e1 := pos_of m _ i hn (mu_lt hi' tab.length)
    have e2 := pos_of m _ j hn (mu_lt hj' tab.length)
    rw [h] at e1
    rw [e1] at e2
    exact Option.some.inj e2
  · have hi' : i < m.length := by rw [hlen]; exact (List.getElem?_eq_some_iff.1 hi).1
    exact ⟨_, _, List.mem_of_getElem? (mu_lt hi' tab.length), hL i e hi, by rw [blk_ren]; exact hb⟩
  · simp only [isBoxAt] at hi
    split at hi
    · rename_i tt cs h; exact ⟨tt, cs, h⟩
    · cases hi

theorem rhoM_mu (hn : m.Nodup) (hm : ∀ j ∈ m, j < tab.length) (i : Nat) : rhoM ρ ρ' m tab.length (mu m tab.length i) = ρ' i := by
  by_cases hi : i < m.length
  · have h1 := mu_lt (m := m) hi tab.length
    have h2 := hm _ (List.mem_of_getElem? h1)
    simp only [rhoM, if_pos h2, pos_of m _ i hn h1]
  · have h1 : mu m tab.length i = tab.length + (i - m.length) := by simp [mu, hi]
    rw [h1]
    simp only [rhoM]
    rw [if_neg (by omega)]
    congr 1
    omega
theorem rhoM_mu' (hn : m.Nodup) (hm : ∀ j ∈ m, j < tab.length) : (fun i => rhoM ρ ρ' m tab.length (mu m tab.length i)) = ρ' := funext (rhoM_mu hn hm)

theorem merge_get {j : Nat} {e : Ent} (hlen : m.length ≤ L'.length) (h : (mergeTab tab m L')[j]? = some e) :
    (j < tab.length ∧ pos m j = none ∧ ∃ e0, tab[j]? = some e0 ∧ e = cleanEnt (keepP tab m) e0) ∨
    (∃ i e0, L'[i]? = some e0 ∧ e = e0.ren (mu m tab.length) ∧ j = mu m tab.length i) := by
  unfold mergeTab at h
  rw [List.getElem?_append] at h
  split at h
  · rename_i hj
    simp only [List.length_map, List.length_range] at hj
    simp only [List.getElem?_map, List.getElem?_range hj, Option.map_some, Option.some.injEq] at h
    subst h
    cases hp : pos m j with
    | none =>
      refine .inl ⟨hj, rfl, _, List.getElem?_eq_getElem hj, ?_⟩
      simp [mergeAt, hp, List.getD_eq_getElem?_getD, List.getElem?_eq_getElem hj]
    | some i =>
      have h1 := pos_get m j i hp
      have hi := (List.getElem?_eq_some_iff.1 h1).1
      have hi' : i < L'.length := by omega
      refine .inr ⟨i, _, List.getElem?_eq_getElem hi', ?_, ?_⟩
      · simp [mergeAt, hp, List.getD_eq_getElem?_getD, List.getElem?_eq_getElem hi']
      · have := mu_lt (m := m) hi tab.length
        rw [h1] at this
        exact Option.some.inj this
  · rename_i hj
    simp only [List.length_map, List.length_range] at hj h
    rw [List.getElem?_map, List.getElem?_drop, Option.map_eq_some_iff] at h
    obtain ⟨e0, h1, rfl⟩ := h
    refine .inr ⟨_, e0, h1, rfl, ?_⟩
    simp only [mu]
    rw [if_neg (by omega)]
    omega

theorem cleanEnt_eq (p : Nat → Bool) (e0 : Ent) : (match e0 with | .box tt cs => Ent.box tt (cleanC p cs) | e => e) = cleanEnt p e0 := by cases e0 <;> rfl
theorem WR.merge (hw : WR cx σ ρ tab w) (hn : m.Nodup) (hm : ∀ j ∈ m, j < tab.length) (hlen : m.length = L.length) (hle : L.length ≤ L'.length) (hL : ∀ (i : Nat) e, L[i]? = some e → tab[mu m tab.length i]? = some (e.ren (mu m tab.length)))
    (h : WR ⟨w, σ, lentR tab ρ m, fun i => ρ (mu m tab.length i), isBoxAt L, []⟩ τ ρ' L' w') :
    WR cx τ (rhoM ρ ρ' m tab.length) (mergeTab tab m L') w' ∧ ∀ j, keepP tab m j = true → rhoM ρ ρ' m tab.length j = ρ j := by
  have hml : m.length ≤ L'.length := by omega
  have hkeep : ∀ j, keepP tab m j = true → rhoM ρ ρ' m tab.length j = ρ j := by
    intro j hj
    simp only [keepP, Bool.and_eq_true, decide_eq_true_eq, Bool.or_eq_true] at hj
    simp only [rhoM, if_pos hj.1]
    cases hp : pos m j with
    | none => rfl
    | some i =>
      have hbox := hj.2.resolve_left (by simp [hp])
      have h1 := pos_get m j i hp
      have hi := (List.getElem?_eq_some_iff.1 h1).1
      have hmu : mu m tab.length i = j := by
        have := mu_lt (m := m) hi tab.length
        rw [h1] at this
        exact (Option.some.inj this).symm
      have hLi := hL i _ (List.getElem?_eq_getElem (by omega : i < L.length))
      rw [hmu] at hLi
      have hB : isBoxAt L i = true := by
        simp only [isBoxAt, hLi] at hbox
        simp only [isBoxAt, List.getElem?_eq_getElem (by omega : i < L.length)]
        cases hc : L[i] with
        | box tt cs => rfl
        | gs e t l => simp [hc, Ent.ren] at hbox
        | ra e t l => simp [hc, Ent.ren] at hbox
        | res R => simp [hc, Ent.ren] at hbox
        | gone => simp [hc, Ent.ren] at hbox
      have := h.keepρ i hB
      simp only [hmu] at this
      exact this
  have hc := hw.clean (keepP tab m)
  have hcget : ∀ (j : Nat) e0, tab[j]? = some e0 → (cleanT (keepP tab m) tab)[j]? = some (cleanEnt (keepP tab m) e0) := by
    intro j e0 he
    simp only [cleanT, List.getElem?_map, he, Option.map_some]
    cases e0 <;> rfl
  -- an entry that was not lent
  have hunl : ∀ (j : Nat) e0 b, pos m j = none → tab[j]? = some e0 → e0.at_ ρ j b → ¬ lentR tab ρ m b := by
    rintro j e0 b hp he hb ⟨j', e', hj', he', hb'⟩
    have := hw.dis j j' e0 e' b he he' hb hb'
    subst this
    exact pos_none m j hp hj'
  have hsame : ∀ (j : Nat) e0 b, pos m j = none → tab[j]? = some e0 → e0.at_ ρ j b → w'.heap[b]? = w.heap[b]? := fun j e0 b hp he hb =>
    h.old b (Ent.rel_lt (hw.ent j e0 he) hb) (hunl j e0 b hp he hb)
  have hrho : ∀ j, j < tab.length → pos m j = none → rhoM ρ ρ' m tab.length j = ρ j := fun j hj hp => by simp only [rhoM, if_pos hj, hp]
  have hblk : ∀ (j : Nat) e0, j < tab.length → pos m j = none → (cleanEnt (keepP tab m) e0).at_ (rhoM ρ ρ' m tab.length) j = e0.at_ ρ j := by
    intro j e0 hj hp
    have hr := hrho j hj hp
    cases e0 <;> (funext b; simp only [cleanEnt, Ent.at_, hr])
  have hblk2 : ∀ (i : Nat) (e0 : Ent), (e0.ren (mu m tab.length)).at_ (rhoM ρ ρ' m tab.length) (mu m tab.length i) = e0.at_ ρ' i := by
    intro i e0
    rw [blk_ren, rhoM_mu' hn hm]
  refine ⟨⟨h.sub, fun j e he => ?_, fun i j e e' b hi hj hb hb' => ?_, h.os.trans hw.os, h.tape.trans hw.tape, h.output.trans hw.output, Nat.le_trans hw.size h.size, fun k hk hR => ?_, Mem.le_trans hw.le h.le, fun a v ha => ?_, fun j e b he hb => ?_, h.glob, fun j hj => ?_, fun j hj => ?_⟩, hkeep⟩
  · rcases merge_get hml he with ⟨hj, hp, e0, he0, rfl⟩ | ⟨i, e0, he0, rfl, rfl⟩
    · refine Ent.rel_keep (hc.ent j _ (hcget j e0 he0)) h.le (keepP tab m) hkeep ?_ (hrho j hj hp) (fun b hb => ?_) (fun a v ha => ?_)
      · cases e0 <;> first | rfl | exact cleanC_ok _ _
      · exact hsame j e0 b hp he0 (by cases e0 <;> exact hb)
      · rcases h.new a v ha with hv | hv | hv
        · exact .inl hv
        · refine .inr fun hb => ?_
          have : e0.at_ ρ j a.block := by cases e0 <;> exact hb
          have := Ent.rel_lt (hw.ent j e0 he0) this
          simp only at hv
          omega
        · refine .inr fun hb => hunl j e0 a.block hp he0 (by cases e0 <;> exact hb) hv
    · rw [rel_ren, rhoM_mu' hn hm]
      exact h.ent i e0 he0
  · rcases merge_get hml hi with ⟨hi1, hp1, e1, he1, rfl⟩ | ⟨i1, e1, he1, rfl, rfl⟩ <;> rcases merge_get hml hj with ⟨hj1, hp2, e2, he2, rfl⟩ | ⟨i2, e2, he2, rfl, rfl⟩
    · rw [hblk i e1 hi1 hp1] at hb
      rw [hblk j e2 hj1 hp2] at hb'
      exact hw.dis i j e1 e2 b he1 he2 hb hb'
    · rw [hblk i e1 hi1 hp1] at hb
      rw [hblk2] at hb'
      rcases h.live i2 e2 b he2 hb' with hl | hl
      · have := Ent.rel_lt (hw.ent i e1 he1) hb
        simp only at hl
        omega
      · exact absurd hl (hunl i e1 b hp1 he1 hb)
    · rw [hblk2] at hb
      rw [hblk j e2 hj1 hp2] at hb'
      rcases h.live i1 e1 b he1 hb with hl | hl
      · have := Ent.rel_lt (hw.ent j e2 he2) hb'
        simp only at hl
        omega
      · exact absurd hl (hunl j e2 b hp2 he2 hb')
    · rw [hblk2] at hb hb'
      rw [h.dis i1 i2 e1 e2 b he1 he2 hb hb']
  · have hk2 : k < w.heap.size := Nat.lt_of_lt_of_le hk hw.size
    refine (h.old k hk2 ?_).trans (hw.old k hk hR)
    rintro ⟨j, e, _, he, hb⟩
    rcases hw.live j e k he hb with hl | hl
    · omega
    · exact hR hl
  · rcases h.new a v ha with ⟨v', hv⟩ | hv | ⟨j, e, _, he, hb⟩
    · exact hw.new a v' hv
    · exact .inr (.inl (Nat.le_trans hw.size hv))
    · exact .inr (hw.live j e _ he hb)
  · rcases merge_get hml he with ⟨hj1, hp1, e1, he1, rfl⟩ | ⟨i1, e1, he1, rfl, rfl⟩
    · rw [hblk j e1 hj1 hp1] at hb
      exact hw.live j e1 b he1 hb
    · rw [hblk2] at hb
      rcases h.live i1 e1 b he1 hb with hl | ⟨j', e', _, he', hb'⟩
      · exact .inl (Nat.le_trans hw.size hl)
      · exact hw.live j' e' b he' hb'
  · obtain ⟨tt, cs, hcs⟩ := hw.isb j hj
    rw [hkeep j ?_]
    · exact hw.keepρ j hj
    · simp only [keepP, Bool.and_eq_true, decide_eq_true_eq, Bool.or_eq_true]
      exact ⟨(List.getElem?_eq_some_iff.1 hcs).1, .inr (by simp [isBoxAt, hcs])⟩
  · obtain ⟨tt, cs, hcs⟩ := hw.isb j hj
    have hjl := (List.getElem?_eq_some_iff.1 hcs).1
    have hget : (mergeTab tab m L')[j]? = some (mergeAt tab m L' j) := by
      unfold mergeTab
      rw [List.getElem?_append_left (by simpa using hjl)]
      simp [List.getElem?_map, List.getElem?_range hjl]
    rw [hget]
    cases hp : pos m j with
    | none =>
      refine ⟨tt, cleanC (keepP tab m) cs, ?_⟩
      simp [mergeAt, hp, List.getD_eq_getElem?_getD, hcs, cleanEnt]
    | some i =>
      have h1 := pos_get m j i hp
      have hi := (List.getElem?_eq_some_iff.1 h1).1
      have hmu : mu m tab.length i = j := by
        have := mu_lt (m := m) hi tab.length
        rw [h1] at this
        exact (Option.some.inj this).symm
      have hLi := hL i _ (List.getElem?_eq_getElem (by omega : i < L.length))
      rw [hmu, hcs] at hLi
      have hB : isBoxAt L i = true := by
        simp only [isBoxAt, List.getElem?_eq_getElem (by omega : i < L.length)]
        cases hc : L[i] <;> first | rfl | (rw [hc] at hLi; simp [Ent.ren] at hLi)
      obtain ⟨tt', cs', hcs'⟩ := h.isb i hB
      refine ⟨tt', SV.renL (mu m tab.length) cs', ?_⟩
      simp [mergeAt, hp, List.getD_eq_getElem?_getD, hcs', Ent.ren]
end

def lentOk (tab : List Ent) (m : List Nat) (L : List Ent) : Prop := m.map (fun j => tab[j]?) = L.map (fun e => some (e.ren (mu m tab.length)))
theorem lentOk_get {tab : List Ent} {m : List Nat} {L : List Ent} (h : lentOk tab m L) : m.length = L.length ∧ ∀ (i : Nat) e, L[i]? = some e → tab[mu m tab.length i]? = some (e.ren (mu m tab.length)) := by
  have hlen : m.length = L.length := by simpa using congrArg List.length h
  refine ⟨hlen, fun i e he => ?_⟩
  have hi : i < m.length := by rw [hlen]; exact (List.getElem?_eq_some_iff.1 he).1
  have := congrArg (fun l => l[i]?) h
  simp only [List.getElem?_map, he, mu_lt hi tab.length, Option.map_some, Option.some.injEq] at this
  exact this

theorem TrL.callT {P : Program} {cx : Cx} {n : Nat} {ops : Array Oper} {o : Oper} {l : List Oper} {env : Env} {tab : List Ent} {Q : Post} {c : Call} {f : Nat} {args args' : List SV} {L L' : List Ent} {r : SV} {d : Nat} (m : List Nat)
    (hg : o.guard = none) (ho : o.op = .call c) (hdst : o.dst = some d) (hc : callee env tab [] c = some (f, args')) (hd : (decide (d < n) && okPut env d) = true) (hcall : CallT P f args L r L')
    (hargs : args' = SV.renL (mu m tab.length) args) (hL : lentOk tab m L) (hm : (decide m.Nodup && m.all (fun j => decide (j < tab.length))) = true)
    (k : TrL P cx n ops l ⟨put (cleanE (keepP tab m) env) d [] (r.ren (mu m tab.length)), mergeTab tab m L'⟩ Q) : TrL P cx n ops (o :: l) ⟨env, tab⟩ Q := by
  intro a w hs
  obtain ⟨σ, ρ, hw, he, hn, hdf⟩ : ∃ σ ρ, WR cx σ ρ tab w ∧ EnvA σ ρ env a ∧ a.tmps.size = n ∧ a.defers = cx.ds := hs
  simp only [Bool.and_eq_true, decide_eq_true_eq, List.all_eq_true] at hd hm
  obtain ⟨hlen, hL'⟩ := lentOk_get hL
  refine wpList_plain hg fun K hK => ?_
  obtain ⟨vs, h1, h2⟩ := callee_run (P := P) hw he (fun p hp => by cases hp) ho hc
  unfold Oper.wp
  rw [h2 w, hcall.1]
  rw [hargs, denL_ren] at h1
  refine (hcall.2.2 _ σ _ w vs (hw.lend hm.1 hlen hL') (fun i => rfl) h1).mono ?_
  rintro e w' ⟨v, τ, ρ', rfl, hle, hwr, hden⟩
  obtain ⟨hwm, hkeep⟩ := hw.merge hm.1 hm.2 hlen hcall.2.1 hL' hwr
  refine hK _ _ (k _ _ ⟨τ, _, hwm, ?_, by rw [put_size]; exact hn, by rw [put_defers]; exact hdf⟩)
  rw [hdst]
  refine ((he.clean _ hkeep).grow hle).put (okPut_clean hd.2) (by rw [hn]; exact hd.1) rfl (fun _ => ?_) (fun h => absurd (fun p hp => by cases hp) h)
  rw [den_ren, rhoM_mu' hm.1 hm.2]
  exact hden
theorem TrL.callT0 {P : Program} {cx : Cx} {n : Nat} {ops : Array Oper} {o : Oper} {l : List Oper} {env : Env} {tab : List Ent} {Q : Post} {c : Call} {f : Nat} {args args' : List SV} {L L' : List Ent} {r : SV} (m : List Nat)
    (hg : o.guard = none) (ho : o.op = .call c) (hdst : o.dst = none) (hc : callee env tab [] c = some (f, args')) (hcall : CallT P f args L r L')
    (hargs : args' = SV.renL (mu m tab.length) args) (hL : lentOk tab m L) (hm : (decide m.Nodup && m.all (fun j => decide (j < tab.length))) = true)
    (k : TrL P cx n ops l ⟨cleanE (keepP tab m) env, mergeTab tab m L'⟩ Q) : TrL P cx n ops (o :: l) ⟨env, tab⟩ Q := by
  intro a w hs
  obtain ⟨σ, ρ, hw, he, hn, hdf⟩ : ∃ σ ρ, WR cx σ ρ tab w ∧ EnvA σ ρ env a ∧ a.tmps.size = n ∧ a.defers = cx.ds := hs
  simp only [Bool.and_eq_true, decide_eq_true_eq, List.all_eq_true] at hm
  obtain ⟨hlen, hL'⟩ := lentOk_get hL
  refine wpList_plain hg fun K hK => ?_
  obtain ⟨vs, h1, h2⟩ := callee_run (P := P) hw he (fun p hp => by cases hp) ho hc
  unfold Oper.wp
  rw [h2 w, hcall.1]
  rw [hargs, denL_ren] at h1
  refine (hcall.2.2 _ σ _ w vs (hw.lend hm.1 hlen hL') (fun i => rfl) h1).mono ?_
  rintro e w' ⟨v, τ, ρ', rfl, hle, hwr, hden⟩
  obtain ⟨hwm, hkeep⟩ := hw.merge hm.1 hm.2 hlen hcall.2.1 hL' hwr
  refine hK _ _ ?_
  rw [hdst]
  exact k _ _ ⟨τ, _, hwm, (he.clean _ hkeep).grow hle, hn, hdf⟩

/-- A function that is lent memory. -/
def retT (P : Program) (rs : List ResultVar) (r : SV) (L' : List Ent) : Post := fun e st => (e = .normal ∨ e = .ret) ∧ resOf P st rs = some r ∧ st.tab.take L'.length = L'
theorem retT.of {P : Program} {rs : List ResultVar} {r r' : SV} {L' : List Ent} {st : St} (h : resOf P st rs = some r') (he : r' = r) (hL : st.tab.take L'.length = L') : retT P rs r L' .ret st := ⟨.inr rfl, by rw [h, he], hL⟩
theorem retT.fall {P : Program} {rs : List ResultVar} {r r' : SV} {L' : List Ent} {st : St} (h : resOf P st rs = some r') (he : r' = r) (hL : st.tab.take L'.length = L') : retT P rs r L' .normal st := ⟨.inl rfl, by rw [h, he], hL⟩
theorem CallT.of {P : Program} {f : Nat} {fn : Func} {c : Code} {args : List SV} {L L' : List Ent} {r : SV} {N : Nat} (hf : P.funcs[f]? = some fn) (hname : (fn.name == "runtime.NumGoroutine") = false) (hb : fn.body = some c) (hN : fn.ntmps = N) (ha : args.length ≤ N)
    (hle : L.length ≤ L'.length)
    (h : ∀ cx, (∀ i, cx.B i = true → i < L.length) → Tr P cx N c ⟨argEnv 0 args, L⟩ (retT P fn.results.toList r L')) : CallT P f args L r L' := by
  refine ⟨Go.Proofs.enters_of hf hname hb, hle, fun cx σ ρ w vs hw hB hd => ?_⟩
  refine calls_of_wp hf hb ?_
  have hlen := denL_length _ _ hd
  have hB' : ∀ i, cx.B i = true → i < L.length := fun i hi => by
    rw [hB i] at hi
    simp only [isBoxAt] at hi
    split at hi
    · rename_i cs h; exact (List.getElem?_eq_some_iff.1 h).1
    · cases hi
  -- the frame is told anew, so that what never turns is what was handed in
  refine wp_mono (h ⟨w, σ, fun b => ∃ (i : Nat) (e : Ent), L[i]? = some e ∧ e.at_ ρ i b, ρ, cx.B, []⟩ hB' _ w ⟨σ, ρ, ?_, argEnv_start (k := fn.ntmps - vs.toArray.size) hd, ?_, rfl⟩) ?_
  · exact ⟨hw.sub, hw.ent, hw.dis, rfl, rfl, rfl, Nat.le_refl _, fun _ _ _ => rfl, Mem.le_refl _, fun a v h => .inl ⟨v, h⟩, fun i e b hi hb => .inr ⟨i, e, hi, hb⟩, hw.glob, fun _ _ => rfl, hw.isb⟩
  · simp only [Array.size_append, List.size_toArray, Array.size_replicate, hlen, hN]
    omega
  rintro e a' w' ⟨st', ⟨he, hr', hL'⟩, τ, ρ', hw', he', hn', hd'⟩
  obtain ⟨v, hv, hdv⟩ := results_run (P := P) hw' he' hr'
  have hw0 := hw'.take L'.length (fun i hi => Nat.lt_of_lt_of_le (hB' i hi) hle)
  rw [hL'] at hw0
  have hwc : WR cx τ ρ' L' w' := by
    refine ⟨hw0.sub, hw0.ent, hw0.dis, hw0.os.trans hw.os, hw0.tape.trans hw.tape, hw0.output.trans hw.output, Nat.le_trans hw.size hw0.size, fun k hk hR => ?_, Mem.le_trans hw.le hw0.le, fun a v ha => ?_, fun i e b hi hb => ?_, hw0.glob, fun i hi => ?_, hw0.isb⟩
    · refine (hw0.old k (Nat.lt_of_lt_of_le hk hw.size) ?_).trans (hw.old k hk hR)
      rintro ⟨i, e, he, hb⟩
      rcases hw.live i e k he hb with hl | hl
      · omega
      · exact hR hl
    · rcases hw0.new a v ha with ⟨v', hv⟩ | hv | ⟨i, e, he, hb⟩
      · exact hw.new a v' hv
      · exact .inr (.inl (Nat.le_trans hw.size hv))
      · exact .inr (hw.live i e _ he hb)
    · rcases hw0.live i e b hi hb with hl | ⟨i', e', he', hb'⟩
      · exact .inl (Nat.le_trans hw.size hl)
      · exact hw.live i' e' b he' hb'
    · rw [hw0.keepρ i hi]; exact hw.keepρ i hi
  have hfin : ∃ v, (results fn a'.tmps).run P w' = .ok v w' ∧ ∃ v₁ τ ρ', Ending.returned v = .returned v₁ ∧ σ.le τ ∧ WR cx τ ρ' L' w' ∧ SV.den τ ρ' r v₁ := ⟨v, hv, v, τ, ρ', rfl, hw0.le, hwc, hdv⟩
  rcases he with rfl | rfl <;> exact ⟨hd', hfin⟩
end Go.Proofs.YteiickhgmmjcmaaGreatDoor.Sx
