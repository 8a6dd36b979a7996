/-
  A function's state, told symbolically; the operations that leave the world alone.
-/
import Derived.Test.YteiickhgmmjcmaaGreatDoorSxD
import Derived.Laws.Cells
import Derived.Laws.BytesArg
import Derived.Deep.Quiet
set_option linter.unusedVariables false
set_option linter.unusedSimpArgs false
namespace Go.Proofs.YteiickhgmmjcmaaGreatDoor.Sx
open Go Go.RowKit

abbrev Chain := List (Nat × Bool)
abbrev Env := List (Nat × Chain × SV)
structure St where
  env : Env
  tab : List Ent

def look : Env → Nat → Option (Chain × SV)
  | [], _ => none
  | (s, c, v) :: r, n => if s == n then some (c, v) else look r n

def fits (a : Act) (ch : Chain) : Prop := ∀ p ∈ ch, a.tmps[p.1]? = some (.bool p.2)

/-- A slot holds what is told of it; a slot whose operation was passed over holds nothing. -/
def EnvR (σ : Mem) (ρ : Rho) (env : Env) (a : Act) : Prop :=
  ∀ (s : Nat) ch sv, look env s = some (ch, sv) → (fits a ch → ∃ v, a.tmps[s]? = some v ∧ SV.den σ ρ sv v) ∧ (¬ fits a ch → a.tmps[s]? = some undef)

/-- What comes of a constant. -/
def constSV : Value → Option SV
  | .int k n => some (.val (.int k) n)
  | .bool b => some (.val .bool b)
  | .string s => some (.val .str s.data.toList)
  | .slice none 0 0 => some .nils
  | .pointer none => some .nilp
  | .nilFunc => some .nilf
  | .nilIface => some .top
  | .map none => some (.itr none)
  | _ => none
def constSVL : List Value → Option (List SV)
  | [] => some []
  | v :: l => match constSV v, constSVL l with | some s, some r => some (s :: r) | _, _ => none
def constAgg : Value → Option SV
  | .agg cs => match constSVL cs.toList with | some l => some (.agg l) | none => none
  | v => constSV v
theorem constSV_den {σ : Mem} {ρ : Rho} {v : Value} {s : SV} (h : constSV v = some s) : SV.den σ ρ s v := by
  unfold constSV at h
  split at h <;> first | (obtain rfl := Option.some.inj h; simp [SV.den, Den, strV]; done) | (obtain rfl := Option.some.inj h; simp only [SV.den]; rfl) | cases h
theorem constSVL_den {σ : Mem} {ρ : Rho} : ∀ (l : List Value) (r : List SV), constSVL l = some r → SV.denL σ ρ r l
  | [], r, h => by simp [constSVL] at h; subst h; simp [SV.denL]
  | v :: l, r, h => by
    simp only [constSVL] at h
    split at h
    · rename_i s r' h1 h2
      obtain rfl := Option.some.inj h
      exact ⟨v, l, rfl, constSV_den h1, constSVL_den l r' h2⟩
    · cases h
theorem constAgg_den {σ : Mem} {ρ : Rho} {v : Value} {s : SV} (h : constAgg v = some s) : SV.den σ ρ s v := by
  unfold constAgg at h
  split at h
  · rename_i cs
    split at h
    · rename_i l hl
      obtain rfl := Option.some.inj h
      simp only [SV.den]
      exact ⟨cs.toList, by simp, constSVL_den _ _ hl⟩
    · cases h
  · exact constSV_den h

/-- An operand, under the guards that are known to hold. -/
def opnd (env : Env) (known : Chain) : Operand → Option SV
  | .tmp t => match look env t with
    | some (ch, sv) => if ch.all (fun p => known.contains p) then some sv else none
    | none => none
  | .const v => constAgg v
  | .func f => some (.fn f [] [])
  | .global _ => none
theorem fits_sub {a : Act} {ch known : Chain} (h : ch.all (fun p => known.contains p) = true) (hf : fits a known) : fits a ch := by
  intro p hp
  have := List.all_eq_true.1 h p hp
  exact hf p (by simpa using this)
theorem opnd_den {σ : Mem} {ρ : Rho} {env : Env} {known : Chain} {a : Act} {x : Operand} {s : SV} (he : EnvR σ ρ env a) (hf : fits a known) (h : opnd env known x = some s) : SV.den σ ρ s (a.eval x) := by
  unfold opnd at h
  split at h
  · rename_i t
    split at h
    · rename_i ch sv hl
      split at h
      · rename_i hc
        obtain rfl := Option.some.inj h
        obtain ⟨v, hv, hd⟩ := (he t ch sv hl).1 (fits_sub hc hf)
        have hv2 : a.tmps.getD t undef = v := by simp [Array.getD_eq_getD_getElem?, hv]
        show SV.den σ ρ sv (a.tmps.getD t undef)
        rw [hv2]
        exact hd
      · cases h
    · cases h
  · exact constAgg_den h
  · obtain rfl := Option.some.inj h
    simp only [SV.den, SV.denL, Act.eval]
    exact ⟨[], [], rfl, rfl, rfl⟩
  · cases h

/-- A row of the call's own, read as a list. -/
def res (tab : List Ent) : SV → SV
  | .own i => match tab[i]? with
    | some (.gs _ t l) => .val (.list t) l
    | _ => .own i
  | s => s
theorem gs_den {cx : Cx} {σ : Mem} {ρ : Rho} {tab : List Ent} {w : World} (h : WR cx σ ρ tab w) {i : Nat} {e : TypeId} {t : Ty} {l : List t.D} (hi : tab[i]? = some (.gs e t l)) : Den σ (.list t) l [(ρ i).sl] := by
  obtain ⟨xs, h1, h2, h3⟩ := h.ent i _ hi
  rcases h2.2 with ⟨hv, hn⟩ | ⟨g, cap, cur, hv, _, hg, hnc, hcm, hcs, _⟩
  · have hl : l = [] := List.eq_nil_of_length_eq_zero hn
    subst hl
    rw [hv]
    exact ⟨none, 0, 0, rfl, rfl, Nat.le_refl _, Nat.zero_le _, fun h0 => absurd h0 (by omega)⟩
  · rw [hv]
    exact h1.den hnc hcm fun _ => ⟨_, rfl, fun j u hu => by
      have := (h3 g (by rw [hv]; rfl)).1 j u hu
      have e : (⟨g, 0, none⟩ : Addr).add j = ⟨g, j, none⟩ := by unfold Addr.add; split <;> simp_all
      rw [e]
      exact this⟩
theorem res_den {cx : Cx} {σ : Mem} {ρ : Rho} {tab : List Ent} {w : World} (h : WR cx σ ρ tab w) {s : SV} {v : Value} (hs : SV.den σ ρ s v) : SV.den σ ρ (res tab s) v := by
  unfold res
  split
  · rename_i i
    split
    · rename_i e t l hi
      simp only [SV.den] at hs ⊢
      subst hs
      exact gs_den h hi
    · exact hs
  · exact hs

/-- Pairs of bounds. -/
def opndO (env : Env) (known : Chain) : Option Operand → Option (Option SV)
  | none => some none
  | some x => match opnd env known x with | some s => some (some s) | none => none
theorem opndO_den {σ : Mem} {ρ : Rho} {env : Env} {known : Chain} {a : Act} {x : Option Operand} {s : Option SV} (he : EnvR σ ρ env a) (hf : fits a known) (h : opndO env known x = some s) : OptDen σ ρ s (x.map a.eval) := by
  unfold opndO at h
  split at h
  · obtain rfl := Option.some.inj h
    trivial
  · split at h
    · rename_i s' hs
      obtain rfl := Option.some.inj h
      exact opnd_den he hf hs
    · cases h
def opnds (env : Env) (known : Chain) : List Operand → Option (List SV)
  | [] => some []
  | x :: r => match opnd env known x, opnds env known r with | some s, some l => some (s :: l) | _, _ => none
theorem opnds_den {σ : Mem} {ρ : Rho} {env : Env} {known : Chain} {a : Act} (he : EnvR σ ρ env a) (hf : fits a known) : ∀ (l : List Operand) (s : List SV), opnds env known l = some s → SV.denL σ ρ s (l.map a.eval)
  | [], s, h => by simp [opnds] at h; subst h; simp [SV.denL]
  | x :: r, s, h => by
    simp only [opnds] at h
    split at h
    · rename_i s1 l1 h1 h2
      obtain rfl := Option.some.inj h
      exact ⟨_, _, rfl, opnd_den he hf h1, opnds_den he hf r l1 h2⟩
    · cases h

/-! ### Loads and addresses -/
/-- The cells behind an address. -/
def cellsAt (tab : List Ent) : SV → Option (List SV)
  | .ptr i off => match tab[i]? with | some (.box _ cs) => some (cs.drop off) | _ => none
  | .rptr cs off => some (cs.drop off)
  | _ => none
def loadFrom (d : TypeDesc) (size : Nat) (p : Option Prop) (cs : List SV) : Ans :=
  if aggD d then (if size ≤ cs.length then some (p, .agg (cs.take size)) else none) else match cs with | c :: _ => some (p, c) | [] => none
def pureLoad (P : Program) (tab : List Ent) (t : TypeId) (s : SV) : Ans :=
  match P.underlying t, P.info? t with
  | some d, some inf =>
    match cellsAt tab s with
    | some cs => loadFrom d inf.size none cs
    | none => none
  | _, _ => none

theorem add_lit (b o j : Nat) : (⟨b, o, none⟩ : Addr).add j = ⟨b, o + j, none⟩ := by unfold Addr.add; split <;> simp_all

theorem cellsAt_den {cx : Cx} {σ : Mem} {ρ : Rho} {tab : List Ent} {w : World} (h : WR cx σ ρ tab w) {s : SV} {cs : List SV} {v : Value} (hc : cellsAt tab s = some cs) (hs : SV.den σ ρ s v) :
    ∃ ad, v = .pointer (some ad) ∧ ∀ (j : Nat) c, cs[j]? = some c → ∃ u, w.cell? (ad.add j) = some u ∧ SV.den σ ρ c u := by
  unfold cellsAt at hc
  split at hc
  · rename_i i off
    split at hc
    · rename_i cs0 hi
      obtain rfl := Option.some.inj hc
      obtain ⟨vs, h1, h2, h3, h4⟩ := h.ent i _ hi
      simp only [SV.den] at hs
      refine ⟨_, hs, fun j c hj => ?_⟩
      rw [List.getElem?_drop] at hj
      obtain ⟨u, hu, hd⟩ := denL_get cs0 vs h2 _ c hj
      refine ⟨u, ?_, hd⟩
      rw [add_lit]
      simp only [World.cell?, h1]
      simpa using hu
    · cases hc
  · rename_i cs0 off
    obtain rfl := Option.some.inj hc
    simp only [SV.den] at hs
    obtain ⟨base, hv, hd⟩ := hs
    refine ⟨_, hv, fun j c hj => ?_⟩
    rw [List.getElem?_drop] at hj
    obtain ⟨u, hu, hcd⟩ := denC_get cs0 0 hd _ c hj
    refine ⟨u, ?_, hcd⟩
    rw [Addr.add_add']
    rw [Nat.zero_add] at hu
    exact h.sub _ _ hu
  · cases hc

theorem denL_of_cells {σ : Mem} {ρ : Rho} {w : World} {ad : Addr} : ∀ (cs : List SV) (k : Nat), (∀ (j : Nat) c, cs[j]? = some c → ∃ u, w.cell? (ad.add (k + j)) = some u ∧ SV.den σ ρ c u) →
    ∃ vs, SV.denL σ ρ cs vs ∧ ∀ (j : Nat) v, vs[j]? = some v → w.cell? (ad.add (k + j)) = some v
  | [], k, _ => ⟨[], rfl, fun j v hj => by simp at hj⟩
  | c :: cs, k, h => by
    obtain ⟨u, hu, hd⟩ := h 0 c (by simp)
    obtain ⟨vs, h1, h2⟩ := denL_of_cells cs (k + 1) (fun j c hj => by
      have := h (j + 1) c (by simpa using hj)
      rwa [show k + (j + 1) = k + 1 + j by omega] at this)
    refine ⟨u :: vs, ⟨u, vs, rfl, hd, h1⟩, fun j v hj => ?_⟩
    cases j with
    | zero => simp at hj; subst hj; exact hu
    | succ j =>
      have := h2 j v (by simpa using hj)
      rwa [show k + (j + 1) = k + 1 + j by omega]

theorem loadFrom_sound {P : Program} {σ : Mem} {ρ : Rho} {w : World} {t : TypeId} {d : TypeDesc} {inf : TypeInfo} {ad : Addr} {cs : List SV} {p c : Option Prop} {s : SV} (hu : P.underlying t = some d) (hinf : P.info? t = some inf)
    (hcells : ∀ (j : Nat) c, cs[j]? = some c → ∃ u, w.cell? (ad.add j) = some u ∧ SV.den σ ρ c u) (h : loadFrom d inf.size p cs = some (c, s)) :
    c = p ∧ ∃ v, (∀ w', Same w w' → (Instr.loadAt t (.pointer (some ad))).run P w' = .ok v w') ∧ SV.den σ ρ s v := by
  unfold loadFrom at h
  split at h
  · rename_i hag
    split at h
    · rename_i hsz
      simp only [Option.some.injEq, Prod.mk.injEq] at h
      obtain ⟨rfl, rfl⟩ := h
      obtain ⟨vs, h1, h2⟩ := denL_of_cells (w := w) (ad := ad) (cs.take inf.size) 0 (fun j c hj => by
        rw [List.getElem?_take] at hj
        split at hj
        · rw [Nat.zero_add]; exact hcells j c hj
        · cases hj)
      have hlen : vs.length = inf.size := by
        rw [denL_length _ _ h1, List.length_take]
        omega
      refine ⟨rfl, .agg vs.toArray, fun w' hw' => ?_, ?_⟩
      · have hl := run_loadCells_list (P := P) (w := w') ad vs (fun j v hj => by have := h2 j v hj; rw [Nat.zero_add] at this; exact hw'.cell this)
        simp only [Instr.loadAt, Instr.sureAddr, Sem.run_bind, Sem.run_pure, Result.andThen_ok, loadVar, isAgg_run hu, hag, if_true, sizeOf_run hinf]
        rw [← hlen, hl]
        simp
      · simp only [SV.den]
        exact ⟨vs, rfl, h1⟩
    · cases h
  · rename_i hag
    split at h
    · rename_i c0 r0
      simp only [Option.some.injEq, Prod.mk.injEq] at h
      obtain ⟨rfl, rfl⟩ := h
      obtain ⟨u, hu2, hd⟩ := hcells 0 c0 (by simp)
      rw [Addr.add_zero'] at hu2
      refine ⟨rfl, u, fun w' hw' => ?_, hd⟩
      replace hu2 := hw'.cell hu2
      simp only [Instr.loadAt, Instr.sureAddr, Sem.run_bind, Sem.run_pure, Result.andThen_ok, loadVar, isAgg_run hu]
      rw [if_neg (by simpa using hag)]
      simp [load, Sem.run, hu2]
    · cases h

theorem pureLoad_sound {P : Program} {cx : Cx} {σ : Mem} {ρ : Rho} {tab : List Ent} {w : World} (hw : WR cx σ ρ tab w) {t : TypeId} {sx s : SV} {c : Option Prop} {vx : Value}
    (h : pureLoad P tab t sx = some (c, s)) (hx : SV.den σ ρ sx vx) : ∃ v, (∀ w', Same w w' → (Instr.loadAt t vx).run P w' = .ok v w') ∧ SV.den σ ρ s v := by
  unfold pureLoad at h
  split at h
  · rename_i d inf hu hinf
    split at h
    · rename_i cs hcs
      obtain ⟨ad, rfl, hcells⟩ := cellsAt_den hw hcs hx
      obtain ⟨_, v, h1, h2⟩ := loadFrom_sound hu hinf hcells h
      exact ⟨v, h1, h2⟩
    · cases h
  · cases h

def pureFieldAddr (P : Program) (t : TypeId) (f : Nat) (s : SV) : Ans :=
  match fieldInfo P t f with
  | some (o, n, _) =>
    if n = 0 then none else
    match s with
    | .ptr i off => some (none, .ptr i (off + o))
    | .rptr cs off => some (none, .rptr cs (off + o))
    | .eptr i j k off => some (none, .eptr i j k (off + o))
    | _ => none
  | none => none
theorem fieldInfo_spec {P : Program} {t : TypeId} {f o n : Nat} {b : Bool} (h : fieldInfo P t f = some (o, n, b)) :
    ∃ fs fl inf, P.underlying t = some (.struct fs) ∧ fs[f]? = some fl ∧ P.info? fl.type = some inf ∧ fl.offset = o ∧ inf.size = n := by
  unfold fieldInfo at h
  split at h
  · rename_i fs hu
    split at h
    · rename_i fl hfl
      split at h
      · rename_i inf d hinf hd
        simp only [Option.some.injEq, Prod.mk.injEq] at h
        exact ⟨fs, fl, inf, hu, hfl, hinf, h.1, h.2.1⟩
      · cases h
    · cases h
  · cases h
theorem pureFieldAddr_sound {P : Program} {σ : Mem} {ρ : Rho} {t : TypeId} {f : Nat} {sx s : SV} {c : Option Prop} {vx : Value}
    (h : pureFieldAddr P t f sx = some (c, s)) (hx : SV.den σ ρ sx vx) : ∃ v, (∀ w, (Instr.fieldAt t vx f).run P w = .ok v w) ∧ SV.den σ ρ s v := by
  unfold pureFieldAddr at h
  split at h
  · rename_i o n b hf
    obtain ⟨fs, fl, inf, hu, hfl, hinf, rfl, rfl⟩ := fieldInfo_spec hf
    split at h
    · cases h
    · rename_i hn
      have run : ∀ (ad : Addr) (w : World), (Instr.fieldAt t (.pointer (some ad)) f).run P w = .ok (.pointer (some (ad.add fl.offset))) w := by
        intro ad w
        simp only [Instr.fieldAt, Sem.run_bind, run_underlying hu, Result.andThen_ok, hfl, Instr.sureAddr, Sem.run_pure, fieldPlace, sizeOf_run hinf]
        rw [if_neg hn]
        simp
      split at h
      · rename_i i off
        simp only [Option.some.injEq, Prod.mk.injEq] at h
        obtain ⟨rfl, rfl⟩ := h
        simp only [SV.den] at hx
        subst hx
        exact ⟨_, run _, by rw [add_lit]; simp only [SV.den]⟩
      · rename_i cs off
        simp only [Option.some.injEq, Prod.mk.injEq] at h
        obtain ⟨rfl, rfl⟩ := h
        simp only [SV.den] at hx
        obtain ⟨base, rfl, hd⟩ := hx
        refine ⟨_, run _, ?_⟩
        rw [Addr.add_add']
        simp only [SV.den]
        exact ⟨base, rfl, hd⟩
      · rename_i i j k off
        simp only [Option.some.injEq, Prod.mk.injEq] at h
        obtain ⟨rfl, rfl⟩ := h
        simp only [SV.den] at hx
        subst hx
        exact ⟨_, run _, by rw [add_lit]; simp only [SV.den, Nat.add_assoc]⟩
      · cases h
  · cases h

/-- One element's place in a list that never turns. -/
def pureIndexAddr (P : Program) (t : TypeId) (sx si : SV) : Ans :=
  match si, P.underlying t with
  | .val (.int _) i, some (.slice e) =>
    match listOf sx, P.info? e with
    | some ⟨ty, l⟩, some inf =>
      if inf.size = ty.cells ∧ ty.flat = true then some (some (inR i l.length), .rptr (svs ty (nth l i)) 0) else none
    | _, _ => none
  | _, _ => none
theorem svs_cells {σ : Mem} {ρ : Rho} {base : Addr} {t : Ty} : ∀ (ss : List SV) (cs : List Value) (k : Nat), SV.denL σ ρ ss cs → (∀ (p : Nat) v, cs[p]? = some v → σ (base.add (k + p)) = some v) → SV.denC σ ρ base k ss
  | [], _, _, _, _ => by simp only [SV.denC]
  | s :: ss, cs, k, h, hc => by
    simp only [SV.denL] at h
    obtain ⟨v, r, rfl, hv, hr⟩ := h
    simp only [SV.denC]
    refine ⟨⟨v, by have := hc 0 v (by simp); simpa using this, hv⟩, svs_cells (t := t) ss r (k + 1) hr fun p u hp => ?_⟩
    have := hc (p + 1) u (by simpa using hp)
    rwa [show k + (p + 1) = k + 1 + p by omega] at this
theorem nth_get {t : Ty} {l : List t.D} {i : Int} (h0 : 0 ≤ i) (h1 : i < (l.length : Int)) : l[i.toNat]? = some (nth l i) := by
  have : i.toNat < l.length := by omega
  simp [nth, List.getD_eq_getElem?_getD, List.getElem?_eq_getElem this]
theorem pureIndexAddr_sound {P : Program} {σ : Mem} {ρ : Rho} {t : TypeId} {sx si s : SV} {c : Option Prop} {vx vi : Value}
    (h : pureIndexAddr P t sx si = some (c, s)) (hc : holds c) (hx : SV.den σ ρ sx vx) (hi : SV.den σ ρ si vi) : ∃ v, (∀ w, (Instr.indexAt t vx vi).run P w = .ok v w) ∧ SV.den σ ρ s v := by
  unfold pureIndexAddr at h
  split at h
  · rename_i _ _ k i e hu
    split at h
    · rename_i ty l inf hlo hinf
      split at h
      · rename_i hs
        simp only [Option.some.injEq, Prod.mk.injEq] at h
        obtain ⟨rfl, rfl⟩ := h
        have h0 : (0 : Int) ≤ i := hc.1
        have h1 : i < (l.length : Int) := hc.2
        simp only [SV.den, Den, List.cons.injEq, and_true] at hi
        subst hi
        have hd := listOf_den hlo hx
        obtain ⟨A, n, cc, hv, hn, hcc, hmax, hcells⟩ := id hd
        simp only [List.cons.injEq, and_true] at hv
        subst hv
        have hpos : 0 < n := by have := toNat_lt i _ h0 h1; omega
        obtain ⟨ad, rfl, hcl⟩ := hcells hpos
        obtain ⟨cx, hx1, hx2⟩ := hcl i.toNat _ (nth_get h0 h1)
        refine ⟨.pointer (some (ad.add (i.toNat * ty.cells))), fun w => ?_, ?_⟩
        · have hlt : (0 : Int) ≤ i ∧ i < (n : Int) := by rw [hn]; exact ⟨h0, h1⟩
          simp only [Instr.indexAt, asIntOf, Sem.run_bind, Sem.run_pure, Result.andThen_ok, run_underlying hu]
          have h0' : (0 : Int) ≤ i := h0
          have e1 : (0 ≤ i ∧ i < (n : Int)) = True := eq_true hlt
          split <;> simp only [e1, if_true, Sem.run_bind, sizeOf_run hinf, Result.andThen_ok, Sem.run_pure, hs.1]
        · simp only [SV.den]
          refine ⟨ad.add (i.toNat * ty.cells), by rw [Addr.add_zero'], svs_cells (t := ty) _ _ 0 (svs_den ty _ cx hs.2 hx1) fun p v hp => ?_⟩
          rw [Addr.add_add', Nat.zero_add]
          exact hx2 p v hp
      · cases h
    · cases h
  · cases h


/-! ### Bytes as a string -/
def numStr (l : List Int) : Str := l.map fun n => UInt8.ofNat n.toNat
def convBytes (P : Program) (src dst : TypeId) (s : SV) : Ans :=
  match P.underlying src, P.underlying dst with
  | some (.slice e), some .string => match P.underlying e with
    | some (.int .u8) => match s with
      | .nils => some (none, .val .str [])
      | _ => match listOf s with
        | some ⟨.int .u8, l⟩ => some (none, .val .str (numStr l))
        | _ => none
    | _ => none
  | _, _ => none
theorem convBytes_sound {P : Program} {cx : Cx} {σ : Mem} {ρ : Rho} {tab : List Ent} {w : World} (hw : WR cx σ ρ tab w) {src dst : TypeId} {sx s : SV} {c : Option Prop} {vx : Value}
    (h : convBytes P src dst sx = some (c, s)) (hx : SV.den σ ρ sx vx) : ∃ v, (∀ w', Same w w' → (convert src dst vx).run P w' = .ok v w') ∧ SV.den σ ρ s v := by
  unfold convBytes at h
  split at h
  · rename_i e hs hd
    split at h
    · rename_i he
      split at h
      · simp only [Option.some.injEq, Prod.mk.injEq] at h
        obtain ⟨rfl, rfl⟩ := h
        simp only [SV.den] at hx
        subst hx
        exact ⟨.string ByteArray.empty, fun w' _ => run_convert_bytes_nil w' src e hs he 0 0 dst hd, by simp only [SV.den, Den]; rfl⟩
      · split at h
        · rename_i l hl
          simp only [Option.some.injEq, Prod.mk.injEq] at h
          obtain ⟨rfl, rfl⟩ := h
          have hdd := listOf_den hl hx
          obtain ⟨A, n, c0, hv, hn, hc, hm, hcells⟩ := hdd
          simp only [List.cons.injEq, and_true] at hv
          subst hv
          refine ⟨.string (strOfNums l), fun w' hw' => ?_, by simp only [SV.den, Den]; rfl⟩
          by_cases h0 : 0 < n
          · obtain ⟨ad, rfl, hcl⟩ := hcells h0
            have hld : (loadCells ad n).run P w' = .ok (l.map (Value.int .u8)).toArray w' := by
              have := run_loadCells_list (P := P) (w := w') ad (l.map (Value.int .u8)) (fun j v hj => by
                rw [List.getElem?_map, Option.map_eq_some_iff] at hj
                obtain ⟨x, hx1, rfl⟩ := hj
                obtain ⟨cx', h1, h2⟩ := hcl j x hx1
                rw [Den] at h1
                have := h2 0 (.int .u8 x) (by rw [h1]; rfl)
                simp only [Ty.cells, Nat.mul_one, Nat.add_zero] at this
                exact hw'.cell (hw.sub _ _ this))
              simpa [← hn] using this
            rw [run_convert_bytes_string w' src dst e _ n c0 hs he hd, run_bytesToString w' _ n c0 l hld, foldl_push_bytes]
            simp [strOfNums, ByteArray.empty, ByteArray.emptyWithCapacity]
            rfl
          · have hl0 : l = [] := List.eq_nil_of_length_eq_zero (by omega)
            subst hl0
            have hn0 : n = 0 := by omega
            subst hn0
            cases A with
            | none => exact run_convert_bytes_nil w' src e hs he 0 c0 dst hd
            | some ad =>
              have hld : (loadCells ad 0).run P w' = .ok (([] : List Int).map (Value.int .u8)).toArray w' := by simp [loadCells, loadCellsFrom]
              rw [run_convert_bytes_string w' src dst e _ 0 c0 hs he hd, run_bytesToString w' _ 0 c0 [] hld]
              rfl
        · cases h
    · cases h
  · cases h

end Go.Proofs.YteiickhgmmjcmaaGreatDoor.Sx
