/-
  One operation that leaves the world alone: what it yields, and the state behind it.
-/
import Derived.Test.YteiickhgmmjcmaaGreatDoorSxF
set_option linter.unusedVariables false
set_option linter.unusedSimpArgs false
namespace Go.Proofs.YteiickhgmmjcmaaGreatDoor.Sx
open Go Go.RowKit

def isTrueC : Operand → Bool
  | .const (.bool true) => true
  | _ => false
def isFalseC : Operand → Bool
  | .const (.bool false) => true
  | _ => false
def slotOf : Operand → Option Nat
  | .tmp s => some s
  | _ => none
def under (c : Operand) (b : Bool) (known : Chain) : Chain :=
  match slotOf c with
  | some s => (s, b) :: known
  | none => known
def pureEptr (P : Program) (tab : List Ent) (t : TypeId) (sx si : SV) : Ans :=
  match sx, si, P.underlying t with
  | .arr i, .val (.int _) j, some (.slice e) =>
    match tab[i]?, P.info? e with
    | some (.ra _ ty l), some inf => if inf.size = ty.cells then some (some (inR j l.length), .eptr i j.toNat ty.cells 0) else none
    | _, _ => none
  | _, _, _ => none
/-- A place in an array. -/
def moveBy (d : Nat) : SV → Option SV
  | .ptr i off => some (.ptr i (off + d))
  | .rptr cs off => some (.rptr cs (off + d))
  | .eptr i j k off => some (.eptr i j k (off + d))
  | _ => none
theorem moveBy_den {σ : Mem} {ρ : Rho} {d : Nat} {s s' : SV} {v : Value} (h : moveBy d s = some s') (hd : SV.den σ ρ s v) : ∃ ad : Addr, v = .pointer (some ad) ∧ SV.den σ ρ s' (.pointer (some (ad.add d))) := by
  unfold moveBy at h
  split at h
  · obtain rfl := Option.some.inj h
    simp only [SV.den] at hd ⊢
    subst hd
    exact ⟨_, rfl, by rw [add_lit]⟩
  · obtain rfl := Option.some.inj h
    simp only [SV.den] at hd ⊢
    obtain ⟨base, rfl, hd⟩ := hd
    exact ⟨_, rfl, base, by rw [Addr.add_add'], hd⟩
  · obtain rfl := Option.some.inj h
    simp only [SV.den] at hd ⊢
    subst hd
    exact ⟨_, rfl, by rw [add_lit, Nat.add_assoc]⟩
  · cases h
def pureArrAddr (P : Program) (t : TypeId) (sx si : SV) : Ans :=
  match si, P.underlying t with
  | .val (.int _) i, some (.array m e) => match P.info? e with
    | some inf => match moveBy (Int.toNat i * inf.size) sx with
      | some s => some (some (inR i m), s)
      | none => none
    | none => none
  | _, _ => none
theorem pureArrAddr_sound {P : Program} {σ : Mem} {ρ : Rho} {t : TypeId} {sx si s : SV} {c : Option Prop} {vx vi : Value} (h : pureArrAddr P t sx si = some (c, s)) (hc : holds c) (hx : SV.den σ ρ sx vx) (hi : SV.den σ ρ si vi) :
    ∃ v, (∀ w, (Instr.indexAt t vx vi).run P w = .ok v w) ∧ SV.den σ ρ s v := by
  unfold pureArrAddr at h
  split at h
  · rename_i k i m e hu
    split at h
    · rename_i inf hinf
      split at h
      · rename_i s' hs
        simp only [Option.some.injEq, Prod.mk.injEq] at h
        obtain ⟨rfl, rfl⟩ := h
        obtain ⟨ad, rfl, hd⟩ := moveBy_den hs hx
        simp only [SV.den, Den, List.cons.injEq, and_true] at hi
        subst hi
        have h0 : (0 : Int) ≤ i ∧ (i : Int) < (m : Int) := hc
        refine ⟨_, fun w => ?_, hd⟩
        simp only [Instr.indexAt, asIntOf, Sem.run_bind, Sem.run_pure, Result.andThen_ok, run_underlying hu, Instr.sureAddr]
        rw [if_pos h0]
        simp only [Sem.run_bind, sizeOf_run hinf, Result.andThen_ok, Sem.run_pure]
      · cases h
    · cases h
  · cases h
/-- The first ones of a row of the call's own. -/
def pureSub (P : Program) (tab : List Ent) (t : TypeId) (sx : SV) (lo hi mx : Option SV) : Ans :=
  match sx, lo, hi, mx, P.underlying t with
  | .arr i, none, some (.val (.int _) h), none, some (.slice e) =>
    match tab[i]?, P.info? e with
    | some (.ra _ ty l), some inf => some (some (0 ≤ (h : Int) ∧ (h : Int) ≤ (l.length : Int)), .sub i (Int.toNat h))
    | _, _ => none
  | .arr i, some (.val (.int _) h), none, none, some (.slice e) =>
    match tab[i]?, P.info? e with
    | some (.ra _ ty l), some inf => some (some (0 ≤ (h : Int) ∧ (h : Int) ≤ (l.length : Int)), .offs i (Int.toNat h) inf.size l.length)
    | _, _ => none
  | _, _, _, _, _ => none
def pureLoadE (P : Program) (tab : List Ent) (t : TypeId) (s : SV) : Ans :=
  match s, P.underlying t, P.info? t with
  | .eptr i j k o, some d, some inf =>
    match tab[i]? with
    | some (.ra _ ty l) => if k = ty.cells ∧ ty.flat = true then loadFrom d inf.size (some (j < l.length)) ((svs ty (nth l (j : Int))).drop o) else none
    | _ => none
  | _, _, _ => none
def firstSome (a b : Ans) : Ans := match a with | some x => some x | none => b

def partsSV (env : Env) (known : Chain) : List (Nat × Operand) → Option (List (Nat × SV))
  | [] => some []
  | (i, x) :: r => match opnd env known x, partsSV env known r with | some s, some l => some ((i, s) :: l) | _, _ => none
theorem partsSV_den {σ : Mem} {ρ : Rho} {env : Env} {known : Chain} {a : Act} (he : EnvR σ ρ env a) (hf : fits a known) : ∀ (l : List (Nat × Operand)) (s : List (Nat × SV)), partsSV env known l = some s →
    PartsR σ ρ s (l.map fun x => (x.1, a.eval x.2))
  | [], s, h => by simp [partsSV] at h; subst h; simp [PartsR]
  | (i, x) :: r, s, h => by
    simp only [partsSV] at h
    split at h
    · rename_i s1 l1 h1 h2
      obtain rfl := Option.some.inj h
      exact ⟨_, _, rfl, opnd_den he hf h1, partsSV_den he hf r l1 h2⟩
    · cases h

def lenCall (P : Program) (env : Env) (tab : List Ent) (known : Chain) (c : Call) : Ans :=
  match c.callee with
  | .builtin b =>
    match opnds env known c.args.toList with
    | some l =>
      match b, l, c.argTypes.toList with
      | .len, [.arr i], [t] => match tab[i]?, P.underlying t with | some (.ra _ ty l), some (.slice _) => some (none, .val (.int .i64) (l.length : Int)) | _, _ => none
      | .len, [.sub i n], [t] => match P.underlying t with | some (.slice _) => some (none, .val (.int .i64) (n : Int)) | _ => none
      | .len, [s], [t] => pureLen P t (res tab s)
      | .min, l, _ => pureMin l
      | .max, l, _ => pureMax l
      | _, _, _ => none
    | none => none
  | _ => none

def quietOp (P : Program) (env : Env) (tab : List Ent) (known : Chain) (o : Oper) : Ans :=
  match o.op with
  | .move x => match opnd env known x with | some s => some (none, s) | none => none
  | .assign x => match opnd env known x with | some s => some (none, s) | none => none
  | .pick c a b =>
    match opnd env known c, opnd env (under c true known) a, opnd env (under c false known) b with
    | some (.val .bool cb), some (.val .bool x), some (.val .bool y) =>
      if isFalseC b then some (none, .val .bool (cb && x)) else if isTrueC a then some (none, .val .bool (cb || y)) else some (none, .val .bool (cond cb x y))
    | _, _, _ => none
  | .binOp op t x y _ => match opnd env known x, opnd env known y with | some sx, some sy => pureBin P op t (res tab sx) (res tab sy) | _, _ => none
  | .unOp op _ x => match opnd env known x with | some sx => pureUn op sx | none => none
  | .convert s d x => match opnd env known x with | some sx => firstSome (pureConv P s d sx) (convBytes P s d (res tab sx)) | none => none
  | .index t x i => match opnd env known x, opnd env known i with | some sx, some si => pureIndex P t sx si | _, _ => none
  | .slice t x lo hi mx => match opnd env known x, opndO env known lo, opndO env known hi, opndO env known mx with | some sx, some l, some h, some m => firstSome (pureSub P tab t sx l h m) (pureSlice P t (res tab sx) l h m) | _, _, _, _ => none
  | .field t x f => match opnd env known x with | some sx => pureField P t f sx | none => none
  | .extract x i => match opnd env known x with | some (.tup l) => (match l[i]? with | some s => some (none, s) | none => none) | _ => none
  | .fieldAddr t x f => match opnd env known x with | some sx => pureFieldAddr P t f sx | none => none
  | .indexAddr t x i => match opnd env known x, opnd env known i with | some sx, some si => firstSome (pureEptr P tab t sx si) (firstSome (pureArrAddr P t sx si) (pureIndexAddr P t (res tab sx) si)) | _, _ => none
  | .load t x => match opnd env known x with | some sx => firstSome (pureLoadE P tab t sx) (pureLoad P tab t sx) | none => none
  | .build t parts => match partsSV env known parts.toList with | some ps => pureBuild P t ps | none => none
  | .nilCheck x => match opnd env known x with
    | some (.ptr i o) => some (none, .ptr i o)
    | some (.rptr cs o) => some (none, .rptr cs o)
    | some (.eptr i j k o) => some (none, .eptr i j k o)
    | some (.fn f a b) => some (none, .fn f a b)
    | _ => none
  | .makeFunc (.func f) first cap => match opnds env known first.toList, opnds env known cap.toList with | some a, some b => some (none, .fn f a b) | _, _ => none
  | .call c => lenCall P env tab known c
  | _ => none

theorem inR_pos {j : Int} {n : Nat} (h : inR j n) : 0 < n := by omega
/-- A row of the call's own, in the world. -/
theorem ra_slice {σ : Mem} {ρ : Rho} {w : World} {i : Nat} {e : TypeId} {ty : Ty} {l : List ty.D} (h : Ent.rel σ ρ w i (.ra e ty l)) (h0 : 0 < l.length) :
    ∃ xs cap, (ρ i).sl = .slice (some ⟨(ρ i).blk, 0, none⟩) l.length cap ∧ Rows σ ty l xs ∧ w.ownsRow 0 e ty.cells (.slice (some ⟨(ρ i).blk, 0, none⟩) l.length cap) l.length xs := by
  obtain ⟨xs, r1, r2, r3, r4⟩ := h
  have r2' := r2
  rcases r2'.2 with ⟨_, h⟩ | ⟨g, cap, cur, hv, _⟩
  · omega
  · have hg := r3 g (by rw [hv]; rfl)
    subst hg
    exact ⟨xs, cap, hv, r1, hv ▸ r2⟩
theorem ra_any {σ : Mem} {ρ : Rho} {w : World} {i : Nat} {e : TypeId} {ty : Ty} {l : List ty.D} (h : Ent.rel σ ρ w i (.ra e ty l)) :
    ∃ A cap, (ρ i).sl = .slice A l.length cap := by
  obtain ⟨xs, r1, r2, r3, r4⟩ := h
  rcases r2.2 with ⟨hv, h⟩ | ⟨g, cap, cur, hv, _⟩
  · exact ⟨none, 0, by rw [hv, h]⟩
  · exact ⟨_, cap, hv⟩
/-- An element's cells in the world. -/
theorem ra_cells {σ : Mem} {ρ : Rho} {w : World} {i j o : Nat} {e : TypeId} {ty : Ty} {l : List ty.D} (h : Ent.rel σ ρ w i (.ra e ty l)) (hf : ty.flat = true) (hj : j < l.length) :
    ∀ (p : Nat) c, ((svs ty (nth l (j : Int))).drop o)[p]? = some c → ∃ u, w.cell? ((⟨(ρ i).blk, j * ty.cells + o, none⟩ : Addr).add p) = some u ∧ SV.den σ ρ c u := by
  intro p c hp
  obtain ⟨xs, cap, q1, q2, q3⟩ := ra_slice h (by omega)
  obtain ⟨cc, hd, hcc⟩ := q2.elem (List.getElem?_eq_getElem hj)
  have hn : nth l (j : Int) = l[j] := by simp [nth, List.getD_eq_getElem?_getD, List.getElem?_eq_getElem hj]
  rw [hn, List.getElem?_drop] at hp
  obtain ⟨u, hu, hud⟩ := denL_get _ _ (svs_den (ρ := ρ) ty _ cc hf hd) _ c hp
  have hlen := Den_length _ _ _ hd
  have hlt : o + p < ty.cells := by rw [← hlen]; exact (List.getElem?_eq_some_iff.1 hu).1
  have hxs := hcc _ u hu
  have hb : j * ty.cells + (o + p) < l.length * ty.cells := by
    have := Nat.mul_le_mul_right ty.cells (show j + 1 ≤ l.length from hj)
    rw [Nat.add_mul] at this
    omega
  have hcell := q3.cellAt (g := (ρ i).blk) (j * ty.cells + (o + p)) hb
  rw [hxs] at hcell
  refine ⟨u, ?_, hud⟩
  rw [add_lit, Nat.add_assoc]
  exact hcell
theorem pureLoadE_sound {P : Program} {cx : Cx} {σ : Mem} {ρ : Rho} {tab : List Ent} {w : World} {t : TypeId} {sx s : SV} {c : Option Prop} {vx : Value} (hw : WR cx σ ρ tab w) (h : pureLoadE P tab t sx = some (c, s)) (hc : holds c) (hx : SV.den σ ρ sx vx) :
    ∃ v, (∀ w', Same w w' → (Instr.loadAt t vx).run P w' = .ok v w') ∧ SV.den σ ρ s v := by
  unfold pureLoadE at h
  split at h
  · rename_i i j k o d inf hu hinf
    split at h
    · rename_i e ty l hi
      split at h
      · rename_i hs
        obtain ⟨rfl, hf⟩ := hs
        have hcp : c = some (j < l.length) := by
          unfold loadFrom at h
          split at h
          · split at h
            · simp only [Option.some.injEq, Prod.mk.injEq] at h; exact h.1.symm
            · cases h
          · split at h
            · simp only [Option.some.injEq, Prod.mk.injEq] at h; exact h.1.symm
            · cases h
        rw [hcp] at hc
        simp only [SV.den] at hx
        subst hx
        exact (loadFrom_sound (w := w) hu hinf (ra_cells (hw.ent i _ hi) hf hc) h).2
      · cases h
    · cases h
  · cases h
theorem pureSub_sound {P : Program} {cx : Cx} {σ : Mem} {ρ : Rho} {tab : List Ent} {w : World} {t : TypeId} {sx s : SV} {lo hi mx : Option SV} {c : Option Prop} {vx : Value} {vl vh vm : Option Value} (hw : WR cx σ ρ tab w)
    (h : pureSub P tab t sx lo hi mx = some (c, s)) (hc : holds c) (hx : SV.den σ ρ sx vx) (hl : OptDen σ ρ lo vl) (hh : OptDen σ ρ hi vh) (hm : OptDen σ ρ mx vm) :
    ∃ v, (∀ w, (Instr.sliceAt t vx vl vh vm).run P w = .ok v w) ∧ SV.den σ ρ s v := by
  unfold pureSub at h
  split at h
  · rename_i i k h0 e hu
    split at h
    · rename_i e' ty l inf hi hinf
      simp only [Option.some.injEq, Prod.mk.injEq] at h
      obtain ⟨rfl, rfl⟩ := h
      obtain ⟨hc1, hc2⟩ : 0 ≤ (h0 : Int) ∧ (h0 : Int) ≤ (l.length : Int) := hc
      cases vl with
      | some _ => exact hl.elim
      | none =>
      cases vm with
      | some _ => exact hm.elim
      | none =>
      cases vh with
      | none => exact hh.elim
      | some vh =>
      simp only [OptDen, SV.den, Den, List.cons.injEq, and_true] at hh
      subst hh
      simp only [SV.den] at hx
      subst hx
      obtain ⟨A, cap, hsl⟩ := ra_any (hw.ent i _ hi)
      obtain ⟨xs, r1, r2, r3, r4⟩ := hw.ent i _ hi
      have hcap : l.length ≤ cap := by
        rcases r2.2 with ⟨hv, hn⟩ | ⟨g, cap', cur, hv, _, _, hnc, _⟩
        · omega
        · rw [hsl] at hv
          simp only [Value.slice.injEq] at hv
          omega
      have hρ : (ρ i).ad = A ∧ (ρ i).c = cap := by
        unfold Loc.sl at hsl
        simp only [Value.slice.injEq] at hsl
        exact ⟨hsl.1, hsl.2.2⟩
      refine ⟨.slice A h0.toNat cap, fun w => ?_, by simp only [SV.den]; rw [hρ.1, hρ.2]⟩
      have hb := fun (w : World) => bounds_run (P := P) (w := w) true l.length cap hcap (vl := none) (a := none) (b := some h0) (vh := some (.int k h0)) (.inl ⟨rfl, rfl⟩) (.inr ⟨k, h0, rfl, rfl⟩) ⟨hc1, hc2⟩ trivial
      rw [sliceAt_slice hu, hsl]
      simp only [Instr.slice, Sem.run_bind, run_underlying hu, Result.andThen_ok, hb, sizeOf_run hinf, Sem.run_pure]
      have hA : (if cap = (Option.getD (none : Option Int) 0).toNat then A else A.map (·.add ((Option.getD (none : Option Int) 0).toNat * inf.size))) = A := by
        split
        · rfl
        · simp only [Option.getD_none, Int.toNat_zero, Nat.zero_mul, Addr.add_zero']
          cases A <;> rfl
      rw [hA]
      simp
    · cases h
  · rename_i i k h0 e hu
    split at h
    · rename_i e' ty l inf hi hinf
      simp only [Option.some.injEq, Prod.mk.injEq] at h
      obtain ⟨rfl, rfl⟩ := h
      obtain ⟨hc1, hc2⟩ : 0 ≤ (h0 : Int) ∧ (h0 : Int) ≤ (l.length : Int) := hc
      cases vh with
      | some _ => exact hh.elim
      | none =>
      cases vm with
      | some _ => exact hm.elim
      | none =>
      cases vl with
      | none => exact hl.elim
      | some vl =>
      simp only [OptDen, SV.den, Den, List.cons.injEq, and_true] at hl
      subst hl
      simp only [SV.den] at hx
      subst hx
      obtain ⟨A, cap, hsl⟩ := ra_any (hw.ent i _ hi)
      obtain ⟨xs, r1, r2, r3, r4⟩ := hw.ent i _ hi
      have hcap : l.length ≤ cap := by
        rcases r2.2 with ⟨hv, hn⟩ | ⟨g, cap', cur, hv, _, _, hnc, _⟩
        · omega
        · rw [hsl] at hv
          simp only [Value.slice.injEq] at hv
          omega
      have hρ : (ρ i).ad = A ∧ (ρ i).c = cap := by
        unfold Loc.sl at hsl
        simp only [Value.slice.injEq] at hsl
        exact ⟨hsl.1, hsl.2.2⟩
      have hb := fun (w : World) => bounds_run (P := P) (w := w) true l.length cap hcap (vh := none) (b := none) (a := some h0) (vl := some (.int k h0)) (.inr ⟨k, h0, rfl, rfl⟩) (.inl ⟨rfl, rfl⟩) trivial ⟨hc1, hc2⟩
      refine ⟨.slice (if cap = h0.toNat then A else A.map (·.add (h0.toNat * inf.size))) (l.length - h0.toNat) (cap - h0.toNat), fun w => ?_, by simp only [SV.den]; rw [hρ.1, hρ.2]⟩
      rw [sliceAt_slice hu, hsl]
      simp only [Instr.slice, Sem.run_bind, run_underlying hu, Result.andThen_ok, hb, sizeOf_run hinf, Sem.run_pure]
      simp
    · cases h
  · cases h

theorem fits_under {a : Act} {known : Chain} {c : Operand} {b : Bool} (hf : fits a known) (hc : ∀ s, c = .tmp s → a.tmps[s]? = some (.bool b)) : fits a (under c b known) := by
  unfold under
  cases c with
  | tmp s =>
    intro p hp
    simp only [slotOf, List.mem_cons] at hp
    rcases hp with rfl | hp
    · exact hc s rfl
    · exact hf p hp
  | const v => exact hf
  | global g => exact hf
  | func f => exact hf
theorem isTrueC_eval {a : Act} {x : Operand} (h : isTrueC x = true) : a.eval x = .bool true := by
  unfold isTrueC at h
  split at h
  · rfl
  · cases h
theorem isFalseC_eval {a : Act} {x : Operand} (h : isFalseC x = true) : a.eval x = .bool false := by
  unfold isFalseC at h
  split at h
  · rfl
  · cases h

theorem opnd_tmp {env : Env} {known : Chain} {s : Nat} {sv : SV} (h : opnd env known (.tmp s) = some sv) : ∃ ch, look env s = some (ch, sv) ∧ ch.all (fun p => known.contains p) = true := by
  simp only [opnd] at h
  split at h
  · rename_i ch sv' hl
    split at h
    · rename_i hc
      obtain rfl := Option.some.inj h
      exact ⟨ch, hl, hc⟩
    · cases h
  · cases h

theorem arrMap {α β : Type} (f : α → β) (l : Array α) : l.map f = (l.toList.map f).toArray := Array.ext' (by rw [Array.toList_map])

/-- What looks at no memory. -/
def pureOp : Op → Bool
  | .load .. => false
  | .convert .. => false
  | _ => true
theorem quietOp_sound {P : Program} {cx : Cx} {σ : Mem} {ρ : Rho} {env : Env} {tab : List Ent} {w : World} {a : Act} {known : Chain} {o : Oper} {c : Option Prop} {s : SV}
    (hw : WR cx σ ρ tab w) (he : EnvR σ ρ env a) (hf : fits a known) (h : quietOp P env tab known o = some (c, s)) (hc : holds c) :
    ∃ v, (∀ w', (pureOp o.op = true ∨ Same w w') → (execOp a.eval o).run P w' = .ok (.value v) w') ∧ SV.den σ ρ s v := by
  have lift : ∀ {m : Sem Value} {v : Value} {w : World}, m.run P w = .ok v w → (do pure (Next.value (← m)) : Sem Next).run P w = .ok (.value v) w := by
    intro m v w hm
    simp [hm]
  unfold quietOp at h
  split at h
  · rename_i x ho
    split at h
    · rename_i s' hs
      simp only [Option.some.injEq, Prod.mk.injEq] at h
      obtain ⟨rfl, rfl⟩ := h
      exact ⟨_, fun w' _ => by simp [execOp, ho], opnd_den he hf hs⟩
    · cases h
  · rename_i x ho
    split at h
    · rename_i s' hs
      simp only [Option.some.injEq, Prod.mk.injEq] at h
      obtain ⟨rfl, rfl⟩ := h
      exact ⟨_, fun w' _ => by simp [execOp, ho], opnd_den he hf hs⟩
    · cases h
  · rename_i cc x y ho
    split at h
    · rename_i cb bx bY h1 h2 h3
      have d1 := opnd_den he hf h1
      simp only [SV.den, Den, List.cons.injEq, and_true] at d1
      have hslot : ∀ s, cc = .tmp s → a.tmps[s]? = some (.bool cb) := by
        intro s hs
        subst hs
        obtain ⟨ch, hl, hch⟩ := opnd_tmp h1
        obtain ⟨v, hv, hd⟩ := (he s ch _ hl).1 (fits_sub hch hf)
        simp only [SV.den, Den, List.cons.injEq, and_true] at hd
        rw [hv, hd]
      have hx : cb = true → a.eval x = .bool bx := by
        intro e
        have := opnd_den he (fits_under (b := true) hf (fun s hs => by rw [hslot s hs, e])) h2
        simpa only [SV.den, Den, List.cons.injEq, and_true] using this
      have hy : cb = false → a.eval y = .bool bY := by
        intro e
        have := opnd_den he (fits_under (b := false) hf (fun s hs => by rw [hslot s hs, e])) h3
        simpa only [SV.den, Den, List.cons.injEq, and_true] using this
      have hrun : ∀ w', (pureOp o.op = true ∨ Same w w') → (execOp a.eval o).run P w' = .ok (.value (.bool (cond cb bx bY))) w' := by
        intro w' _
        simp only [execOp, ho, d1, asBool, Sem.run_bind, Sem.run_pure, Result.andThen_ok]
        cases cb
        · simp [hy rfl]
        · simp [hx rfl]
      refine ⟨_, hrun, ?_⟩
      split at h
      · rename_i hb
        simp only [Option.some.injEq, Prod.mk.injEq] at h
        obtain ⟨rfl, rfl⟩ := h
        have e2 := isFalseC_eval (a := a) hb
        simp only [SV.den, Den, List.cons.injEq, and_true, Value.bool.injEq]
        cases cb
        · have := hy rfl
          rw [e2] at this
          simp only [Value.bool.injEq] at this
          simp [← this]
        · simp
      · split at h
        · rename_i _ hb
          simp only [Option.some.injEq, Prod.mk.injEq] at h
          obtain ⟨rfl, rfl⟩ := h
          have e2 := isTrueC_eval (a := a) hb
          simp only [SV.den, Den, List.cons.injEq, and_true, Value.bool.injEq]
          cases cb
          · simp
          · have := hx rfl
            rw [e2] at this
            simp only [Value.bool.injEq] at this
            simp [← this]
        · simp only [Option.some.injEq, Prod.mk.injEq] at h
          obtain ⟨rfl, rfl⟩ := h
          simp [SV.den, Den]
    · cases h
  · rename_i op t x y yt ho
    split at h
    · rename_i sx sy h1 h2
      obtain ⟨v, hv, hd⟩ := pureBin_sound (P := P) (x := x) (y := y) h hc (res_den hw (opnd_den he hf h1)) (res_den hw (opnd_den he hf h2))
      exact ⟨v, fun w' hw' => by simp only [execOp, ho]; exact lift (hv w'), hd⟩
    · cases h
  · rename_i op t x ho
    split at h
    · rename_i sx h1
      obtain ⟨v, hv, hd⟩ := pureUn_sound (P := P) h (opnd_den he hf h1)
      exact ⟨v, fun w' hw' => by simp only [execOp, ho]; exact lift (hv w'), hd⟩
    · cases h
  · rename_i sT dT x ho
    split at h
    · rename_i sx h1
      unfold firstSome at h
      split at h
      · rename_i y hy
        obtain rfl := Option.some.inj h
        obtain ⟨v, hv, hd⟩ := pureConv_sound (P := P) hy (opnd_den he hf h1)
        exact ⟨v, fun w' hw' => by simp only [execOp, ho]; exact lift (hv w'), hd⟩
      · obtain ⟨v, hv, hd⟩ := convBytes_sound (P := P) hw h (res_den hw (opnd_den he hf h1))
        exact ⟨v, fun w' hw' => by replace hw' := hw'.resolve_left (by simp [pureOp, ho]); simp only [execOp, ho]; exact lift (hv w' hw'), hd⟩
    · cases h
  · rename_i t x i ho
    split at h
    · rename_i sx si h1 h2
      obtain ⟨v, hv, hd⟩ := pureIndex_sound (P := P) h hc (opnd_den he hf h1) (opnd_den he hf h2)
      exact ⟨v, fun w' hw' => by simp only [execOp, ho]; exact lift (hv w'), hd⟩
    · cases h
  · rename_i t x lo hi mx ho
    split at h
    · rename_i sx l hh m h1 h2 h3 h4
      have d1 := opnd_den he hf h1
      have d2 := opndO_den he hf h2
      have d3 := opndO_den he hf h3
      have d4 := opndO_den he hf h4
      unfold firstSome at h
      split at h
      · rename_i y hy
        obtain rfl := Option.some.inj h
        obtain ⟨v, hv, hd⟩ := pureSub_sound (P := P) hw hy hc d1 d2 d3 d4
        exact ⟨v, fun w' hw' => by simp only [execOp, ho]; exact lift (hv w'), hd⟩
      · obtain ⟨v, hv, hd⟩ := pureSlice_sound (P := P) h hc (res_den hw d1) d2 d3 d4
        exact ⟨v, fun w' hw' => by simp only [execOp, ho]; exact lift (hv w'), hd⟩
    · cases h
  · rename_i t x f ho
    split at h
    · rename_i sx h1
      obtain ⟨v, hv, hd⟩ := pureField_sound (P := P) h (opnd_den he hf h1)
      exact ⟨v, fun w' hw' => by simp only [execOp, ho]; exact lift (hv w'), hd⟩
    · cases h
  · rename_i x i ho
    split at h
    · rename_i l h1
      split at h
      · rename_i s' hs
        simp only [Option.some.injEq, Prod.mk.injEq] at h
        obtain ⟨rfl, rfl⟩ := h
        have d1 := opnd_den he hf h1
        simp only [SV.den] at d1
        obtain ⟨vs, hvs, hd⟩ := d1
        obtain ⟨v, hv, hdv⟩ := denL_get l vs hd i _ hs
        refine ⟨v, fun w' _ => ?_, hdv⟩
        simp only [execOp, ho]
        exact lift (by simp [Instr.extract, hvs, hv])
      · cases h
    · cases h
  · rename_i t x f ho
    split at h
    · rename_i sx h1
      obtain ⟨v, hv, hd⟩ := pureFieldAddr_sound (P := P) h (opnd_den he hf h1)
      exact ⟨v, fun w' hw' => by simp only [execOp, ho]; exact lift (hv w'), hd⟩
    · cases h
  · rename_i t x i ho
    split at h
    · rename_i sx si h1 h2
      have d1 := opnd_den he hf h1
      have d2 := opnd_den he hf h2
      unfold firstSome at h
      split at h
      · rename_i y hy
        obtain rfl := Option.some.inj h
        unfold pureEptr at hy
        split at hy
        · rename_i _ _ _ ii k j e hu
          split at hy
          · rename_i ty0 ty l inf hi hinf
            split at hy
            · rename_i hs
              simp only [Option.some.injEq, Prod.mk.injEq] at hy
              obtain ⟨rfl, rfl⟩ := hy
              simp only [SV.den, Den, List.cons.injEq, and_true] at d1 d2
              have h0 : (0 : Int) ≤ j := hc.1
              have h1' : j < (l.length : Int) := hc.2
              have hl0 : 0 < l.length := inR_pos hc
              obtain ⟨xs, cap, q1, q2, q3⟩ := ra_slice (hw.ent ii _ hi) hl0
              refine ⟨.pointer (some ⟨(ρ ii).blk, j.toNat * ty.cells + 0, none⟩), fun w' _ => ?_, by simp only [SV.den]⟩
              simp only [execOp, ho]
              refine lift ?_
              rw [d1, d2, q1]
              simp only [Instr.indexAt, asIntOf, Sem.run_bind, Sem.run_pure, Result.andThen_ok, run_underlying hu]
              rw [if_pos ⟨h0, h1'⟩]
              simp only [Sem.run_bind, sizeOf_run hinf, Result.andThen_ok, Sem.run_pure, hs, add_lit, Nat.zero_add, Nat.add_zero]
            · cases hy
          · cases hy
        · cases hy
      · split at h
        · rename_i y hy
          obtain rfl := Option.some.inj h
          obtain ⟨v, hv, hd⟩ := pureArrAddr_sound (P := P) hy hc d1 d2
          exact ⟨v, fun w' hw' => by simp only [execOp, ho]; exact lift (hv w'), hd⟩
        · obtain ⟨v, hv, hd⟩ := pureIndexAddr_sound (P := P) h hc (res_den hw d1) d2
          exact ⟨v, fun w' hw' => by simp only [execOp, ho]; exact lift (hv w'), hd⟩
    · cases h
  · rename_i t x ho
    split at h
    · rename_i sx h1
      have d1 := opnd_den he hf h1
      unfold firstSome at h
      split at h
      · rename_i y hy
        obtain rfl := Option.some.inj h
        obtain ⟨v, hv, hd⟩ := pureLoadE_sound (P := P) hw hy hc d1
        exact ⟨v, fun w' hw' => by replace hw' := hw'.resolve_left (by simp [pureOp, ho]); simp only [execOp, ho]; exact lift (hv w' hw'), hd⟩
      · obtain ⟨v, hv, hd⟩ := pureLoad_sound (P := P) hw h d1
        exact ⟨v, fun w' hw' => by replace hw' := hw'.resolve_left (by simp [pureOp, ho]); simp only [execOp, ho]; exact lift (hv w' hw'), hd⟩
    · cases h
  · rename_i t parts ho
    split at h
    · rename_i ps hps
      obtain ⟨v, hv, hd⟩ := pureBuild_sound (P := P) h (partsSV_den he hf _ _ hps)
      refine ⟨v, fun w' _ => ?_, hd⟩
      simp only [execOp, ho]
      refine lift ?_
      rw [← hv w', ← arrMap]
    · cases h
  · rename_i x ho
    split at h
    · rename_i i oo h1
      simp only [Option.some.injEq, Prod.mk.injEq] at h
      obtain ⟨rfl, rfl⟩ := h
      have d1 := opnd_den he hf h1
      refine ⟨_, fun w' _ => ?_, d1⟩
      simp only [SV.den] at d1
      simp [execOp, ho, d1]
    · rename_i cs oo h1
      simp only [Option.some.injEq, Prod.mk.injEq] at h
      obtain ⟨rfl, rfl⟩ := h
      have d1 := opnd_den he hf h1
      refine ⟨_, fun w' _ => ?_, d1⟩
      simp only [SV.den] at d1
      obtain ⟨base, e, _⟩ := d1
      simp [execOp, ho, e]
    · rename_i i j k oo h1
      simp only [Option.some.injEq, Prod.mk.injEq] at h
      obtain ⟨rfl, rfl⟩ := h
      have d1 := opnd_den he hf h1
      refine ⟨_, fun w' _ => ?_, d1⟩
      simp only [SV.den] at d1
      simp [execOp, ho, d1]
    · rename_i f fa fb h1
      simp only [Option.some.injEq, Prod.mk.injEq] at h
      obtain ⟨rfl, rfl⟩ := h
      have d1 := opnd_den he hf h1
      refine ⟨_, fun w' _ => ?_, d1⟩
      simp only [SV.den] at d1
      obtain ⟨vs, us, e, _⟩ := d1
      simp [execOp, ho, e]
    · cases h
  · rename_i f first cap ho
    split at h
    · rename_i fa fb h1 h2
      simp only [Option.some.injEq, Prod.mk.injEq] at h
      obtain ⟨rfl, rfl⟩ := h
      refine ⟨.func (.func f) (first.map a.eval) (cap.map a.eval), fun w' _ => ?_, ?_⟩
      · simp only [execOp, ho]
        exact lift rfl
      · simp only [SV.den]
        exact ⟨first.toList.map a.eval, cap.toList.map a.eval, by rw [arrMap, arrMap], opnds_den he hf _ _ h1, opnds_den he hf _ _ h2⟩
    · cases h
  · rename_i cl ho
    unfold lenCall at h
    split at h
    · rename_i b hcal
      split at h
      · rename_i l hl
        have dl := opnds_den he hf _ _ hl
        have hargs := arrMap a.eval cl.args
        obtain ⟨consts, hex⟩ : ∃ consts, ∀ w, (execOp a.eval o).run P w = (builtin b cl.argTypes o.type consts (cl.args.map a.eval)).run P w :=
          ⟨_, fun w => by simp only [execOp, ho, resolve, hcal, Sem.run_bind, Sem.run_pure, Result.andThen_ok, invoke]; rfl⟩
        simp only [hex, hargs]
        generalize cl.args.toList.map a.eval = vs at dl
        split at h
        · rename_i _ _ _ i t ht
          split at h
          · rename_i ty0 ty l0 e0 hi hu
            simp only [Option.some.injEq, Prod.mk.injEq] at h
            obtain ⟨rfl, rfl⟩ := h
            simp only [SV.denL, SV.den] at dl
            obtain ⟨v, r, rfl, rfl, rfl⟩ := dl
            obtain ⟨A, cap, r3⟩ := ra_any (hw.ent i _ hi)
            have ht' : cl.argTypes[0]? = some t := by rw [← Array.getElem?_toList, ht]; rfl
            refine ⟨.int .i64 (l0.length : Int), fun w' _ => ?_, by simp [SV.den, Den]⟩
            simp only [builtin]
            exact lift (by simp [Builtin.len_, ht', run_underlying hu, r3, goInt])
          · cases h
        · rename_i _ _ _ i nn t ht
          split at h
          · rename_i e0 hu
            simp only [Option.some.injEq, Prod.mk.injEq] at h
            obtain ⟨rfl, rfl⟩ := h
            simp only [SV.denL, SV.den] at dl
            obtain ⟨v, r, rfl, rfl, rfl⟩ := dl
            have ht' : cl.argTypes[0]? = some t := by rw [← Array.getElem?_toList, ht]; rfl
            refine ⟨.int .i64 (nn : Int), fun w' _ => ?_, by simp [SV.den, Den]⟩
            simp only [builtin]
            exact lift (by simp [Builtin.len_, ht', run_underlying hu, goInt])
          · cases h
        · rename_i _ _ _ s0 t hna hna2 ht
          simp only [SV.denL] at dl
          obtain ⟨v, r, rfl, hv, rfl⟩ := dl
          have ht' : cl.argTypes[0]? = some t := by rw [← Array.getElem?_toList, ht]; rfl
          obtain ⟨u, hu, hd⟩ := pureLen_sound (P := P) (ty := o.type) ht' h (res_den hw hv)
          exact ⟨u, fun w' _ => by simp only [builtin]; exact lift (hu w'), hd⟩
        · obtain ⟨u, hu, hd⟩ := pureMin_sound (P := P) (ts := cl.argTypes) (ty := o.type) h dl
          exact ⟨u, fun w' _ => by simp only [builtin]; exact lift (hu w'), hd⟩
        · obtain ⟨u, hu, hd⟩ := pureMax_sound (P := P) (ts := cl.argTypes) (ty := o.type) h dl
          exact ⟨u, fun w' _ => by simp only [builtin]; exact lift (hu w'), hd⟩
        · cases h
      · cases h
    · cases h
  · cases h

end Go.Proofs.YteiickhgmmjcmaaGreatDoor.Sx
