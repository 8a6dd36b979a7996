/-
  Slices of strings and of lists, structs' fields, structs and arrays that are built.
-/
import Derived.Test.YteiickhgmmjcmaaGreatDoorSxB
set_option linter.unusedVariables false
set_option linter.unusedSimpArgs false
namespace Go.Proofs.YteiickhgmmjcmaaGreatDoor.Sx
open Go

/-- A bound: none, or a number. -/
def bnd : Option SV → Option (Option Int)
  | none => some none
  | some (.val (.int _) i) => some (some i)
  | _ => none
def loOk : Option Int → Int → Prop
  | none, _ => True
  | some l, h => 0 ≤ l ∧ l ≤ h
def cut {α : Type} (l : List α) (lo hi : Option Int) : List α :=
  match lo, hi with
  | none, none => l
  | some a, none => l.drop a.toNat
  | none, some b => l.take b.toNat
  | some a, some b => (l.take b.toNat).drop a.toNat

def pureSlice (P : Program) (t : TypeId) (sx : SV) (lo hi mx : Option SV) : Ans :=
  match bnd lo, bnd hi, bnd mx with
  | some a, some b, some m =>
    match sx with
    | .val .str s =>
      match P.underlying t, m with
      | some .string, none => some (some (loOk b (s.length : Int) ∧ loOk a (b.getD (s.length : Int))), .val .str (cut s a b))
      | _, _ => none
    | _ =>
      match listOf sx, P.underlying t with
      | some ⟨ty, l⟩, some (.slice e) =>
        match P.info? e with
        | some inf =>
          if inf.size = ty.cells then
            match m, b with
            | none, _ => some (some (loOk b (l.length : Int) ∧ loOk a (b.getD (l.length : Int))), .val (.list ty) (cut l a b))
            | some m, some h => some (some (loOk (some h) (l.length : Int) ∧ loOk a h ∧ m = h), .fix ty (cut l a b))
            | _, _ => none
          else none
        | none => none
      | _, _ => none
  | _, _, _ => none

theorem extract_mk (s : Str) (a b : Nat) : (⟨s.toArray⟩ : ByteArray).extract a b = ⟨((s.take b).drop a).toArray⟩ := by
  apply ByteArray.ext
  rw [ByteArray.data_extract]
  apply Array.ext'
  simp [List.extract_eq_take_drop, List.drop_take]

theorem bnd_den {σ : Mem} {ρ : Rho} {s : Option SV} {v : Option Value} (h : match s, v with | none, none => True | some s, some v => s.den σ ρ v | _, _ => False) {x : Option Int} (hb : bnd s = some x) :
    (x = none ∧ v = none) ∨ ∃ k i, x = some i ∧ v = some (.int k i) := by
  unfold bnd at hb
  split at hb
  · cases v with
    | none => exact .inl ⟨(Option.some.inj hb).symm, rfl⟩
    | some v => exact h.elim
  · rename_i k i
    cases v with
    | none => exact h.elim
    | some v =>
      simp only [SV.den, Den, List.cons.injEq, and_true] at h
      subst h
      exact .inr ⟨k, i, (Option.some.inj hb).symm, rfl⟩
  · cases hb

theorem bound_run {P : Program} {w : World} {k : IntKind} {i : Int} {y : Nat} {code : BoundsCode} (h0 : 0 ≤ i) (h1 : i ≤ (y : Int)) : (Instr.sliceBound (.int k i) y code).run P w = .ok i.toNat w := by
  simp only [Instr.sliceBound, asIntOf, Sem.run_bind, Sem.run_pure, Result.andThen_ok]
  rw [if_pos ⟨h0, h1⟩]
  rfl
/-- The bounds, run. -/
theorem bounds_run {P : Program} {w : World} (isS : Bool) (len cap : Nat) (hlc : len ≤ cap) {vl vh : Option Value} {a b : Option Int}
    (ha : (a = none ∧ vl = none) ∨ ∃ k i, a = some i ∧ vl = some (.int k i)) (hb : (b = none ∧ vh = none) ∨ ∃ k i, b = some i ∧ vh = some (.int k i))
    (h1 : loOk b (len : Int)) (h2 : loOk a (b.getD (len : Int))) :
    (Instr.sliceBounds isS len cap vl vh none).run P w = .ok ((a.getD 0).toNat, (b.getD (len : Int)).toNat, cap) w := by
  rcases ha with ⟨rfl, rfl⟩ | ⟨k, i, rfl, rfl⟩ <;> rcases hb with ⟨rfl, rfl⟩ | ⟨k', j, rfl, rfl⟩ <;> simp only [loOk, Option.getD_none, Option.getD_some] at h1 h2 <;>
    simp only [Instr.sliceBounds, Sem.run_bind, Sem.run_pure, Result.andThen_ok, Option.getD_none, Option.getD_some, Int.toNat_natCast]
  · rfl
  · rw [bound_run h1.1 (by omega)]; rfl
  · rw [bound_run h2.1 (by omega)]; rfl
  · rw [bound_run h1.1 (by omega)]
    simp only [Result.andThen_ok]
    rw [bound_run h2.1 (by omega)]; rfl
theorem bounds3_run {P : Program} {w : World} (len cap : Nat) (hlc : len ≤ cap) {vl : Option Value} {a : Option Int} {k k' : IntKind} {h m : Int}
    (ha : (a = none ∧ vl = none) ∨ ∃ k i, a = some i ∧ vl = some (.int k i)) (h1 : loOk (some h) (len : Int)) (h2 : loOk a h) (hm : m = h) :
    (Instr.sliceBounds true len cap vl (some (.int k h)) (some (.int k' m))).run P w = .ok ((a.getD 0).toNat, h.toNat, h.toNat) w := by
  subst hm
  simp only [loOk] at h1
  rcases ha with ⟨rfl, rfl⟩ | ⟨k, i, rfl, rfl⟩ <;> simp only [loOk] at h2 <;>
    simp only [Instr.sliceBounds, Sem.run_bind, Sem.run_pure, Result.andThen_ok, Option.getD_none, Option.getD_some]
  · rw [bound_run h1.1 (by omega)]
    simp only [Result.andThen_ok]
    rw [bound_run h1.1 (by omega)]; rfl
  · rw [bound_run h1.1 (by omega)]
    simp only [Result.andThen_ok]
    rw [bound_run h1.1 (by omega)]
    simp only [Result.andThen_ok]
    rw [bound_run h2.1 (by omega)]; rfl

theorem cut_eq {α : Type} (l : List α) (a b : Option Int) : cut l a b = (l.take (b.getD (l.length : Int)).toNat).drop (a.getD 0).toNat := by
  cases a <;> cases b <;> simp [cut]

theorem cut_den {σ : Mem} {t : Ty} {l : List t.D} {A : Option Addr} {n c m x y : Nat} (hd : Den σ (.list t) l [.slice A n c]) (hx : x ≤ y) (hy : y ≤ n) (hm : y ≤ m) (hmc : m ≤ c) :
    Den σ (.list t) ((l.take y).drop x) [.slice (if m = x then A else A.map (·.add (x * t.cells))) (y - x) (m - x)] := by
  obtain ⟨A', n', c', hv, hn, hc, hmax, hcells⟩ := hd
  simp only [List.cons.injEq, Value.slice.injEq, and_true] at hv
  obtain ⟨rfl, rfl, rfl⟩ := hv
  refine ⟨_, _, _, rfl, by simp; omega, by omega, by omega, fun h0 => ?_⟩
  obtain ⟨ad, rfl, hcl⟩ := hcells (by omega)
  rw [if_neg (by omega)]
  refine ⟨ad.add (x * t.cells), rfl, fun i z hz => ?_⟩
  rw [List.getElem?_drop] at hz
  have hz' : l[x + i]? = some z := by
    rw [List.getElem?_take] at hz
    split at hz
    · exact hz
    · cases hz
  obtain ⟨cx, h1, h2⟩ := hcl (x + i) z hz'
  refine ⟨cx, h1, fun p v hp => ?_⟩
  rw [Addr.add_add', show x * t.cells + (i * t.cells + p) = (x + i) * t.cells + p by rw [Nat.add_mul]; omega]
  exact h2 p v hp

theorem listOf_sl {s : SV} {t : Ty} {l : List t.D} (h : listOf s = some ⟨t, l⟩) : ∀ x, s ≠ .val .str x := by
  intro x e
  subst e
  simp [listOf] at h

theorem sliceAt_slice {P : Program} {w : World} {t e : TypeId} (h : P.underlying t = some (.slice e)) (x : Value) (l hh m : Option Value) : (Instr.sliceAt t x l hh m).run P w = (Instr.slice t x l hh m).run P w := by
  simp [Instr.sliceAt, run_underlying h]
theorem sliceAt_string {P : Program} {w : World} {t : TypeId} (h : P.underlying t = some .string) (x : Value) (l hh m : Option Value) : (Instr.sliceAt t x l hh m).run P w = (Instr.slice t x l hh m).run P w := by
  simp [Instr.sliceAt, run_underlying h]

abbrev OptDen (σ : Mem) (ρ : Rho) (s : Option SV) (v : Option Value) : Prop := match s, v with | none, none => True | some s, some v => s.den σ ρ v | _, _ => False

theorem pureSlice_sound {P : Program} {σ : Mem} {ρ : Rho} {t : TypeId} {sx s : SV} {lo hi mx : Option SV} {c : Option Prop} {vx : Value} {vl vh vm : Option Value}
    (h : pureSlice P t sx lo hi mx = some (c, s)) (hc : holds c) (hx : sx.den σ ρ vx) (hl : OptDen σ ρ lo vl) (hh : OptDen σ ρ hi vh) (hm : OptDen σ ρ mx vm) :
    ∃ v, (∀ w, (Instr.sliceAt t vx vl vh vm).run P w = .ok v w) ∧ s.den σ ρ v := by
  unfold pureSlice at h
  split at h
  · rename_i a b m ea eb em
    have da := bnd_den hl ea
    have db := bnd_den hh eb
    have dm := bnd_den hm em
    split at h
    · rename_i s0
      simp only [SV.den, Den, List.cons.injEq, and_true] at hx
      subst hx
      split at h
      · rename_i hu
        simp only [Option.some.injEq, Prod.mk.injEq] at h
        obtain ⟨rfl, rfl⟩ := h
        simp only [holds] at hc
        rcases dm with ⟨_, rfl⟩ | ⟨k, i, hf, _⟩
        · have hb := fun (w : World) => bounds_run (P := P) (w := w) false s0.length s0.length (Nat.le_refl _) da db hc.1 hc.2
          refine ⟨strV (cut s0 a b), fun w => ?_, by simp [SV.den, Den]⟩
          rw [sliceAt_string hu]
          simp only [Instr.slice, Sem.run_bind, run_underlying hu, Result.andThen_ok, strV, size_mk]
          simp only [Option.isSome_none, Bool.false_eq_true, if_false, Sem.run_bind, hb, Result.andThen_ok, extract_mk, cut_eq, Sem.run_pure]
        · cases hf
      · cases h
    · split at h
      · rename_i ty l e hlo hu
        have hd := listOf_den hlo hx
        obtain ⟨A, n, cc, hv, hn, hcc, hmax, hcells⟩ := id hd
        simp only [List.cons.injEq, and_true] at hv
        subst hv
        subst hn
        split at h
        · rename_i inf hinf
          split at h
          · rename_i hsz
            split at h
            · simp only [Option.some.injEq, Prod.mk.injEq] at h
              obtain ⟨rfl, rfl⟩ := h
              simp only [holds] at hc
              rcases dm with ⟨_, rfl⟩ | ⟨k, i, hf, _⟩
              · have hb := fun (w : World) => bounds_run (P := P) (w := w) true l.length cc hcc da db hc.1 hc.2
                have hxy : (a.getD 0).toNat ≤ (b.getD (l.length : Int)).toNat := by
                  cases a <;> simp only [loOk, Option.getD_none, Option.getD_some] at hc ⊢ <;> omega
                have hyn : (b.getD (l.length : Int)).toNat ≤ l.length := by
                  cases b <;> simp only [loOk, Option.getD_none, Option.getD_some] at hc ⊢ <;> omega
                refine ⟨.slice (if cc = (a.getD 0).toNat then A else A.map (·.add ((a.getD 0).toNat * ty.cells))) ((b.getD (l.length : Int)).toNat - (a.getD 0).toNat) (cc - (a.getD 0).toNat), fun w => ?_, ?_⟩
                · rw [sliceAt_slice hu]
                  simp only [Instr.slice, Sem.run_bind, run_underlying hu, Result.andThen_ok, hb, sizeOf_run hinf, Sem.run_pure, hsz]
                · simp only [SV.den, cut_eq]
                  exact cut_den hd hxy hyn (by omega) (Nat.le_refl _)
              · cases hf
            · rename_i m' h'
              simp only [Option.some.injEq, Prod.mk.injEq] at h
              obtain ⟨rfl, rfl⟩ := h
              simp only [holds] at hc
              obtain ⟨hc1, hc2, hc3⟩ := hc
              rcases dm with ⟨hf, _⟩ | ⟨km, im, hm1, rfl⟩
              · cases hf
              · obtain rfl := Option.some.inj hm1
                rcases db with ⟨hf, _⟩ | ⟨kb, ib, hb1, rfl⟩
                · cases hf
                · obtain rfl := Option.some.inj hb1
                  have hb := fun (w : World) => bounds3_run (P := P) (w := w) (k := kb) (k' := km) l.length cc hcc da hc1 hc2 hc3
                  have hxy : (a.getD 0).toNat ≤ h'.toNat := by
                    cases a <;> simp only [loOk, Option.getD_none, Option.getD_some] at hc2 ⊢ <;> omega
                  have hyn : h'.toNat ≤ l.length := by simp only [loOk] at hc1; omega
                  refine ⟨.slice (if h'.toNat = (a.getD 0).toNat then A else A.map (·.add ((a.getD 0).toNat * ty.cells))) (h'.toNat - (a.getD 0).toNat) (h'.toNat - (a.getD 0).toNat), fun w => ?_, ?_⟩
                  · rw [sliceAt_slice hu]
                    simp only [Instr.slice, Sem.run_bind, run_underlying hu, Result.andThen_ok, hb, sizeOf_run hinf, Sem.run_pure, hsz]
                  · simp only [SV.den, cut_eq, Option.getD_some]
                    exact ⟨cut_den hd hxy hyn (Nat.le_refl _) (by omega), _, _, rfl⟩
            · cases h
          · cases h
        · cases h
      · cases h
  · cases h

/-! ### Fields, structs, arrays -/
/-- A field: where it begins, how many cells, whether it is a struct or an array. -/
def fieldInfo (P : Program) (t : TypeId) (f : Nat) : Option (Nat × Nat × Bool) :=
  match P.underlying t with
  | some (.struct fs) => match fs[f]? with
    | some fl => match P.info? fl.type, P.underlying fl.type with
      | some inf, some d => some (fl.offset, inf.size, aggD d)
      | _, _ => none
    | none => none
  | _ => none
def pureField (P : Program) (t : TypeId) (f : Nat) : SV → Ans
  | .agg cs => match fieldInfo P t f with
    | some (o, n, true) => some (none, .agg ((cs.drop o).take n))
    | some (o, _, false) => match cs[o]? with | some s => some (none, s) | none => none
    | none => none
  | _ => none
theorem denL_drop {σ : Mem} {ρ : Rho} : ∀ (o : Nat) (l : List SV) (vs : List Value), SV.denL σ ρ l vs → SV.denL σ ρ (l.drop o) (vs.drop o)
  | 0, l, vs, h => by simpa using h
  | o + 1, [], vs, h => by simp only [SV.denL] at h; subst h; simp [SV.denL]
  | o + 1, s :: l, vs, h => by
    simp only [SV.denL] at h
    obtain ⟨v, r, rfl, _, hr⟩ := h
    simpa using denL_drop o l r hr
theorem denL_take {σ : Mem} {ρ : Rho} : ∀ (o : Nat) (l : List SV) (vs : List Value), SV.denL σ ρ l vs → SV.denL σ ρ (l.take o) (vs.take o)
  | 0, l, vs, h => by simp [SV.denL]
  | o + 1, [], vs, h => by simp only [SV.denL] at h; subst h; simp [SV.denL]
  | o + 1, s :: l, vs, h => by
    simp only [SV.denL] at h
    obtain ⟨v, r, rfl, hv, hr⟩ := h
    exact ⟨v, r.take o, rfl, hv, denL_take o l r hr⟩
theorem pureField_sound {P : Program} {σ : Mem} {ρ : Rho} {t : TypeId} {f : Nat} {sx s : SV} {c : Option Prop} {vx : Value}
    (h : pureField P t f sx = some (c, s)) (hx : sx.den σ ρ vx) : ∃ v, (∀ w, (Instr.field t vx f).run P w = .ok v w) ∧ s.den σ ρ v := by
  unfold pureField at h
  split at h
  · rename_i cs
    simp only [SV.den] at hx
    obtain ⟨vs, rfl, hvs⟩ := hx
    split at h
    · rename_i o n hf
      simp only [Option.some.injEq, Prod.mk.injEq] at h
      obtain ⟨rfl, rfl⟩ := h
      unfold fieldInfo at hf
      split at hf
      · rename_i fs hu
        split at hf
        · rename_i fl hfl
          split at hf
          · rename_i inf d hinf hd
            simp only [Option.some.injEq, Prod.mk.injEq] at hf
            obtain ⟨rfl, rfl, hag⟩ := hf
            refine ⟨.agg ((vs.drop fl.offset).take inf.size).toArray, fun w => ?_, ?_⟩
            · simp only [Instr.field, Sem.run_bind, run_underlying hu, Result.andThen_ok, hfl, asAgg, Sem.run_pure, part, isAgg_run hd]
              rw [hag]
              simp [sizeOf_run hinf, List.extract_eq_take_drop]
            · simp only [SV.den]
              exact ⟨_, rfl, denL_take _ _ _ (denL_drop _ _ _ hvs)⟩
          · cases hf
        · cases hf
      · cases hf
    · rename_i o n hf
      split at h
      · rename_i s' hs'
        simp only [Option.some.injEq, Prod.mk.injEq] at h
        obtain ⟨rfl, rfl⟩ := h
        unfold fieldInfo at hf
        split at hf
        · rename_i fs hu
          split at hf
          · rename_i fl hfl
            split at hf
            · rename_i inf d hinf hd
              simp only [Option.some.injEq, Prod.mk.injEq] at hf
              obtain ⟨rfl, rfl, hag⟩ := hf
              obtain ⟨v, hv, hsv⟩ := denL_get cs vs hvs _ _ hs'
              refine ⟨v, fun w => ?_, hsv⟩
              simp only [Instr.field, Sem.run_bind, run_underlying hu, Result.andThen_ok, hfl, asAgg, Sem.run_pure, part, isAgg_run hd]
              rw [hag]
              simp [hv]
            · cases hf
          · cases hf
        · cases hf
      · cases h
    · cases h
  · cases h

end Go.Proofs.YteiickhgmmjcmaaGreatDoor.Sx
