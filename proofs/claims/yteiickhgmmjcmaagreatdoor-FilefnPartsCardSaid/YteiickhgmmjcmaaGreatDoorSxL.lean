/-
  Appending to a slice.
-/
import Derived.Test.YteiickhgmmjcmaaGreatDoorSxK
import Derived.ArgAppend
set_option linter.unusedVariables false
set_option linter.unusedSimpArgs false
namespace Go.Proofs.YteiickhgmmjcmaaGreatDoor.Sx
open Go Go.RowKit

/-- What an append yields: a row of its own, where the old one lay or in a new block. -/
def AppRun (P : Program) (e : TypeId) (size : Nat) (s : Sem Value) (w : World) (v : Value) (n : Nat) (xs : List Value) : Prop :=
  ∃ v' w', s.run P w = .ok v' w' ∧ w'.ownsRow 0 e size v' n xs ∧ ((w.grownBy w' v.ownBlock ∧ v'.ownBlock = v.ownBlock) ∨ (w.grownBy w' none ∧ ∀ g, v'.ownBlock = some g → w.heap.size ≤ g))

theorem ownsRow_base {w : World} {base : Nat} {e : TypeId} {size : Nat} {v : Value} {n : Nat} {xs : List Value} (h : w.ownsRow base e size v n xs) : w.ownsRow 0 e size v n xs := by
  refine ⟨h.1, ?_⟩
  rcases h.2 with h2 | ⟨g, cap, cur, hv, _, r⟩
  · exact .inl h2
  · exact .inr ⟨g, cap, cur, hv, Nat.zero_le _, r⟩
theorem grownBy_none {w w' : World} {row : Option Nat} (h : w.grownBy w' none) : w.grownBy w' row :=
  ⟨h.os, h.tape, h.output, h.size, fun k hk _ => h.block k hk (by simp)⟩

section
variable {P : Program} {w : World} {t ty e : TypeId} {i : TypeInfo} {z : Value} {size bytes : Nat}

theorem appRun_own (ht : P.underlying t = some (.slice e)) (hi : P.info? e = some i) (hz : i.zero = some z)
    (hsize : i.size = size) (hby : i.bytes = bytes) (hzs : z.cells.size = size) (hsz : 0 < size)
    (v : Value) (n : Nat) (xs : List Value) (hown : w.ownsRow 0 e size v n xs)
    (a : Addr) (m c : Nat) (news : List Value) (hl : news.length = m * size) (hnews : ∀ j u, news[j]? = some u → w.cell? (a.add j) = some u) (h1 : ∀ u ∈ news, u.oneCell' = true)
    (h63 : n + m ≤ maxLen) (hbytes : (n + m) * bytes ≤ 140737488355328) :
    AppRun P e size (Builtin.append_ #[t, t] ty #[v, .slice (some a) m c]) w v (n + m) (xs ++ news) := by
  rcases id hown.2 with ⟨rfl, rfl⟩ | ⟨g, cap, cur, rfl, hbg, hg, hnc, hcm, hcs, htake⟩
  · have hx : xs = [] := List.eq_nil_of_length_eq_zero (by simpa using hown.1)
    subst hx
    obtain ⟨v', w', r1, r2, r3, _⟩ := run_append_own (P := P) w w.heap.size t ty e i z size bytes ht hi hz hsize hby hzs hsz (.slice none 0 0) 0 [] (World.ownsRow_nil w _ e size) a m c news hl hnews h1 h63 hbytes (Nat.le_refl _)
    exact ⟨v', w', r1, ownsRow_base r2, .inr ⟨r3, fun g hg => (r2.lt g hg).1⟩⟩
  · by_cases hroom : n + m ≤ cap
    · subst hsize
      have hlen : (xs ++ news).length = (n + m) * i.size := by rw [List.length_append, hown.1, hl, Nat.add_mul]
      have hfit : n * i.size + news.length ≤ cur.size := by rw [hl, hcs, ← Nat.add_mul]; exact Nat.mul_le_mul_right _ hroom
      have hr := run_append_room (P := P) w t ty e i ht hi g n cap cur hg a m c news hl hnews h1 hroom hfit
      refine ⟨_, _, hr, ⟨hlen, .inr ⟨g, cap, _, rfl, hbg, setRow_heap w g cur _ e _ hg, hroom, hcm, ?_, ?_⟩⟩, .inl ⟨⟨rfl, rfl, rfl, by simp, fun k _ hk => setRow_other w g k _ (fun e => hk (by simp [Value.ownBlock, e]))⟩, rfl⟩⟩
      · simp only [List.size_toArray, List.length_append, List.length_take, List.length_drop, Array.length_toList]
        omega
      · rw [htake, ← hlen]
        exact List.take_left
    · have holds : ∀ j u, xs[j]? = some u → w.cell? ((⟨g, 0, none⟩ : Addr).add j) = some u := hown.cells (g := g) rfl
      obtain ⟨v', w', r1, r2, r3⟩ := run_append_arg_grows (P := P) w t ty e i z size bytes ht hi hz hsize hby hzs hsz ⟨g, 0, none⟩ n cap xs hown.1 holds a m c news hl hnews (by omega) h63 hbytes
      exact ⟨v', w', r1, ownsRow_base r2, .inr ⟨r3, fun g hg => (r2.lt g hg).1⟩⟩

theorem appRun_string (u : TypeId) (ht : P.underlying t = some (.slice e)) (hu : P.underlying u = some .string) (hi : P.info? e = some i) (hz : i.zero = some (.int .u8 0))
    (hsize : i.size = 1) (hby : i.bytes = 1) (v : Value) (n : Nat) (xs : List Value) (hown : w.ownsRow 0 e 1 v n xs) (s : ByteArray)
    (h63 : n + s.size ≤ maxLen) (hbytes : n + s.size ≤ 140737488355328) :
    AppRun P e 1 (Builtin.append_ #[t, u] ty #[v, .string s]) w v (n + s.size) (xs ++ Lib.strCells s) := by
  have hxl : xs.length = n := by simpa using hown.1
  have hlen : (xs ++ Lib.strCells s).length = (n + s.size) * 1 := by rw [List.length_append, hxl, Lib.strCells_length, Nat.mul_one]
  rcases id hown.2 with ⟨rfl, rfl⟩ | ⟨g, cap, cur, rfl, hbg, hg, hnc, hcm, hcs, htake⟩
  · have hx : xs = [] := List.eq_nil_of_length_eq_zero hxl
    subst hx
    obtain ⟨v', w', r1, r2, r3, _⟩ := Lib.run_append_own_string (P := P) w w.heap.size t u ty e i ht hu hi hz hsize hby (.slice none 0 0) 0 [] (World.ownsRow_nil w _ e 1) s h63 hbytes (Nat.le_refl _)
    exact ⟨v', w', r1, ownsRow_base r2, .inr ⟨r3, fun g hg => (r2.lt g hg).1⟩⟩
  · by_cases hroom : n + s.size ≤ cap
    · have hcs' : cur.size = cap := by simpa using hcs
      have hr := Lib.run_append_room_string (P := P) w t u ty e i ht hu hi hsize g n cap cur hg s hroom (by omega)
      refine ⟨_, _, hr, ⟨hlen, .inr ⟨g, cap, _, rfl, hbg, setRow_heap w g cur _ e _ hg, hroom, hcm, ?_, ?_⟩⟩, .inl ⟨⟨rfl, rfl, rfl, by simp, fun k _ hk => setRow_other w g k _ (fun e => hk (by simp [Value.ownBlock, e]))⟩, rfl⟩⟩
      · simp only [List.size_toArray, List.length_append, List.length_take, List.length_drop, Array.length_toList, Lib.strCells_length]
        omega
      · have ht' : cur.toList.take n = xs := by simpa using htake
        rw [ht', ← hlen]
        exact List.take_left
    · have holds : ∀ j u, xs[j]? = some u → w.cell? ((⟨g, 0, none⟩ : Addr).add j) = some u := hown.cells (g := g) rfl
      have hr := Lib.run_append_grow_string (P := P) (ty := ty) w t u e i (.int .u8 0) ht hu hi hz ⟨g, 0, none⟩ n cap xs (by rw [hsize]; simpa using hxl) holds s (by omega) (by simp only [maxLen] at h63; omega) (by rw [hby]; exact growslice_fits (by omega) (by omega))
      have hge := grownCap_ge w (n + s.size) cap e
      refine ⟨_, _, hr, ⟨hlen, .inr ⟨w.heap.size, _, _, rfl, Nat.zero_le _, heap_alloc_new w.drew _, hge, grownCap_le_maxLen w _ cap e h63, ?_, ?_⟩⟩, .inr ⟨⟨rfl, rfl, rfl, by simp, fun k hk _ => Below.heap_alloc w.drew _ k hk⟩, fun g hg => ?_⟩⟩
      · have hz1 : (Value.int IntKind.u8 0).cells.size = 1 := rfl
        simp only [Array.size_append, List.size_toArray, size_zeroCells, hz1, hxl, Lib.strCells_length]
        omega
      · simp only [Array.toList_append, List.append_assoc]
        rw [← List.append_assoc, ← hlen]
        exact List.take_left
      · simp only [Value.ownBlock, Option.some.injEq] at hg
        omega

/-- Onto a list that never turns, with no room behind it. -/
theorem appRun_fix (ht : P.underlying t = some (.slice e)) (hi : P.info? e = some i) (hz : i.zero = some z)
    (hsize : i.size = size) (hby : i.bytes = bytes) (hzs : z.cells.size = size) (hsz : 0 < size)
    (A : Option Addr) (n : Nat) (olds : List Value) (hlo : olds.length = n * size) (holds : 0 < n → ∃ ad, A = some ad ∧ ∀ j u, olds[j]? = some u → w.cell? (ad.add j) = some u)
    (a : Addr) (m c : Nat) (news : List Value) (hl : news.length = m * size) (hnews : ∀ j u, news[j]? = some u → w.cell? (a.add j) = some u) (h1 : ∀ u ∈ news, u.oneCell' = true)
    (hm : 0 < m) (h63 : n + m ≤ maxLen) (hbytes : (n + m) * bytes ≤ 140737488355328) :
    AppRun P e size (Builtin.append_ #[t, t] ty #[.slice A n n, .slice (some a) m c]) w (.slice none 0 0) (n + m) (olds ++ news) := by
  cases A with
  | none =>
    have hn : n = 0 := by
      rcases Nat.eq_zero_or_pos n with h | h
      · exact h
      · obtain ⟨_, e, _⟩ := holds h; cases e
    subst hn
    have hx : olds = [] := List.eq_nil_of_length_eq_zero (by simpa using hlo)
    subst hx
    exact appRun_own ht hi hz hsize hby hzs hsz (.slice none 0 0) 0 [] (World.ownsRow_nil w _ e size) a m c news hl hnews h1 h63 hbytes
  | some b =>
    obtain ⟨v', w', r1, r2, r3⟩ := run_append_arg_grows (P := P) w t ty e i z size bytes ht hi hz hsize hby hzs hsz b n n olds hlo (fun j u hj => by
      rcases Nat.eq_zero_or_pos n with h | h
      · have : olds = [] := List.eq_nil_of_length_eq_zero (by rw [hlo, h]; simp)
        rw [this] at hj; simp at hj
      · obtain ⟨ad, e, hh⟩ := holds h
        obtain rfl := Option.some.inj e
        exact hh j u hj) a m c news hl hnews (by omega) h63 hbytes
    exact ⟨v', w', r1, ownsRow_base r2, .inr ⟨r3, fun g hg => (r2.lt g hg).1⟩⟩
end

def locOf : Value → Loc
  | .slice (some a) n c => ⟨a.block, some a, n, c, []⟩
  | .slice none n c => ⟨0, none, n, c, []⟩
  | _ => ⟨0, none, 0, 0, []⟩
theorem locOf_sl {w : World} {base : Nat} {e : TypeId} {size : Nat} {v : Value} {n : Nat} {xs : List Value} (h : w.ownsRow base e size v n xs) : (locOf v).sl = v := by
  rcases h.2 with ⟨rfl, _⟩ | ⟨g, cap, cur, rfl, _⟩ <;> rfl

/-- Memory that never turns, a row's cells more. -/
def rowM (σ : Mem) (v : Value) (xs : List Value) : Mem := fun a => match v.ownBlock with | some g => sealM σ g xs a | none => σ a

theorem spot_none {w : World} {a : Addr} {u : Value} (hc : w.cell? a = some u) : a.spot = none := by
  unfold World.cell? at hc
  split at hc
  · split at hc
    · cases hc
    · rename_i hs; simpa using hs
  · cases hc

section
variable {σ : Mem} {w w' : World} {e : TypeId} {t : Ty} {l m : List t.D} {xs news : List Value} {v v' : Value}
theorem row_after (hsub : ∀ a u, σ a = some u → w.cell? a = some u) (hx : Rows σ t l xs) (hm : Rows σ t m news)
    (own' : w'.ownsRow 0 e t.cells v' (l.length + m.length) (xs ++ news))
    (hold : ∀ g, v.ownBlock = some g → (∀ (j : Nat) u, xs[j]? = some u → σ ⟨g, j, none⟩ = some u) ∧ ∀ a u, σ a = some u → a.block = g → a.off < xs.length)
    (hv : (w.grownBy w' v.ownBlock ∧ v'.ownBlock = v.ownBlock) ∨ (w.grownBy w' none ∧ ∀ g, v'.ownBlock = some g → w.heap.size ≤ g)) :
    σ.le (rowM σ v' (xs ++ news)) ∧ (∀ a u, rowM σ v' (xs ++ news) a = some u → w'.cell? a = some u) ∧
    (∀ a u, rowM σ v' (xs ++ news) a = some u → (∃ u', σ a = some u') ∨ v.ownBlock = some a.block ∨ w.heap.size ≤ a.block) ∧
    ∀ (ρ : Rho) (i : Nat), (ρ i).sl = v' → Ent.rel (rowM σ v' (xs ++ news)) ρ w' i (.gs e t (l ++ m)) := by
  -- an old cell of the row
  have hat : ∀ a u, σ a = some u → v.ownBlock = some a.block → (xs ++ news)[a.off]? = some u ∧ a.spot = none := by
    intro a u ha hb
    obtain ⟨h1, h2⟩ := hold _ hb
    have hlt := h2 a u ha rfl
    have hspot := spot_none (hsub a u ha)
    refine ⟨?_, hspot⟩
    rw [List.getElem?_append_left hlt]
    have := h1 a.off _ (List.getElem?_eq_getElem hlt)
    obtain ⟨b, o, sp⟩ := a
    simp only at this hspot hlt ⊢
    subst hspot
    rw [ha] at this
    rw [List.getElem?_eq_getElem hlt, this]
  have hrow : ∀ g, v'.ownBlock = some g → ∀ (j : Nat) u, (xs ++ news)[j]? = some u → w'.cell? ⟨g, j, none⟩ = some u := by
    intro g hg j u hu
    have := own'.cells hg j u hu
    rwa [add_lit, Nat.zero_add] at this
  have hcell : ∀ a u, σ a = some u → w'.cell? a = some u := by
    intro a u ha
    have hc := hsub a u ha
    rcases hv with ⟨hg, hv⟩ | ⟨hg, hv⟩
    · by_cases hb : v.ownBlock = some a.block
      · obtain ⟨h1, h2⟩ := hat a u ha hb
        have := hrow _ (hv.trans hb) _ _ h1
        obtain ⟨b, o, sp⟩ := a
        simp only at this h2 ⊢
        subst h2
        exact this
      · exact hg.cell hc (fun e => hb e.symm)
    · exact hg.cell hc (by simp)
  have hle : σ.le (rowM σ v' (xs ++ news)) := by
    intro a u ha
    unfold rowM
    split
    · rename_i g hg
      simp only [sealM]
      split
      · rename_i hb
        rcases hv with ⟨_, hv⟩ | ⟨_, hv⟩
        · exact (hat a u ha (by rw [← hv, hg, hb.1])).1
        · have := hv g hg
          have := sub_lt hsub ha
          omega
      · exact ha
    · exact ha
  refine ⟨hle, ?_, ?_, ?_⟩
  · intro a u ha
    unfold rowM at ha
    split at ha
    · rename_i g hg
      simp only [sealM] at ha
      split at ha
      · rename_i hb
        have := hrow g hg _ _ ha
        obtain ⟨b, o, sp⟩ := a
        simp only at this hb ⊢
        rw [hb.1, hb.2]
        exact this
      · exact hcell a u ha
    · exact hcell a u ha
  · intro a u ha
    unfold rowM at ha
    split at ha
    · rename_i g hg
      simp only [sealM] at ha
      split at ha
      · rename_i hb
        rcases hv with ⟨_, hv⟩ | ⟨_, hv⟩
        · exact .inr (.inl (by rw [← hv, hg, hb.1]))
        · have := hv g hg
          exact .inr (.inr (by omega))
      · exact .inl ⟨u, ha⟩
    · exact .inl ⟨u, ha⟩
  · intro ρ i hρ
    refine ⟨xs ++ news, (hx.mono hle).append (hm.mono hle), by rw [hρ]; simpa using own', fun g hg => ?_⟩
    rw [hρ] at hg
    refine ⟨fun j u hu => ?_, fun a u ha hb => ?_⟩
    · unfold rowM
      rw [hg]
      exact (sealM_at j).trans hu
    · unfold rowM at ha
      rw [hg] at ha
      simp only [sealM] at ha
      split at ha
      · exact (List.getElem?_eq_some_iff.1 ha).1
      · rename_i hne
        have hsp := spot_none (hsub a u ha)
        exact absurd ⟨hb, hsp⟩ hne
end

/-! ### The operation -/
def castL (t' t : Ty) (l : List t'.D) : Option (List t.D) := if h : t' = t then some (h ▸ l) else none
theorem castL_eq {t' t : Ty} {l : List t'.D} {l' : List t.D} (h : castL t' t l = some l') : (⟨t', l⟩ : (t : Ty) × List t.D) = ⟨t, l'⟩ := by
  unfold castL at h
  split at h
  · rename_i ht
    subst ht
    obtain rfl := Option.some.inj h
    rfl
  · cases h
def strBytes (s : Str) : List Int := s.map (fun b => (b.toNat : Int))
/-- What is appended, and whether it is a string. -/
def newsOf (tab : List Ent) : SV → Option (Bool × (t : Ty) × List t.D)
  | .val .str s => some (true, ⟨.int .u8, strBytes s⟩)
  | .arr i => match tab[i]? with | some (.ra _ t l) => some (false, ⟨t, l⟩) | _ => none
  | x => match listOf (res tab x) with | some y => some (false, y) | none => none
structure AppInfo where
  e : TypeId
  size : Nat
  byte : Bool
def appInfo (P : Program) (t : TypeId) : Option AppInfo :=
  match P.underlying t with
  | some (.slice e) => match P.info? e with
    | some inf => match inf.zero with
      | some z => if z.cells.size = inf.size ∧ 0 < inf.size ∧ inf.bytes ≤ 128 then some ⟨e, inf.size, (match z with | .int .u8 0 => inf.size == 1 && inf.bytes == 1 | _ => false)⟩ else none
      | none => none
    | none => none
  | _ => none
theorem appInfo_spec {P : Program} {t : TypeId} {I : AppInfo} (h : appInfo P t = some I) :
    ∃ inf z, P.underlying t = some (.slice I.e) ∧ P.info? I.e = some inf ∧ inf.zero = some z ∧ inf.size = I.size ∧ z.cells.size = I.size ∧ 0 < I.size ∧ inf.bytes ≤ 128 ∧ (I.byte = true → z = .int .u8 0 ∧ I.size = 1 ∧ inf.bytes = 1) := by
  unfold appInfo at h
  split at h
  · rename_i e hu
    split at h
    · rename_i inf hi
      split at h
      · rename_i z hz
        split at h
        · rename_i hs
          obtain rfl := Option.some.inj h
          refine ⟨inf, z, hu, hi, hz, rfl, hs.1, hs.2.1, hs.2.2, fun hb => ?_⟩
          simp only at hb
          split at hb
          · simp only [Bool.and_eq_true, beq_iff_eq] at hb
            exact ⟨rfl, hb.1, hb.2⟩
          · cases hb
        · cases h
      · cases h
    · cases h
  · cases h

def isStrTy (P : Program) (u : TypeId) : Bool := match P.underlying u with | some .string => true | _ => false
theorem isStrTy_spec {P : Program} {u : TypeId} (h : isStrTy P u = true) : P.underlying u = some .string := by
  unfold isStrTy at h
  split at h
  · assumption
  · cases h
def strOk (P : Program) (isStr b : Bool) (u t : TypeId) : Bool := if isStr = true then isStrTy P u && b else u == t
abbrev bigN : Nat := 1099511627776
def addRow (env : Env) (tab : List Ent) (d : Nat) (e : TypeId) (ty : Ty) (l : List ty.D) : St :=
  ⟨put (cleanE (fun i => decide (i < tab.length)) env) d [] (.own tab.length), cleanT (fun i => decide (i < tab.length)) tab ++ [.gs e ty l]⟩
def turnRow (env : Env) (tab : List Ent) (d i : Nat) (e : TypeId) (ty : Ty) (l : List ty.D) : St :=
  ⟨put (cleanE (fun j => decide (j ≠ i)) env) d [] (.own i), (cleanT (fun j => decide (j ≠ i)) tab).set i (.gs e ty l)⟩
def turnRowM (env : Env) (tab : List Ent) (d i : Nat) (e : TypeId) (ty : Ty) (l : List ty.D) : St :=
  ⟨put (cleanE (fun j => decide (j ≠ i)) env) d [] (.arr i), (cleanT (fun j => decide (j ≠ i)) tab).set i (.ra e ty l)⟩
def addRowM (env : Env) (tab : List Ent) (d : Nat) (e : TypeId) (ty : Ty) (l : List ty.D) : St :=
  ⟨put (cleanE (fun i => decide (i < tab.length)) env) d [] (.arr tab.length), cleanT (fun i => decide (i < tab.length)) tab ++ [.ra e ty l]⟩
/-- A new row: read alone, or written in place. -/
def addRowG (b : Bool) (env : Env) (tab : List Ent) (d : Nat) (e : TypeId) (ty : Ty) (l : List ty.D) : St := bif b then addRowM env tab d e ty l else addRow env tab d e ty l
def effAppendG (inPl : Bool) (P : Program) (n : Nat) (env : Env) (tab : List Ent) (o : Oper) : Option (Option Prop × St) :=
  match o.guard, o.dst, o.op with
  | none, some d, .call c => match c.callee, c.args.toList, c.argTypes.toList with
    | .builtin .append, [s, x], [t, u] =>
      match opnd env [] s, opnd env [] x, appInfo P t with
      | some ss, some sx, some I =>
        match newsOf tab sx with
        | some (isStr, ⟨ty, m⟩) =>
          if ty.cells = I.size ∧ d < n ∧ strOk P isStr I.byte u t = true ∧ okPut env d = true then
            match ss with
            | .nils => some (some (m.length ≤ bigN), addRowG inPl env tab d I.e ty m)
            | .own i => match tab[i]? with
              | some (.gs e' ty' l) => match castL ty' ty l with
                | some l' => if e' = I.e then some (some (l'.length + m.length ≤ bigN), turnRow env tab d i I.e ty (l' ++ m)) else none
                | none => none
              | _ => none
            | .arr i => match tab[i]? with
              | some (.ra e' ty' l) => match castL ty' ty l with
                | some l' => if e' = I.e then some (some (l'.length + m.length ≤ bigN), turnRowM env tab d i I.e ty (l' ++ m)) else none
                | none => none
              | _ => none
            | .fix ty' l => if isStr = true then none else match castL ty' ty l with
              | some l' => some (some (0 < m.length ∧ l'.length + m.length ≤ bigN), addRowG inPl env tab d I.e ty (l' ++ m))
              | none => none
            | _ => none
          else none
        | none => none
      | _, _, _ => none
    | _, _, _ => none
  | _, _, _ => none

abbrev effAppend := effAppendG false
abbrev effAppendM := effAppendG true

theorem strBytes_rows {σ : Mem} (s : Str) : Rows σ (.int .u8) (strBytes s) (Lib.strCells ⟨s.toArray⟩) := by
  induction s with
  | nil => exact Rows.nil σ _
  | cons b s ih =>
    have h1 : Rows σ (.int .u8) [((b.toNat : Nat) : Int)] [Value.int .u8 b.toNat] := Rows.one rfl
    have := h1.append ih
    simpa [strBytes, Lib.strCells] using this

theorem addRow_sound {P : Program} {cx : Cx} {n d : Nat} {env : Env} {tab : List Ent} {a : Act} {w w' : World} {σ : Mem} {ρ : Rho} {e : TypeId} {ty : Ty} {l m : List ty.D} {xs news : List Value} {v' : Value}
    (hw : WR cx σ ρ tab w) (he : EnvA σ ρ env a) (hn : a.tmps.size = n) (hd : a.defers = cx.ds) (hdn : d < n) (hop : okPut env d = true)
    (hx : Rows σ ty l xs) (hm : Rows σ ty m news) (own' : w'.ownsRow 0 e ty.cells v' (l.length + m.length) (xs ++ news))
    (hv : (w.grownBy w' none ∧ v'.ownBlock = none) ∨ (w.grownBy w' none ∧ ∀ g, v'.ownBlock = some g → w.heap.size ≤ g)) :
    SRel cx n (addRow env tab d e ty (l ++ m)) (a.put (some d) v') w' := by
  obtain ⟨h1, h2, h3, h4⟩ := row_after (v := .slice none 0 0) hw.sub hx hm own' (fun g hg => by cases hg) hv
  have hg : w.grownBy w' none := by rcases hv with h | h <;> exact h.1
  have hρ : ∀ i, (decide (i < tab.length)) = true → upd ρ tab.length (locOf v') i = ρ i := upd_lt
  refine ⟨rowM σ v' (xs ++ news), upd ρ tab.length (locOf v'), ?_, ?_, by rw [put_size]; exact hn, by rw [put_defers]; exact hd⟩
  · refine hw.newEnt h1 h2 (fun b hb => hg.block b hb (by simp)) (fun a u ha => ?_) (h4 _ _ (by rw [upd_same]; exact locOf_sl own')) (fun b hb => ?_) hg.os hg.tape hg.output hg.size
    · rcases h3 a u ha with h | h | h
      · exact .inl h
      · cases h
      · exact .inr h
    · simp only [Ent.at_, upd_same, locOf_sl own'] at hb
      rcases hv with ⟨_, h⟩ | ⟨_, h⟩
      · rw [h] at hb; cases hb
      · exact h b hb
  · refine ((he.clean _ hρ).grow h1).put (okPut_clean hop) (by rw [hn]; exact hdn) rfl (fun _ => ?_) (fun h => absurd (fun p hp => by cases hp) h)
    simp only [SV.den, upd_same, locOf_sl own']

theorem addRowG_sound {P : Program} {cx : Cx} {n d : Nat} {env : Env} {tab : List Ent} {a : Act} {w w' : World} {σ : Mem} {ρ : Rho} {e : TypeId} {ty : Ty} {l m : List ty.D} {xs news : List Value} {v' : Value} (b : Bool)
    (hw : WR cx σ ρ tab w) (he : EnvA σ ρ env a) (hn : a.tmps.size = n) (hd : a.defers = cx.ds) (hdn : d < n) (hop : okPut env d = true)
    (hx : Rows σ ty l xs) (hm : Rows σ ty m news) (own' : w'.ownsRow 0 e ty.cells v' (l.length + m.length) (xs ++ news))
    (hv : (w.grownBy w' none ∧ v'.ownBlock = none) ∨ (w.grownBy w' none ∧ ∀ g, v'.ownBlock = some g → w.heap.size ≤ g)) :
    SRel cx n (addRowG b env tab d e ty (l ++ m)) (a.put (some d) v') w' := by
  cases b with
  | false => exact addRow_sound (P := P) hw he hn hd hdn hop hx hm own' hv
  | true =>
    have hg : w.grownBy w' none := by rcases hv with h | h <;> exact h.1
    have hfr : ∀ g, v'.ownBlock = some g → w.heap.size ≤ g := by
      rcases hv with ⟨_, h⟩ | ⟨_, h⟩
      · intro g hg; rw [h] at hg; cases hg
      · exact h
    have hρ : ∀ i, (decide (i < tab.length)) = true → upd ρ tab.length (locOf v') i = ρ i := upd_lt
    refine ⟨σ, upd ρ tab.length (locOf v'), ?_, ?_, by rw [put_size]; exact hn, by rw [put_defers]; exact hd⟩
    · refine hw.newEnt (Mem.le_refl σ) (fun a u ha => hg.cell (hw.sub a u ha) (by simp)) (fun b hb => hg.block b hb (by simp)) (fun a u ha => .inl ⟨u, ha⟩) ?_ (fun b hb => ?_) hg.os hg.tape hg.output hg.size
      · refine ⟨xs ++ news, hx.append hm, ?_, fun g hgb => ?_, fun a u ha => ?_⟩
        · rw [upd_same, locOf_sl own']; simpa using own'
        · rw [upd_same, locOf_sl own'] at hgb
          rw [upd_same]
          rcases own'.2 with ⟨rfl, _⟩ | ⟨g', cap, cur, rfl, _⟩
          · cases hgb
          · exact (Option.some.inj hgb).symm
        · rw [upd_same, locOf_sl own']
          intro heq
          have := hfr _ heq
          have := sub_lt hw.sub ha
          omega
      · simp only [Ent.at_, upd_same, locOf_sl own'] at hb
        exact hfr b hb
    · refine (he.clean _ hρ).put (okPut_clean hop) (by rw [hn]; exact hdn) rfl (fun _ => ?_) (fun h => absurd (fun p hp => by cases hp) h)
      simp only [SV.den, upd_same, locOf_sl own']

theorem turnRow_sound {P : Program} {cx : Cx} {n d i : Nat} {env : Env} {tab : List Ent} {a : Act} {w w' : World} {σ : Mem} {ρ : Rho} {e : TypeId} {ty : Ty} {l m : List ty.D} {xs news : List Value} {v' : Value}
    (hw : WR cx σ ρ tab w) (he : EnvA σ ρ env a) (hn : a.tmps.size = n) (hd : a.defers = cx.ds) (hdn : d < n) (hop : okPut env d = true) (hi : tab[i]? = some (.gs e ty l))
    (hx : Rows σ ty l xs) (hm : Rows σ ty m news) (own' : w'.ownsRow 0 e ty.cells v' (l.length + m.length) (xs ++ news))
    (hold : ∀ g, (ρ i).sl.ownBlock = some g → (∀ (j : Nat) u, xs[j]? = some u → σ ⟨g, j, none⟩ = some u) ∧ ∀ a u, σ a = some u → a.block = g → a.off < xs.length)
    (hv : (w.grownBy w' (ρ i).sl.ownBlock ∧ v'.ownBlock = (ρ i).sl.ownBlock) ∨ (w.grownBy w' none ∧ ∀ g, v'.ownBlock = some g → w.heap.size ≤ g)) :
    SRel cx n (turnRow env tab d i e ty (l ++ m)) (a.put (some d) v') w' := by
  obtain ⟨h1, h2, h3, h4⟩ := row_after (v := (ρ i).sl) hw.sub hx hm own' hold hv
  have hg : w.grownBy w' (ρ i).sl.ownBlock := by rcases hv with h | h <;> first | exact h.1 | exact grownBy_none h.1
  have hρ : ∀ j, (decide (j ≠ i)) = true → upd ρ i (locOf v') j = ρ j := fun j hj => upd_ne (by simpa using hj)
  refine ⟨rowM σ v' (xs ++ news), upd ρ i (locOf v'), ?_, ?_, by rw [put_size]; exact hn, by rw [put_defers]; exact hd⟩
  · refine hw.step (k := i) (e := .gs e ty l) (fun j => decide (j ≠ i)) hi h1 h2 hρ (fun j hj => upd_ne hj) (fun b hb hne => hg.block b hb (fun e => hne e.symm)) (fun a u ha => ?_) (fun h => by cases h) (h4 _ _ (by rw [upd_same]; exact locOf_sl own')) (fun b hb => ?_) hg.os hg.tape hg.output hg.size
    · rcases h3 a u ha with h | h | h
      · exact .inl h
      · exact .inr (.inl ⟨h, rfl⟩)
      · exact .inr (.inr h)
    · simp only [Ent.at_, upd_same, locOf_sl own'] at hb
      rcases hv with ⟨_, h⟩ | ⟨_, h⟩
      · exact .inl (by simp only [Ent.at_]; rw [← h, hb])
      · exact .inr (h b hb)
  · refine ((he.clean _ hρ).grow h1).put (okPut_clean hop) (by rw [hn]; exact hdn) rfl (fun _ => ?_) (fun h => absurd (fun p hp => by cases hp) h)
    simp only [SV.den, upd_same, locOf_sl own']

theorem turnRowM_sound {P : Program} {cx : Cx} {n d i : Nat} {env : Env} {tab : List Ent} {a : Act} {w w' : World} {σ : Mem} {ρ : Rho} {e : TypeId} {ty : Ty} {l m : List ty.D} {xs news : List Value} {v' : Value}
    (hw : WR cx σ ρ tab w) (he : EnvA σ ρ env a) (hn : a.tmps.size = n) (hd : a.defers = cx.ds) (hdn : d < n) (hop : okPut env d = true) (hi : tab[i]? = some (.ra e ty l))
    (hx : Rows σ ty l xs) (hm : Rows σ ty m news) (own' : w'.ownsRow 0 e ty.cells v' (l.length + m.length) (xs ++ news))
    (hold : ∀ a u, σ a = some u → (ρ i).sl.ownBlock ≠ some a.block)
    (hv : (w.grownBy w' (ρ i).sl.ownBlock ∧ v'.ownBlock = (ρ i).sl.ownBlock) ∨ (w.grownBy w' none ∧ ∀ g, v'.ownBlock = some g → w.heap.size ≤ g)) :
    SRel cx n (turnRowM env tab d i e ty (l ++ m)) (a.put (some d) v') w' := by
  have hg : w.grownBy w' (ρ i).sl.ownBlock := by rcases hv with h | h <;> first | exact h.1 | exact grownBy_none h.1
  have hρ : ∀ j, (decide (j ≠ i)) = true → upd ρ i (locOf v') j = ρ j := fun j hj => upd_ne (by simpa using hj)
  have hcell : ∀ a u, σ a = some u → w'.cell? a = some u := fun a u ha => hg.cell (hw.sub a u ha) (fun e => hold a u ha e.symm)
  refine ⟨σ, upd ρ i (locOf v'), ?_, ?_, by rw [put_size]; exact hn, by rw [put_defers]; exact hd⟩
  · refine hw.step (k := i) (e := .ra e ty l) (fun j => decide (j ≠ i)) hi (Mem.le_refl σ) hcell hρ (fun j hj => upd_ne hj) (fun b hb hne => hg.block b hb (fun e => hne e.symm)) (fun a u ha => .inl ⟨u, ha⟩) (fun h => by cases h) ?_ (fun b hb => ?_) hg.os hg.tape hg.output hg.size
    · refine ⟨xs ++ news, hx.append hm, ?_, fun g hgb => ?_, fun a u ha => ?_⟩
      · rw [upd_same, locOf_sl own']; simpa using own'
      · rw [upd_same, locOf_sl own'] at hgb
        rw [upd_same]
        rcases own'.2 with ⟨rfl, _⟩ | ⟨g', cap, cur, rfl, _⟩
        · cases hgb
        · exact (Option.some.inj hgb).symm
      · rw [upd_same, locOf_sl own']
        rcases hv with ⟨_, h⟩ | ⟨_, h⟩
        · rw [h]; exact hold a u ha
        · intro heq
          have := h _ heq
          have := sub_lt hw.sub ha
          omega
    · simp only [Ent.at_, upd_same, locOf_sl own'] at hb
      rcases hv with ⟨_, h⟩ | ⟨_, h⟩
      · exact .inl (by simp only [Ent.at_]; rw [← h, hb])
      · exact .inr (h b hb)
  · refine (he.clean _ hρ).put (okPut_clean hop) (by rw [hn]; exact hdn) rfl (fun _ => ?_) (fun h => absurd (fun p hp => by cases hp) h)
    simp only [SV.den, upd_same, locOf_sl own']

theorem newsOf_rows {cx : Cx} {σ : Mem} {ρ : Rho} {tab : List Ent} {w : World} (hw : WR cx σ ρ tab w) {sx : SV} {v : Value} {b : Bool} {ty : Ty} {m : List ty.D} (h : newsOf tab sx = some (b, ⟨ty, m⟩)) (hd : SV.den σ ρ sx v) :
    (b = true ∧ ∃ s : Str, v = strV s ∧ (⟨ty, m⟩ : (t : Ty) × List t.D) = ⟨.int .u8, strBytes s⟩) ∨
    (b = false ∧ ∃ A c news, v = .slice A m.length c ∧ Rows σ ty m news ∧ (0 < m.length → ∃ ad, A = some ad ∧ ∀ (j : Nat) u, news[j]? = some u → w.cell? (ad.add j) = some u)) := by
  unfold newsOf at h
  split at h
  · rename_i s
    simp only [Option.some.injEq, Prod.mk.injEq] at h
    simp only [SV.den, Den, List.cons.injEq, and_true] at hd
    exact .inl ⟨h.1.symm, s, hd, h.2.symm⟩
  · rename_i i
    split at h
    · rename_i e t l hi
      simp only [Option.some.injEq, Prod.mk.injEq] at h
      obtain ⟨rfl, hh⟩ := h
      cases hh
      obtain ⟨xs, r1, r2, r3, r4⟩ := hw.ent i _ hi
      simp only [SV.den] at hd
      subst hd
      refine .inr ⟨rfl, ?_⟩
      rcases r2.2 with ⟨hv, hn⟩ | ⟨g, cap, cur, hv, _⟩
      · refine ⟨none, 0, xs, by rw [hv, hn], r1, fun h0 => absurd h0 (by omega)⟩
      · refine ⟨_, cap, xs, hv, r1, fun _ => ⟨_, rfl, fun j u hu => r2.cells (by rw [hv]; rfl) j u hu⟩⟩
    · cases h
  · split at h
    · rename_i y hy
      simp only [Option.some.injEq, Prod.mk.injEq] at h
      obtain ⟨rfl, rfl⟩ := h
      have hl := listOf_den hy (res_den hw hd)
      obtain ⟨A, n0, c0, hv, _⟩ := id hl
      simp only [List.cons.injEq, and_true] at hv
      subst hv
      obtain ⟨news, r1, r2, r3, r4, r5⟩ := den_rows hl
      subst r2
      exact .inr ⟨rfl, A, c0, news, rfl, r1, fun h0 => let ⟨ad, e, hh⟩ := r5 h0; ⟨ad, e, fun j u hu => hw.sub _ _ (hh j u hu)⟩⟩
    · cases h

theorem execAppend {P : Program} {a : Act} {w w' : World} {o : Oper} {c : Call} {s x : Operand} {t u : TypeId} {v' : Value} (ho : o.op = .call c) (hc : c.callee = .builtin .append) (ha : c.args.toList = [s, x]) (ht : c.argTypes.toList = [t, u])
    (h : (Builtin.append_ #[t, u] o.type #[a.eval s, a.eval x]).run P w = .ok v' w') : (execOp a.eval o).run P w = .ok (.value v') w' := by
  have e1 : c.args = #[s, x] := Array.toList_inj.1 (by rw [ha])
  have e2 : c.argTypes = #[t, u] := Array.toList_inj.1 (by rw [ht])
  simp only [execOp, ho, resolve, hc, invoke, builtin, Sem.run_bind, Sem.run_pure, Result.andThen_ok, e1, e2, List.map_toArray, List.map_cons, List.map_nil, h]

theorem small_max {k : Nat} (h : k ≤ bigN) : k ≤ maxLen := by unfold maxLen; simp only [bigN] at h; omega
theorem small_bytes {k b : Nat} (h : k ≤ bigN) (hb : b ≤ 128) : k * b ≤ 140737488355328 := by
  have := Nat.mul_le_mul h hb
  simp only [bigN] at this
  omega

theorem effAppendG_sound {P : Program} {n : Nat} {env : Env} {tab : List Ent} {st' : St} {o : Oper} {c : Option Prop} {inPl : Bool} (h : effAppendG inPl P n env tab o = some (c, st')) : Eff P n o ⟨env, tab⟩ st' c := by
  unfold effAppendG at h
  split at h
  · rename_i d cl hg hdst ho
    split at h
    · rename_i s x t u hcal hargs htys
      split at h
      · rename_i ss sx I hs hx hI
        split at h
        · rename_i isStr ty m hnews
          split at h
          · rename_i hok
            obtain ⟨ok1, ok2, ok3, ok4'⟩ := hok
            obtain ⟨inf, z, i1, i2, i3, i4, i5, i6, i7, i8⟩ := appInfo_spec hI
            refine ⟨hg, fun cx a w hc hr => ?_⟩
            obtain ⟨σ, ρ, hw, he, hn, hd⟩ : ∃ σ ρ, WR cx σ ρ tab w ∧ EnvA σ ρ env a ∧ a.tmps.size = n ∧ a.defers = cx.ds := hr
            have dx := opnd_den (known := []) he.env (fun p hp => by cases hp) hx
            have ds := opnd_den (known := []) he.env (fun p hp => by cases hp) hs
            -- the run, given a row of its own
            have run : ∀ (v : Value) (l : List ty.D) (xs : List Value), a.eval s = v → w.ownsRow 0 I.e I.size v l.length xs → l.length + m.length ≤ bigN →
                ∃ news v' w', Rows σ ty m news ∧ (execOp a.eval o).run P w = .ok (.value v') w' ∧ w'.ownsRow 0 I.e I.size v' (l.length + m.length) (xs ++ news) ∧
                  ((w.grownBy w' v.ownBlock ∧ v'.ownBlock = v.ownBlock) ∨ (w.grownBy w' none ∧ ∀ g, v'.ownBlock = some g → w.heap.size ≤ g)) := by
              intro v l xs hv hown hb
              rcases newsOf_rows hw hnews dx with ⟨rfl, s0, hv0, he0⟩ | ⟨rfl, A, c0, news, hv0, hR, hA⟩
              · simp only [strOk, if_true, Bool.and_eq_true] at ok3
                obtain ⟨ok3, ok4⟩ := ok3
                replace ok3 := isStrTy_spec ok3
                obtain ⟨rfl, j1, j2⟩ := i8 ok4
                cases he0
                have hsz : (⟨s0.toArray⟩ : ByteArray).size = (strBytes s0).length := by simp [size_mk, strBytes]
                rw [j1] at hown ⊢
                obtain ⟨v', w', r1, r2, r3⟩ := appRun_string (P := P) (ty := o.type) u i1 ok3 i2 i3 (i4.trans j1) j2 v l.length xs hown ⟨s0.toArray⟩ (by rw [hsz]; exact small_max hb) (by rw [hsz]; have := small_bytes hb (Nat.le_refl 128); omega)
                refine ⟨_, v', w', strBytes_rows s0, execAppend ho hcal hargs htys (by rw [hv, hv0]; exact r1), by rw [← hsz]; exact r2, r3⟩
              · simp only [strOk, Bool.false_eq_true, if_false, beq_iff_eq] at ok3
                subst ok3
                by_cases h0 : 0 < m.length
                · obtain ⟨ad, rfl, hcells⟩ := hA h0
                  obtain ⟨v', w', r1, r2, r3⟩ := appRun_own (P := P) (ty := o.type) i1 i2 i3 i4 rfl i5 i6 v l.length xs hown ad m.length c0 news (by rw [hR.length, ok1]) hcells hR.oneCell (small_max hb) (small_bytes hb i7)
                  exact ⟨news, v', w', hR, execAppend ho hcal hargs htys (by rw [hv, hv0]; exact r1), r2, r3⟩
                · have hm0 : m = [] := List.eq_nil_of_length_eq_zero (by omega)
                  subst hm0
                  have hnn : news = [] := List.eq_nil_of_length_eq_zero (by rw [hR.length]; simp)
                  subst hnn
                  have hle : l.length + 0 ≤ 9223372036854775807 := by have := small_max hb; simp only [maxLen, List.length_nil] at this; omega
                  have hrun : (Builtin.append_ #[u, u] o.type #[v, .slice A 0 c0]).run P w = .ok v w := by
                    rcases hown.2 with ⟨rfl, h0'⟩ | ⟨g, cap, cur, rfl, _, _, hcap, _⟩
                    · cases A <;> simp [Builtin.append_, run_underlying i1, sizeOf, typeInfo, i2, Builtin.lenOf, Builtin.firstCells, loadCells, loadCellsFrom]
                    · cases A <;> simp [Builtin.append_, run_underlying i1, sizeOf, typeInfo, i2, Builtin.lenOf, Builtin.firstCells, loadCells, loadCellsFrom, hcap, storeCells]
                  refine ⟨[], v, w, hR, execAppend ho hcal hargs htys (by rw [hv, hv0]; exact hrun), by simpa using hown, .inl ⟨⟨rfl, rfl, rfl, Nat.le_refl _, fun _ _ _ => rfl⟩, rfl⟩⟩
            split at h
            · -- nil
              simp only [Option.some.injEq, Prod.mk.injEq] at h
              obtain ⟨rfl, rfl⟩ := h
              simp only [SV.den] at ds
              obtain ⟨news, v', w', hR, hrun, hown, hv⟩ := run _ [] [] ds (World.ownsRow_nil w 0 I.e I.size) (by simpa [holds] using hc)
              rw [← ok1] at hown
              refine ⟨_, w', hrun, .inl ⟨v', rfl, ?_⟩⟩
              rw [hdst]
              have := addRowG_sound (P := P) (l := []) (m := m) inPl hw he hn hd ok2 ok4' (Rows.nil σ ty) hR hown hv
              simpa using this
            · rename_i i
              split at h
              · rename_i e' ty' l hti
                split at h
                · rename_i l' hl'
                  split at h
                  · rename_i hee
                    subst hee
                    cases castL_eq hl'
                    simp only [Option.some.injEq, Prod.mk.injEq] at h
                    obtain ⟨rfl, rfl⟩ := h
                    simp only [SV.den] at ds
                    obtain ⟨xs, q1, q2, q3⟩ := hw.ent i _ hti
                    rw [ok1] at q2
                    obtain ⟨news, v', w', hR, hrun, hown, hv⟩ := run _ l' xs ds q2 (by simpa [holds] using hc)
                    rw [← ok1] at hown
                    refine ⟨_, w', hrun, .inl ⟨v', rfl, ?_⟩⟩
                    rw [hdst]
                    exact turnRow_sound (P := P) hw he hn hd ok2 ok4' hti q1 hR hown q3 hv
                  · cases h
                · cases h
              · cases h
            · rename_i i
              split at h
              · rename_i e' ty' l hti
                split at h
                · rename_i l' hl'
                  split at h
                  · rename_i hee
                    subst hee
                    cases castL_eq hl'
                    simp only [Option.some.injEq, Prod.mk.injEq] at h
                    obtain ⟨rfl, rfl⟩ := h
                    simp only [SV.den] at ds
                    obtain ⟨xs, q1, q2, q3, q4⟩ := hw.ent i _ hti
                    rw [ok1] at q2
                    obtain ⟨news, v', w', hR, hrun, hown, hv⟩ := run _ l' xs ds q2 (by simpa [holds] using hc)
                    rw [← ok1] at hown
                    refine ⟨_, w', hrun, .inl ⟨v', rfl, ?_⟩⟩
                    rw [hdst]
                    exact turnRowM_sound (P := P) hw he hn hd ok2 ok4' hti q1 hR hown q4 hv
                  · cases h
                · cases h
              · cases h
            · rename_i ty' l
              split at h
              · cases h
              · rename_i hns
                split at h
                · rename_i l' hl'
                  cases castL_eq hl'
                  simp only [Option.some.injEq, Prod.mk.injEq] at h
                  obtain ⟨rfl, rfl⟩ := h
                  simp only [holds] at hc
                  simp only [SV.den] at ds
                  obtain ⟨ds1, A0, n0, hv0⟩ := ds
                  rw [hv0] at ds1
                  obtain ⟨xs, r1, r2, r3, r4, r5⟩ := den_rows ds1
                  subst r2
                  rcases newsOf_rows hw hnews dx with ⟨rfl, _⟩ | ⟨rfl, A, c0, news, hv1, hR, hA⟩
                  · exact absurd rfl hns
                  · simp only [strOk, Bool.false_eq_true, if_false, beq_iff_eq] at ok3
                    subst ok3
                    obtain ⟨ad, rfl, hcells⟩ := hA hc.1
                    obtain ⟨v', w', q1, q2, q3⟩ := appRun_fix (P := P) (w := w) (ty := o.type) i1 i2 i3 i4 rfl i5 i6 A0 l'.length xs (by rw [r1.length, ok1]) (fun h0 => let ⟨ad, e, hh⟩ := r5 h0; ⟨ad, e, fun j u hu => hw.sub _ _ (hh j u hu)⟩)
                      ad m.length c0 news (by rw [hR.length, ok1]) hcells hR.oneCell hc.1 (small_max hc.2) (small_bytes hc.2 i7)
                    rw [← ok1] at q2
                    refine ⟨_, w', execAppend ho hcal hargs htys (by rw [hv0, hv1]; exact q1), .inl ⟨v', rfl, ?_⟩⟩
                    rw [hdst]
                    exact addRowG_sound (P := P) inPl hw he hn hd ok2 ok4' r1 hR q2 q3
                · cases h
            · cases h
          · cases h
        · cases h
      · cases h
    · cases h
  · cases h

theorem effAppend_sound {P : Program} {n : Nat} {env : Env} {tab : List Ent} {st' : St} {o : Oper} {c : Option Prop} (h : effAppend P n env tab o = some (c, st')) : Eff P n o ⟨env, tab⟩ st' c := effAppendG_sound h
theorem effAppendM_sound {P : Program} {n : Nat} {env : Env} {tab : List Ent} {st' : St} {o : Oper} {c : Option Prop} (h : effAppendM P n env tab o = some (c, st')) : Eff P n o ⟨env, tab⟩ st' c := effAppendG_sound h
end Go.Proofs.YteiickhgmmjcmaaGreatDoor.Sx
