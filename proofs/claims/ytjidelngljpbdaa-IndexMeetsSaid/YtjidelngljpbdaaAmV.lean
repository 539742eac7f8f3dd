/- The engine's quiet operations, all of them in one function, and its soundness. -/
import Derived.Test.YtjidelngljpbdaaAmU
set_option linter.unusedSimpArgs false
set_option linter.unusedVariables false
namespace Go.Proofs.Ytjidelngljpbdaa.Am
open Go

/-! ### maps -/
def keyEq : D → D → Option Bool
  | .str a, .str b => some (a == b)
  | .int k a, .int k' b => if k = k' then some (a == b) else none
  | .bool a, .bool b => some (a == b)
  | _, _ => none

def findD (k : D) : List (D × V × Nat) → Nat → Option (Option (Nat × V))
  | [], _ => some none
  | (k', x, _) :: es, i => match keyEq k k' with
    | some true => some (some (i, x))
    | some false => findD k es (i + 1)
    | none => none

def keyOk (P : Program) (kt : TypeId) : D → Bool
  | .str _ => isStrT P kt
  | .int _ _ => (intT P kt).isSome
  | .bool _ => isBoolT P kt
  | _ => false

def mapT (P : Program) (t : TypeId) : Option (TypeId × TypeId) := match P.underlying t with | some (.map k e) => some (k, e) | _ => none
def zeroV (P : Program) (t : TypeId) : Option V := match P.info? t with | some i => i.zero.map ofConst | none => none

theorem mapT_some {P : Program} {t k e : TypeId} (h : mapT P t = some (k, e)) : P.underlying t = some (.map k e) := by
  unfold mapT at h
  split at h
  · simp at h; obtain ⟨rfl, rfl⟩ := h; assumption
  · cases h

theorem zeroV_some {P : Program} {t : TypeId} {x : V} (h : zeroV P t = some x) (w : World) : ∃ z, (zeroValue t).run P w = .ok z w ∧ x = ofConst z ∧ ∃ i, P.info? t = some i ∧ i.zero = some z := by
  unfold zeroV at h
  split at h
  · rename_i i hi
    cases hz : i.zero with
    | none => rw [hz] at h; cases h
    | some z =>
      rw [hz] at h; simp at h
      exact ⟨z, by simp [zeroValue, typeInfo, hi, hz], h.symm, i, hi, hz⟩
  · cases h

theorem keyOk_checks {P : Program} {kt : TypeId} {k : D} (h : keyOk P kt k = true) {I : Im} {v : Value} (r : DR I k v) (b : Bool) (w : World) : (Instr.checkKey b 10000 kt v).run P w = .ok () w := by
  have key : ∀ n, (Instr.checkKey b (n + 1) kt v).run P w = .ok () w := by
    intro n
    cases k <;> simp only [keyOk] at h <;> (try (cases h; done)) <;> simp only [DR] at r <;> subst r
    · obtain ⟨k, hk⟩ := Option.isSome_iff_exists.1 h
      simp [Instr.checkKey, run_underlying (intT_some hk)]
    · simp [Instr.checkKey, run_underlying (isBoolT_some h)]
    · simp [Instr.checkKey, run_underlying (isStrT_some h)]
  exact key 9999

theorem sameNow_keyEq {P : Program} {kt : TypeId} {d : TypeDesc} {I : Im} {k k' : D} {v v' : Value} {r : Bool} (h : keyOk P kt k = true) (hd : P.underlying kt = some d) (hk : DR I k v) (hk' : DR I k' v') (e : keyEq k k' = some r) :
    Instr.sameNow d v v' = some r := by
  cases k <;> simp only [keyOk] at h <;> (try (cases h; done)) <;> cases k' <;> simp only [keyEq] at e <;> (try (cases e; done)) <;> simp only [DR] at hk hk' <;> subst hk <;> subst hk'
  · obtain ⟨k, hq⟩ := Option.isSome_iff_exists.1 h
    rw [intT_some hq] at hd; simp at hd; subst hd
    split at e
    · rename_i q
      simp only [Option.some.injEq] at e; subst e; subst q
      simp [Instr.sameNow]
    · cases e
  · rw [isBoolT_some h] at hd; simp at hd; subst hd
    simp only [Option.some.injEq] at e; subst e
    simp [Instr.sameNow]
  · rw [isStrT_some h] at hd; simp at hd; subst hd
    simp only [Option.some.injEq] at e; subst e
    simp only [Instr.sameNow, beq_toListBytes, toList_mk]

theorem findNow_findD {P : Program} {kt : TypeId} {d : TypeDesc} {I : Im} {w : World} {loc : Nat → Loc} {k : D} {v : Value} (h : keyOk P kt k = true) (hd : P.underlying kt = some d) (hk : DR I k v) :
    ∀ {es : List (D × V × Nat)} {l : List MapEntry} (m : MapR I w loc es l) (i : Nat) {r : Option (Nat × V)}, findD k es i = some r →
      ∃ r', Instr.findNow d v l i = some r' ∧ (match r, r' with | some (j, x), some (j', u) => j = j' ∧ VR I w loc x u ∧ i ≤ j ∧ ∃ k' n, es[j - i]? = some (k', x, n) ∧ keyEq k k' = some true | none, none => True | _, _ => False) := by
  intro es l m
  induction m with
  | nil => intro i r e; simp [findD] at e; subst e; exact ⟨none, rfl, trivial⟩
  | @cons k0 x0 n0 ent es l h1 h2 h3 m ih =>
    intro i r e
    simp only [findD] at e
    split at e
    · rename_i hq
      simp only [Option.some.injEq] at e; subst e
      refine ⟨some (i, ent.val), ?_, rfl, h2, Nat.le_refl _, k0, n0, by simp, hq⟩
      simp [Instr.findNow, sameNow_keyEq h hd hk h1 hq]
    · rename_i hq
      obtain ⟨r', g1, g2⟩ := ih (i + 1) e
      refine ⟨r', ?_, ?_⟩
      · simp [Instr.findNow, sameNow_keyEq h hd hk h1 hq, g1]
      · cases r with
        | none => cases r' with
          | none => trivial
          | some q => exact g2
        | some q =>
          cases r' with
          | none => exact g2
          | some q' =>
            obtain ⟨j, x⟩ := q
            obtain ⟨j', u⟩ := q'
            obtain ⟨a1, a2, a3, k', n', a4, a5⟩ := g2
            refine ⟨a1, a2, by omega, k', n', ?_, a5⟩
            have : j - i = (j - (i + 1)) + 1 := by omega
            rw [this]; simpa using a4
    · cases e

theorem run_findKey {P : Program} {kt : TypeId} {d : TypeDesc} (hd : P.underlying kt = some d) {v : Value} {l : List MapEntry} {r : Option (Nat × Value)} (h : Instr.findNow d v l 0 = some r) (w : World) : (Instr.findKey kt v l).run P w = .ok r w := by
  simp [Instr.findKey, run_underlying hd, h]

def lookupRes (ok : Bool) (x : V) (b : Bool) : V := if ok then .tup [x, .d (.bool b)] else x

def lookupF (P : Program) (t : TypeId) (σ : List Ob) (x k : V) (ok : Bool) : Option V :=
  match mapT P t, k with
  | some (kt, et), .d k => if keyOk P kt k then
      match x with
      | .mp o => match σ[o]? with
        | some (.map es _) => match findD k es 0 with
          | some (some (_, x)) => some (lookupRes ok x true)
          | some none => (zeroV P et).map fun z => lookupRes ok z false
          | none => none
        | _ => none
      | .d .nilm => (zeroV P et).map fun z => lookupRes ok z false
      | _ => none
    else none
  | _, _ => none

theorem lookupF_sound {P : Program} {t : TypeId} {c : Cx} {σ : List Ob} (h : SR c σ) {x k r : V} {ok : Bool} {vx vk : Value} (e : lookupF P t σ x k ok = some r) (hx : c.vr x vx) (hk : c.vr k vk) :
    ∃ v, (Instr.lookup t vx vk ok).run P c.w = .ok v c.w ∧ c.vr r v := by
  unfold lookupF at e
  split at e
  · rename_i kt et k hm
    have hu := mapT_some hm
    split at e
    · rename_i hko
      simp only [Cx.vr, VR] at hk
      have fin : ∀ (x : V) (u : Value) (b : Bool), c.vr x u → c.vr (lookupRes ok x b) (if ok then .tuple #[u, .bool b] else u) := by
        intro x u b hu
        cases ok with
        | false => simpa [lookupRes] using hu
        | true =>
          simp only [lookupRes, if_true, Cx.vr, VR, VRs]
          exact ⟨[u, .bool b], rfl, u, [.bool b], rfl, hu, .bool b, [], rfl, by simp [DR], rfl⟩
      obtain ⟨d, hd⟩ : ∃ d, P.underlying kt = some d := by
        cases k <;> simp only [keyOk] at hko <;> (try (cases hko; done))
        · obtain ⟨q, hq⟩ := Option.isSome_iff_exists.1 hko
          exact ⟨_, intT_some hq⟩
        · exact ⟨_, isBoolT_some hko⟩
        · exact ⟨_, isStrT_some hko⟩
      split at e
      · rename_i o
        split at e
        · rename_i es clk hes
          obtain ⟨b, ents, hl, rfl, h1, h2, _⟩ := map_at h hes hx
          split at e
          · rename_i j y hf
            simp only [Option.some.injEq] at e; subst e
            obtain ⟨r', g1, g2⟩ := findNow_findD hko hd hk h2 0 hf
            cases r' with
            | none => exact g2.elim
            | some q =>
              obtain ⟨j', u⟩ := q
              refine ⟨_, ?_, fin _ u true g2.2.1⟩
              simp only [Instr.lookup, Sem.run_bind, run_underlying hu, Result.andThen_ok, run_getObj_map h1, Sem.run_pure, keyOk_checks hko hk, run_findKey hd g1]
          · rename_i hf
            cases hz : zeroV P et with
            | none => rw [hz] at e; cases e
            | some z =>
              rw [hz] at e; simp at e; subst e
              obtain ⟨zv, z1, rfl, _⟩ := zeroV_some hz c.w
              obtain ⟨r', g1, g2⟩ := findNow_findD hko hd hk h2 0 hf
              cases r' with
              | some q => exact g2.elim
              | none =>
                refine ⟨_, ?_, fin _ zv false (VR_ofConst _ _ _ _)⟩
                simp only [Instr.lookup, Sem.run_bind, run_underlying hu, Result.andThen_ok, run_getObj_map h1, Sem.run_pure, keyOk_checks hko hk, run_findKey hd g1, z1]
          · cases e
        · cases e
      · cases hz : zeroV P et with
        | none => rw [hz] at e; cases e
        | some z =>
          rw [hz] at e; simp at e; subst e
          obtain ⟨zv, z1, rfl, _⟩ := zeroV_some hz c.w
          simp only [Cx.vr, VR, DR] at hx; subst hx
          refine ⟨_, ?_, fin _ zv false (VR_ofConst _ _ _ _)⟩
          have : Instr.findNow d vk ([] : List MapEntry) 0 = some none := rfl
          simp only [Instr.lookup, Sem.run_bind, run_underlying hu, Result.andThen_ok, Sem.run_pure, keyOk_checks hko hk, run_findKey hd this, z1]
      · cases e
    · cases e
  · cases e

/-! ### the rest -/
def indexF (P : Program) (t : TypeId) (x ix : V) : Option V :=
  match x, ix with
  | .d (.str s), .d (.int _ i) => if isStrT P t = true ∧ 0 ≤ i then match s[i.toNat]? with
      | some b => some (.d (.int .u8 b.toNat))
      | none => none
    else none
  | _, _ => none

theorem indexF_sound {P : Program} {t : TypeId} {c : Cx} {x ix r : V} {vx vi : Value} (e : indexF P t x ix = some r) (hx : c.vr x vx) (hi : c.vr ix vi) : ∃ v, (Instr.index t vx vi).run P c.w = .ok v c.w ∧ c.vr r v := by
  unfold indexF at e
  split at e
  · rename_i s k i
    split at e
    · rename_i ht
      split at e
      · rename_i b hb
        simp only [Option.some.injEq] at e; subst e
        simp only [Cx.vr, VR, DR] at hx hi; subst hx; subst hi
        have hg : (⟨s.toArray⟩ : ByteArray)[i.toNat]? = some b := by
          have hlt := (List.getElem?_eq_some_iff.1 hb).1
          rw [getElem?_pos (⟨s.toArray⟩ : ByteArray) i.toNat (by rw [size_mk]; exact hlt)]
          congr 1
          have := (List.getElem?_eq_some_iff.1 hb).2
          rw [← this]
          rfl
        exact ⟨.int .u8 b.toNat, by simp [Instr.index, asIntOf, run_underlying (isStrT_some ht.1), ht.2, hg], by simp [Cx.vr, VR, DR]⟩
      · cases e
    · cases e
  · cases e

def foldMM (f : Int → Int → Int) : Int → List V → Option Int
  | a, [] => some a
  | a, .d (.int _ b) :: r => foldMM f (f a b) r
  | _, _ => none

def minMaxF (f : Int → Int → Int) : List V → Option V
  | .d (.int k a) :: r => (foldMM f a r).map fun n => .d (.int k n)
  | _ => none

theorem max_if (a b : Int) : (if b > a then b else a) = max a b := by omega
theorem min_if (a b : Int) : (if b < a then b else a) = min a b := by omega

theorem foldMM_sound {P : Program} {c : Cx} (g : Value → Value → Sem Value) (f : Int → Int → Int) (hg : ∀ k a k' b, g (.int k a) (.int k' b) = pure (.int k (f a b))) (k : IntKind) :
    ∀ (xs : List V) (vs : List Value), c.vrs xs vs → ∀ a n, foldMM f a xs = some n → (vs.foldlM g (.int k a)).run P c.w = .ok (.int k n) c.w
  | [], vs, h, a, n, e => by
    simp [Cx.vrs, VRs] at h; subst h
    simp [foldMM] at e; subst e
    simp
  | x :: xs, vs, h, a, n, e => by
    simp only [Cx.vrs, VRs] at h
    obtain ⟨v, r, rfl, h1, h2⟩ := h
    unfold foldMM at e
    split at e
    · cases ‹_ :: _ = []›
    · rename_i k' b r' heq
      simp only [List.cons.injEq] at heq
      obtain ⟨rfl, rfl⟩ := heq
      simp only [VR, DR] at h1; subst h1
      simp only [List.foldlM_cons, hg, pure_bind]
      exact foldMM_sound g f hg k xs r h2 _ n e
    · cases e

def argsOf (s : List V) (args : Array Operand) : List V := args.toList.map (get s)

theorem vrs_args {c : Cx} {s : List V} {a : Act} (h : c.vrs s a.tmps.toList) : ∀ (xs : List Operand), c.vrs (xs.map (get s)) (xs.map a.eval)
  | [] => by simp [Cx.vrs, VRs]
  | x :: xs => by simp only [List.map_cons, Cx.vrs, VRs]; exact ⟨_, _, rfl, vr_get h x, vrs_args h xs⟩

def builtinF (P : Program) (b : Builtin) (ts : List TypeId) (σ : List Ob) (xs : List V) : Option V :=
  match b with
  | .len => match ts, xs with | [t], [x] => lenF P t σ x | _, _ => none
  | .min => minMaxF min xs
  | .max => minMaxF max xs
  | _ => none

theorem builtinF_sound {P : Program} {b : Builtin} {ts : Array TypeId} {ty : TypeId} {cs : Array Bool} {c : Cx} {σ : List Ob} (h : SR c σ) {xs : List V} {vs : List Value} {r : V} (e : builtinF P b ts.toList σ xs = some r) (hx : c.vrs xs vs) :
    ∃ v, (builtin b ts ty cs vs.toArray).run P c.w = .ok (.value v) c.w ∧ c.vr r v := by
  unfold builtinF at e
  split at e
  · split at e
    · rename_i t x ht
      simp only [Cx.vrs, VRs] at hx
      obtain ⟨v, r', rfl, h1, rfl⟩ := hx
      obtain ⟨u, g1, g2⟩ := lenF_sound (ty := ty) h e h1
      have : ts = #[t] := by apply Array.ext'; simp [ht]
      subst this
      exact ⟨u, by simp [builtin, g1], g2⟩
    · cases e
  · unfold minMaxF at e
    split at e
    · rename_i k a r'
      cases hf : foldMM min a r' with
      | none => rw [hf] at e; cases e
      | some n =>
        rw [hf] at e; simp at e; subst e
        simp only [Cx.vrs, VRs, VR, DR] at hx
        obtain ⟨v, t, rfl, rfl, h2⟩ := hx
        have := foldMM_sound (P := P) (c := c) Builtin.min2 min (by intro k a k' b; simp only [Builtin.min2, min_if]) k r' t h2 a n hf
        exact ⟨_, by simp [builtin, Builtin.min_, this]; rfl, by simp [Cx.vr, VR, DR]⟩
    · cases e
  · unfold minMaxF at e
    split at e
    · rename_i k a r'
      cases hf : foldMM max a r' with
      | none => rw [hf] at e; cases e
      | some n =>
        rw [hf] at e; simp at e; subst e
        simp only [Cx.vrs, VRs, VR, DR] at hx
        obtain ⟨v, t, rfl, rfl, h2⟩ := hx
        have := foldMM_sound (P := P) (c := c) Builtin.max2 max (by intro k a k' b; simp only [Builtin.max2, max_if]) k r' t h2 a n hf
        exact ⟨_, by simp [builtin, Builtin.max_, this]; rfl, by simp [Cx.vr, VR, DR]⟩
    · cases e
  · cases e

/-- EVERY QUIET OPERATION. -/
def quietF (P : Program) (s : List V) (σ : List Ob) : Op → Option V
  | .move x => some (get s x)
  | .assign x => some (get s x)
  | .pick c a b => match get s c with | .d (.bool t) => some (match t with | true => get s a | false => get s b) | _ => none
  | .nilCheck x => match get s x with
    | .ptr o i k => if alive σ o then some (.ptr o i k) else none
    | .ipt cs => some (.ipt cs)
    | _ => none
  | .binOp op t x y _ => binF P op t σ (get s x) (get s y)
  | .unOp op _ x => unF op (get s x)
  | .convert src dst x => convF P src dst σ (get s x)
  | .fieldAddr t x f => fieldAddrF P t f σ (get s x)
  | .field t x f => fieldF P t f (get s x)
  | .load t x => loadF P t σ (get s x)
  | .indexAddr t x ix => indexAddrF P t σ (get s x) (get s ix)
  | .index t x ix => indexF P t (get s x) (get s ix)
  | .slice t x lo hi mx => sliceF P t σ (get s x) (lo.map (get s)) (hi.map (get s)) (mx.map (get s))
  | .extract x i => match get s x with | .tup vs => vs[i]? | _ => none
  | .makeFunc (.func f) first caps => if first = #[] then some (.fn f (argsOf s caps)) else none
  | .lookup t x k ok => lookupF P t σ (get s x) (get s k) ok
  | .call { callee := .builtin b, args, argTypes } => builtinF P b argTypes.toList σ (argsOf s args)
  | _ => none

theorem run_value {P : Program} {w w' : World} {x : Sem Value} {v : Value} (h : x.run P w = .ok v w') : (do pure (.value (← x)) : Sem Next).run P w = .ok (.value v) w' := by
  simp [h]

theorem quiet_sound {P : Program} {o : Oper} {a : Act} {c : Cx} {s : List V} {σ : List Ob} (h : SR c σ) (hs : c.vrs s a.tmps.toList) {r : V} (e : quietF P s σ o.op = some r) :
    ∃ v, (execOp a.eval o).run P c.w = .ok (.value v) c.w ∧ c.vr r v := by
  unfold execOp
  generalize o.op = op at e ⊢
  unfold quietF at e
  split at e
  · simp only [Option.some.injEq] at e; subst e
    exact ⟨_, rfl, vr_get hs _⟩
  · simp only [Option.some.injEq] at e; subst e
    exact ⟨_, rfl, vr_get hs _⟩
  · rename_i x y z
    split at e
    · rename_i t ht
      simp only [Option.some.injEq] at e; subst e
      have := vr_get hs x
      rw [ht] at this
      simp only [Cx.vr, VR, DR] at this
      cases t with
      | false => exact ⟨a.eval z, by simp [this, asBool], vr_get hs _⟩
      | true => exact ⟨a.eval y, by simp [this, asBool], vr_get hs _⟩
    · cases e
  · rename_i x
    have hv := vr_get hs x
    split at e
    · rename_i o i k hg
      split at e
      · rename_i ha
        simp only [Option.some.injEq] at e; subst e
        rw [hg] at hv
        obtain ⟨b, base, sz, hl, hp⟩ := vr_ptr h ha hv
        exact ⟨_, by simp [hp]; rfl, by simpa [hp] using hv⟩
      · cases e
    · rename_i cs hg
      simp only [Option.some.injEq] at e; subst e
      rw [hg] at hv
      have hv' := hv
      simp only [Cx.vr, VR] at hv'
      obtain ⟨b, off, vs, hp, _⟩ := hv'
      exact ⟨_, by simp [hp]; rfl, by simpa [hp] using hv⟩
    · cases e
  · obtain ⟨v, h1, h2⟩ := binF_sound h e (vr_get hs _) (vr_get hs _) _ _
    exact ⟨v, run_value h1, h2⟩
  · obtain ⟨v, h1, h2⟩ := unF_sound (P := P) e (vr_get hs _)
    exact ⟨v, run_value h1, h2⟩
  · obtain ⟨v, h1, h2⟩ := convF_sound h e (vr_get hs _)
    exact ⟨v, run_value h1, h2⟩
  · obtain ⟨v, h1, h2⟩ := fieldAddrF_sound h e (vr_get hs _)
    exact ⟨v, run_value h1, h2⟩
  · obtain ⟨v, h1, h2⟩ := fieldF_sound e (vr_get hs _)
    exact ⟨v, run_value h1, h2⟩
  · obtain ⟨v, h1, h2⟩ := loadF_sound h e (vr_get hs _)
    exact ⟨v, run_value h1, h2⟩
  · obtain ⟨v, h1, h2⟩ := indexAddrF_sound h e (vr_get hs _) (vr_get hs _)
    exact ⟨v, run_value h1, h2⟩
  · obtain ⟨v, h1, h2⟩ := indexF_sound (P := P) e (vr_get hs _) (vr_get hs _)
    exact ⟨v, run_value h1, h2⟩
  · have ov : ∀ x : Option Operand, ovr c (x.map (get s)) (x.map a.eval) := by
      intro x
      cases x with
      | none => trivial
      | some x => exact vr_get hs x
    obtain ⟨v, h1, h2⟩ := sliceF_sound h e (vr_get hs _) (ov _) (ov _) (ov _)
    exact ⟨v, run_value h1, h2⟩
  · rename_i x i
    split at e
    · rename_i vs hg
      have hv := vr_get hs x
      rw [hg] at hv
      simp only [Cx.vr, VR] at hv
      obtain ⟨us, hu, hv⟩ := hv
      obtain ⟨v, h1, h2⟩ := VRs_get hv i e
      refine ⟨v, run_value ?_, h2⟩
      rw [hu]
      have : us.toArray[i]? = some v := by simpa using h1
      simp [Instr.extract, this]
    · cases e
  · rename_i f first caps
    split at e
    · rename_i hf
      simp only [Option.some.injEq] at e; subst e; subst hf
      refine ⟨_, rfl, ?_⟩
      simp only [Cx.vr, VR, argsOf]
      refine ⟨caps.toList.map a.eval, ?_, vrs_args hs caps.toList⟩
      have ea : (List.map a.eval caps.toList).toArray = caps.map a.eval := by apply Array.ext'; simp
      rw [ea]; simp
    · cases e
  · obtain ⟨v, h1, h2⟩ := lookupF_sound h e (vr_get hs _) (vr_get hs _)
    exact ⟨v, run_value h1, h2⟩
  · rename_i b args ts
    obtain ⟨v, h1, h2⟩ := builtinF_sound (P := P) (ts := ts) (ty := o.type) (cs := args.map fun | .const _ => true | _ => false) h e (vrs_args hs args.toList)
    refine ⟨v, ?_, h2⟩
    simp only [resolve, Sem.run_bind, Sem.run_pure, Result.andThen_ok, invoke]
    have ea : (List.map a.eval args.toList).toArray = args.map a.eval := by apply Array.ext'; simp
    rw [ea] at h1
    exact h1
  · cases e
end Go.Proofs.Ytjidelngljpbdaa.Am
