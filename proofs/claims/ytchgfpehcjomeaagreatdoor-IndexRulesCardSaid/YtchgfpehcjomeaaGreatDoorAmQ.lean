/- The engine's quiet operations: those that only look. What they yield, as a function of the slots and the store, and that the model's run yields just that. -/
import Derived.Test.YtchgfpehcjomeaaGreatDoorAmS
import Derived.Laws.StructEq
set_option linter.unusedSimpArgs false
set_option linter.unusedVariables false
namespace Go.Proofs.YtchgfpehcjomeaaGreatDoor.Am
open Go

/-! ### types -/
def szOf (P : Program) (t : TypeId) : Nat := ((P.info? t).map (·.size)).getD 0
def aggT (P : Program) (t : TypeId) : Bool := match P.underlying t with | some (.struct _) | some (.array _ _) => true | _ => false
/-- A field's offset and type. -/
def fld (P : Program) (s f : Nat) : Option (Nat × TypeId) := match P.underlying s with | some (.struct fs) => (fs[f]?).map fun x => (x.offset, x.type) | _ => none
def elemOfSlice (P : Program) (t : TypeId) : Option TypeId := match P.underlying t with | some (.slice e) => some e | _ => none
def isStrT (P : Program) (t : TypeId) : Bool := match P.underlying t with | some .string => true | _ => false
def isBoolT (P : Program) (t : TypeId) : Bool := match P.underlying t with | some .bool => true | _ => false
def isPtrT (P : Program) (t : TypeId) : Bool := match P.underlying t with | some (.pointer _) => true | _ => false
def isMapT (P : Program) (t : TypeId) : Bool := match P.underlying t with | some (.map _ _) => true | _ => false
def intT (P : Program) (t : TypeId) : Option IntKind := match P.underlying t with | some (.int k) => some k | _ => none

/-! ### slots and constants -/
def sc : Value → D
  | .int k n => .int k n
  | .bool b => .bool b
  | .string s => .str s.data.toList
  | .slice none 0 0 => .nils
  | .pointer none => .nilp
  | .map none => .nilm
  | .nilFunc => .nilf
  | .nilIface => .nili
  | _ => .any

def ofConst : Value → V
  | .agg cs => .d (.agg (cs.toList.map sc))
  | .func (.func f) first caps => if first = #[] ∧ caps = #[] then .fn f [] else .undef
  | v => .d (sc v)

def get (s : List V) : Operand → V
  | .tmp t => s.getD t .undef
  | .const v => ofConst v
  | .global g => match globs g with | some cs => .ipt cs | none => .undef
  | .func f => .fn f []

theorem DR_sc (I : Im) (v : Value) : DR I (sc v) v := by
  unfold sc
  split <;> simp [DR]

theorem DRs_map_sc (I : Im) : ∀ vs : List Value, DRs I (vs.map sc) vs
  | [] => by simp [DRs]
  | v :: vs => by simp only [List.map_cons, DRs]; exact ⟨v, vs, rfl, DR_sc I v, DRs_map_sc I vs⟩

theorem VR_ofConst (I : Im) (w : World) (l : Nat → Loc) (v : Value) : VR I w l (ofConst v) v := by
  unfold ofConst
  split
  · rename_i cs
    simp only [VR, DR]
    exact ⟨cs.toList, by simp, DRs_map_sc I _⟩
  · rename_i f first caps
    split
    · rename_i h
      simp only [VR, VRs]
      exact ⟨[], by simp [h.1, h.2], rfl⟩
    · simp [VR]
  · simp only [VR]; exact DR_sc I _

theorem VRs_length {I : Im} {w : World} {l : Nat → Loc} : ∀ {xs : List V} {vs : List Value}, VRs I w l xs vs → vs.length = xs.length
  | [], vs, h => by simp [VRs] at h; simp [h]
  | x :: xs, vs, h => by
    simp only [VRs] at h
    obtain ⟨v, r, rfl, _, h⟩ := h
    simp [VRs_length h]

theorem VRs_get {I : Im} {w : World} {l : Nat → Loc} : ∀ {xs : List V} {vs : List Value}, VRs I w l xs vs → ∀ (i : Nat) {x : V}, xs[i]? = some x → ∃ v, vs[i]? = some v ∧ VR I w l x v
  | [], vs, h, i, d, e => by simp at e
  | x :: xs, vs, h, i, d, e => by
    simp only [VRs] at h
    obtain ⟨v, r, rfl, h1, h2⟩ := h
    cases i with
    | zero => simp at e; subst e; exact ⟨v, by simp, h1⟩
    | succ i => simpa using VRs_get h2 i (by simpa using e)

theorem VRs_of_get {I : Im} {w : World} {l : Nat → Loc} : ∀ {xs : List V} {vs : List Value}, vs.length = xs.length → (∀ (i : Nat) (x : V) (v : Value), xs[i]? = some x → vs[i]? = some v → VR I w l x v) → VRs I w l xs vs
  | [], vs, h, _ => by simp at h; simp [VRs, h]
  | x :: xs, [], h, _ => by simp at h
  | x :: xs, v :: vs, h, g => by
    simp only [VRs]
    exact ⟨v, vs, rfl, g 0 x v (by simp) (by simp), VRs_of_get (by simpa using h) fun i y u e f => g (i + 1) y u (by simpa using e) (by simpa using f)⟩

theorem VRs_take {I : Im} {w : World} {l : Nat → Loc} : ∀ {xs : List V} {vs : List Value}, VRs I w l xs vs → ∀ n, VRs I w l (xs.take n) (vs.take n)
  | [], vs, h, n => by simp [VRs] at h; simp [h, VRs]
  | x :: xs, vs, h, n => by
    simp only [VRs] at h
    obtain ⟨v, t, rfl, h1, h2⟩ := h
    cases n with
    | zero => simp [VRs]
    | succ n => simp only [List.take_succ_cons, VRs]; exact ⟨v, _, rfl, h1, VRs_take h2 n⟩

theorem VRs_drop {I : Im} {w : World} {l : Nat → Loc} : ∀ {xs : List V} {vs : List Value}, VRs I w l xs vs → ∀ n, VRs I w l (xs.drop n) (vs.drop n)
  | [], vs, h, n => by simp [VRs] at h; simp [h, VRs]
  | x :: xs, vs, h, n => by
    have h' := h
    simp only [VRs] at h
    obtain ⟨v, t, rfl, h1, h2⟩ := h
    cases n with
    | zero => simpa using h'
    | succ n => simpa using VRs_drop h2 n

theorem VRs_map_d {I : Im} {w : World} {l : Nat → Loc} : ∀ {ds : List D} {vs : List Value}, VRs I w l (ds.map .d) vs ↔ DRs I ds vs
  | [], vs => by simp [VRs, DRs]
  | d :: ds, vs => by
    simp only [List.map_cons, VRs, DRs, VR]
    constructor
    · rintro ⟨v, r, rfl, h1, h2⟩; exact ⟨v, r, rfl, h1, VRs_map_d.1 h2⟩
    · rintro ⟨v, r, rfl, h1, h2⟩; exact ⟨v, r, rfl, h1, VRs_map_d.2 h2⟩

theorem vr_get {c : Cx} {s : List V} {a : Act} (hG : Glob c) (h : c.vrs s a.tmps.toList) (x : Operand) : c.vr (get s x) (a.eval x) := by
  cases x with
  | tmp t =>
    show VR _ _ _ (s.getD t .undef) (a.tmps.getD t undef)
    rw [List.getD_eq_getElem?_getD]
    cases e : s[t]? with
    | none => simp [VR]
    | some x =>
      obtain ⟨v, h1, h2⟩ := VRs_get h t e
      have : a.tmps.getD t undef = v := by
        rw [Array.getElem?_toList] at h1
        simp [Array.getD_eq_getD_getElem?, h1]
      rw [this]
      exact h2
  | const v => exact VR_ofConst _ _ _ v
  | global g =>
    simp only [get]
    split
    · rename_i cs e
      obtain ⟨h1, vs, h2, h3⟩ := hG g cs e
      simp only [VR, Act.eval]
      exact ⟨g, 0, vs, rfl, h1, h2, fun j hj => by rw [Nat.zero_add]; exact h3 j hj⟩
    · simp [VR]
  | func f => simp only [get, VR, VRs, Act.eval]; exact ⟨[], rfl, rfl⟩

/-! ### operators -/
def intBin (op : BinOp) (k : IntKind) (a b : Int) : Option D :=
  match op with
  | .add => some (.int k (k.wrap (a + b)))
  | .sub => some (.int k (k.wrap (a - b)))
  | .mul => some (.int k (k.wrap (a * b)))
  | .quo => if b = 0 then none else some (.int k (k.wrap (a.tdiv b)))
  | .rem => if b = 0 then none else some (.int k (a.tmod b))
  | .and => some (.int k (k.wrap (BitVec.ofInt k.bits a &&& BitVec.ofInt k.bits b).toNat))
  | .or => some (.int k (k.wrap (BitVec.ofInt k.bits a ||| BitVec.ofInt k.bits b).toNat))
  | .xor => some (.int k (k.wrap (BitVec.ofInt k.bits a ^^^ BitVec.ofInt k.bits b).toNat))
  | .andNot => some (.int k (k.wrap (BitVec.ofInt k.bits a &&& ~~~BitVec.ofInt k.bits b).toNat))
  | .eql => some (.bool (a == b))
  | .neq => some (.bool (a != b))
  | .lss => some (.bool (decide (a < b)))
  | .leq => some (.bool (decide (a ≤ b)))
  | .gtr => some (.bool (decide (b < a)))
  | .geq => some (.bool (decide (b ≤ a)))
  | _ => none

def intShift (op : BinOp) (k : IntKind) (a b : Int) : Option D :=
  if b < 0 then none else
  match op with
  | .shl => some (.int k (k.wrap (a * 2 ^ (min b.toNat k.bits))))
  | .shr => some (.int k (a.fdiv (2 ^ (min b.toNat k.bits))))
  | _ => none

def strBin (op : BinOp) (a b : List UInt8) : Option D :=
  match op with
  | .add => if a.length + b.length ≤ 9223372036854775807 then some (.str (a ++ b)) else none
  | .eql => some (.bool (a == b))
  | .neq => some (.bool (!(a == b)))
  | .lss => some (.bool (Op.bytesLess a b))
  | .leq => some (.bool (Op.bytesLess a b || a == b))
  | .gtr => some (.bool (!(Op.bytesLess a b || a == b)))
  | .geq => some (.bool (!Op.bytesLess a b))
  | _ => none

def alive (σ : List Ob) (o : Nat) : Bool := match σ[o]? with | some .dead => false | none => false | _ => true

/-- '==' where it is a plain test of two values that can be told apart: true, false. -/
def eqv (P : Program) (t : TypeId) (σ : List Ob) (x y : V) : Option Bool :=
  match x, y with
  | .d (.bool a), .d (.bool b) => if isBoolT P t then some (a == b) else none
  | .ptr o _ _, .d .nilp => if isPtrT P t && alive σ o then some false else none
  | .d .nilp, .d .nilp => if isPtrT P t then some true else none
  | .ipt _, .d .nilp => if isPtrT P t then some false else none
  | .mp o, .d .nilm => if isMapT P t && alive σ o then some false else none
  | .d .nilm, .d .nilm => if isMapT P t then some true else none
  | .d .nils, .d .nils => if (elemOfSlice P t).isSome then some true else none
  | _, _ => none

/-- The kinds of a comparable type's cells, in order. -/
inductive SK where
  | int | bool | str
  deriving DecidableEq

def flatFields (f : TypeId → Option (List SK)) (szf : TypeId → Nat) : List Field → Nat → Option (List SK)
  | [], _ => some []
  | x :: r, off => if x.name ≠ "_" ∧ x.offset = off then
      match f x.type with
      | some ks => if ks.length = szf x.type ∧ 0 < ks.length then match flatFields f szf r (off + ks.length) with | some ls => some (ks ++ ls) | none => none else none
      | none => none
    else none

def flatT (P : Program) : Nat → TypeId → Option (List SK)
  | 0, _ => none
  | n + 1, t => match P.underlying t with
    | some (.int _) => some [.int]
    | some .bool => some [.bool]
    | some .string => some [.str]
    | some (.struct fs) => if P.stoodInHeld t = false then flatFields (flatT P n) (szOf P) fs.toList 0 else none
    | _ => none

def flatD : List SK → List D → List D → Option Bool
  | [], [], [] => some true
  | .int :: ks, .int k a :: xs, .int k' b :: ys => if k = k' then match flatD ks xs ys with | some r => some ((a == b) && r) | none => none else none
  | .bool :: ks, .bool a :: xs, .bool b :: ys => match flatD ks xs ys with | some r => some ((a == b) && r) | none => none
  | .str :: ks, .str a :: xs, .str b :: ys => match flatD ks xs ys with | some r => some ((a == b) && r) | none => none
  | _, _, _ => none

def V.ds : V → Option (List D)
  | .d (.agg cs) => some cs
  | .agg cs => cs.mapM fun | .d x => some x | _ => none
  | _ => none

def aggEq (P : Program) (t : TypeId) (x y : V) : Option Bool :=
  match x.ds, y.ds, flatT P 8 t with
  | some a, some b, some ks => if P.eqGuardType P.depth t = false ∧ aggT P t = true then flatD ks a b else none
  | _, _, _ => none

def binF (P : Program) (op : BinOp) (t : TypeId) (σ : List Ob) (x y : V) : Option V :=
  match x, y with
  | .d (.int k a), .d (.int k' b) =>
    match op with
    | .shl | .shr => (intShift op k a b).map .d
    | _ => if k = k' then (intBin op k a b).map .d else none
  | .d (.str a), .d (.str b) => (strBin op a b).map .d
  | x, y =>
    match op with
    | .eql => match eqv P t σ x y with | some r => some (.d (.bool r)) | none => (aggEq P t x y).map fun r => .d (.bool r)
    | .neq => match eqv P t σ x y with | some r => some (.d (.bool (!r))) | none => (aggEq P t x y).map fun r => .d (.bool (!r))
    | _ => none

def unF (op : UnOp) : V → Option V
  | .d (.bool b) => match op with | .not => some (.d (.bool (!b))) | _ => none
  | .d (.int k n) => match op with
    | .neg => some (.d (.int k (k.wrap (0 - n))))
    | .xor => (intBin .xor k (if k.signed then -1 else k.max) n).map .d
    | _ => none
  | _ => none

theorem toList_mk (a : List UInt8) : (⟨a.toArray⟩ : ByteArray).toList = a := by rw [ByteArray.toList_eq]

theorem mk_append (a b : List UInt8) : (⟨a.toArray⟩ : ByteArray) ++ ⟨b.toArray⟩ = ⟨(a ++ b).toArray⟩ := by
  apply ByteArray.ext
  simp

theorem size_mk (a : List UInt8) : (⟨a.toArray⟩ : ByteArray).size = a.length := by
  show a.toArray.size = _
  simp

theorem intBin_sound {op : BinOp} {k : IntKind} {a b : Int} {r : D} (h : intBin op k a b = some r) (P : Program) (t : TypeId) (I : Im) (w : World) (ox oy : Operand) :
    ∃ v, (do eqGuard op t ox oy (.int k a) (.int k b); binOp op t (.int k a) (.int k b) : Sem Value).run P w = .ok v w ∧ DR I r v := by
  cases op <;> simp only [intBin] at h
  case quo =>
    split at h
    · cases h
    · rename_i h0; simp only [Option.some.injEq] at h; subst h; simp [eqGuard_quo, binOp_quo, Op.intDiv, DR, h0]
  case rem =>
    split at h
    · cases h
    · rename_i h0; simp only [Option.some.injEq] at h; subst h; simp [eqGuard_rem, binOp_rem, Op.intDiv, DR, h0]
  all_goals first
    | (cases h; done)
    | (simp only [Option.some.injEq] at h; subst h
       simp [eqGuard_at_int, binOp_add, binOp_sub, binOp_mul, binOp_and, binOp_or, binOp_xor, binOp_andNot, binOp_eql, binOp_neq, binOp_lss, binOp_leq, binOp_gtr, binOp_geq, Op.intArith, Op.intBits, DR])

theorem intShift_sound {op : BinOp} {k k' : IntKind} {a b : Int} {r : D} (h : intShift op k a b = some r) (P : Program) (t : TypeId) (I : Im) (w : World) (ox oy : Operand) :
    ∃ v, (do eqGuard op t ox oy (.int k a) (.int k' b); binOp op t (.int k a) (.int k' b) : Sem Value).run P w = .ok v w ∧ DR I r v := by
  unfold intShift at h
  split at h
  · cases h
  · rename_i h0
    cases op <;> simp at h <;> subst h <;> simp [eqGuard_at_int, binOp_shl, binOp_shr, Op.shift, DR, h0]

theorem strBin_sound {op : BinOp} {a b : List UInt8} {r : D} (h : strBin op a b = some r) (P : Program) (t : TypeId) (I : Im) (w : World) (ox oy : Operand) :
    ∃ v, (do eqGuard op t ox oy (.string ⟨a.toArray⟩) (.string ⟨b.toArray⟩); binOp op t (.string ⟨a.toArray⟩) (.string ⟨b.toArray⟩) : Sem Value).run P w = .ok v w ∧ DR I r v := by
  cases op <;> simp [strBin] at h
  case add =>
    obtain ⟨h0, rfl⟩ := h
    have : ¬ (9223372036854775807 < ((a.length : Int) + (b.length : Int))) := by omega
    have e : IntKind.i64.max = 9223372036854775807 := rfl
    simp [eqGuard_at_string, binOp, Op.stringOp, DR, mk_append, size_mk, e, this]
  all_goals (subst h; simp [eqGuard_at_string, binOp, Op.stringOp, DR, toList_mk])

theorem run_sizeOf' {P : Program} {t : TypeId} (h : 0 < szOf P t) (w : World) : (sizeOf t).run P w = .ok (szOf P t) w := by
  unfold szOf at *
  cases hi : P.info? t with
  | none => simp [hi] at h
  | some i => simp [sizeOf, typeInfo, hi]

theorem run_isAgg' {P : Program} {t : TypeId} {d : TypeDesc} (h : P.underlying t = some d) (w : World) : (isAgg t).run P w = .ok (aggT P t) w := by
  unfold aggT
  simp only [isAgg, Sem.run_bind, run_underlying h, Result.andThen_ok, h]
  cases d <;> rfl

theorem flatD_append : ∀ (ks ls : List SK) (xs ys : List D) (r : Bool), flatD (ks ++ ls) xs ys = some r →
    ∃ r1 r2, flatD ks (xs.take ks.length) (ys.take ks.length) = some r1 ∧ flatD ls (xs.drop ks.length) (ys.drop ks.length) = some r2 ∧ r = (r1 && r2)
  | [], ls, xs, ys, r, h => ⟨true, r, by simp [flatD], by simpa using h, by simp⟩
  | k :: ks, ls, xs, ys, r, h => by
    cases xs with
    | nil => cases k <;> simp [flatD] at h
    | cons x xs =>
      cases ys with
      | nil => cases k <;> simp [flatD] at h
      | cons y ys =>
        simp only [List.cons_append] at h
        cases k <;> cases x <;> (try (simp [flatD] at h; done)) <;> cases y <;> (try (simp [flatD] at h; done)) <;> simp only [flatD] at h
        · split at h
          · rename_i hk
            split at h
            · rename_i q hq
              obtain ⟨r1, r2, h1, h2, h3⟩ := flatD_append ks ls xs ys q hq
              simp only [Option.some.injEq] at h
              subst hk
              exact ⟨_, r2, by simp only [List.length_cons, List.take_succ_cons, flatD, if_true, h1]; rfl, by simpa using h2, by rw [← h, h3, Bool.and_assoc]⟩
            · cases h
          · cases h
        all_goals
          split at h
          · rename_i q hq
            obtain ⟨r1, r2, h1, h2, h3⟩ := flatD_append ks ls xs ys q hq
            simp only [Option.some.injEq] at h
            exact ⟨_, r2, by simp only [List.length_cons, List.take_succ_cons, flatD, h1]; rfl, by simpa using h2, by rw [← h, h3, Bool.and_assoc]⟩
          · cases h

theorem flatD_length : ∀ (ks : List SK) (xs ys : List D) (r : Bool), flatD ks xs ys = some r → xs.length = ks.length ∧ ys.length = ks.length
  | [], xs, ys, r, h => by cases xs <;> cases ys <;> simp [flatD] at h ⊢
  | k :: ks, xs, ys, r, h => by
    cases xs with
    | nil => cases k <;> simp [flatD] at h
    | cons x xs =>
      cases ys with
      | nil => cases k <;> simp [flatD] at h
      | cons y ys =>
        cases k <;> cases x <;> (try (simp [flatD] at h; done)) <;> cases y <;> (try (simp [flatD] at h; done)) <;> simp only [flatD] at h
        · split at h
          · split at h
            · rename_i q hq
              obtain ⟨h1, h2⟩ := flatD_length ks xs ys q hq
              exact ⟨by simp [h1], by simp [h2]⟩
            · cases h
          · cases h
        all_goals
          split at h
          · rename_i q hq
            obtain ⟨h1, h2⟩ := flatD_length ks xs ys q hq
            exact ⟨by simp [h1], by simp [h2]⟩
          · cases h

/-- The value of a type whose cells these are. -/
def valOf (P : Program) (t : TypeId) (cs : List Value) : Value := if aggT P t then .agg cs.toArray else cs.headD undef

theorem run_part {P : Program} {t : TypeId} {d : TypeDesc} (h : P.underlying t = some d) (h0 : 0 < szOf P t) (cs : List Value) (off : Nat) (hl : off + szOf P t ≤ cs.length) (w : World) :
    (part t cs.toArray off).run P w = .ok (valOf P t ((cs.drop off).take (szOf P t))) w := by
  simp only [part, Sem.run_bind, run_isAgg' h, Result.andThen_ok, valOf]
  cases ha : aggT P t with
  | true =>
    simp only [if_true, Sem.run_bind, run_sizeOf' h0, Result.andThen_ok, Sem.run_pure]
    congr 2
    apply Array.ext'
    simp
  | false =>
    simp only [Bool.false_eq_true, if_false]
    have hlt : off < cs.length := by omega
    have e : cs.toArray[off]? = some cs[off] := by simp [List.getElem?_eq_getElem hlt]
    rw [e]
    simp only [Sem.run_pure]
    congr 1
    rw [List.drop_eq_getElem_cons hlt]
    obtain ⟨n, hn⟩ : ∃ n, szOf P t = n + 1 := ⟨szOf P t - 1, by omega⟩
    rw [hn, List.take_succ_cons]
    rfl

theorem flat_eq (P : Program) (w : World) (I : Im) : ∀ (n : Nat) (t : TypeId) (ks : List SK), flatT P n t = some ks → ∀ (d : Nat), n ≤ d → ∀ (as bs : List D) (xs ys : List Value) (r : Bool),
    flatD ks as bs = some r → DRs I as xs → DRs I bs ys → (∃ e, P.underlying t = some e) ∧ (Op.equalIn d t (valOf P t xs) (valOf P t ys)).run P w = .ok r w
  | 0, t, ks, h, d, hd, as, bs, xs, ys, r, hf, hx, hy => by simp [flatT] at h
  | n + 1, t, ks, h, 0, hd, as, bs, xs, ys, r, hf, hx, hy => by omega
  | n + 1, t, ks, h, d + 1, hd, as, bs, xs, ys, r, hf, hx, hy => by
    unfold flatT at h
    split at h
    · rename_i k hu
      simp only [Option.some.injEq] at h; subst h
      refine ⟨⟨_, hu⟩, ?_⟩
      have ha : aggT P t = false := by simp [aggT, hu]
      have hl := flatD_length _ _ _ _ hf
      match as, bs, hl with
      | [a], [b], _ =>
        cases a <;> (try (simp [flatD] at hf; done)) <;> cases b <;> (try (simp [flatD] at hf; done))
        simp only [DRs, DR] at hx hy
        obtain ⟨v, r', rfl, rfl, rfl⟩ := hx
        obtain ⟨v', r'', rfl, rfl, rfl⟩ := hy
        simp [flatD] at hf
        obtain ⟨rfl, hf⟩ := hf
        simp only [valOf, ha, Bool.false_eq_true, if_false, List.headD_cons]
        rw [run_equalIn_int w d t _ k _ _ hu, hf]
    · rename_i hu
      simp only [Option.some.injEq] at h; subst h
      refine ⟨⟨_, hu⟩, ?_⟩
      have ha : aggT P t = false := by simp [aggT, hu]
      have hl := flatD_length _ _ _ _ hf
      match as, bs, hl with
      | [a], [b], _ =>
        cases a <;> (try (simp [flatD] at hf; done)) <;> cases b <;> (try (simp [flatD] at hf; done))
        simp only [DRs, DR] at hx hy
        obtain ⟨v, r', rfl, rfl, rfl⟩ := hx
        obtain ⟨v', r'', rfl, rfl, rfl⟩ := hy
        simp [flatD] at hf
        simp only [valOf, ha, Bool.false_eq_true, if_false, List.headD_cons]
        rw [run_equalIn_bool' w d t _ _ hu, hf]
    · rename_i hu
      simp only [Option.some.injEq] at h; subst h
      refine ⟨⟨_, hu⟩, ?_⟩
      have ha : aggT P t = false := by simp [aggT, hu]
      have hl := flatD_length _ _ _ _ hf
      match as, bs, hl with
      | [a], [b], _ =>
        cases a <;> (try (simp [flatD] at hf; done)) <;> cases b <;> (try (simp [flatD] at hf; done))
        simp only [DRs, DR] at hx hy
        obtain ⟨v, r', rfl, rfl, rfl⟩ := hx
        obtain ⟨v', r'', rfl, rfl, rfl⟩ := hy
        simp [flatD] at hf
        simp only [valOf, ha, Bool.false_eq_true, if_false, List.headD_cons]
        rw [run_equalIn_string w d t _ _ hu, toList_mk, toList_mk, hf]
    · rename_i fs hu
      refine ⟨⟨_, hu⟩, ?_⟩
      have ha : aggT P t = true := by simp [aggT, hu]
      split at h
      · rename_i hst
        have hfo : P.fieldsOf t = fs := by simp [Program.fieldsOf, hu]
        simp only [valOf, ha, if_true]
        rw [run_equalIn_struct w d t _ _ (by rw [hfo]; exact hu) hst, hfo]
        have key : ∀ (l : List Field) (off : Nat) (ks : List SK), flatFields (flatT P n) (szOf P) l off = some ks → ∀ r, flatD ks (as.drop off) (bs.drop off) = some r →
            (Op.eqFields d xs.toArray ys.toArray l).run P w = .ok r w := by
          intro l
          induction l with
          | nil =>
            intro off ks h r hf
            simp only [flatFields, Option.some.injEq] at h; subst h
            cases ha : as.drop off <;> cases hb : bs.drop off <;> rw [ha, hb] at hf <;> simp [flatD] at hf
            subst hf
            simp [Op.eqFields]
          | cons f l ih =>
            intro off ks h r hf
            simp only [flatFields] at h
            split at h
            · rename_i hn
              obtain ⟨hn, ho⟩ := hn
              split at h
              · rename_i k1 hk1
                split at h
                · rename_i hs
                  obtain ⟨hs, h0⟩ := hs
                  split at h
                  · rename_i ls hls
                    simp only [Option.some.injEq] at h; subst h
                    obtain ⟨r1, r2, g1, g2, g3⟩ := flatD_append k1 ls _ _ r hf
                    have l1 := (flatD_length _ _ _ _ hf)
                    rw [List.length_drop, List.length_append] at l1
                    have lx := DRs_length hx
                    have ly := DRs_length hy
                    obtain ⟨⟨e, he⟩, hrec⟩ := flat_eq P w I n f.type k1 hk1 d (by omega) _ _ ((xs.drop off).take k1.length) ((ys.drop off).take k1.length) r1 g1 (DRs_take (DRs_drop hx off) _) (DRs_take (DRs_drop hy off) _)
                    have ih' := ih (off + k1.length) ls hls r2 (by rw [← List.drop_drop, ← List.drop_drop]; exact g2)
                    have p1 := run_part he (by omega) xs f.offset (by rw [ho, ← hs]; rw [List.length_drop] at l1; omega) w
                    have p2 := run_part he (by omega) ys f.offset (by rw [ho, ← hs]; rw [List.length_drop] at l1; omega) w
                    rw [ho, ← hs] at p1 p2
                    simp only [Op.eqFields, hn, ne_eq, not_false_eq_true, if_true, Sem.run_bind, ho, p1, p2, Result.andThen_ok, hrec]
                    cases r1
                    · simp [g3]
                    · simp [g3, ih']
                  · cases h
                · cases h
              · cases h
            · cases h
        have := key fs.toList 0 ks h r (by simpa using hf)
        exact this
      · cases h
    · cases h
end Go.Proofs.YtchgfpehcjomeaaGreatDoor.Am
