/- The evaluator for long runs: the slots in a tree, the numbers laid open at once. -/
import Derived.Test.YteafabpedfgedaaGreatDoorZ8
set_option linter.unusedSimpArgs false
set_option linter.unusedVariables false
namespace Go.Proofs.YteafabpedfgedaaGreatDoor.Am
open Go

/-! ### slots in a tree -/
inductive Tr where
  | leaf
  | node (k : Nat) (v : V) (l r : Tr)

def Tr.find : Tr → Nat → Option V
  | .leaf, _ => none
  | .node k v l r, i => match Nat.beq i k with
    | true => some v
    | false => match Nat.ble i k with
      | true => l.find i
      | false => r.find i

def Tr.get : Tr → Nat → V
  | .leaf, _ => .undef
  | .node k v l r, i => match Nat.beq i k with
    | true => v
    | false => match Nat.ble i k with
      | true => l.get i
      | false => r.get i

def Tr.set : Tr → Nat → V → Tr
  | .leaf, _, _ => .leaf
  | .node k v l r, i, x => match Nat.beq i k with
    | true => .node k x l r
    | false => match Nat.ble i k with
      | true => .node k v (l.set i x) r
      | false => .node k v l (r.set i x)

/-- 'n' empty slots from 'lo' on. -/
def Tr.new : Nat → Nat → Nat → Tr
  | 0, _, _ => .leaf
  | f + 1, lo, n => match n with
    | 0 => .leaf
    | m + 1 => .node (lo + m / 2) .undef (Tr.new f lo (m / 2)) (Tr.new f (lo + m / 2 + 1) (m - m / 2))

theorem Tr.get_find : ∀ (t : Tr) (i : Nat), t.get i = (t.find i).getD .undef
  | .leaf, _ => rfl
  | .node k v l r, i => by
    simp only [Tr.get, Tr.find]
    split
    · rfl
    · split
      · exact Tr.get_find l i
      · exact Tr.get_find r i

theorem Tr.find_set : ∀ (t : Tr) (d : Nat) (v : V) (i : Nat), (t.set d v).find i = if i = d then (t.find d).map fun _ => v else t.find i
  | .leaf, d, v, i => by simp [Tr.set, Tr.find]
  | .node k x l r, d, v, i => by
    simp only [Tr.set]
    by_cases h : i = d
    · subst h
      simp only [if_true]
      split
      · rename_i e; simp [Tr.find, e]
      · rename_i e
        split
        · rename_i e'
          have := Tr.find_set l i v i
          simp only [if_true] at this
          simp [Tr.find, e, e', this]
        · rename_i e'
          have := Tr.find_set r i v i
          simp only [if_true] at this
          simp [Tr.find, e, e', this]
    · simp only [if_neg h]
      split
      · rename_i e
        have hk : d = k := Nat.eq_of_beq_eq_true e
        have : Nat.beq i k = false := by
          cases q : Nat.beq i k with
          | true => exact absurd ((Nat.eq_of_beq_eq_true q).trans hk.symm) h
          | false => rfl
        simp [Tr.find, this]
      · split
        · simp only [Tr.find]
          rw [Tr.find_set l d v i, if_neg h]
        · simp only [Tr.find]
          rw [Tr.find_set r d v i, if_neg h]

theorem Tr.find_new : ∀ (f lo n : Nat), n < 2 ^ f → ∀ i, (Tr.new f lo n).find i = if lo ≤ i ∧ i < lo + n then some .undef else none
  | 0, lo, n, h, i => by
    have : n = 0 := by simpa using h
    subst this
    simp only [Tr.new, Tr.find]
    rw [if_neg (by omega)]
  | f + 1, lo, 0, h, i => by
    simp only [Tr.new, Tr.find]
    rw [if_neg (by omega)]
  | f + 1, lo, m + 1, h, i => by
    have hp : 2 ^ (f + 1) = 2 * 2 ^ f := by rw [Nat.pow_succ]; omega
    simp only [Tr.new, Tr.find]
    split
    · rename_i e
      have := Nat.eq_of_beq_eq_true e
      rw [if_pos (by omega)]
    · rename_i e
      have hne : i ≠ lo + m / 2 := fun q => by rw [q] at e; simp at e
      split
      · rename_i e'
        have := Nat.le_of_ble_eq_true e'
        rw [Tr.find_new f lo (m / 2) (by omega) i]
        by_cases q : lo ≤ i ∧ i < lo + m / 2
        · rw [if_pos q, if_pos (by omega)]
        · rw [if_neg q, if_neg (by omega)]
      · rename_i e'
        have hlt : ¬ i ≤ lo + m / 2 := fun q => by have := Nat.ble_eq_true_of_le q; rw [this] at e'; cases e'
        rw [Tr.find_new f (lo + m / 2 + 1) (m - m / 2) (by omega) i]
        by_cases q : lo + m / 2 + 1 ≤ i ∧ i < lo + m / 2 + 1 + (m - m / 2)
        · rw [if_pos q, if_pos (by omega)]
        · rw [if_neg q, if_neg (by omega)]

def Rep (t : Tr) (s : List V) : Prop := ∀ i, t.find i = s[i]?

theorem Rep.set {t : Tr} {s : List V} (h : Rep t s) (d : Nat) (v : V) : Rep (t.set d v) (s.set d v) := fun i => by
  rw [Tr.find_set, List.getElem?_set]
  by_cases q : i = d
  · subst q
    simp only [if_true]
    rw [h i]
    by_cases hl : i < s.length
    · simp [hl]
    · simp [hl]
  · rw [if_neg q, if_neg (fun e => q e.symm)]
    exact h i

theorem Rep.get {t : Tr} {s : List V} (h : Rep t s) (i : Nat) : t.get i = s.getD i .undef := by
  rw [Tr.get_find, h i, List.getD_eq_getElem?_getD]

/-- A number laid open: the term that stands for it is a numeral. -/
def openN {α : Type} (n : Nat) (f : Nat → α) : α := Nat.rec (f 0) (fun m _ => f (m + 1)) n
theorem openN_eq {α : Type} (n : Nat) (f : Nat → α) : openN n f = f n := by cases n <;> rfl
def openZ {α : Type} (n : Int) (f : Int → α) : α := match n with
  | .ofNat m => openN m fun m => f (.ofNat m)
  | .negSucc m => openN m fun m => f (.negSucc m)
theorem openZ_eq {α : Type} (n : Int) (f : Int → α) : openZ n f = f n := by cases n <;> simp [openZ, openN_eq]
def openV {α : Type} (v : V) (f : V → α) : α := match v with
  | .d d => match d with
    | .int k n => openZ n fun n => f (.d (.int k n))
    | .bool b => match b with
      | true => f (.d (.bool true))
      | false => f (.d (.bool false))
    | d => f (.d d)
  | .ptr o i k => openN o fun o => openN i fun i => openN k fun k => f (.ptr o i k)
  | .sl o i k => openN o fun o => openN i fun i => openN k fun k => f (.sl o i k)
  | .mp o => openN o fun o => f (.mp o)
  | v => f v
theorem openV_eq {α : Type} (v : V) (f : V → α) : openV v f = f v := by
  cases v with
  | d d =>
    cases d with
    | int k n => simp only [openV, openZ_eq]
    | bool b => cases b <;> rfl
    | _ => rfl
  | ptr o i k => simp only [openV, openN_eq]
  | sl o i k => simp only [openV, openN_eq]
  | mp o => simp only [openV, openN_eq]
  | _ => rfl

/-- A list's spine laid open. -/
def openL {α β : Type} : List α → (List α → β) → β
  | [], f => f []
  | x :: r, f => openL r fun r => f (x :: r)
theorem openL_eq {α β : Type} : ∀ (l : List α) (f : List α → β), openL l f = f l
  | [], _ => rfl
  | x :: r, f => by rw [openL, openL_eq r]
def openS {β : Type} : List UInt8 → (List UInt8 → β) → β
  | [], f => f []
  | x :: r, f => openN x.toNat fun n => openS r fun r => f (UInt8.ofNat n :: r)
theorem openS_eq {β : Type} : ∀ (l : List UInt8) (f : List UInt8 → β), openS l f = f l
  | [], _ => rfl
  | x :: r, f => by rw [openS, openN_eq, openS_eq r]; simp
mutual
def openD {β : Type} : D → (D → β) → β
  | .int k n, f => openZ n fun n => f (.int k n)
  | .bool b, f => match b with
    | true => f (.bool true)
    | false => f (.bool false)
  | .str s, f => openS s fun s => f (.str s)
  | .lst sz es, f => openDs es fun es => f (.lst sz es)
  | .agg cs, f => openDs cs fun cs => f (.agg cs)
  | .ifc t d, f => openD d fun d => f (.ifc t d)
  | .nils, f => f .nils
  | .nilp, f => f .nilp
  | .nilm, f => f .nilm
  | .nilf, f => f .nilf
  | .nili, f => f .nili
  | .any, f => f .any
def openDs {β : Type} : List D → (List D → β) → β
  | [], f => f []
  | x :: r, f => openD x fun x => openDs r fun r => f (x :: r)
end
mutual
theorem openD_eq {β : Type} : ∀ (d : D) (f : D → β), openD d f = f d
  | .int k n, f => by rw [openD, openZ_eq]
  | .bool b, f => by cases b <;> rfl
  | .str s, f => by rw [openD, openS_eq]
  | .lst sz es, f => by rw [openD, openDs_eq]
  | .agg cs, f => by rw [openD, openDs_eq]
  | .ifc t d, f => by rw [openD, openD_eq]
  | .nils, _ => rfl
  | .nilp, _ => rfl
  | .nilm, _ => rfl
  | .nilf, _ => rfl
  | .nili, _ => rfl
  | .any, _ => rfl
theorem openDs_eq {β : Type} : ∀ (l : List D) (f : List D → β), openDs l f = f l
  | [], _ => rfl
  | x :: r, f => by rw [openDs, openD_eq, openDs_eq r]
end

/-- What an operation has made, laid open: a string; the object that it has written. -/
def openR {β : Type} (v : V) (f : V → β) : β := match v with
  | .d (.str s) => openS s fun s => f (.d (.str s))
  | v => f v
theorem openR_eq {β : Type} (v : V) (f : V → β) : openR v f = f v := by
  unfold openR
  split
  · rw [openS_eq]
  · rfl
def openO {β : Type} : Ob → (Ob → β) → β
  | .box cs, f => openL cs fun cs => f (.box cs)
  | .vec sz cs, f => openL cs fun cs => f (.vec sz cs)
  | .arr sz mk es, f => openL es fun es => f (.arr sz mk es)
  | x, f => f x
theorem openO_eq {β : Type} (x : Ob) (f : Ob → β) : openO x f = f x := by
  cases x <;> simp only [openO, openL_eq]
/-- One object laid open. -/
def openAt {β : Type} (o : Nat) (σ : List Ob) (f : List Ob → β) : β := match σ[o]? with
  | some x => openO x fun x => openL (σ.set o x) f
  | none => f σ
theorem openAt_eq {β : Type} (o : Nat) (σ : List Ob) (f : List Ob → β) : openAt o σ f = f σ := by
  unfold openAt
  split
  · rename_i x h
    rw [openO_eq, openL_eq]
    congr 1
    obtain ⟨h1, h2⟩ := List.getElem?_eq_some_iff.1 h
    rw [← h2, List.set_getElem_self]
  · rfl
/-- Does an operation make a string, or write the store? -/
def makes : Op → Bool
  | .binOp _ _ _ _ _ => true
  | .convert _ _ _ => true
  | .slice _ _ _ _ _ => true
  | _ => false
def touches (g : Operand → V) (v : V) : Op → Option Nat
  | .store _ a _ => match g a with | .ptr o _ _ => some o | _ => none
  | .call { callee := .builtin .append, args := _, argTypes := _ } => match v with | .sl o _ _ => some o | _ => none
  | _ => none
def openRes {β : Type} (op : Op) (g : Operand → V) (v : V) (σ : List Ob) (f : V → List Ob → β) : β :=
  match makes op with
  | true => openR v fun v => f v σ
  | false => match touches g v op with | some o => openAt o σ fun σ => f v σ | none => f v σ
theorem openRes_eq {β : Type} (op : Op) (g : Operand → V) (v : V) (σ : List Ob) (f : V → List Ob → β) : openRes op g v σ f = f v σ := by
  unfold openRes
  split
  · rw [openR_eq]
  · split
    · rw [openAt_eq]
    · rfl

def putT (t : Tr) (dst : Option Tmp) (v : V) : Tr := match dst with
  | some d => openV v fun v => t.set d v
  | none => t
theorem Rep.put {t : Tr} {s : List V} (h : Rep t s) (dst : Option Tmp) (v : V) : Rep (putT t dst v) (putV s dst v) := by
  cases dst with
  | none => exact h
  | some d => simp only [putT, putV, openV_eq]; exact h.set d v

def newT (n : Nat) (args : List V) : Tr := go (Tr.new 12 0 n) 0 args
where go (t : Tr) (i : Nat) : List V → Tr
  | [] => t
  | x :: r => go (openV x fun x => t.set i x) (i + 1) r

theorem newT_go : ∀ (args : List V) (t : Tr) (pre : List V) (n : Nat), Rep t (pre ++ List.replicate n .undef) → args.length ≤ n → Rep (newT.go t pre.length args) (pre ++ args ++ List.replicate (n - args.length) .undef)
  | [], t, pre, n, h, _ => by simpa [newT.go] using h
  | x :: r, t, pre, n, h, hl => by
    simp only [List.length_cons] at hl
    simp only [newT.go, openV_eq]
    have h1 := h.set pre.length x
    have e : (pre ++ List.replicate n V.undef).set pre.length x = (pre ++ [x]) ++ List.replicate (n - 1) .undef := by
      obtain ⟨m, rfl⟩ : ∃ m, n = m + 1 := ⟨n - 1, by omega⟩
      rw [List.set_append_right _ _ (by omega)]
      simp [List.replicate_succ]
    rw [e] at h1
    have h2 := newT_go r _ (pre ++ [x]) (n - 1) h1 (by omega)
    simp only [List.length_append, List.length_cons, List.length_nil, Nat.zero_add] at h2
    simpa [Nat.sub_sub, Nat.add_comm] using h2

theorem newT_rep {n : Nat} {args : List V} (hn : n < 4096) (ha : args.length ≤ n) : Rep (newT n args) (args ++ List.replicate (n - args.length) .undef) := by
  have h : Rep (Tr.new 12 0 n) ([] ++ List.replicate n .undef) := fun i => by
    rw [Tr.find_new 12 0 n (by omega)]
    simp only [List.nil_append, List.getElem?_replicate, Nat.zero_le, true_and, Nat.zero_add]
  have h2 := newT_go args _ [] n h ha
  simp only [List.nil_append, List.length_nil] at h2
  unfold newT
  exact h2

/-! ### the operations, over whatever gives the slots -/
def getT (t : Tr) : Operand → V
  | .tmp i => t.get i
  | .const v => ofConst v
  | .global g => match globs g with | some cs => .ipt cs | none => .undef
  | .func f => .fn f []

theorem getT_eq {t : Tr} {s : List V} (h : Rep t s) : getT t = get s := by
  funext x
  cases x with
  | tmp i => exact h.get i
  | _ => rfl

section
variable (P : Program) (g : Operand → V) (σ : List Ob)

def argsK (args : Array Operand) : List V := args.toList.map g

def quietFK : Op → Option V
  | .move x => some (g x)
  | .assign x => some (g x)
  | .pick c a b => match g c with | .d (.bool t) => some (match t with | true => g a | false => g b) | _ => none
  | .nilCheck x => match g x with
    | .ptr o i k => if alive σ o then some (.ptr o i k) else none
    | .ipt cs => some (.ipt cs)
    | _ => none
  | .binOp op t x y _ => binF P op t σ (g x) (g y)
  | .unOp op _ x => unF op (g x)
  | .convert src dst x => convF P src dst σ (g x)
  | .fieldAddr t x f => fieldAddrF P t f σ (g x)
  | .field t x f => fieldF P t f (g x)
  | .load t x => loadF P t σ (g x)
  | .indexAddr t x ix => indexAddrF P t σ (g x) (g ix)
  | .index t x ix => indexF P t (g x) (g ix)
  | .slice t x lo hi mx => sliceF P t σ (g x) (lo.map g) (hi.map g) (mx.map g)
  | .extract x i => match g x with | .tup vs => vs[i]? | _ => none
  | .makeFunc (.func f) first caps => if first = #[] then some (.fn f (argsK g caps)) else if caps = #[] then some (.bm f (argsK g first)) else none
  | .typeAssert x _ t ok => assertF P t ok (g x)
  | .lookup t x k ok => lookupF P t σ (g x) (g k) ok
  | .call { callee := .builtin b, args, argTypes } => builtinF P b argTypes.toList σ (argsK g args)
  | _ => none

def fillK (place : Nat → Option (Nat × Nat)) : List V → List (Nat × Operand) → Option (List V)
  | cs, [] => some cs
  | cs, (i, x) :: r => match place i, cellsV σ (g x) with
    | some (off, size), some xs => if xs.length = size ∧ off + size ≤ cs.length then fillK place (setAt cs off xs) r else none
    | _, _ => none

def buildK (t : TypeId) (parts : List (Nat × Operand)) : Option V :=
  match zeroCs P t with
  | some z => match flds P t with
    | some l => (fillK g σ (l[·]?) z parts).map .agg
    | none => match arrT P t with
      | some (_, e) => if 0 < szOf P e then (fillK g σ (fun i => some (i * szOf P e, szOf P e)) z parts).map .agg else none
      | none => none
  | none => none

def quietK : Op → Option V
  | .build t parts => buildK P g σ t parts.toList
  | op => quietFK P g σ op

def toDsK (sz : Nat) : List Operand → Option (List D)
  | [] => some []
  | x :: r => match toD σ (g x), toDsK sz r with
    | some d, some ds => if flatOk d sz then some (d :: ds) else none
    | _, _ => none

def buildSliceK (t : TypeId) (len : Nat) (parts : List (Nat × Operand)) : Option (V × List Ob) :=
  match elemOfSlice P t with
  | some e => if elemOk P e = true ∧ len * szOf P e ≤ 16777216 then
      match inOrder 0 parts with
      | some xs => if xs.length = len then match toDsK g σ (szOf P e) xs with
          | some ds => some (.sl σ.length 0 len, σ ++ [.arr (szOf P e) false ds])
          | none => none
        else none
      | none => none
    else none
  | none => none

def toCsK (sz : Nat) : List Operand → Option (List V)
  | [] => some []
  | x :: r => match cellsV σ (g x), toCsK sz r with
    | some cs, some ds => if cs.length = sz then some (cs ++ ds) else none
    | _, _ => none

def buildVecK (t : TypeId) (len : Nat) (parts : List (Nat × Operand)) : Option (V × List Ob) :=
  match elemOfSlice P t with
  | some e => if elemOk P e = true ∧ len * szOf P e ≤ 16777216 then
      match inOrder 0 parts with
      | some xs => if xs.length = len then match toCsK g σ (szOf P e) xs with
          | some cs => some (.sl σ.length 0 len, σ ++ [.vec (szOf P e) cs])
          | none => none
        else none
      | none => none
    else none
  | none => none

def buildSliceDK (t : TypeId) (len : Nat) (parts : List (Nat × Operand)) : Option V :=
  match elemOfSlice P t with
  | some e => if elemOk P e = true ∧ len * szOf P e ≤ 16777216 then
      match inOrder 0 parts with
      | some xs => if xs.length = len then match toDsK g σ (szOf P e) xs with
          | some ds => some (.d (.lst (szOf P e) ds))
          | none => none
        else none
      | none => none
    else none
  | none => none

def effK : Op → Option (V × List Ob)
  | .next x true => nextS σ (g x)
  | .alloc t => (zeroCs P t).map fun cs => (.ptr σ.length 0 0, σ ++ [.box cs])
  | .box _ x => (cellsV σ (g x)).map fun cs => (.ptr σ.length 0 0, σ ++ [.box cs])
  | .buildSlice t len parts => match buildSliceK P g σ t len parts.toList with
    | some r => some r
    | none => buildVecK P g σ t len parts.toList
  | .store t a x => (storeF P t σ (g a) (g x)).map fun σ' => (.undef, σ')
  | .makeSlice t l c => match makeSliceF P t σ (g l) (g c) with
    | some r => some r
    | none => makeVecF P t σ (g l) (g c)
  | .makeMap _ none => some (.mp σ.length, σ ++ [.map [] 0])
  | .mapUpdate t m k x => (mapUpdateF P t σ (g m) (g k) (g x)).map fun σ' => (.undef, σ')
  | .insert t m k x => (mapUpdateF P t σ (g m) (g k) (g x)).map fun σ' => (.undef, σ')
  | .mapEntry t m k => mapEntryF P t σ (g m) (g k)
  | .entryStore _ m st x => (entryStoreF P σ (g m) (g st) (g x)).map fun σ' => (.undef, σ')
  | .convert src dst x => match strBytesF P src dst σ (g x) with
    | some r => some r
    | none => markF P src dst σ (g x)
  | .range t x => rangeF P t σ (g x)
  | .entry x => (entryF σ (g x)).map fun r => (r, σ)
  | .call { callee := .builtin .append, args, argTypes } => match args.toList, argTypes.toList with
    | [d, x], [t, tx] => match appendInF P t tx σ (g d) (g x) with
      | some r => some r
      | none => match appendF P t tx σ (g d) (g x) with
        | some r => some r
        | none => appendVecF P t tx σ (g d) (g x)
    | _, _ => none
  | .call { callee := .builtin .delete, args, argTypes } => match args.toList, argTypes.toList with
    | [m, k], t :: _ => (deleteF P t σ (g m) (g k)).map fun σ' => (.tup [], σ')
    | _, _ => none
  | .call { callee := .builtin .clear, args, argTypes } => match args.toList, argTypes.toList with
    | [x], [t] => (clearF P t σ (g x)).map fun σ' => (.tup [], σ')
    | _, _ => none
  | _ => none

def nilK (op : Op) : Option (V × List Ob) :=
  match op with
  | .binOp .eql t x y _ => match g x, g y with
    | .d (.lst _ (_ :: _)), .d .nils => if isSliceT P t then some (.d (.bool false), σ) else none
    | .sl o _ (_ + 1), .d .nils => if isSliceT P t && alive σ o then some (.d (.bool false), σ) else none
    | .d .nili, .d .nili => if isIfaceT P t && isConstB y then some (.d (.bool true), σ) else none
    | _, _ => none
  | .binOp .neq t x y _ => match g x, g y with
    | .d (.lst _ (_ :: _)), .d .nils => if isSliceT P t then some (.d (.bool true), σ) else none
    | .sl o _ (_ + 1), .d .nils => if isSliceT P t && alive σ o then some (.d (.bool true), σ) else none
    | .d .nili, .d .nili => if isIfaceT P t && isConstB y then some (.d (.bool false), σ) else none
    | _, _ => none
  | _ => none

def doQK (al : Bool) (op : Op) : Option V :=
  match al with
  | false => quietK P g σ op
  | true => match op with
    | .buildSlice t len parts => buildSliceDK P g σ t len parts.toList
    | _ => none
end

theorem fillK_eq (place : Nat → Option (Nat × Nat)) (σ : List Ob) (s : List V) : ∀ (ps : List (Nat × Operand)) (cs : List V), fillK (get s) σ place cs ps = fillV place σ s cs ps
  | [], cs => rfl
  | (i, x) :: r, cs => by
    simp only [fillK, fillV, fillK_eq place σ s r]
    rfl
theorem buildK_eq (P : Program) (σ : List Ob) (s : List V) (t : TypeId) (ps : List (Nat × Operand)) : buildK P (get s) σ t ps = buildF P t σ s ps := by
  unfold buildK buildF
  simp only [fillK_eq]
  rfl
theorem quietFK_eq (P : Program) (s : List V) (σ : List Ob) (op : Op) : quietFK P (get s) σ op = quietF P s σ op := by
  unfold quietFK quietF
  rfl
theorem quietK_eq (P : Program) (s : List V) (σ : List Ob) (op : Op) : quietK P (get s) σ op = quietG P s σ op := by
  cases op with
  | build t parts => exact buildK_eq _ _ _ _ _
  | _ => rfl
theorem toDsK_eq (s : List V) (σ : List Ob) (sz : Nat) : ∀ xs : List Operand, toDsK (get s) σ sz xs = toDs σ s sz xs
  | [] => rfl
  | x :: r => by simp only [toDsK, toDs, toDsK_eq s σ sz r]; rfl
theorem buildSliceK_eq (P : Program) (s : List V) (σ : List Ob) (t : TypeId) (len : Nat) (ps : List (Nat × Operand)) : buildSliceK P (get s) σ t len ps = buildSliceF P t len σ s ps := by
  unfold buildSliceK buildSliceF
  simp only [toDsK_eq]
  rfl
theorem toCsK_eq (s : List V) (σ : List Ob) (sz : Nat) : ∀ xs : List Operand, toCsK (get s) σ sz xs = toCs σ s sz xs
  | [] => rfl
  | x :: xs => by simp only [toCsK, toCs, toCsK_eq s σ sz xs]; rfl
theorem buildVecK_eq (P : Program) (s : List V) (σ : List Ob) (t : TypeId) (len : Nat) (ps : List (Nat × Operand)) : buildVecK P (get s) σ t len ps = buildVecF P t len σ s ps := by
  unfold buildVecK buildVecF
  simp only [toCsK_eq]
  rfl
theorem buildSliceDK_eq (P : Program) (s : List V) (σ : List Ob) (t : TypeId) (len : Nat) (ps : List (Nat × Operand)) : buildSliceDK P (get s) σ t len ps = buildSliceD P t len σ s ps := by
  unfold buildSliceDK buildSliceD
  simp only [toDsK_eq]
  rfl
theorem effK_eq (P : Program) (s : List V) (σ : List Ob) (op : Op) : effK P (get s) σ op = effF P s σ op := by
  cases op with
  | buildSlice t len parts => simp only [effK, effF, buildE, buildSliceK_eq, buildVecK_eq]; rfl
  | makeMap t r => cases r <;> rfl
  | next x b => cases b <;> rfl
  | call c =>
    obtain ⟨callee, args, ts⟩ := c
    cases callee with
    | builtin b => cases b <;> rfl
    | _ => rfl
  | _ => rfl
theorem nilK_eq (P : Program) (s : List V) (σ : List Ob) (op : Op) : nilK P (get s) σ op = nilB P s σ op := rfl
theorem doQK_eq (P : Program) (s : List V) (σ : List Ob) (al : Bool) (op : Op) : doQK P (get s) σ al op = doQC P al op s σ := by
  cases al with
  | false => exact quietK_eq _ _ _ _
  | true =>
    cases op with
    | buildSlice t len parts => exact buildSliceDK_eq _ _ _ _ _ _
    | _ => rfl

/-! ### the evaluator -/
section
variable (P : Program) (call : FuncId → List V → List Ob → Option (V × List Ob))

def opK (op : Op) (g : Operand → V) (σ : List Ob) : Option (V × List Ob) :=
  match op with
  | .call { callee := .value f, args, argTypes := _ } => match g f with
    | .fn h caps => call h (argsK g args ++ caps) σ
    | .bm h first => call h (first ++ argsK g args) σ
    | _ => none
  | op => match quietK P g σ op with
    | some r => some (r, σ)
    | none => match effK P g σ op with
      | some p => some p
      | none => nilK P g σ op

def wantK (o : COp) (t : Tr) : Option Bool :=
  match o.g with
  | none => some true
  | some (d, w) => match t.get d with
    | .d (.bool b) => some (b == w)
    | .tup [] => some false
    | _ => none

def chkK : List (COp × Bool) → Tr → List Ob → Bool
  | [], _, _ => true
  | q :: r, t, σ => (match wantK q.1 t with
      | some true => match doQK P (getT t) σ q.2 q.1.op with
        | some v => match q.1.dst with
          | some d => vEq v (t.get d)
          | none => true
        | none => false
      | some false => match q.1.dst with
        | some d => vEq (t.get d) (.tup [])
        | none => true
      | none => false) && chkK r t σ

def opKD (op : Op) (g : Operand → V) (σ : List Ob) : Option (V × List Ob) :=
  match op with
  | .defer cl => if dferB P cl g then some (.undef, σ) else none
  | op => opK P call op g σ

def stK : List CStp → Tr → List Ob → Option (Tr × List Ob)
  | [], t, σ => some (t, σ)
  | .st o :: r, t, σ => match wantK o t with
    | some true => match opKD P call o.op (getT t) σ with
      | some (v, σ') => openRes o.op (getT t) v σ' fun v σ' => stK r (putT t o.dst v) σ'
      | none => none
    | some false => stK r (putT t o.dst (.tup [])) σ
    | none => none
  | .q al o :: r, t, σ => match wantK o t with
    | some true => match doQK P (getT t) σ al o.op with
      | some v => openRes o.op (getT t) v [] fun v _ => stK r (putT t o.dst v) σ
      | none => none
    | some false => stK r (putT t o.dst (.tup [])) σ
    | none => none
  | .ef o chk :: r, t, σ => match wantK o t with
    | some true => match opK P call o.op (getT t) σ with
      | some (v, σ') => openRes o.op (getT t) v σ' fun v σ' => match chkK P chk (putT t o.dst v) σ' with
        | true => stK r (putT t o.dst v) σ'
        | false => none
      | none => none
    | some false => stK r (putT t o.dst (.tup [])) σ
    | none => none

def loopK (body : Tr → List Ob → Option (Ex × Tr × List Ob)) : Nat → Tr → List Ob → Option (Ex × Tr × List Ob)
  | 0, _, _ => none
  | k + 1, t, σ => match body t σ with
    | some (.normal, t', σ') => loopK body k t' σ'
    | r => r

def codeK (k : Nat) : CCode → Tr → List Ob → Option (Ex × Tr × List Ob)
  | .skip, t, σ => some (.normal, t, σ)
  | .ops l, t, σ => match stK P call l t σ with
    | some (t', σ') => some (.normal, t', σ')
    | none => none
  | .seq a b, t, σ => match codeK k a t σ with
    | some (.normal, t', σ') => codeK k b t' σ'
    | r => r
  | .cond c a b, t, σ => match getT t c with
    | .d (.bool true) => codeK k a t σ
    | .d (.bool false) => codeK k b t σ
    | _ => none
  | .block id a, t, σ => match codeK k a t σ with
    | some (.exit j, t', σ') => match Nat.beq j id with
      | true => some (.normal, t', σ')
      | false => some (.exit j, t', σ')
    | r => r
  | .loop a, t, σ => loopK (fun t σ => codeK k a t σ) k t σ
  | .exit id, t, σ => some (.exit id, t, σ)
  | .ret, t, σ => some (.ret, t, σ)
  | .bad, _, _ => none

def resK (t : Tr) (σ : List Ob) : List ResultVar → Option (List V)
  | [] => some []
  | .tmp i :: rs => match resK t σ rs with | some xs => some (t.get i :: xs) | none => none
  | .cell a ty :: rs => match loadF P ty σ (t.get a), resK t σ rs with | some x, some xs => some (x :: xs) | _, _ => none

def res1K (t : Tr) (σ : List Ob) (rs : List ResultVar) : Option V :=
  match resK P t σ rs with
  | some [x] => some x
  | some xs => some (.tup xs)
  | none => none
end

def allD : List V → Option (List D)
  | [] => some []
  | .d x :: r => match allD r with
    | some l => some (x :: l)
    | none => none
  | _ :: _ => none
theorem allD_eq : ∀ {l : List V} {ds : List D}, allD l = some ds → l = ds.map .d
  | [], ds, h => by simp [allD] at h; subst h; rfl
  | x :: r, ds, h => by
    cases x <;> simp only [allD] at h <;> (try (cases h; done))
    split at h
    · rename_i l hl
      simp only [Option.some.injEq] at h; subst h
      rw [allD_eq hl]; rfl
    · cases h

mutual
def asD : V → Option D
  | .d x => some x
  | .agg cs => match asDs cs with
    | some ds => some (.agg ds)
    | none => none
  | .ptr _ _ _ => none
  | .ipt _ => none
  | .sl _ _ _ => none
  | .mp _ => none
  | .fn _ _ => none
  | .bm _ _ => none
  | .tup _ => none
  | .undef => none
def asDs : List V → Option (List D)
  | [] => some []
  | x :: r => match asD x with
    | some d => match asDs r with
      | some l => some (d :: l)
      | none => none
    | none => none
end
mutual
theorem asD_le : ∀ {x : V} {d : D}, asD x = some d → VLe x (.d d)
  | .d x, d, h => by simp only [asD, Option.some.injEq] at h; subst h; exact VLe.refl _
  | .agg cs, d, h => by
    simp only [asD] at h
    split at h
    · rename_i ds hds
      simp only [Option.some.injEq] at h; subst h
      intro I w l v r
      simp only [VR, DR] at r ⊢
      obtain ⟨vs, h1, h2⟩ := r
      exact ⟨vs, h1, asDs_le hds I w l vs h2⟩
    · cases h
  | .ptr _ _ _, _, h => by simp [asD] at h
  | .ipt _, _, h => by simp [asD] at h
  | .sl _ _ _, _, h => by simp [asD] at h
  | .mp _, _, h => by simp [asD] at h
  | .fn _ _, _, h => by simp [asD] at h
  | .bm _ _, _, h => by simp [asD] at h
  | .tup _, _, h => by simp [asD] at h
  | .undef, _, h => by simp [asD] at h
theorem asDs_le : ∀ {xs : List V} {ds : List D}, asDs xs = some ds → ∀ (I : Im) (w : World) (l : Nat → Loc) (vs : List Value), VRs I w l xs vs → DRs I ds vs
  | [], ds, h, I, w, l, vs, r => by simp only [asDs, Option.some.injEq] at h; subst h; simpa [VRs, DRs] using r
  | x :: xs, ds, h, I, w, l, vs, r => by
    simp only [asDs] at h
    split at h
    · rename_i d hd
      split at h
      · rename_i ds' hds
        simp only [Option.some.injEq] at h; subst h
        simp only [VRs] at r
        obtain ⟨v, t, rfl, h1, h2⟩ := r
        simp only [DRs]
        have h3 := asD_le hd I w l v h1
        simp only [VR] at h3
        exact ⟨v, t, rfl, h3, asDs_le hds I w l t h2⟩
      · cases h
    · cases h
end
theorem callA_asDs {P : Program} {f : FuncId} {args : List V} {ds : List D} (h : asDs args = some ds) {σ : List Ob} {K : V → List Ob → Prop} (g : callA P f (ds.map .d) σ K) : callA P f args σ K :=
  ⟨g.1, fun c vals hs hv => g.2 c vals hs (VRs_map_d.2 (asDs_le h _ _ _ _ hv))⟩

/-- A function's run, whose calls are made by 'call'. -/
def runK (P : Program) (T : Tab) (call : FuncId → List V → List Ob → Option (V × List Ob)) (k : Nat) (f : FuncId) (args : List V) (σ : List Ob) : Option (V × List Ob) :=
  match T.find f with
  | none => none
  | some fn => match Nat.ble args.length fn.n && Nat.blt fn.n 4096 with
    | false => none
    | true => match codeK P call k fn.code (newT fn.n args) σ with
      | none => none
      | some (.exit _, _, _) => none
      | some (_, t, σ') => match res1K P t σ' fn.rs with
        | some r => some (tidy fn.frz σ.length r σ')
        | none => none

def evK (P : Program) (N : Nat') (T : Tab) : Nat → FuncId → List V → List Ob → Option (V × List Ob)
  | 0 => fun _ _ _ => none
  | k + 1 => fun f args σ => match N f args σ with
    | some r => some r
    | none => runK P T (evK P N T k) k f args σ

/-- The functions in 'S' are run from the empty store, their arguments laid open: the same run is then made once. -/
def pureN (call : Nat') (S : FuncId → Bool) (N : Nat') : Nat' := fun f args σ => match S f with
  | true => match asDs args with
    | some ds => openDs ds fun ds => match call f (ds.map .d) [] with
      | some (.d r, []) => openD r fun r => some (.d r, σ)
      | some (.agg cs, []) => match allD cs with
        | some rs => openDs rs fun rs => some (.agg (rs.map .d), σ)
        | none => none
      | some (.tup cs, []) => match allD cs with
        | some rs => openDs rs fun rs => some (.tup (rs.map .d), σ)
        | none => none
      | _ => none
    | none => none
  | false => N f args σ

/-! ### it answers as the plain one -/
section
variable {P : Program} {ck cg : FuncId → List V → List Ob → Option (V × List Ob)}

theorem opK_eq (hc : ∀ g as σ r, ck g as σ = some r → cg g as σ = some r) {op : Op} {s : List V} {σ : List Ob} {r : V × List Ob} (h : opK P ck op (get s) σ = some r) : evOp P cg op s σ = some r := by
  unfold opK at h
  unfold evOp
  split at h
  · split at h
    · rename_i hg
      simp only [hg]
      exact hc _ _ _ _ h
    · rename_i hg
      simp only [hg]
      exact hc _ _ _ _ h
    · cases h
  · rename_i op' hop
    simp only [quietK_eq, effK_eq, nilK_eq] at h
    split
    · rename_i f args ts
      exact (hop f args ts rfl).elim
    · exact h

theorem opKD_eq (hc : ∀ g as σ r, ck g as σ = some r → cg g as σ = some r) {op : Op} {s : List V} {σ : List Ob} {r : V × List Ob} (h : opKD P ck op (get s) σ = some r) : evOpD P cg op s σ = some r := by
  unfold opKD at h
  unfold evOpD
  split at h
  · exact h
  · rename_i hne
    split
    · exact absurd rfl (hne _)
    · exact opK_eq hc h

theorem wantK_eq {o : COp} {t : Tr} {s : List V} (h : Rep t s) : wantK o t = wantC o s := by
  unfold wantK wantC
  simp only [h.get]
  rfl

theorem chkK_eq {t : Tr} {s : List V} (h : Rep t s) {σ : List Ob} : ∀ l : List (COp × Bool), chkK P l t σ = chkB P l s σ
  | [] => rfl
  | q :: r => by simp only [chkK, chkB, wantK_eq h, getT_eq h, doQK_eq, h.get, chkK_eq h r]; rfl

theorem stK_eq (hc : ∀ g as σ r, ck g as σ = some r → cg g as σ = some r) : ∀ {l : List CStp} {t t' : Tr} {s : List V} {σ σ' : List Ob}, Rep t s → stK P ck l t σ = some (t', σ') → ∃ s', evSt P cg l s σ = some (s', σ') ∧ Rep t' s'
  | [], t, t', s, σ, σ', h, e => by
    simp only [stK, Option.some.injEq, Prod.mk.injEq] at e
    obtain ⟨rfl, rfl⟩ := e
    exact ⟨s, rfl, h⟩
  | .st o :: r, t, t', s, σ, σ', h, e => by
    simp only [stK, wantK_eq h, getT_eq h, openRes_eq] at e
    simp only [evSt]
    split at e
    · rename_i hw
      simp only [hw]
      split at e
      · rename_i v σ1 hv
        rw [opKD_eq hc hv]
        exact stK_eq hc (h.put _ _) e
      · cases e
    · rename_i hw
      simp only [hw]
      exact stK_eq hc (h.put _ _) e
    · cases e
  | .q al o :: r, t, t', s, σ, σ', h, e => by
    simp only [stK, wantK_eq h, getT_eq h, doQK_eq, openRes_eq] at e
    simp only [evSt]
    split at e
    · rename_i hw
      simp only [hw]
      split at e
      · rename_i v hv
        simp only [hv]
        exact stK_eq hc (h.put _ _) e
      · cases e
    · rename_i hw
      simp only [hw]
      exact stK_eq hc (h.put _ _) e
    · cases e
  | .ef o chk :: r, t, t', s, σ, σ', h, e => by
    simp only [stK, wantK_eq h, getT_eq h, openRes_eq] at e
    simp only [evSt]
    split at e
    · rename_i hw
      simp only [hw]
      split at e
      · rename_i v σ1 hv
        rw [opK_eq hc hv]
        have h2 := h.put o.dst v
        simp only [chkK_eq h2] at e
        simp only
        split at e
        · rename_i hq
          simp only [hq]
          exact stK_eq hc h2 e
        · cases e
      · cases e
    · rename_i hw
      simp only [hw]
      exact stK_eq hc (h.put _ _) e
    · cases e

theorem loopK_eq {bk : Tr → List Ob → Option (Ex × Tr × List Ob)} {bg : List V → List Ob → Option (Ex × List V × List Ob)} (hb : ∀ (t t' : Tr) (s : List V) (σ σ' : List Ob) (e : Ex), Rep t s → bk t σ = some (e, t', σ') → ∃ s', bg s σ = some (e, s', σ') ∧ Rep t' s') :
    ∀ (k : Nat) {t t' : Tr} {s : List V} {σ σ' : List Ob} {e : Ex}, Rep t s → loopK bk k t σ = some (e, t', σ') → ∃ s', evLoop bg k s σ = some (e, s', σ') ∧ Rep t' s'
  | 0, t, t', s, σ, σ', e, h, q => by simp [loopK] at q
  | k + 1, t, t', s, σ, σ', e, h, q => by
    simp only [loopK] at q
    split at q
    · rename_i t1 σ1 h1
      obtain ⟨s1, g1, g2⟩ := hb _ _ _ _ _ _ h h1
      simp only [evLoop, g1]
      exact loopK_eq hb k g2 q
    · rename_i hne
      obtain ⟨s1, g1, g2⟩ := hb _ _ _ _ _ _ h q
      refine ⟨s1, ?_, g2⟩
      simp only [evLoop, g1]
      cases e with
      | normal => exact (hne _ _ q).elim
      | _ => rfl

theorem codeK_eq (hc : ∀ g as σ r, ck g as σ = some r → cg g as σ = some r) {k : Nat} : ∀ {c : CCode} {t t' : Tr} {s : List V} {σ σ' : List Ob} {e : Ex}, Rep t s → codeK P ck k c t σ = some (e, t', σ') → ∃ s', evC P cg k c s σ = some (e, s', σ') ∧ Rep t' s'
  | .skip, t, t', s, σ, σ', e, h, q => by
    simp only [codeK, Option.some.injEq, Prod.mk.injEq] at q
    obtain ⟨rfl, rfl, rfl⟩ := q
    exact ⟨s, rfl, h⟩
  | .ops l, t, t', s, σ, σ', e, h, q => by
    simp only [codeK] at q
    split at q
    · rename_i t1 σ1 h1
      simp only [Option.some.injEq, Prod.mk.injEq] at q
      obtain ⟨rfl, rfl, rfl⟩ := q
      obtain ⟨s1, g1, g2⟩ := stK_eq hc h h1
      exact ⟨s1, by simp only [evC, g1], g2⟩
    · cases q
  | .seq a b, t, t', s, σ, σ', e, h, q => by
    simp only [codeK] at q
    split at q
    · rename_i t1 σ1 h1
      obtain ⟨s1, g1, g2⟩ := codeK_eq hc h h1
      simp only [evC, g1]
      exact codeK_eq hc g2 q
    · rename_i hne
      obtain ⟨s1, g1, g2⟩ := codeK_eq hc h q
      refine ⟨s1, ?_, g2⟩
      simp only [evC, g1]
      cases e with
      | normal => exact (hne _ _ q).elim
      | _ => rfl
  | .cond c a b, t, t', s, σ, σ', e, h, q => by
    simp only [codeK, getT_eq h] at q
    simp only [evC]
    split at q
    · rename_i hx; simp only [hx]; exact codeK_eq hc h q
    · rename_i hx; simp only [hx]; exact codeK_eq hc h q
    · cases q
  | .block id a, t, t', s, σ, σ', e, h, q => by
    simp only [codeK] at q
    split at q
    · rename_i j t1 σ1 h1
      obtain ⟨s1, g1, g2⟩ := codeK_eq hc h h1
      simp only [evC, g1]
      split at q
      · rename_i hj
        simp only [Option.some.injEq, Prod.mk.injEq] at q
        obtain ⟨rfl, rfl, rfl⟩ := q
        exact ⟨s1, by simp only [hj], g2⟩
      · rename_i hj
        simp only [Option.some.injEq, Prod.mk.injEq] at q
        obtain ⟨rfl, rfl, rfl⟩ := q
        exact ⟨s1, by simp only [hj], g2⟩
    · rename_i hne
      obtain ⟨s1, g1, g2⟩ := codeK_eq hc h q
      refine ⟨s1, ?_, g2⟩
      simp only [evC, g1]
      cases e with
      | exit j => exact (hne _ _ _ q).elim
      | _ => rfl
  | .loop a, t, t', s, σ, σ', e, h, q => by
    simp only [codeK] at q
    simp only [evC]
    exact loopK_eq (bk := fun t σ => codeK P ck k a t σ) (bg := fun s σ => evC P cg k a s σ) (fun _ _ _ _ _ _ h q => codeK_eq hc h q) k h q
  | .exit id, t, t', s, σ, σ', e, h, q => by
    simp only [codeK, Option.some.injEq, Prod.mk.injEq] at q
    obtain ⟨rfl, rfl, rfl⟩ := q
    exact ⟨s, rfl, h⟩
  | .ret, t, t', s, σ, σ', e, h, q => by
    simp only [codeK, Option.some.injEq, Prod.mk.injEq] at q
    obtain ⟨rfl, rfl, rfl⟩ := q
    exact ⟨s, rfl, h⟩
  | .bad, t, t', s, σ, σ', e, h, q => by simp [codeK] at q

theorem resK_eq {t : Tr} {s : List V} (h : Rep t s) {σ : List Ob} : ∀ rs : List ResultVar, resK P t σ rs = resAll P s σ rs
  | [] => rfl
  | .tmp i :: rs => by
    simp only [resK, resAll, resOne, resK_eq h rs, h.get]
    cases resAll P s σ rs <;> rfl
  | .cell a ty :: rs => by simp only [resK, resAll, resOne, resK_eq h rs, h.get]; rfl
theorem res1K_eq {t : Tr} {s : List V} (h : Rep t s) {σ : List Ob} (rs : List ResultVar) : res1K P t σ rs = resF P s σ rs := by
  unfold res1K resF
  rw [resK_eq h]
  rfl
end

theorem runK_ok {P : Program} {call : FuncId → List V → List Ob → Option (V × List Ob)} (hc : CallOk P call) {T : Tab} (hT : T.All (Opened P)) {k : Nat} : CallOk P (runK P T call k) := fun f args σ v σ' h => by
  unfold runK at h
  split at h
  · cases h
  rename_i fn hfn
  split at h
  · cases h
  rename_i hb
  simp only [Bool.and_eq_true, Nat.ble_eq] at hb
  have hn : fn.n < 4096 := by have := hb.2; simp [Nat.blt] at this; omega
  refine Tab.All.find hT hfn args σ _ ?_
  split at h
  · cases h
  · cases h
  · rename_i e t σ1 hne h1
    obtain ⟨s1, g1, g2⟩ := codeK_eq (cg := call) (fun _ _ _ _ q => q) (newT_rep hn hb.1) h1
    rw [res1K_eq g2] at h
    refine evC_sound hc g1 ?_
    split at h
    · rename_i r hr
      simp only [Option.some.injEq] at h
      have hf := tidy_fin fn.frz σ.length r σ1
      rw [h] at hf
      cases e with
      | normal => exact ⟨r, hr, v, σ', hf, rfl, rfl⟩
      | exit j => exact (hne j rfl).elim
      | ret => exact ⟨r, hr, v, σ', hf, rfl, rfl⟩
    · cases h

theorem embVs_d (ρ : List Nat) (n : Nat) : ∀ ds : List D, embVs ρ n (ds.map .d) = ds.map .d
  | [] => rfl
  | d :: r => by
    have := embVs_d ρ n r
    simp only [embVs, List.map_cons, renVs, renV] at this ⊢
    rw [this]

theorem pureN_ok {P : Program} {call N : Nat'} (hc : CallOk P call) (S : FuncId → Bool) (hN : CallOk P N) : CallOk P (pureN call S N) := fun f args σ v σ' h => by
  unfold pureN at h
  split at h
  · split at h
    · rename_i ds hds
      rw [openDs_eq] at h
      have key : ∀ r, call f (ds.map .d) [] = some (r, []) → (∀ n, embV [] n r = r) → v = r → σ' = σ → callA P f args σ fun r τ => r = v ∧ τ = σ' := fun r hrun he hv hs => callA_asDs hds <| by
        subst hv; subst hs
        have := callA_frame (hc _ _ _ _ _ hrun) [] σ' List.nodup_nil rfl (fun _ h => by simp at h) (fun j i h => by simp at h)
        rw [embVs_d] at this
        refine callA_mono this fun r' σ'' hr' => ?_
        obtain ⟨r0, σ0, ⟨rfl, rfl⟩, rfl, rfl⟩ := hr'
        exact ⟨he _, by simp [storeBack, backInto]⟩
      split at h
      · rename_i r hrun
        rw [openD_eq] at h
        simp only [Option.some.injEq, Prod.mk.injEq] at h
        exact key _ hrun (fun n => by simp [embV, renV]) h.1.symm h.2.symm
      · rename_i cs hrun
        split at h
        · rename_i rs hrs
          rw [openDs_eq] at h
          simp only [Option.some.injEq, Prod.mk.injEq] at h
          have e := allD_eq hrs
          subst e
          exact key _ hrun (fun n => by have := embVs_d [] n rs; simp only [embVs] at this; simp only [embV, renV, this]) h.1.symm h.2.symm
        · cases h
      · rename_i cs hrun
        split at h
        · rename_i rs hrs
          rw [openDs_eq] at h
          simp only [Option.some.injEq, Prod.mk.injEq] at h
          have e := allD_eq hrs
          subst e
          exact key _ hrun (fun n => by have := embVs_d [] n rs; simp only [embVs] at this; simp only [embV, renV, this]) h.1.symm h.2.symm
        · cases h
      · cases h
    · cases h
  · exact hN _ _ _ _ _ h

theorem evK_ok {P : Program} {N : Nat'} (hN : CallOk P N) {T : Tab} (hT : T.All (Opened P)) : ∀ k : Nat, CallOk P (evK P N T k)
  | 0 => fun f args σ v σ' h => by simp [evK] at h
  | k + 1 => fun f args σ v σ' h => by
    have hr := runK_ok (k := k) (evK_ok hN hT k) hT
    simp only [evK] at h
    split at h
    · rename_i q hq
      cases h
      exact hN _ _ _ _ _ hq
    · exact hr _ _ _ _ _ h

/-- A long run with contracts. -/
theorem run_okK {P : Program} {N : Nat'} (hN : CallOk P N) {T : Tab} (hT : T.All (Opened P)) (k : Nat) {f : FuncId} {args : List V} {σ σ' : List Ob} {v : V} (h : evK P N T k f args σ = some (v, σ')) : callA P f args σ fun r τ => r = v ∧ τ = σ' := evK_ok hN hT k _ _ _ _ _ h
end Go.Proofs.YteafabpedfgedaaGreatDoor.Am
