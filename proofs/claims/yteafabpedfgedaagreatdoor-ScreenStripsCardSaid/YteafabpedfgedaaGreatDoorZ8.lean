/- The engine's equations, for a rewriter that goes from the outside to the inside. -/
import Derived.Test.YteafabpedfgedaaGreatDoorZ7
section
set_option linter.unusedSimpArgs false
set_option linter.unusedVariables false
namespace Go.Proofs.YteafabpedfgedaaGreatDoor.Am
open Go
section
variable {P : Program} {n : Nat} {s : List V} {σ : List Ob} {K : Ex → List V → List Ob → Prop} {k : V → List Ob → Prop}

/-! ### a machine whose rest is data -/
end
inductive Fr where
  | code (c : CCode)
  | blk (id : Nat)

def Kof (P : Program) (n : Nat) (K : Ex → List V → List Ob → Prop) : List Fr → Ex → List V → List Ob → Prop
  | [] => K
  | .code c :: kk => seqK (fun s σ => wpC P n c s σ (Kof P n K kk)) (Kof P n K kk)
  | .blk id :: kk => blockK id (Kof P n K kk)

/-- Code, and what comes after it. -/
def Go (P : Program) (n : Nat) (c : CCode) (kk : List Fr) (s : List V) (σ : List Ob) (K : Ex → List V → List Ob → Prop) : Prop := wpC P n c s σ (Kof P n K kk)
/-- An end, and what comes after it. -/
def Pop (P : Program) (n : Nat) (kk : List Fr) (e : Ex) (s : List V) (σ : List Ob) (K : Ex → List V → List Ob → Prop) : Prop := Kof P n K kk e s σ
/-- Operations, and what comes after them. -/
def Rn (P : Program) (n : Nat) (l : List CStp) (kk : List Fr) (s : List V) (σ : List Ob) (K : Ex → List V → List Ob → Prop) : Prop := stC P l s σ (Kof P n K kk .normal)
def CondG (P : Program) (n : Nat) (x : V) (a b : CCode) (kk : List Fr) (s : List V) (σ : List Ob) (K : Ex → List V → List Ob → Prop) : Prop := CondC x (Go P n a kk s σ K) (Go P n b kk s σ K)
/-- A value, put where it belongs. -/
def BindV (P : Program) (n : Nat) (x : Option V) (d : Option Tmp) (l : List CStp) (kk : List Fr) (s : List V) (σ : List Ob) (K : Ex → List V → List Ob → Prop) : Prop := bindO x fun v => Rn P n l kk (putV s d v) σ K
/-- A value and a store. -/
def BindE (P : Program) (n : Nat) (x : Option (V × List Ob)) (d : Option Tmp) (chk : List (COp × Bool)) (l : List CStp) (kk : List Fr) (s : List V) (K : Ex → List V → List Ob → Prop) : Prop :=
  bindO x fun p => chkC P chk (putV s d p.1) p.2 ∧ Rn P n l kk (putV s d p.1) p.2 K
/-- A call, and what comes after it. -/
def CallK (P : Program) (n : Nat) (f : FuncId) (args : List V) (σ : List Ob) (d : Option Tmp) (chk : List (COp × Bool)) (l : List CStp) (kk : List Fr) (s : List V) (K : Ex → List V → List Ob → Prop) : Prop :=
  callA P f args σ fun v σ' => (σ' = σ ∨ chkC P chk (putV s d v) σ') ∧ Rn P n l kk (putV s d v) σ' K
def FnK (P : Program) (n : Nat) (x : V) (args : List V) (σ : List Ob) (d : Option Tmp) (chk : List (COp × Bool)) (l : List CStp) (kk : List Fr) (s : List V) (K : Ex → List V → List Ob → Prop) : Prop :=
  match x with
  | .fn g caps => CallK P n g (args ++ caps) σ d chk l kk s K
  | .bm g first => CallK P n g (first ++ args) σ d chk l kk s K
  | _ => False
/-- A guard: if the slot's value is w, the first, else the operation is left out. -/
def GrdK (P : Program) (n : Nat) (x : V) (w : Bool) (t : Tmp) (o : CStp) (d : Option Tmp) (l : List CStp) (kk : List Fr) (s : List V) (σ : List Ob) (K : Ex → List V → List Ob → Prop) : Prop :=
  GrdC t w x s (fun s => Rn P n (o :: l) kk s σ K) (fun s => Rn P n l kk (putV s d (.tup [])) σ K)
def LoopG (P : Program) (n : Nat) (a : CCode) (kk : List Fr) (s : List V) (σ : List Ob) (K : Ex → List V → List Ob → Prop) : Prop := WPC P n (.loop a) s σ (Kof P n K kk)

section
variable {P : Program} {n : Nat} {s : List V} {σ : List Ob} {K : Ex → List V → List Ob → Prop} {k : V → List Ob → Prop} {kk : List Fr} {l : List CStp}
theorem Go_skip : Go P n .skip kk s σ K = Pop P n kk .normal s σ K := (rfl)
theorem Go_ops (l : List CStp) : Go P n (.ops l) kk s σ K = Rn P n l kk s σ K := (rfl)
theorem Go_seq (a b : CCode) : Go P n (.seq a b) kk s σ K = Go P n a (.code b :: kk) s σ K := (rfl)
theorem Go_cond (c : Operand) (a b : CCode) : Go P n (.cond c a b) kk s σ K = CondG P n (get s c) a b kk s σ K := (rfl)
theorem Go_block (id : Nat) (a : CCode) : Go P n (.block id a) kk s σ K = Go P n a (.blk id :: kk) s σ K := (rfl)
theorem Go_loop (a : CCode) : Go P n (.loop a) kk s σ K = LoopG P n a kk s σ K := (rfl)
theorem Go_exit (id : Nat) : Go P n (.exit id) kk s σ K = Pop P n kk (.exit id) s σ K := (rfl)
theorem Go_ret : Go P n .ret kk s σ K = Pop P n kk .ret s σ K := (rfl)
theorem Pop_nil (e : Ex) : Pop P n [] e s σ K = K e s σ := (rfl)
theorem Pop_code_n (c : CCode) : Pop P n (.code c :: kk) .normal s σ K = Go P n c kk s σ K := (rfl)
theorem Pop_code_r (c : CCode) : Pop P n (.code c :: kk) .ret s σ K = Pop P n kk .ret s σ K := (rfl)
theorem Pop_code_e (c : CCode) (i : Nat) : Pop P n (.code c :: kk) (.exit i) s σ K = Pop P n kk (.exit i) s σ K := (rfl)
theorem Pop_blk_n (i : Nat) : Pop P n (.blk i :: kk) .normal s σ K = Pop P n kk .normal s σ K := (rfl)
theorem Pop_blk_r (i : Nat) : Pop P n (.blk i :: kk) .ret s σ K = Pop P n kk .ret s σ K := (rfl)
theorem Pop_blk_e (i j : Nat) : Pop P n (.blk i :: kk) (.exit j) s σ K = if j = i then Pop P n kk .normal s σ K else Pop P n kk (.exit j) s σ K := (rfl)
theorem CondG_t (a b : CCode) : CondG P n (.d (.bool true)) a b kk s σ K = Go P n a kk s σ K := CondC_true _ _
theorem CondG_f (a b : CCode) : CondG P n (.d (.bool false)) a b kk s σ K = Go P n b kk s σ K := CondC_false _ _
theorem CondG_intro {t : Bool} {a b : CCode} (h1 : t = true → Go P n a kk s σ K) (h2 : t = false → Go P n b kk s σ K) : CondG P n (.d (.bool t)) a b kk s σ K := ⟨h1, h2⟩
theorem Rn_nil : Rn P n [] kk s σ K = Pop P n kk .normal s σ K := (rfl)
theorem BindV_some (v : V) (d : Option Tmp) : BindV P n (some v) d l kk s σ K = Rn P n l kk (putV s d v) σ K := (rfl)
theorem BindE_some (v : V) (σ' : List Ob) (d : Option Tmp) (chk : List (COp × Bool)) : BindE P n (some (v, σ')) d chk l kk s K = (chkC P chk (putV s d v) σ' ∧ Rn P n l kk (putV s d v) σ' K) := (rfl)
theorem BindE_some' (v : V) (σ' : List Ob) (d : Option Tmp) : BindE P n (some (v, σ')) d [] l kk s K = Rn P n l kk (putV s d v) σ' K := by simp [BindE, bindO, chkC]
theorem bindO_ite' {α : Type} {c : Prop} [Decidable c] (a : α) (f : α → Prop) : bindO (if c then some a else none) f = (c ∧ f a) := by
  by_cases h : c <;> simp [h, bindO]
theorem BindV_ite {c : Prop} [Decidable c] (v : V) (d : Option Tmp) : BindV P n (if c then some v else none) d l kk s σ K = (c ∧ Rn P n l kk (putV s d v) σ K) := bindO_ite' _ _
theorem FnK_fn (g : Nat) (caps args : List V) (d : Option Tmp) (chk : List (COp × Bool)) : FnK P n (.fn g caps) args σ d chk l kk s K = CallK P n g (args ++ caps) σ d chk l kk s K := (rfl)
theorem FnK_bm (g : Nat) (first args : List V) (d : Option Tmp) (chk : List (COp × Bool)) : FnK P n (.bm g first) args σ d chk l kk s K = CallK P n g (first ++ args) σ d chk l kk s K := (rfl)

theorem Rn_st (d : Option Tmp) (op : Op) : Rn P n (.st ⟨d, op, none⟩ :: l) kk s σ K = stepD P op s σ fun v σ' => Rn P n l kk (putV s d v) σ' K := (rfl)
theorem stepD_call (cl : Call) (k : V → List Ob → Prop) : stepD P (.call cl) s σ k = stepC P (.call cl) s σ k := (rfl)
theorem R_defer (d : Option Tmp) (f : Operand) (ts : Array TypeId) : Rn P n (.st ⟨d, .defer ⟨.value f, #[], ts⟩, none⟩ :: l) kk s σ K = ((match get s f with | .fn g caps => QuietG P g caps.length | _ => False) ∧ Rn P n l kk (putV s d .undef) σ K) := by
  show (dferC P ⟨.value f, #[], ts⟩ s ∧ Rn P n l kk (putV s d .undef) σ K) = _
  simp only [dferC]
  cases get s f <;> simp
theorem Rn_q (al : Bool) (d : Option Tmp) (op : Op) : Rn P n (.q al ⟨d, op, none⟩ :: l) kk s σ K = BindV P n (doQC P al op s σ) d l kk s σ K := (rfl)
theorem Rn_ef (d : Option Tmp) (op : Op) (chk : List (COp × Bool)) : Rn P n (.ef ⟨d, op, none⟩ chk :: l) kk s σ K = stepC P op s σ fun v σ' => chkE op σ σ' (chkC P chk (putV s d v) σ') ∧ Rn P n l kk (putV s d v) σ' K := (rfl)
theorem Rn_stG (d : Option Tmp) (op : Op) (t : Tmp) (w : Bool) : Rn P n (.st ⟨d, op, some (t, w)⟩ :: l) kk s σ K = GrdK P n (get s (.tmp t)) w t (.st ⟨d, op, none⟩) d l kk s σ K := (rfl)
theorem Rn_qG (al : Bool) (d : Option Tmp) (op : Op) (t : Tmp) (w : Bool) : Rn P n (.q al ⟨d, op, some (t, w)⟩ :: l) kk s σ K = GrdK P n (get s (.tmp t)) w t (.q al ⟨d, op, none⟩) d l kk s σ K := (rfl)
theorem Rn_efG (d : Option Tmp) (op : Op) (chk : List (COp × Bool)) (t : Tmp) (w : Bool) : Rn P n (.ef ⟨d, op, some (t, w)⟩ chk :: l) kk s σ K = GrdK P n (get s (.tmp t)) w t (.ef ⟨d, op, none⟩ chk) d l kk s σ K := (rfl)

theorem GrdC_l (t : Tmp) (w : Bool) (yes no : List V → Prop) (h : s.getD t .undef = .d (.bool w)) : GrdC t w (.d (.bool w)) s yes no = yes s := by
  simp only [GrdC, set_same_bool h]
  cases w <;> simp
theorem GrdK_tt {t : Tmp} {o : CStp} {d : Option Tmp} (h : s.getD t .undef = .d (.bool true)) : GrdK P n (.d (.bool true)) true t o d l kk s σ K = Rn P n (o :: l) kk s σ K := GrdC_l t true _ _ h
theorem GrdK_ff {t : Tmp} {o : CStp} {d : Option Tmp} (h : s.getD t .undef = .d (.bool false)) : GrdK P n (.d (.bool false)) false t o d l kk s σ K = Rn P n (o :: l) kk s σ K := GrdC_l t false _ _ h
theorem GrdK_tf {t : Tmp} {o : CStp} {d : Option Tmp} (h : s.getD t .undef = .d (.bool false)) : GrdK P n (.d (.bool false)) true t o d l kk s σ K = Rn P n l kk (putV s d (.tup [])) σ K := by
  have := set_same_bool h
  simp [GrdK, GrdC, this]
theorem GrdK_ft {t : Tmp} {o : CStp} {d : Option Tmp} (h : s.getD t .undef = .d (.bool true)) : GrdK P n (.d (.bool true)) false t o d l kk s σ K = Rn P n l kk (putV s d (.tup [])) σ K := by
  have := set_same_bool h
  simp [GrdK, GrdC, this]
theorem GrdK_no {t : Tmp} {w : Bool} {o : CStp} {d : Option Tmp} : GrdK P n (.tup []) w t o d l kk s σ K = Rn P n l kk (putV s d (.tup [])) σ K := (rfl)
/-- A guard that is not known: two ways. -/
theorem GrdK_intro {t : Tmp} {w b : Bool} {o : CStp} {d : Option Tmp} (h1 : b = w → Rn P n (o :: l) kk (s.set t (.d (.bool w))) σ K) (h2 : b = (!w) → Rn P n l kk (putV (s.set t (.d (.bool (!w)))) d (.tup [])) σ K) : GrdK P n (.d (.bool b)) w t o d l kk s σ K := ⟨h1, h2⟩

/-! the operations -/
theorem step_move (x : Operand) : stepC P (.move x) s σ k = bindO (some (get s x)) fun v => k v σ := (rfl)
theorem step_assign (x : Operand) : stepC P (.assign x) s σ k = bindO (some (get s x)) fun v => k v σ := (rfl)

def pickF (P : Program) (c a b : V) : Option V := match c with | .d (.bool t) => some (match t with | true => a | false => b) | _ => none
theorem pickF_t (a b : V) : pickF P (.d (.bool true)) a b = some a := (rfl)
theorem pickF_f (a b : V) : pickF P (.d (.bool false)) a b = some b := (rfl)
def nilCheckF (σ : List Ob) : V → Option V
  | .ptr o i k => if alive σ o then some (.ptr o i k) else none
  | .ipt cs => some (.ipt cs)
  | _ => none
def extractF (i : Nat) : V → Option V
  | .tup vs => vs[i]?
  | _ => none

theorem q_or (x : Option V) : (match x with | some r => k r σ | none => match (none : Option (V × List Ob)) with | some (r, σ') => k r σ' | none => False) = bindO x fun v => k v σ := by
  cases x <;> rfl

theorem step_pick (c a b : Operand) : stepC P (.pick c a b) s σ k = bindO (pickF P (get s c) (get s a) (get s b)) fun v => k v σ := q_or _
theorem step_nilCheck (x : Operand) : stepC P (.nilCheck x) s σ k = bindO (nilCheckF σ (get s x)) fun v => k v σ := q_or _
theorem step_unOp (op : UnOp) (t : TypeId) (x : Operand) : stepC P (.unOp op t x) s σ k = bindO (unF op (get s x)) fun v => k v σ := q_or _
theorem step_fieldAddr (t : TypeId) (x : Operand) (f : Nat) : stepC P (.fieldAddr t x f) s σ k = bindO (fieldAddrF P t f σ (get s x)) fun v => k v σ := q_or _
theorem step_field (t : TypeId) (x : Operand) (f : Nat) : stepC P (.field t x f) s σ k = bindO (fieldF P t f (get s x)) fun v => k v σ := q_or _
theorem step_load (t : TypeId) (x : Operand) : stepC P (.load t x) s σ k = bindO (loadF P t σ (get s x)) fun v => k v σ := q_or _
theorem step_indexAddr (t : TypeId) (x i : Operand) : stepC P (.indexAddr t x i) s σ k = bindO (indexAddrF P t σ (get s x) (get s i)) fun v => k v σ := q_or _
theorem step_index (t : TypeId) (x i : Operand) : stepC P (.index t x i) s σ k = bindO (indexF P t (get s x) (get s i)) fun v => k v σ := q_or _
theorem step_slice (t : TypeId) (x : Operand) (lo hi mx : Option Operand) : stepC P (.slice t x lo hi mx) s σ k = bindO (sliceF P t σ (get s x) (lo.map (get s)) (hi.map (get s)) (mx.map (get s))) fun v => k v σ := q_or _
theorem step_extract (x : Operand) (i : Nat) : stepC P (.extract x i) s σ k = bindO (extractF i (get s x)) fun v => k v σ := q_or _
theorem step_assert (x : Operand) (u t : TypeId) (ok : Bool) : stepC P (.typeAssert x u t ok) s σ k = bindO (assertF P t ok (get s x)) fun v => k v σ := q_or _
theorem step_makeFunc (f : Nat) (caps : Array Operand) : stepC P (.makeFunc (.func f) #[] caps) s σ k = bindO (some (.fn f (argsOf s caps))) fun v => k v σ := (rfl)
theorem step_makeBm (f : Nat) (x : Operand) : stepC P (.makeFunc (.func f) #[x] #[]) s σ k = bindO (some (.bm f [get s x])) fun v => k v σ := (rfl)
theorem step_lookup (t : TypeId) (x y : Operand) (ok : Bool) : stepC P (.lookup t x y ok) s σ k = bindO (lookupF P t σ (get s x) (get s y) ok) fun v => k v σ := q_or _
theorem step_build (t : TypeId) (ps : Array (Nat × Operand)) : stepC P (.build t ps) s σ k = bindO (buildF P t σ s ps.toList) fun v => k v σ := q_or _
theorem step_len (args : Array Operand) (ts : Array TypeId) : stepC P (.call ⟨.builtin .len, args, ts⟩) s σ k = bindO (builtinF P .len ts.toList σ (argsOf s args)) fun v => k v σ := q_or _
theorem step_min (args : Array Operand) (ts : Array TypeId) : stepC P (.call ⟨.builtin .min, args, ts⟩) s σ k = bindO (builtinF P .min ts.toList σ (argsOf s args)) fun v => k v σ := q_or _
theorem step_max (args : Array Operand) (ts : Array TypeId) : stepC P (.call ⟨.builtin .max, args, ts⟩) s σ k = bindO (builtinF P .max ts.toList σ (argsOf s args)) fun v => k v σ := q_or _

theorem b_or (x : Option V) (p : Prop) : (match x with | some r => k r σ | none => match (none : Option (V × List Ob)) with | some (r, σ') => k r σ' | none => p) = (match x with | some r => k r σ | none => p) := by
  cases x <;> rfl

theorem e_or (e : Option (V × List Ob)) : (match e with | some (r, σ') => k r σ' | none => False) = bindO e fun p => k p.1 p.2 := by cases e <;> rfl
theorem u_or (r : V) (e : Option (List Ob)) : (match e.map fun σ' => (r, σ') with | some (r, σ') => k r σ' | none => False) = bindO e fun σ' => k r σ' := by cases e <;> rfl

def allocE (P : Program) (t : TypeId) (σ : List Ob) : Option (V × List Ob) := (zeroCs P t).map fun cs => (.ptr σ.length 0 0, σ ++ [.box cs])
def boxE (σ : List Ob) (x : V) : Option (V × List Ob) := (cellsV σ x).map fun cs => (.ptr σ.length 0 0, σ ++ [.box cs])
def undE (x : Option (List Ob)) : Option (V × List Ob) := x.map fun σ' => (.undef, σ')
def tupE (x : Option (List Ob)) : Option (V × List Ob) := x.map fun σ' => (.tup [], σ')
theorem undE_some (σ' : List Ob) : undE (some σ') = some (.undef, σ') := (rfl)
theorem tupE_some (σ' : List Ob) : tupE (some σ') = some (.tup [], σ') := (rfl)
theorem step_alloc (t : TypeId) : stepC P (.alloc t) s σ k = bindO (allocE P t σ) fun p => k p.1 p.2 := e_or _
theorem step_box (t : TypeId) (x : Operand) : stepC P (.box t x) s σ k = bindO (boxE σ (get s x)) fun p => k p.1 p.2 := e_or _
theorem step_buildSlice (t : TypeId) (m : Nat) (ps : Array (Nat × Operand)) : stepC P (.buildSlice t m ps) s σ k = bindO (buildE P t m σ s ps.toList) fun p => k p.1 p.2 := e_or _
theorem step_store (t : TypeId) (a x : Operand) : stepC P (.store t a x) s σ k = bindO (undE (storeF P t σ (get s a) (get s x))) fun p => k p.1 p.2 := e_or _
theorem step_makeMap (t : TypeId) : stepC P (.makeMap t none) s σ k = bindO (some (.mp σ.length, σ ++ [.map [] 0])) fun p => k p.1 p.2 := (rfl)
theorem step_mapUpdate (t : TypeId) (m x y : Operand) : stepC P (.mapUpdate t m x y) s σ k = bindO (undE (mapUpdateF P t σ (get s m) (get s x) (get s y))) fun p => k p.1 p.2 := e_or _
theorem step_insert (t : TypeId) (m x y : Operand) : stepC P (.insert t m x y) s σ k = bindO (undE (mapUpdateF P t σ (get s m) (get s x) (get s y))) fun p => k p.1 p.2 := e_or _
theorem step_mapEntry (t : TypeId) (m x : Operand) : stepC P (.mapEntry t m x) s σ k = bindO (mapEntryF P t σ (get s m) (get s x)) fun p => k p.1 p.2 := e_or _
theorem step_entryStore (t : TypeId) (m x y : Operand) : stepC P (.entryStore t m x y) s σ k = bindO (undE (entryStoreF P σ (get s m) (get s x) (get s y))) fun p => k p.1 p.2 := e_or _
def makeF (P : Program) (t : TypeId) (σ : List Ob) (l c : V) : Option (V × List Ob) := match makeSliceF P t σ l c with | some r => some r | none => makeVecF P t σ l c
theorem step_makeSlice (t : TypeId) (x c : Operand) : stepC P (.makeSlice t x c) s σ k = bindO (makeF P t σ (get s x) (get s c)) fun p => k p.1 p.2 := e_or _
def appE (P : Program) (t tx : TypeId) (σ : List Ob) (d x : V) : Option (V × List Ob) := match appendInF P t tx σ d x with | some r => some r | none => (match appendF P t tx σ d x with | some r => some r | none => appendVecF P t tx σ d x)
theorem step_append (x y : Operand) (t tx : TypeId) : stepC P (.call ⟨.builtin .append, #[x, y], #[t, tx]⟩) s σ k = bindO (appE P t tx σ (get s x) (get s y)) fun p => k p.1 p.2 := e_or _
theorem step_delete (m x : Operand) (t t' : TypeId) : stepC P (.call ⟨.builtin .delete, #[m, x], #[t, t']⟩) s σ k = bindO (tupE (deleteF P t σ (get s m) (get s x))) fun p => k p.1 p.2 := e_or _
theorem step_clear (x : Operand) (t : TypeId) : stepC P (.call ⟨.builtin .clear, #[x], #[t]⟩) s σ k = bindO (tupE (clearF P t σ (get s x))) fun p => k p.1 p.2 := e_or _
def cvF (P : Program) (src dst : TypeId) (σ : List Ob) (x : V) : Option (V × List Ob) := match convF P src dst σ x with | some r => some (r, σ) | none => (match strBytesF P src dst σ x with | some r => some r | none => markF P src dst σ x)
theorem step_convert (src dst : TypeId) (x : Operand) : stepC P (.convert src dst x) s σ k = bindO (cvF P src dst σ (get s x)) fun p => k p.1 p.2 := by
  show (match convF P src dst σ (get s x) with | some r => k r σ | none => match (match strBytesF P src dst σ (get s x) with | some r => some r | none => markF P src dst σ (get s x)) with | some (r, σ') => k r σ' | none => False) = _
  unfold cvF
  cases convF P src dst σ (get s x) with
  | some r => rfl
  | none => exact e_or _
theorem step_call (g : Nat) (args : Array Operand) (ts : Array TypeId) : stepC P (.call ⟨.value (.func g), args, ts⟩) s σ k = callA P g (argsOf s args) σ k := by
  show callA P g (argsOf s args ++ []) σ k = _
  rw [List.append_nil]

theorem BindE_nil (x : Option (V × List Ob)) (d : Option Tmp) : BindE P n x d [] l kk s K = bindO x fun p => Rn P n l kk (putV s d p.1) p.2 K := by
  cases x <;> simp [BindE, bindO, chkC]
theorem R_move (x : Operand) (d : Option Tmp) : Rn P n (.st ⟨d, .move x, none⟩ :: l) kk s σ K = BindV P n ((some (get s x))) d l kk s σ K := step_move (P := P) (s := s) (k := fun v σ' => Rn P n l kk (putV s d v) σ' K) x
theorem R_assign (x : Operand) (d : Option Tmp) : Rn P n (.st ⟨d, .assign x, none⟩ :: l) kk s σ K = BindV P n ((some (get s x))) d l kk s σ K := step_assign (P := P) (s := s) (k := fun v σ' => Rn P n l kk (putV s d v) σ' K) x
theorem R_pick (c a b : Operand) (d : Option Tmp) : Rn P n (.st ⟨d, .pick c a b, none⟩ :: l) kk s σ K = BindV P n ((pickF P (get s c) (get s a) (get s b))) d l kk s σ K := step_pick (P := P) (s := s) (k := fun v σ' => Rn P n l kk (putV s d v) σ' K) c a b
theorem R_nilCheck (x : Operand) (d : Option Tmp) : Rn P n (.st ⟨d, .nilCheck x, none⟩ :: l) kk s σ K = BindV P n ((nilCheckF σ (get s x))) d l kk s σ K := step_nilCheck (P := P) (s := s) (k := fun v σ' => Rn P n l kk (putV s d v) σ' K) x
/-- An operator; or a slice against nil, where both answers are to be borne. -/
def BinK (P : Program) (n : Nat) (b : Option V) (op : Op) (d : Option Tmp) (l : List CStp) (kk : List Fr) (s : List V) (σ : List Ob) (K : Ex → List V → List Ob → Prop) : Prop :=
  match b with
  | some v => Rn P n l kk (putV s d v) σ K
  | none => nilA P s σ op fun v σ => Rn P n l kk (putV s d v) σ K
theorem BinK_some (v : V) (op : Op) (d : Option Tmp) : BinK P n (some v) op d l kk s σ K = Rn P n l kk (putV s d v) σ K := (rfl)
theorem R_binOp (op : BinOp) (t : TypeId) (x y : Operand) (yt : TypeId) (d : Option Tmp) : Rn P n (.st ⟨d, .binOp op t x y yt, none⟩ :: l) kk s σ K = BinK P n (binF P op t σ (get s x) (get s y)) (.binOp op t x y yt) d l kk s σ K :=
  b_or (k := fun v σ' => Rn P n l kk (putV s d v) σ' K) _ _

theorem R_unOp (op : UnOp) (t : TypeId) (x : Operand) (d : Option Tmp) : Rn P n (.st ⟨d, .unOp op t x, none⟩ :: l) kk s σ K = BindV P n ((unF op (get s x))) d l kk s σ K := step_unOp (P := P) (s := s) (k := fun v σ' => Rn P n l kk (putV s d v) σ' K) op t x
theorem R_fieldAddr (t : TypeId) (x : Operand) (f : Nat) (d : Option Tmp) : Rn P n (.st ⟨d, .fieldAddr t x f, none⟩ :: l) kk s σ K = BindV P n ((fieldAddrF P t f σ (get s x))) d l kk s σ K := step_fieldAddr (P := P) (s := s) (k := fun v σ' => Rn P n l kk (putV s d v) σ' K) t x f
theorem R_field (t : TypeId) (x : Operand) (f : Nat) (d : Option Tmp) : Rn P n (.st ⟨d, .field t x f, none⟩ :: l) kk s σ K = BindV P n ((fieldF P t f (get s x))) d l kk s σ K := step_field (P := P) (s := s) (k := fun v σ' => Rn P n l kk (putV s d v) σ' K) t x f
theorem R_load (t : TypeId) (x : Operand) (d : Option Tmp) : Rn P n (.st ⟨d, .load t x, none⟩ :: l) kk s σ K = BindV P n ((loadF P t σ (get s x))) d l kk s σ K := step_load (P := P) (s := s) (k := fun v σ' => Rn P n l kk (putV s d v) σ' K) t x
theorem R_indexAddr (t : TypeId) (x i : Operand) (d : Option Tmp) : Rn P n (.st ⟨d, .indexAddr t x i, none⟩ :: l) kk s σ K = BindV P n ((indexAddrF P t σ (get s x) (get s i))) d l kk s σ K := step_indexAddr (P := P) (s := s) (k := fun v σ' => Rn P n l kk (putV s d v) σ' K) t x i
theorem R_index (t : TypeId) (x i : Operand) (d : Option Tmp) : Rn P n (.st ⟨d, .index t x i, none⟩ :: l) kk s σ K = BindV P n ((indexF P t (get s x) (get s i))) d l kk s σ K := step_index (P := P) (s := s) (k := fun v σ' => Rn P n l kk (putV s d v) σ' K) t x i
theorem R_slice (t : TypeId) (x : Operand) (lo hi mx : Option Operand) (d : Option Tmp) : Rn P n (.st ⟨d, .slice t x lo hi mx, none⟩ :: l) kk s σ K = BindV P n ((sliceF P t σ (get s x) (lo.map (get s)) (hi.map (get s)) (mx.map (get s)))) d l kk s σ K := step_slice (P := P) (s := s) (k := fun v σ' => Rn P n l kk (putV s d v) σ' K) t x lo hi mx
theorem R_extract (x : Operand) (i : Nat) (d : Option Tmp) : Rn P n (.st ⟨d, .extract x i, none⟩ :: l) kk s σ K = BindV P n ((extractF i (get s x))) d l kk s σ K := step_extract (P := P) (s := s) (k := fun v σ' => Rn P n l kk (putV s d v) σ' K) x i
theorem R_assert (x : Operand) (u t : TypeId) (ok : Bool) (d : Option Tmp) : Rn P n (.st ⟨d, .typeAssert x u t ok, none⟩ :: l) kk s σ K = BindV P n ((assertF P t ok (get s x))) d l kk s σ K := step_assert (P := P) (s := s) (k := fun v σ' => Rn P n l kk (putV s d v) σ' K) x u t ok
theorem R_makeFunc (f : Nat) (caps : Array Operand) (d : Option Tmp) : Rn P n (.st ⟨d, .makeFunc (.func f) #[] caps, none⟩ :: l) kk s σ K = BindV P n ((some (.fn f (argsOf s caps)))) d l kk s σ K := step_makeFunc (P := P) (s := s) (k := fun v σ' => Rn P n l kk (putV s d v) σ' K) f caps
theorem R_makeBm (f : Nat) (x : Operand) (d : Option Tmp) : Rn P n (.st ⟨d, .makeFunc (.func f) #[x] #[], none⟩ :: l) kk s σ K = BindV P n ((some (.bm f [get s x]))) d l kk s σ K := step_makeBm (P := P) (s := s) (k := fun v σ' => Rn P n l kk (putV s d v) σ' K) f x
theorem R_lookup (t : TypeId) (x y : Operand) (ok : Bool) (d : Option Tmp) : Rn P n (.st ⟨d, .lookup t x y ok, none⟩ :: l) kk s σ K = BindV P n ((lookupF P t σ (get s x) (get s y) ok)) d l kk s σ K := step_lookup (P := P) (s := s) (k := fun v σ' => Rn P n l kk (putV s d v) σ' K) t x y ok
theorem R_len (args : Array Operand) (ts : Array TypeId) (d : Option Tmp) : Rn P n (.st ⟨d, .call ⟨.builtin .len, args, ts⟩, none⟩ :: l) kk s σ K = BindV P n ((builtinF P .len ts.toList σ (argsOf s args))) d l kk s σ K := step_len (P := P) (s := s) (k := fun v σ' => Rn P n l kk (putV s d v) σ' K) args ts
theorem R_min (args : Array Operand) (ts : Array TypeId) (d : Option Tmp) : Rn P n (.st ⟨d, .call ⟨.builtin .min, args, ts⟩, none⟩ :: l) kk s σ K = BindV P n ((builtinF P .min ts.toList σ (argsOf s args))) d l kk s σ K := step_min (P := P) (s := s) (k := fun v σ' => Rn P n l kk (putV s d v) σ' K) args ts
theorem R_max (args : Array Operand) (ts : Array TypeId) (d : Option Tmp) : Rn P n (.st ⟨d, .call ⟨.builtin .max, args, ts⟩, none⟩ :: l) kk s σ K = BindV P n ((builtinF P .max ts.toList σ (argsOf s args))) d l kk s σ K := step_max (P := P) (s := s) (k := fun v σ' => Rn P n l kk (putV s d v) σ' K) args ts
theorem R_alloc (t : TypeId) (d : Option Tmp) : Rn P n (.st ⟨d, .alloc t, none⟩ :: l) kk s σ K = BindE P n ((allocE P t σ)) d [] l kk s K := (step_alloc (P := P) (s := s) (k := fun v σ' => Rn P n l kk (putV s d v) σ' K) t).trans (BindE_nil _ _).symm
theorem F_alloc (t : TypeId) (d : Option Tmp) (chk : List (COp × Bool)) : Rn P n (.ef ⟨d, .alloc t, none⟩ chk :: l) kk s σ K = BindE P n ((allocE P t σ)) d chk l kk s K := step_alloc (P := P) (s := s) (k := fun v σ' => chkC P chk (putV s d v) σ' ∧ Rn P n l kk (putV s d v) σ' K) t
theorem R_box (t : TypeId) (x : Operand) (d : Option Tmp) : Rn P n (.st ⟨d, .box t x, none⟩ :: l) kk s σ K = BindE P n ((boxE σ (get s x))) d [] l kk s K := (step_box (P := P) (s := s) (k := fun v σ' => Rn P n l kk (putV s d v) σ' K) t x).trans (BindE_nil _ _).symm
theorem F_box (t : TypeId) (x : Operand) (d : Option Tmp) (chk : List (COp × Bool)) : Rn P n (.ef ⟨d, .box t x, none⟩ chk :: l) kk s σ K = BindE P n ((boxE σ (get s x))) d chk l kk s K := step_box (P := P) (s := s) (k := fun v σ' => chkC P chk (putV s d v) σ' ∧ Rn P n l kk (putV s d v) σ' K) t x
theorem R_store (t : TypeId) (a x : Operand) (d : Option Tmp) : Rn P n (.st ⟨d, .store t a x, none⟩ :: l) kk s σ K = BindE P n ((undE (storeF P t σ (get s a) (get s x)))) d [] l kk s K := (step_store (P := P) (s := s) (k := fun v σ' => Rn P n l kk (putV s d v) σ' K) t a x).trans (BindE_nil _ _).symm
theorem F_store (t : TypeId) (a x : Operand) (d : Option Tmp) (chk : List (COp × Bool)) : Rn P n (.ef ⟨d, .store t a x, none⟩ chk :: l) kk s σ K = BindE P n ((undE (storeF P t σ (get s a) (get s x)))) d chk l kk s K := step_store (P := P) (s := s) (k := fun v σ' => chkC P chk (putV s d v) σ' ∧ Rn P n l kk (putV s d v) σ' K) t a x
theorem R_makeMap (t : TypeId) (d : Option Tmp) : Rn P n (.st ⟨d, .makeMap t none, none⟩ :: l) kk s σ K = BindE P n ((some (.mp σ.length, σ ++ [.map [] 0]))) d [] l kk s K := (step_makeMap (P := P) (s := s) (k := fun v σ' => Rn P n l kk (putV s d v) σ' K) t).trans (BindE_nil _ _).symm
theorem F_makeMap (t : TypeId) (d : Option Tmp) (chk : List (COp × Bool)) : Rn P n (.ef ⟨d, .makeMap t none, none⟩ chk :: l) kk s σ K = BindE P n ((some (.mp σ.length, σ ++ [.map [] 0]))) d chk l kk s K := step_makeMap (P := P) (s := s) (k := fun v σ' => chkC P chk (putV s d v) σ' ∧ Rn P n l kk (putV s d v) σ' K) t
theorem step_range (t : TypeId) (x : Operand) : stepC P (.range t x) s σ k = bindO (rangeF P t σ (get s x)) fun p => k p.1 p.2 := e_or _
theorem step_nextS (x : Operand) : stepC P (.next x true) s σ k = bindO (nextS σ (get s x)) fun p => k p.1 p.2 := e_or _
theorem step_entry (x : Operand) : stepC P (.entry x) s σ k = bindO (entryF σ (get s x)) fun v => k v σ := by
  show (match (entryF σ (get s x)).map fun r => (r, σ) with | some (r, σ') => k r σ' | none => False) = _
  cases entryF σ (get s x) <;> rfl
theorem R_range (t : TypeId) (x : Operand) (d : Option Tmp) : Rn P n (.st ⟨d, .range t x, none⟩ :: l) kk s σ K = BindE P n (rangeF P t σ (get s x)) d [] l kk s K := (step_range (P := P) (s := s) (k := fun v σ' => Rn P n l kk (putV s d v) σ' K) t x).trans (BindE_nil _ _).symm
theorem R_nextS (x : Operand) (d : Option Tmp) : Rn P n (.st ⟨d, .next x true, none⟩ :: l) kk s σ K = BindE P n (nextS σ (get s x)) d [] l kk s K := (step_nextS (P := P) (s := s) (k := fun v σ' => Rn P n l kk (putV s d v) σ' K) x).trans (BindE_nil _ _).symm
theorem R_entry (x : Operand) (d : Option Tmp) : Rn P n (.st ⟨d, .entry x, none⟩ :: l) kk s σ K = BindV P n (entryF σ (get s x)) d l kk s σ K := step_entry (P := P) (s := s) (k := fun v σ' => Rn P n l kk (putV s d v) σ' K) x
/-- The next entry of a map: whichever comes. -/
def NextK (P : Program) (n : Nat) (x : Operand) (d : Option Tmp) (l : List CStp) (kk : List Fr) (s : List V) (σ : List Ob) (K : Ex → List V → List Ob → Prop) : Prop := nilA P s σ (.next x false) fun v σ => Rn P n l kk (putV s d v) σ K
theorem R_next (x : Operand) (d : Option Tmp) : Rn P n (.st ⟨d, .next x false, none⟩ :: l) kk s σ K = NextK P n x d l kk s σ K := (rfl)
theorem NextK_nil {x : Operand} {d : Option Tmp} {i since last : Nat} {seen : List Nat} (hx : get s x = .ptr i 0 0) (hi : σ[i]? = some (.mit (.d .nilm) since seen last)) (h : Rn P n l kk (putV s d (.tup [.d (.bool false)])) σ K) : NextK P n x d l kk s σ K := by
  simp only [NextK, nilA, hx, hi]
  exact h
theorem NextK_map {x : Operand} {d : Option Tmp} {i o since last clk : Nat} {seen : List Nat} {es : List (D × V × Nat)} (hx : get s x = .ptr i 0 0) (hi : σ[i]? = some (.mit (.mp o) since seen last)) (ho : σ[o]? = some (.map es clk)) (h1 : ∀ e ∈ es, e.2.2 < since) (h2 : since ≤ last)
    (k1 : (∀ e ∈ es, e.2.2 ∈ seen) → Rn P n l kk (putV s d (.tup [.d (.bool false)])) σ K)
    (k2 : ∀ e ∈ es, e.2.2 ∉ seen → Rn P n l kk (putV s d (.tup [.d (.bool true), .d e.1, e.2.1])) (σ.set i (.mit (.mp o) since (seen ++ [e.2.2]) clk)) K) : NextK P n x d l kk s σ K := by
  simp only [NextK, nilA, hx, hi, ho]
  exact ⟨h1, h2, k1, k2⟩
theorem R_mapUpdate (t : TypeId) (m x y : Operand) (d : Option Tmp) : Rn P n (.st ⟨d, .mapUpdate t m x y, none⟩ :: l) kk s σ K = BindE P n ((undE (mapUpdateF P t σ (get s m) (get s x) (get s y)))) d [] l kk s K := (step_mapUpdate (P := P) (s := s) (k := fun v σ' => Rn P n l kk (putV s d v) σ' K) t m x y).trans (BindE_nil _ _).symm
theorem F_mapUpdate (t : TypeId) (m x y : Operand) (d : Option Tmp) (chk : List (COp × Bool)) : Rn P n (.ef ⟨d, .mapUpdate t m x y, none⟩ chk :: l) kk s σ K = BindE P n ((undE (mapUpdateF P t σ (get s m) (get s x) (get s y)))) d chk l kk s K := step_mapUpdate (P := P) (s := s) (k := fun v σ' => chkC P chk (putV s d v) σ' ∧ Rn P n l kk (putV s d v) σ' K) t m x y
theorem R_insert (t : TypeId) (m x y : Operand) (d : Option Tmp) : Rn P n (.st ⟨d, .insert t m x y, none⟩ :: l) kk s σ K = BindE P n ((undE (mapUpdateF P t σ (get s m) (get s x) (get s y)))) d [] l kk s K := (step_insert (P := P) (s := s) (k := fun v σ' => Rn P n l kk (putV s d v) σ' K) t m x y).trans (BindE_nil _ _).symm
theorem F_insert (t : TypeId) (m x y : Operand) (d : Option Tmp) (chk : List (COp × Bool)) : Rn P n (.ef ⟨d, .insert t m x y, none⟩ chk :: l) kk s σ K = BindE P n ((undE (mapUpdateF P t σ (get s m) (get s x) (get s y)))) d chk l kk s K := step_insert (P := P) (s := s) (k := fun v σ' => chkC P chk (putV s d v) σ' ∧ Rn P n l kk (putV s d v) σ' K) t m x y
theorem R_entryStore (t : TypeId) (m x y : Operand) (d : Option Tmp) : Rn P n (.st ⟨d, .entryStore t m x y, none⟩ :: l) kk s σ K = BindE P n ((undE (entryStoreF P σ (get s m) (get s x) (get s y)))) d [] l kk s K := (step_entryStore (P := P) (s := s) (k := fun v σ' => Rn P n l kk (putV s d v) σ' K) t m x y).trans (BindE_nil _ _).symm
theorem F_entryStore (t : TypeId) (m x y : Operand) (d : Option Tmp) (chk : List (COp × Bool)) : Rn P n (.ef ⟨d, .entryStore t m x y, none⟩ chk :: l) kk s σ K = BindE P n ((undE (entryStoreF P σ (get s m) (get s x) (get s y)))) d chk l kk s K := step_entryStore (P := P) (s := s) (k := fun v σ' => chkC P chk (putV s d v) σ' ∧ Rn P n l kk (putV s d v) σ' K) t m x y
theorem R_mapEntry (t : TypeId) (m x : Operand) (d : Option Tmp) : Rn P n (.st ⟨d, .mapEntry t m x, none⟩ :: l) kk s σ K = BindE P n ((mapEntryF P t σ (get s m) (get s x))) d [] l kk s K := (step_mapEntry (P := P) (s := s) (k := fun v σ' => Rn P n l kk (putV s d v) σ' K) t m x).trans (BindE_nil _ _).symm
theorem F_mapEntry (t : TypeId) (m x : Operand) (d : Option Tmp) (chk : List (COp × Bool)) : Rn P n (.ef ⟨d, .mapEntry t m x, none⟩ chk :: l) kk s σ K = BindE P n ((mapEntryF P t σ (get s m) (get s x))) d chk l kk s K := step_mapEntry (P := P) (s := s) (k := fun v σ' => chkC P chk (putV s d v) σ' ∧ Rn P n l kk (putV s d v) σ' K) t m x
theorem R_makeSlice (t : TypeId) (x c : Operand) (d : Option Tmp) : Rn P n (.st ⟨d, .makeSlice t x c, none⟩ :: l) kk s σ K = BindE P n ((makeF P t σ (get s x) (get s c))) d [] l kk s K := (step_makeSlice (P := P) (s := s) (k := fun v σ' => Rn P n l kk (putV s d v) σ' K) t x c).trans (BindE_nil _ _).symm
theorem F_makeSlice (t : TypeId) (x c : Operand) (d : Option Tmp) (chk : List (COp × Bool)) : Rn P n (.ef ⟨d, .makeSlice t x c, none⟩ chk :: l) kk s σ K = BindE P n ((makeF P t σ (get s x) (get s c))) d chk l kk s K := step_makeSlice (P := P) (s := s) (k := fun v σ' => chkC P chk (putV s d v) σ' ∧ Rn P n l kk (putV s d v) σ' K) t x c
theorem R_append (x y : Operand) (t tx : TypeId) (d : Option Tmp) : Rn P n (.st ⟨d, .call ⟨.builtin .append, #[x, y], #[t, tx]⟩, none⟩ :: l) kk s σ K = BindE P n ((appE P t tx σ (get s x) (get s y))) d [] l kk s K := (step_append (P := P) (s := s) (k := fun v σ' => Rn P n l kk (putV s d v) σ' K) x y t tx).trans (BindE_nil _ _).symm
theorem F_append (x y : Operand) (t tx : TypeId) (d : Option Tmp) (chk : List (COp × Bool)) : Rn P n (.ef ⟨d, .call ⟨.builtin .append, #[x, y], #[t, tx]⟩, none⟩ chk :: l) kk s σ K = BindE P n ((appE P t tx σ (get s x) (get s y))) d chk l kk s K := step_append (P := P) (s := s) (k := fun v σ' => chkC P chk (putV s d v) σ' ∧ Rn P n l kk (putV s d v) σ' K) x y t tx
theorem R_delete (m x : Operand) (t t' : TypeId) (d : Option Tmp) : Rn P n (.st ⟨d, .call ⟨.builtin .delete, #[m, x], #[t, t']⟩, none⟩ :: l) kk s σ K = BindE P n ((tupE (deleteF P t σ (get s m) (get s x)))) d [] l kk s K := (step_delete (P := P) (s := s) (k := fun v σ' => Rn P n l kk (putV s d v) σ' K) m x t t').trans (BindE_nil _ _).symm
theorem F_delete (m x : Operand) (t t' : TypeId) (d : Option Tmp) (chk : List (COp × Bool)) : Rn P n (.ef ⟨d, .call ⟨.builtin .delete, #[m, x], #[t, t']⟩, none⟩ chk :: l) kk s σ K = BindE P n ((tupE (deleteF P t σ (get s m) (get s x)))) d chk l kk s K := step_delete (P := P) (s := s) (k := fun v σ' => chkC P chk (putV s d v) σ' ∧ Rn P n l kk (putV s d v) σ' K) m x t t'
theorem R_clear (x : Operand) (t : TypeId) (d : Option Tmp) : Rn P n (.st ⟨d, .call ⟨.builtin .clear, #[x], #[t]⟩, none⟩ :: l) kk s σ K = BindE P n (tupE (clearF P t σ (get s x))) d [] l kk s K := (step_clear (P := P) (s := s) (k := fun v σ' => Rn P n l kk (putV s d v) σ' K) x t).trans (BindE_nil _ _).symm
theorem F_clear (x : Operand) (t : TypeId) (d : Option Tmp) (chk : List (COp × Bool)) : Rn P n (.ef ⟨d, .call ⟨.builtin .clear, #[x], #[t]⟩, none⟩ chk :: l) kk s σ K = BindE P n (tupE (clearF P t σ (get s x))) d chk l kk s K := step_clear (P := P) (s := s) (k := fun v σ' => chkC P chk (putV s d v) σ' ∧ Rn P n l kk (putV s d v) σ' K) x t
theorem R_convert (src dst : TypeId) (x : Operand) (d : Option Tmp) : Rn P n (.st ⟨d, .convert src dst x, none⟩ :: l) kk s σ K = BindE P n ((cvF P src dst σ (get s x))) d [] l kk s K := (step_convert (P := P) (s := s) (k := fun v σ' => Rn P n l kk (putV s d v) σ' K) src dst x).trans (BindE_nil _ _).symm
theorem F_convert (src dst : TypeId) (x : Operand) (d : Option Tmp) (chk : List (COp × Bool)) : Rn P n (.ef ⟨d, .convert src dst x, none⟩ chk :: l) kk s σ K = BindE P n ((cvF P src dst σ (get s x))) d chk l kk s K := step_convert (P := P) (s := s) (k := fun v σ' => chkC P chk (putV s d v) σ' ∧ Rn P n l kk (putV s d v) σ' K) src dst x
theorem F_assign (x : Operand) (d : Option Tmp) : Rn P n (.ef ⟨d, .assign x, none⟩ [] :: l) kk s σ K = Rn P n l kk (putV s d (get s x)) σ K := by
  rw [Rn_ef, step_assign]
  simp [bindO, chkC, chkE, isCall]
theorem F_move (x : Operand) (d : Option Tmp) : Rn P n (.ef ⟨d, .move x, none⟩ [] :: l) kk s σ K = Rn P n l kk (putV s d (get s x)) σ K := by
  rw [Rn_ef, step_move]
  simp [bindO, chkC, chkE, isCall]
theorem R_call (g : Nat) (args : Array Operand) (ts : Array TypeId) (d : Option Tmp) : Rn P n (.st ⟨d, .call ⟨.value (.func g), args, ts⟩, none⟩ :: l) kk s σ K = CallK P n g (argsOf s args) σ d [] l kk s K := by
  rw [Rn_st, stepD_call, step_call]
  simp [CallK, chkC]
theorem F_call (g : Nat) (args : Array Operand) (ts : Array TypeId) (d : Option Tmp) (chk : List (COp × Bool)) : Rn P n (.ef ⟨d, .call ⟨.value (.func g), args, ts⟩, none⟩ chk :: l) kk s σ K = CallK P n g (argsOf s args) σ d chk l kk s K := by
  rw [Rn_ef, step_call]
  rfl
theorem R_callv (t : Tmp) (args : Array Operand) (ts : Array TypeId) (d : Option Tmp) : Rn P n (.st ⟨d, .call ⟨.value (.tmp t), args, ts⟩, none⟩ :: l) kk s σ K = FnK P n (get s (.tmp t)) (argsOf s args) σ d [] l kk s K := by
  rw [Rn_st, stepD_call]
  unfold stepC FnK
  simp only []
  generalize get s (.tmp t) = x
  cases x <;> simp [CallK, chkC]
theorem F_callv (t : Tmp) (args : Array Operand) (ts : Array TypeId) (d : Option Tmp) (chk : List (COp × Bool)) : Rn P n (.ef ⟨d, .call ⟨.value (.tmp t), args, ts⟩, none⟩ chk :: l) kk s σ K = FnK P n (get s (.tmp t)) (argsOf s args) σ d chk l kk s K := (rfl)

/-! quiet operations in a plan -/
theorem doQC_move (x : Operand) : doQC P false (.move x) s σ = some (get s x) := (rfl)
theorem doQC_assign (x : Operand) : doQC P false (.assign x) s σ = some (get s x) := (rfl)
theorem doQC_pick (c a b : Operand) : doQC P false (.pick c a b) s σ = pickF P (get s c) (get s a) (get s b) := (rfl)
theorem doQC_nilCheck (x : Operand) : doQC P false (.nilCheck x) s σ = nilCheckF σ (get s x) := (rfl)
theorem doQC_binOp (op : BinOp) (t : TypeId) (x y : Operand) (yt : TypeId) : doQC P false (.binOp op t x y yt) s σ = binF P op t σ (get s x) (get s y) := (rfl)
theorem doQC_unOp (op : UnOp) (t : TypeId) (x : Operand) : doQC P false (.unOp op t x) s σ = unF op (get s x) := (rfl)
theorem doQC_convert (a b : TypeId) (x : Operand) : doQC P false (.convert a b x) s σ = convF P a b σ (get s x) := (rfl)
theorem doQC_fieldAddr (t : TypeId) (x : Operand) (f : Nat) : doQC P false (.fieldAddr t x f) s σ = fieldAddrF P t f σ (get s x) := (rfl)
theorem doQC_field (t : TypeId) (x : Operand) (f : Nat) : doQC P false (.field t x f) s σ = fieldF P t f (get s x) := (rfl)
theorem doQC_load (t : TypeId) (x : Operand) : doQC P false (.load t x) s σ = loadF P t σ (get s x) := (rfl)
theorem doQC_indexAddr (t : TypeId) (x i : Operand) : doQC P false (.indexAddr t x i) s σ = indexAddrF P t σ (get s x) (get s i) := (rfl)
theorem doQC_index (t : TypeId) (x i : Operand) : doQC P false (.index t x i) s σ = indexF P t (get s x) (get s i) := (rfl)
theorem doQC_slice (t : TypeId) (x : Operand) (lo hi mx : Option Operand) : doQC P false (.slice t x lo hi mx) s σ = sliceF P t σ (get s x) (lo.map (get s)) (hi.map (get s)) (mx.map (get s)) := (rfl)
theorem doQC_extract (x : Operand) (i : Nat) : doQC P false (.extract x i) s σ = extractF i (get s x) := (rfl)
theorem doQC_makeFunc (f : Nat) (caps : Array Operand) : doQC P false (.makeFunc (.func f) #[] caps) s σ = some (.fn f (argsOf s caps)) := (rfl)
theorem doQC_makeBm (f : Nat) (x : Operand) : doQC P false (.makeFunc (.func f) #[x] #[]) s σ = some (.bm f [get s x]) := (rfl)
theorem doQC_lookup (t : TypeId) (x y : Operand) (ok : Bool) : doQC P false (.lookup t x y ok) s σ = lookupF P t σ (get s x) (get s y) ok := (rfl)
theorem doQC_build (t : TypeId) (ps : Array (Nat × Operand)) : doQC P false (.build t ps) s σ = buildF P t σ s ps.toList := (rfl)
theorem doQC_call (b : Builtin) (args : Array Operand) (ts : Array TypeId) : doQC P false (.call ⟨.builtin b, args, ts⟩) s σ = builtinF P b ts.toList σ (argsOf s args) := (rfl)
theorem doQC_al (t : TypeId) (l : Nat) (ps : Array (Nat × Operand)) : doQC P true (.buildSlice t l ps) s σ = buildSliceD P t l σ s ps.toList := (rfl)

/-! slots -/
theorem get_tmp (t : Tmp) : get s (.tmp t) = s.getD t .undef := (rfl)
theorem get_const (v : Value) : get s (.const v) = ofConst v := (rfl)
theorem get_func (f : Nat) : get s (.func f) = .fn f [] := (rfl)
theorem putV_some (d : Tmp) (v : V) : putV s (some d) v = s.set d v := (rfl)
theorem putV_none (v : V) : putV s none v = s := (rfl)
theorem ofConst_bool (b : Bool) : ofConst (.bool b) = .d (.bool b) := (rfl)
theorem ofConst_int (k : IntKind) (i : Int) : ofConst (.int k i) = .d (.int k i) := (rfl)
end

/-- A call, by what is known of the function. -/
theorem CallK_use {P : Program} {n : Nat} {f : FuncId} {args : List V} {σ : List Ob} {d : Option Tmp} {chk : List (COp × Bool)} {l : List CStp} {kk : List Fr} {s : List V} {K : Ex → List V → List Ob → Prop} {Q : V → List Ob → Prop}
    (h : callA P f args σ Q) (hk : ∀ v σ', Q v σ' → chkC P chk (putV s d v) σ' ∧ Rn P n l kk (putV s d v) σ' K) : CallK P n f args σ d chk l kk s K := callA_mono h fun v σ' q => ⟨.inr (hk v σ' q).1, (hk v σ' q).2⟩

/-- A call that leaves the store as it was: nothing is looked at again. -/
theorem CallK_same {P : Program} {n : Nat} {f : FuncId} {args : List V} {σ : List Ob} {d : Option Tmp} {chk : List (COp × Bool)} {l : List CStp} {kk : List Fr} {s : List V} {K : Ex → List V → List Ob → Prop} {Q : V → List Ob → Prop}
    (h : callA P f args σ Q) (hk : ∀ v σ', Q v σ' → σ' = σ ∧ Rn P n l kk (putV s d v) σ K) : CallK P n f args σ d chk l kk s K := callA_mono h fun v σ' q => by
  obtain ⟨e, h⟩ := hk v σ' q
  subst e
  exact ⟨.inl rfl, h⟩

theorem CallK_use' {P : Program} {n : Nat} {f : FuncId} {args : List V} {σ : List Ob} {d : Option Tmp} {l : List CStp} {kk : List Fr} {s : List V} {K : Ex → List V → List Ob → Prop} {Q : V → List Ob → Prop}
    (h : callA P f args σ Q) (hk : ∀ v σ', Q v σ' → Rn P n l kk (putV s d v) σ' K) : CallK P n f args σ d [] l kk s K := callA_mono h fun v σ' q => ⟨.inr trivial, hk v σ' q⟩

theorem Loop_use {P : Program} {n : Nat} {body : CCode} {kk : List Fr} {s : List V} {σ : List Ob} {K : Ex → List V → List Ob → Prop} {α : Type} (S : α → List V) (T : α → List Ob) (I : α → Prop) (μ : α → Nat) (x : α) (hs : s = S x) (hσ : σ = T x) (hx : I x)
    (round : ∀ x, I x → Go P n body [] (S x) (T x) (seqK (fun s' σ' => ∃ y, I y ∧ μ y < μ x ∧ Weak n s' σ' (S y) (T y)) (fun e s σ => Pop P n kk e s σ K))) : LoopG P n body kk s σ K := by
  subst hs; subst hσ
  exact WPC_loop S T I μ round x hx

theorem callG {P : Program} {f : FuncId} {fn : Func} {code : Code} {cc : CCode} (plans : List (Nat × List Stp)) (m : Nat) (rs : List ResultVar) (hf : P.funcs[f]? = some fn) (hname : (fn.name == "runtime.NumGoroutine") = false) (hb : fn.body = some code) (hc : comp plans code = cc) (ho : okAll P plans code = true) (hm : P.follows .mixedOrders = true) (ht : fn.ntmps = m) (hr : fn.results.toList = rs)
    {args : List V} {σ : List Ob} {Q : V → List Ob → Prop} (h : ∀ K, (∀ e s σ r, e = .normal ∨ e = .ret → resF P s σ rs = some r → Q r σ → K e s σ) → Go P σ.length cc [] (args ++ List.replicate (m - args.length) .undef) σ K) : callA P f args σ Q :=
  callC plans hf hname hb hc ho hm ht hr (h _ fun e s σ r he h1 h2 => by
    rcases he with rfl | rfl
    · exact ⟨r, h1, r, σ, Fin.refl _ r σ, h2⟩
    · exact ⟨r, h1, r, σ, Fin.refl _ r σ, h2⟩)

theorem EndK_ret {P : Program} {n : Nat} {rs : List ResultVar} {K : V → List Ob → Prop} {s : List V} {σ : List Ob} {r : V} (h : resF P s σ rs = some r) (hk : K r σ) : EndK P n rs K .ret s σ := ⟨r, h, r, σ, Fin.refl n r σ, hk⟩
theorem EndK_normal {P : Program} {n : Nat} {rs : List ResultVar} {K : V → List Ob → Prop} {s : List V} {σ : List Ob} {r : V} (h : resF P s σ rs = some r) (hk : K r σ) : EndK P n rs K .normal s σ := ⟨r, h, r, σ, Fin.refl n r σ, hk⟩
end Go.Proofs.YteafabpedfgedaaGreatDoor.Am
end
/- The engine's small facts, for stores that are variables. -/
section
set_option linter.unusedSimpArgs false
set_option linter.unusedVariables false
namespace Go.Proofs.YteafabpedfgedaaGreatDoor.Am
open Go

theorem alive_of {σ : List Ob} {o : Nat} {x : Ob} (h : σ[o]? = some x) (hd : x ≠ .dead) : alive σ o = true := by
  unfold alive; rw [h]; cases x <;> simp_all
theorem lt_of_get {σ : List Ob} {o : Nat} {x : Ob} (h : σ[o]? = some x) : o < σ.length := (List.getElem?_eq_some_iff.1 h).1

theorem load_box {P : Program} {t : TypeId} {σ : List Ob} {o k : Nat} {cs : List V} {x : V} (h1 : σ[o]? = some (.box cs)) (h2 : cs[k]? = some x) (ha : aggT P t = false) (ht : okT P t = true) : loadF P t σ (.ptr o 0 k) = some x := by
  obtain ⟨hk, e⟩ := List.getElem?_eq_some_iff.1 h2
  have hd : cs.drop k = x :: cs.drop (k + 1) := by rw [List.drop_eq_getElem_cons hk, e]
  simp only [loadF, h1, takeV, hd, ha, ht, if_true, Bool.false_eq_true, if_false]

theorem app_get {σ : List Ob} {o : Nat} {x : Ob} (h : σ[o]? = some x) (τ : List Ob) : (σ ++ τ)[o]? = some x := by
  rw [List.getElem?_append_left (lt_of_get h)]; exact h
theorem app_end (σ : List Ob) (x : Ob) (τ : List Ob) : (σ ++ x :: τ)[σ.length]? = some x := by simp
theorem set_get {σ : List Ob} {o o' : Nat} {x : Ob} (h : σ[o]? = some x) (hne : o' ≠ o) (y : Ob) : (σ.set o' y)[o]? = some x := by
  rw [List.getElem?_set_ne hne]; exact h
theorem set_at {σ : List Ob} {o : Nat} {x : Ob} (h : σ[o]? = some x) (y : Ob) : (σ.set o y)[o]? = some y := by
  rw [List.getElem?_set_self (lt_of_get h)]
end Go.Proofs.YteafabpedfgedaaGreatDoor.Am
end
/- The engine's evaluator: a run in which nothing is open, carried out in one go. -/
section
set_option linter.unusedSimpArgs false
set_option linter.unusedVariables false
namespace Go.Proofs.YteafabpedfgedaaGreatDoor.Am
open Go

/-! ### are two values the same -/
mutual
def dEq : D → D → Bool
  | .int k a, .int k' b => decide (k = k') && decide (a = b)
  | .bool a, .bool b => decide (a = b)
  | .str a, .str b => decide (a = b)
  | .lst s a, .lst s' b => decide (s = s') && dEqs a b
  | .nils, .nils => true
  | .nilp, .nilp => true
  | .nilm, .nilm => true
  | .nilf, .nilf => true
  | .nili, .nili => true
  | .agg a, .agg b => dEqs a b
  | .ifc t a, .ifc t' b => decide (t = t') && dEq a b
  | .any, .any => true
  | _, _ => false
def dEqs : List D → List D → Bool
  | [], [] => true
  | a :: r, b :: r' => dEq a b && dEqs r r'
  | _, _ => false
end

mutual
theorem dEq_eq : ∀ (a b : D), dEq a b = true → a = b
  | .int k a, b, h => by cases b <;> simp_all [dEq]
  | .bool a, b, h => by cases b <;> simp_all [dEq]
  | .str a, b, h => by cases b <;> simp_all [dEq]
  | .lst s a, b, h => by
    cases b <;> simp only [dEq, Bool.and_eq_true, decide_eq_true_eq] at h <;> (try (cases h; done))
    obtain ⟨rfl, h⟩ := h
    rw [dEqs_eq a _ h]
  | .nils, b, h => by cases b <;> simp_all [dEq]
  | .nilp, b, h => by cases b <;> simp_all [dEq]
  | .nilm, b, h => by cases b <;> simp_all [dEq]
  | .nilf, b, h => by cases b <;> simp_all [dEq]
  | .nili, b, h => by cases b <;> simp_all [dEq]
  | .agg a, b, h => by
    cases b <;> simp only [dEq] at h <;> (try (cases h; done))
    rw [dEqs_eq a _ h]
  | .ifc t a, b, h => by
    cases b <;> simp only [dEq, Bool.and_eq_true, decide_eq_true_eq] at h <;> (try (cases h; done))
    obtain ⟨rfl, h⟩ := h
    rw [dEq_eq a _ h]
  | .any, b, h => by cases b <;> simp_all [dEq]
theorem dEqs_eq : ∀ (a b : List D), dEqs a b = true → a = b
  | [], b, h => by cases b <;> simp_all [dEqs]
  | a :: r, b, h => by
    cases b <;> simp only [dEqs, Bool.and_eq_true] at h <;> (try (cases h; done))
    rw [dEq_eq a _ h.1, dEqs_eq r _ h.2]
end

mutual
def vEq : V → V → Bool
  | .d a, .d b => dEq a b
  | .ptr o i k, .ptr o' i' k' => decide (o = o') && (decide (i = i') && decide (k = k'))
  | .ipt a, .ipt b => dEqs a b
  | .sl o i k, .sl o' i' k' => decide (o = o') && (decide (i = i') && decide (k = k'))
  | .mp o, .mp o' => decide (o = o')
  | .fn f a, .fn f' b => decide (f = f') && vEqs a b
  | .bm f a, .bm f' b => decide (f = f') && vEqs a b
  | .agg a, .agg b => vEqs a b
  | .tup a, .tup b => vEqs a b
  | .undef, .undef => true
  | _, _ => false
def vEqs : List V → List V → Bool
  | [], [] => true
  | a :: r, b :: r' => vEq a b && vEqs r r'
  | _, _ => false
end

mutual
theorem vEq_eq : ∀ (a b : V), vEq a b = true → a = b
  | .d a, b, h => by
    cases b <;> simp only [vEq] at h <;> (try (cases h; done))
    rw [dEq_eq a _ h]
  | .ptr o i k, b, h => by cases b <;> simp_all [vEq]
  | .ipt a, b, h => by
    cases b <;> simp only [vEq] at h <;> (try (cases h; done))
    rw [dEqs_eq a _ h]
  | .sl o i k, b, h => by cases b <;> simp_all [vEq]
  | .mp o, b, h => by cases b <;> simp_all [vEq]
  | .fn f a, b, h => by
    cases b <;> simp only [vEq, Bool.and_eq_true, decide_eq_true_eq] at h <;> (try (cases h; done))
    obtain ⟨rfl, h⟩ := h
    rw [vEqs_eq a _ h]
  | .bm f a, b, h => by
    cases b <;> simp only [vEq, Bool.and_eq_true, decide_eq_true_eq] at h <;> (try (cases h; done))
    obtain ⟨rfl, h⟩ := h
    rw [vEqs_eq a _ h]
  | .agg a, b, h => by
    cases b <;> simp only [vEq] at h <;> (try (cases h; done))
    rw [vEqs_eq a _ h]
  | .tup a, b, h => by
    cases b <;> simp only [vEq] at h <;> (try (cases h; done))
    rw [vEqs_eq a _ h]
  | .undef, b, h => by cases b <;> simp_all [vEq]
theorem vEqs_eq : ∀ (a b : List V), vEqs a b = true → a = b
  | [], b, h => by cases b <;> simp_all [vEqs]
  | a :: r, b, h => by
    cases b <;> simp only [vEqs, Bool.and_eq_true] at h <;> (try (cases h; done))
    rw [vEq_eq a _ h.1, vEqs_eq r _ h.2]
end

/-! ### what a function leaves behind, tidied -/
mutual
def refsV : V → List Nat
  | .ptr o _ _ => [o]
  | .sl o _ _ => [o]
  | .mp o => [o]
  | .fn _ caps => refsVs caps
  | .bm _ caps => refsVs caps
  | .agg cs => refsVs cs
  | .tup cs => refsVs cs
  | _ => []
def refsVs : List V → List Nat
  | [] => []
  | x :: r => refsV x ++ refsVs r
end

def refsO : Ob → List Nat
  | .box cs => refsVs cs
  | .vec _ cs => refsVs cs
  | .map es _ => refsVs (es.map (·.2.1))
  | .mit m _ _ _ => refsV m
  | _ => []

def bad (n : Nat) (l : List Nat) : List Nat := l.filter fun o => Nat.ble n o

/-- The objects from n on that can be reached. -/
def mark (n : Nat) (σ : List Ob) : Nat → List Nat → List Nat → List Nat
  | 0, _, acc => acc
  | _, [], acc => acc
  | k + 1, o :: r, acc => if acc.contains o then mark n σ k r acc else mark n σ k (bad n (refsO (σ.getD o .dead)) ++ r) (acc ++ [o])

def rootsOf (n : Nat) : List Ob → List Nat
  | [] => []
  | x :: r => bad n (refsO x) ++ rootsOf n r

def keepFor (n : Nat) (r : V) (σ : List Ob) : List Nat := mark n σ (4 * σ.length + 8) (bad n (refsV r) ++ rootsOf n (σ.take n)) []

def gc (n : Nat) (r : V) (σ : List Ob) : V × List Ob :=
  if Nat.ble σ.length n then (r, σ) else
  let acc := keepFor n r σ
  if acc.all (fun o => Nat.ble n o && Nat.ble (o + 1) σ.length) && decide acc.Nodup then
    (if acc.isEmpty && (bad n (refsV r)).isEmpty && (rootsOf n (σ.take n)).isEmpty then (r, σ.take n) else (renV (keepG (List.range n ++ acc)) r, keepσ (List.range n ++ acc) σ))
  else (r, σ)

mutual
theorem renV_id {g : Nat → Option Nat} {n : Nat} (hg : ∀ o, o < n → g o = some o) : ∀ x : V, bad n (refsV x) = [] → renV g x = x
  | .ptr o i k, h => by
    have : o < n := by simp [refsV, bad] at h; omega
    simp [renV, hg o this]
  | .sl o i k, h => by
    have : o < n := by simp [refsV, bad] at h; omega
    simp [renV, hg o this]
  | .mp o, h => by
    have : o < n := by simp [refsV, bad] at h; omega
    simp [renV, hg o this]
  | .fn f caps, h => by simp only [renV, renVs_id hg caps (by simpa [refsV] using h)]
  | .bm f caps, h => by simp only [renV, renVs_id hg caps (by simpa [refsV] using h)]
  | .agg cs, h => by simp only [renV, renVs_id hg cs (by simpa [refsV] using h)]
  | .tup cs, h => by simp only [renV, renVs_id hg cs (by simpa [refsV] using h)]
  | .d _, _ => by simp [renV]
  | .ipt _, _ => by simp [renV]
  | .undef, _ => by simp [renV]
theorem renVs_id {g : Nat → Option Nat} {n : Nat} (hg : ∀ o, o < n → g o = some o) : ∀ xs : List V, bad n (refsVs xs) = [] → renVs g xs = xs
  | [], _ => rfl
  | x :: r, h => by
    simp only [refsVs, bad, List.filter_append, List.append_eq_nil_iff] at h
    simp only [renVs, renV_id hg x h.1, renVs_id hg r h.2]
end

theorem renM_id {g : Nat → Option Nat} {n : Nat} (hg : ∀ o, o < n → g o = some o) : ∀ es : List (D × V × Nat), bad n (refsVs (es.map (·.2.1))) = [] → (es.map fun e => (e.1, renV g e.2.1, e.2.2)) = es
  | [], _ => rfl
  | (k, x, m) :: r, h => by
    simp only [List.map_cons, refsVs, bad, List.filter_append, List.append_eq_nil_iff] at h
    simp only [List.map_cons, renV_id hg x h.1, renM_id hg r h.2]

theorem range_keep {n : Nat} {o : Nat} (h : o < n) : keepG (List.range n) o = some o := by
  simp only [keepG]
  rw [List.idxOf?_eq_some_iff]
  refine ⟨by simpa using h, by simp, fun j hj => ?_⟩
  simp; omega

theorem rootsOf_nil {n : Nat} : ∀ {l : List Ob}, rootsOf n l = [] → ∀ x ∈ l, bad n (refsO x) = []
  | [], _, x, hx => by simp at hx
  | y :: r, h, x, hx => by
    simp only [rootsOf, List.append_eq_nil_iff] at h
    rcases List.mem_cons.1 hx with rfl | hx
    · exact h.1
    · exact rootsOf_nil h.2 x hx

theorem gc_fin (n : Nat) (r : V) (σ : List Ob) : Fin n r σ (gc n r σ).1 (gc n r σ).2 := by
  unfold gc
  split
  · exact Fin.refl _ _ _
  · rename_i hn
    have hlt : n < σ.length := by simpa using hn
    simp only
    split
    · rename_i h
      simp only [Bool.and_eq_true, List.all_eq_true, Nat.ble_eq, decide_eq_true_eq] at h
      split
      · rename_i h'
        simp only [Bool.and_eq_true, List.isEmpty_iff] at h'
        have hf := Fin.keep (n := n) (r := r) (σ := σ) (List.range n) List.nodup_range (fun o ho => by simp at ho; omega) (fun i hi => by simp [hi])
        have e1 : renV (keepG (List.range n)) r = r := renV_id (fun o ho => range_keep ho) r h'.1.2
        have e2 : keepσ (List.range n) σ = σ.take n := by
          apply List.ext_getElem?
          intro i
          simp only [keepσ, List.getElem?_map, List.getElem?_take]
          by_cases hi : i < n
          · simp only [hi, if_true]
            rw [List.getElem?_range hi]
            simp only [Option.map_some]
            have hx : σ[i]? = some σ[i] := List.getElem?_eq_getElem (by omega)
            rw [List.getD_eq_getElem?_getD, hx, Option.getD_some]
            congr 1
            have := rootsOf_nil h'.2 σ[i] (List.mem_iff_getElem?.2 ⟨i, by rw [List.getElem?_take, if_pos hi, hx]⟩)
            revert this
            generalize σ[i] = x
            intro this
            cases x with
            | box cs => simp only [renO, renVs_id (fun o ho => range_keep ho) cs this]
            | vec sz cs => simp only [renO, renVs_id (fun o ho => range_keep ho) cs this]
            | map es clk => simp only [renO, renM_id (fun o ho => range_keep ho) es this]
            | mit m s1 s2 s3 => simp only [renO, renV_id (fun o ho => range_keep ho) m this]
            | _ => rfl
          · simp only [hi, if_false]
            rw [List.getElem?_eq_none (by simp; omega)]
            rfl
        rw [e1, e2] at hf
        exact hf
      · refine Fin.keep _ ?_ ?_ ?_
        · rw [List.nodup_append]
          refine ⟨List.nodup_range, h.2, fun a ha b hb => ?_⟩
          have := (h.1 b hb).1
          simp at ha
          omega
        · intro o ho
          rcases List.mem_append.1 ho with ho | ho
          · simp at ho; omega
          · have := (h.1 o ho).2; omega
        · intro i hi
          rw [List.getElem?_append_left (by simpa using hi)]
          simp [hi]
    · exact Fin.refl _ _ _

/-- The first slice in a result that is new and could be data. -/
def freshIn (n : Nat) (σ : List Ob) : List Nat → Option (Nat × Nat × List D)
  | [] => none
  | o :: r => if Nat.ble n o then match σ[o]? with
      | some (.arr sz mk es) => some (o, sz, es)
      | _ => freshIn n σ r
    else freshIn n σ r

def frzAll (n : Nat) : Nat → V → List Ob → V × List Ob
  | 0, r, σ => (r, σ)
  | k + 1, r, σ => match freshIn n σ (refsV r) with
    | some (o, sz, es) => frzAll n k (frzV o sz es r) (frzσ o sz es σ)
    | none => (r, σ)

theorem freshIn_some {n : Nat} {σ : List Ob} : ∀ {l : List Nat} {o sz : Nat} {es : List D}, freshIn n σ l = some (o, sz, es) → ∃ mk, σ[o]? = some (.arr sz mk es)
  | [], _, _, _, h => by simp [freshIn] at h
  | x :: r, o, sz, es, h => by
    simp only [freshIn] at h
    split at h
    · split at h
      · rename_i e
        simp only [Option.some.injEq, Prod.mk.injEq] at h
        obtain ⟨rfl, rfl, rfl⟩ := h
        exact ⟨_, e⟩
      · exact freshIn_some h
    · exact freshIn_some h

theorem frzAll_fin (n : Nat) : ∀ (k : Nat) (r : V) (σ : List Ob), Fin n r σ (frzAll n k r σ).1 (frzAll n k r σ).2
  | 0, r, σ => Fin.refl _ _ _
  | k + 1, r, σ => by
    unfold frzAll
    split
    · rename_i o sz es h
      obtain ⟨mk, h⟩ := freshIn_some h
      exact (Fin.freeze h).trans (frzAll_fin n k _ _)
    · exact Fin.refl _ _ _

def tidy (frz : Bool) (n : Nat) (r : V) (σ : List Ob) : V × List Ob :=
  match frz with
  | true => match frzAll n 8 r σ with | (r', σ') => gc n r' σ'
  | false => gc n r σ

theorem tidy_fin (frz : Bool) (n : Nat) (r : V) (σ : List Ob) : Fin n r σ (tidy frz n r σ).1 (tidy frz n r σ).2 := by
  unfold tidy
  cases frz with
  | true => exact (frzAll_fin n 8 r σ).trans (gc_fin n _ _)
  | false => exact gc_fin n r σ

/-! ### the evaluator -/
structure FnE where
  code : CCode
  n : Nat
  rs : List ResultVar
  frz : Bool

inductive Tab where
  | leaf
  | node (k : Nat) (f : FnE) (l r : Tab)

def Tab.find : Tab → Nat → Option FnE
  | .leaf, _ => none
  | .node k f l r, i => match Nat.beq i k with
    | true => some f
    | false => match Nat.ble i k with
      | true => l.find i
      | false => r.find i

def Tab.All (p : Nat → FnE → Prop) : Tab → Prop
  | .leaf => True
  | .node k f l r => p k f ∧ l.All p ∧ r.All p

theorem Tab.All.find {p : Nat → FnE → Prop} : ∀ {T : Tab} {i : Nat} {f : FnE}, T.All p → T.find i = some f → p i f
  | .leaf, _, _, _, h => by simp [Tab.find] at h
  | .node k g l r, i, f, ha, h => by
    simp only [Tab.find] at h
    split at h
    · rename_i e
      have := Nat.eq_of_beq_eq_true e
      subst this
      simp only [Option.some.injEq] at h; subst h
      exact ha.1
    · split at h
      · exact Tab.All.find ha.2.1 h
      · exact Tab.All.find ha.2.2 h

section
variable (P : Program) (call : FuncId → List V → List Ob → Option (V × List Ob))

def nilB (s : List V) (σ : List Ob) (op : Op) : Option (V × List Ob) :=
  match op with
  | .binOp .eql t x y _ => match get s x, get s y with
    | .d (.lst _ (_ :: _)), .d .nils => if isSliceT P t then some (.d (.bool false), σ) else none
    | .sl o _ (_ + 1), .d .nils => if isSliceT P t && alive σ o then some (.d (.bool false), σ) else none
    | .d .nili, .d .nili => if isIfaceT P t && isConstB y then some (.d (.bool true), σ) else none
    | _, _ => none
  | .binOp .neq t x y _ => match get s x, get s y with
    | .d (.lst _ (_ :: _)), .d .nils => if isSliceT P t then some (.d (.bool true), σ) else none
    | .sl o _ (_ + 1), .d .nils => if isSliceT P t && alive σ o then some (.d (.bool true), σ) else none
    | .d .nili, .d .nili => if isIfaceT P t && isConstB y then some (.d (.bool false), σ) else none
    | _, _ => none
  | _ => none

def evOp (op : Op) (s : List V) (σ : List Ob) : Option (V × List Ob) :=
  match op with
  | .call { callee := .value f, args, argTypes := _ } => match get s f with
    | .fn g caps => call g (argsOf s args ++ caps) σ
    | .bm g first => call g (first ++ argsOf s args) σ
    | _ => none
  | op => match quietG P s σ op with
    | some r => some (r, σ)
    | none => match effF P s σ op with
      | some p => some p
      | none => nilB P s σ op

def chkB : List (COp × Bool) → List V → List Ob → Bool
  | [], _, _ => true
  | q :: r, s, σ => (match wantC q.1 s with
      | some true => match doQC P q.2 q.1.op s σ with
        | some v => match q.1.dst with
          | some d => vEq v (s.getD d .undef)
          | none => true
        | none => false
      | some false => match q.1.dst with
        | some d => vEq (s.getD d .undef) (.tup [])
        | none => true
      | none => false) && chkB r s σ

def dferB (P : Program) (cl : Call) (g : Operand → V) : Bool :=
  match cl with
  | { callee := .value f, args, argTypes := _ } => match g f with
    | .fn h caps => args.isEmpty && quietB P h caps.length
    | _ => false
  | _ => false

def evOpD (op : Op) (s : List V) (σ : List Ob) : Option (V × List Ob) :=
  match op with
  | .defer cl => if dferB P cl (get s) then some (.undef, σ) else none
  | op => evOp P call op s σ

def evSt : List CStp → List V → List Ob → Option (List V × List Ob)
  | [], s, σ => some (s, σ)
  | .st o :: r, s, σ => match wantC o s with
    | some true => match evOpD P call o.op s σ with
      | some (v, σ') => evSt r (putV s o.dst v) σ'
      | none => none
    | some false => evSt r (putV s o.dst (.tup [])) σ
    | none => none
  | .q al o :: r, s, σ => match wantC o s with
    | some true => match doQC P al o.op s σ with
      | some v => evSt r (putV s o.dst v) σ
      | none => none
    | some false => evSt r (putV s o.dst (.tup [])) σ
    | none => none
  | .ef o chk :: r, s, σ => match wantC o s with
    | some true => match evOp P call o.op s σ with
      | some (v, σ') => match chkB P chk (putV s o.dst v) σ' with
        | true => evSt r (putV s o.dst v) σ'
        | false => none
      | none => none
    | some false => evSt r (putV s o.dst (.tup [])) σ
    | none => none

def evLoop (body : List V → List Ob → Option (Ex × List V × List Ob)) : Nat → List V → List Ob → Option (Ex × List V × List Ob)
  | 0, _, _ => none
  | k + 1, s, σ => match body s σ with
    | some (.normal, s', σ') => evLoop body k s' σ'
    | r => r

def evC (k : Nat) : CCode → List V → List Ob → Option (Ex × List V × List Ob)
  | .skip, s, σ => some (.normal, s, σ)
  | .ops l, s, σ => match evSt P call l s σ with
    | some (s', σ') => some (.normal, s', σ')
    | none => none
  | .seq a b, s, σ => match evC k a s σ with
    | some (.normal, s', σ') => evC k b s' σ'
    | r => r
  | .cond c a b, s, σ => match get s c with
    | .d (.bool true) => evC k a s σ
    | .d (.bool false) => evC k b s σ
    | _ => none
  | .block id a, s, σ => match evC k a s σ with
    | some (.exit j, s', σ') => match Nat.beq j id with
      | true => some (.normal, s', σ')
      | false => some (.exit j, s', σ')
    | r => r
  | .loop a, s, σ => evLoop (fun s σ => evC k a s σ) k s σ
  | .exit id, s, σ => some (.exit id, s, σ)
  | .ret, s, σ => some (.ret, s, σ)
  | .bad, _, _ => none
end

/-- Contracts that the evaluator takes instead of a function's code. -/
abbrev Nat' := FuncId → List V → List Ob → Option (V × List Ob)

def evG (P : Program) (N : Nat') (T : Tab) : Nat → FuncId → List V → List Ob → Option (V × List Ob)
  | 0 => fun _ _ _ => none
  | k + 1 => fun f args σ => match N f args σ with
    | some r => some r
    | none => match T.find f with
    | none => none
    | some fn => match evC P (evG P N T k) k fn.code (args ++ List.replicate (fn.n - args.length) .undef) σ with
      | none => none
      | some (.exit _, _, _) => none
      | some (_, s, σ') => match resF P s σ' fn.rs with
        | some r => some (tidy fn.frz σ.length r σ')
        | none => none

def evF (P : Program) (T : Tab) : Nat → FuncId → List V → List Ob → Option (V × List Ob) := evG P (fun _ _ _ => none) T

/-! ### soundness -/
def Opened (P : Program) (f : Nat) (fn : FnE) : Prop :=
  ∀ (args : List V) (σ : List Ob) (Q : V → List Ob → Prop), wpC P σ.length fn.code (args ++ List.replicate (fn.n - args.length) .undef) σ (EndK P σ.length fn.rs Q) → callA P f args σ Q

theorem opened {P : Program} {f : FuncId} {fn : Func} {code : Code} {cc : CCode} (plans : List (Nat × List Stp)) (m : Nat) (rs : List ResultVar) (frz : Bool) (hf : P.funcs[f]? = some fn) (hname : (fn.name == "runtime.NumGoroutine") = false) (hb : fn.body = some code) (hc : comp plans code = cc) (ho : okAll P plans code = true) (hm : P.follows .mixedOrders = true) (ht : fn.ntmps = m) (hr : fn.results.toList = rs) :
    Opened P f ⟨cc, m, rs, frz⟩ := fun args σ Q h => callC plans hf hname hb hc ho hm ht hr h

section
variable {P : Program} {call : FuncId → List V → List Ob → Option (V × List Ob)}

/-- What a call comes to is what the run says. -/
def CallOk (P : Program) (call : FuncId → List V → List Ob → Option (V × List Ob)) : Prop := ∀ g as σ v σ', call g as σ = some (v, σ') → callA P g as σ fun r τ => r = v ∧ τ = σ'

theorem nilB_sound {s : List V} {σ σ' : List Ob} {op : Op} {v : V} {K : V → List Ob → Prop} (h : nilB P s σ op = some (v, σ')) (hk : K v σ') : nilA P s σ op K := by
  unfold nilB at h
  unfold nilA
  split at h
  · split at h
    · rename_i e1 e2
      split at h
      · rename_i ht
        simp only [Option.some.injEq, Prod.mk.injEq] at h
        obtain ⟨rfl, rfl⟩ := h
        simp only [e1, e2]
        exact ⟨ht, fun b hb => by cases b with | true => simp at hb | false => exact hk⟩
      · cases h
    · rename_i e1 e2
      split at h
      · rename_i ht
        simp only [Bool.and_eq_true] at ht
        simp only [Option.some.injEq, Prod.mk.injEq] at h
        obtain ⟨rfl, rfl⟩ := h
        simp only [e1, e2]
        exact ⟨ht.1, ht.2, fun b hb => by cases b with | true => simp at hb | false => exact hk⟩
      · cases h
    · rename_i e1 e2
      split at h
      · rename_i ht
        simp only [Bool.and_eq_true] at ht
        simp only [Option.some.injEq, Prod.mk.injEq] at h
        obtain ⟨rfl, rfl⟩ := h
        simp only [e1, e2]
        exact ⟨ht.1, ht.2, hk⟩
      · cases h
    · cases h
  · split at h
    · rename_i e1 e2
      split at h
      · rename_i ht
        simp only [Option.some.injEq, Prod.mk.injEq] at h
        obtain ⟨rfl, rfl⟩ := h
        simp only [e1, e2]
        exact ⟨ht, fun b hb => by cases b with | true => simp at hb | false => exact hk⟩
      · cases h
    · rename_i e1 e2
      split at h
      · rename_i ht
        simp only [Bool.and_eq_true] at ht
        simp only [Option.some.injEq, Prod.mk.injEq] at h
        obtain ⟨rfl, rfl⟩ := h
        simp only [e1, e2]
        exact ⟨ht.1, ht.2, fun b hb => by cases b with | true => simp at hb | false => exact hk⟩
      · cases h
    · rename_i e1 e2
      split at h
      · rename_i ht
        simp only [Bool.and_eq_true] at ht
        simp only [Option.some.injEq, Prod.mk.injEq] at h
        obtain ⟨rfl, rfl⟩ := h
        simp only [e1, e2]
        exact ⟨ht.1, ht.2, hk⟩
      · cases h
    · cases h
  · cases h

theorem evOp_sound (hc : CallOk P call) {op : Op} {s : List V} {σ σ' : List Ob} {v : V} {K : V → List Ob → Prop} (h : evOp P call op s σ = some (v, σ')) (hk : K v σ') : stepC P op s σ K := by
  unfold evOp at h
  unfold stepC
  split at h
  · rename_i f args ts
    split at h
    · rename_i g caps hg
      simp only [hg]
      exact callA_mono (hc _ _ _ _ _ h) fun r τ hr => by obtain ⟨rfl, rfl⟩ := hr; exact hk
    · rename_i g first hg
      simp only [hg]
      exact callA_mono (hc _ _ _ _ _ h) fun r τ hr => by obtain ⟨rfl, rfl⟩ := hr; exact hk
    · cases h
  · rename_i op' hop
    split
    · rename_i f args ts
      exact (hop f args ts rfl).elim
    · split at h
      · rename_i r hr
        simp only [Option.some.injEq, Prod.mk.injEq] at h
        obtain ⟨rfl, rfl⟩ := h
        simp only [hr]; exact hk
      · rename_i hr
        split at h
        · rename_i p hp
          simp only [Option.some.injEq] at h; subst h
          simp only [hr, hp]; exact hk
        · rename_i hp
          simp only [hr, hp]
          exact nilB_sound h hk

theorem chkB_sound : ∀ {l : List (COp × Bool)} {s : List V} {σ : List Ob}, chkB P l s σ = true → chkC P l s σ
  | [], _, _, _ => trivial
  | q :: r, s, σ, h => by
    simp only [chkB, Bool.and_eq_true] at h
    refine ⟨?_, chkB_sound h.2⟩
    have h1 := h.1
    split at h1
    · rename_i hw
      simp only [hw]
      split at h1
      · rename_i v hv
        simp only [hv]
        split at h1
        · rename_i d hd
          simp only [hd, vEq_eq _ _ h1]
        · rename_i hd
          simp only [hd, Option.isSome_some]
      · cases h1
    · rename_i hw
      simp only [hw]
      split at h1
      · rename_i d hd
        simp only [hd]
        exact vEq_eq _ _ h1
      · rename_i hd
        simp only [hd]
    · cases h1

theorem guardC_of {o : COp} {s : List V} {b : Bool} (h : wantC o s = some b) {yes no : List V → Prop} (hy : b = true → yes s) (hn : b = false → no s) : guardC o s yes no := by
  unfold wantC at h
  unfold guardC
  split at h
  · rename_i hg
    cases h
    first | exact hy rfl | (simp only [hg]; exact hy rfl) | (rw [hg]; exact hy rfl)
  · rename_i d w hg
    split at h
    · rename_i b' hb
      cases h
      simp only [hg, hb, GrdC]
      refine ⟨fun e => ?_, fun e => ?_⟩
      · subst e
        rw [set_same_bool hb]
        exact hy (by simp)
      · subst e
        rw [set_same_bool hb]
        exact hn (by cases w <;> rfl)
    · rename_i hb
      cases h
      simp only [hg, hb, GrdC]
      exact hn rfl
    · cases h

theorem evOpD_sound (hc : CallOk P call) {op : Op} {s : List V} {σ σ' : List Ob} {v : V} {K : V → List Ob → Prop} (h : evOpD P call op s σ = some (v, σ')) (hk : K v σ') : stepD P op s σ K := by
  unfold evOpD at h
  unfold stepD
  split at h
  · rename_i cl
    split at h
    · rename_i hq
      simp only [Option.some.injEq, Prod.mk.injEq] at h
      obtain ⟨rfl, rfl⟩ := h
      refine ⟨?_, hk⟩
      unfold dferB at hq
      unfold dferC
      split at hq
      · split at hq
        · rename_i hg
          simp only [hg]
          simp only [Bool.and_eq_true] at hq
          exact ⟨by simpa using hq.1, quietB_ok hq.2⟩
        · cases hq
      · cases hq
    · cases h
  · rename_i hne
    split
    · exact absurd rfl (hne _)
    · exact evOp_sound hc h hk

theorem evSt_sound (hc : CallOk P call) : ∀ {l : List CStp} {s : List V} {σ : List Ob} {s' : List V} {σ' : List Ob} {K : List V → List Ob → Prop}, evSt P call l s σ = some (s', σ') → K s' σ' → stC P l s σ K
  | [], s, σ, s', σ', K, h, hk => by
    simp only [evSt, Option.some.injEq, Prod.mk.injEq] at h
    obtain ⟨rfl, rfl⟩ := h
    exact hk
  | .st o :: r, s, σ, s', σ', K, h, hk => by
    simp only [evSt] at h
    simp only [stC]
    split at h
    · rename_i hw
      refine guardC_of hw (fun _ => ?_) (fun e => by cases e)
      split at h
      · rename_i v σ1 hv
        exact evOpD_sound hc hv (evSt_sound hc h hk)
      · cases h
    · rename_i hw
      exact guardC_of hw (fun e => by cases e) (fun _ => evSt_sound hc h hk)
    · cases h
  | .q al o :: r, s, σ, s', σ', K, h, hk => by
    simp only [evSt] at h
    simp only [stC]
    split at h
    · rename_i hw
      refine guardC_of hw (fun _ => ?_) (fun e => by cases e)
      split at h
      · rename_i v hv
        simp only [bindO, hv]
        exact evSt_sound hc h hk
      · cases h
    · rename_i hw
      exact guardC_of hw (fun e => by cases e) (fun _ => evSt_sound hc h hk)
    · cases h
  | .ef o chk :: r, s, σ, s', σ', K, h, hk => by
    simp only [evSt] at h
    simp only [stC]
    split at h
    · rename_i hw
      refine guardC_of hw (fun _ => ?_) (fun e => by cases e)
      split at h
      · rename_i v σ1 hv
        split at h
        · rename_i hq
          exact evOp_sound hc hv ⟨chkE_of (chkB_sound hq), evSt_sound hc h hk⟩
        · cases h
      · cases h
    · rename_i hw
      exact guardC_of hw (fun e => by cases e) (fun _ => evSt_sound hc h hk)
    · cases h

theorem evLoop_sound {n : Nat} {a : CCode} {body : List V → List Ob → Option (Ex × List V × List Ob)}
    (hb : ∀ {s : List V} {σ : List Ob} {e : Ex} {s' : List V} {σ' : List Ob} {K : Ex → List V → List Ob → Prop}, body s σ = some (e, s', σ') → K e s' σ' → wpC P n a s σ K)
    {k : Nat} {s : List V} {σ : List Ob} {e : Ex} {s' : List V} {σ' : List Ob} {K : Ex → List V → List Ob → Prop} (h : evLoop body k s σ = some (e, s', σ')) (hk : K e s' σ') : WPC P n (.loop a) s σ K := by
  refine WPC_loop (α := Nat × List V × List Ob) (fun x => x.2.1) (fun x => x.2.2) (fun x => evLoop body x.1 x.2.1 x.2.2 = some (e, s', σ')) (fun x => x.1) ?_ (k, s, σ) h
  rintro ⟨k, s, σ⟩ h
  simp only at h
  cases k with
  | zero => simp [evLoop] at h
  | succ k =>
    simp only [evLoop] at h
    split at h
    · rename_i s1 σ1 h1
      exact hb h1 ⟨(k, s1, σ1), h, by simp, Weak.refl _ _ _⟩
    · rename_i hne
      refine hb h ?_
      cases e with
      | normal => exact (hne _ _ h).elim
      | exit id => exact hk
      | ret => exact hk

theorem evC_sound (hc : CallOk P call) {k n : Nat} : ∀ {c : CCode} {s : List V} {σ : List Ob} {e : Ex} {s' : List V} {σ' : List Ob} {K : Ex → List V → List Ob → Prop}, evC P call k c s σ = some (e, s', σ') → K e s' σ' → wpC P n c s σ K
  | .skip, s, σ, e, s', σ', K, h, hk => by
    simp only [evC, Option.some.injEq, Prod.mk.injEq] at h
    obtain ⟨rfl, rfl, rfl⟩ := h
    exact hk
  | .ops l, s, σ, e, s', σ', K, h, hk => by
    simp only [evC] at h
    split at h
    · rename_i s1 σ1 h1
      simp only [Option.some.injEq, Prod.mk.injEq] at h
      obtain ⟨rfl, rfl, rfl⟩ := h
      exact evSt_sound hc h1 hk
    · cases h
  | .seq a b, s, σ, e, s', σ', K, h, hk => by
    simp only [evC] at h
    simp only [wpC]
    split at h
    · rename_i s1 σ1 h1
      exact evC_sound hc h1 (evC_sound hc h hk)
    · rename_i hne
      refine evC_sound hc h ?_
      cases e with
      | normal => exact (hne _ _ h).elim
      | exit id => exact hk
      | ret => exact hk
  | .cond c a b, s, σ, e, s', σ', K, h, hk => by
    simp only [evC] at h
    simp only [wpC]
    split at h
    · rename_i hx
      rw [hx, CondC_true]
      exact evC_sound hc h hk
    · rename_i hx
      rw [hx, CondC_false]
      exact evC_sound hc h hk
    · cases h
  | .block id a, s, σ, e, s', σ', K, h, hk => by
    simp only [evC] at h
    simp only [wpC]
    split at h
    · rename_i j s1 σ1 h1
      refine evC_sound hc h1 ?_
      simp only [blockK]
      split at h
      · rename_i hj
        have := Nat.eq_of_beq_eq_true hj
        simp only [Option.some.injEq, Prod.mk.injEq] at h
        obtain ⟨rfl, rfl, rfl⟩ := h
        rw [if_pos this]; exact hk
      · rename_i hj
        have : j ≠ id := fun q => by subst q; simp at hj
        simp only [Option.some.injEq, Prod.mk.injEq] at h
        obtain ⟨rfl, rfl, rfl⟩ := h
        rw [if_neg this]; exact hk
    · rename_i hne
      refine evC_sound hc h ?_
      cases e with
      | normal => exact hk
      | exit j => exact (hne _ _ _ h).elim
      | ret => exact hk
  | .loop a, s, σ, e, s', σ', K, h, hk => by
    simp only [evC] at h
    simp only [wpC]
    exact evLoop_sound (fun h hk => evC_sound hc h hk) h hk
  | .exit id, s, σ, e, s', σ', K, h, hk => by
    simp only [evC, Option.some.injEq, Prod.mk.injEq] at h
    obtain ⟨rfl, rfl, rfl⟩ := h
    exact hk
  | .ret, s, σ, e, s', σ', K, h, hk => by
    simp only [evC, Option.some.injEq, Prod.mk.injEq] at h
    obtain ⟨rfl, rfl, rfl⟩ := h
    exact hk
  | .bad, s, σ, e, s', σ', K, h, hk => by simp [evC] at h

theorem evG_sound {N : Nat'} (hN : CallOk P N) {T : Tab} (hT : T.All (Opened P)) : ∀ k, CallOk P (evG P N T k)
  | 0 => fun g as σ v σ' h => by simp [evG] at h
  | k + 1 => fun g as σ v σ' h => by
    simp only [evG] at h
    split at h
    · rename_i r hr
      cases h
      exact hN _ _ _ _ _ hr
    split at h
    · cases h
    · rename_i fn hfn
      refine Tab.All.find hT hfn as σ _ ?_
      split at h
      · cases h
      · cases h
      · rename_i e s1 σ1 hne h1
        refine evC_sound (evG_sound hN hT k) h1 ?_
        split at h
        · rename_i r hr
          simp only [Option.some.injEq] at h
          have hf := tidy_fin fn.frz σ.length r σ1
          rw [h] at hf
          cases e with
          | normal => exact ⟨r, hr, v, σ', hf, rfl, rfl⟩
          | exit j => exact (hne j rfl).elim
          | ret => exact ⟨r, hr, v, σ', hf, rfl, rfl⟩
        · cases h
theorem evF_sound {T : Tab} (hT : T.All (Opened P)) : ∀ k, CallOk P (evF P T k) := evG_sound (N := fun _ _ _ => none) (fun _ _ _ _ _ h => by cases h) hT
end

/-- A closed run. -/
theorem run_ok {P : Program} {T : Tab} (hT : T.All (Opened P)) (k : Nat) {f : FuncId} {args : List V} {σ σ' : List Ob} {v : V} (h : evF P T k f args σ = some (v, σ')) : callA P f args σ fun r τ => r = v ∧ τ = σ' := evF_sound hT k _ _ _ _ _ h
/-- A run with contracts. -/
theorem run_okN {P : Program} {N : Nat'} (hN : CallOk P N) {T : Tab} (hT : T.All (Opened P)) (k : Nat) {f : FuncId} {args : List V} {σ σ' : List Ob} {v : V} (h : evG P N T k f args σ = some (v, σ')) : callA P f args σ fun r τ => r = v ∧ τ = σ' := evG_sound hN hT k _ _ _ _ _ h
end Go.Proofs.YteafabpedfgedaaGreatDoor.Am
end
