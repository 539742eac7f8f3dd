/- The engine's equations, for a rewriter that goes from the outside to the inside. -/
import Derived.Test.YtchgfpehcjomeaaGreatDoorAmW
set_option linter.unusedSimpArgs false
set_option linter.unusedVariables false
namespace Go.Proofs.YtchgfpehcjomeaaGreatDoor.Am
open Go
section
variable {P : Program} {n : Nat} {s : List V} {σ : List Ob} {K : Ex → List V → List Ob → Prop} {k : V → List Ob → Prop}

/-! ### a machine whose rest is data -/
end
inductive Fr where
  | code (c : CCode)
  | blk (id : Nat)

def Kof (P : Program) (n : Nat) (K : Ex → List V → List Ob → Prop) : List Fr → Ex → List V → List Ob → Prop
  | [] => K
  | .code c :: kk => seqK (fun s σ => wpC P n c s σ (Kof P n K kk)) (Kof P n K kk)
  | .blk id :: kk => blockK id (Kof P n K kk)

/-- Code, and what comes after it. -/
def Go (P : Program) (n : Nat) (c : CCode) (kk : List Fr) (s : List V) (σ : List Ob) (K : Ex → List V → List Ob → Prop) : Prop := wpC P n c s σ (Kof P n K kk)
/-- An end, and what comes after it. -/
def Pop (P : Program) (n : Nat) (kk : List Fr) (e : Ex) (s : List V) (σ : List Ob) (K : Ex → List V → List Ob → Prop) : Prop := Kof P n K kk e s σ
/-- Operations, and what comes after them. -/
def Rn (P : Program) (n : Nat) (l : List CStp) (kk : List Fr) (s : List V) (σ : List Ob) (K : Ex → List V → List Ob → Prop) : Prop := stC P l s σ (Kof P n K kk .normal)
def CondG (P : Program) (n : Nat) (x : V) (a b : CCode) (kk : List Fr) (s : List V) (σ : List Ob) (K : Ex → List V → List Ob → Prop) : Prop := CondC x (Go P n a kk s σ K) (Go P n b kk s σ K)
/-- A value, put where it belongs. -/
def BindV (P : Program) (n : Nat) (x : Option V) (d : Option Tmp) (l : List CStp) (kk : List Fr) (s : List V) (σ : List Ob) (K : Ex → List V → List Ob → Prop) : Prop := bindO x fun v => Rn P n l kk (putV s d v) σ K
/-- A value and a store. -/
def BindE (P : Program) (n : Nat) (x : Option (V × List Ob)) (d : Option Tmp) (chk : List (COp × Bool)) (l : List CStp) (kk : List Fr) (s : List V) (K : Ex → List V → List Ob → Prop) : Prop :=
  bindO x fun p => chkC P chk (putV s d p.1) p.2 ∧ Rn P n l kk (putV s d p.1) p.2 K
/-- A call, and what comes after it. -/
def CallK (P : Program) (n : Nat) (f : FuncId) (args : List V) (σ : List Ob) (d : Option Tmp) (chk : List (COp × Bool)) (l : List CStp) (kk : List Fr) (s : List V) (K : Ex → List V → List Ob → Prop) : Prop :=
  callA P f args σ fun v σ' => (σ' = σ ∨ chkC P chk (putV s d v) σ') ∧ Rn P n l kk (putV s d v) σ' K
def FnK (P : Program) (n : Nat) (x : V) (args : List V) (σ : List Ob) (d : Option Tmp) (chk : List (COp × Bool)) (l : List CStp) (kk : List Fr) (s : List V) (K : Ex → List V → List Ob → Prop) : Prop :=
  match x with
  | .fn g caps => CallK P n g (args ++ caps) σ d chk l kk s K
  | .bm g first => CallK P n g (first ++ args) σ d chk l kk s K
  | _ => False
/-- A guard: if the slot's value is w, the first, else the operation is left out. -/
def GrdK (P : Program) (n : Nat) (x : V) (w : Bool) (t : Tmp) (o : CStp) (d : Option Tmp) (l : List CStp) (kk : List Fr) (s : List V) (σ : List Ob) (K : Ex → List V → List Ob → Prop) : Prop :=
  GrdC t w x s (fun s => Rn P n (o :: l) kk s σ K) (fun s => Rn P n l kk (putV s d (.tup [])) σ K)
def LoopG (P : Program) (n : Nat) (a : CCode) (kk : List Fr) (s : List V) (σ : List Ob) (K : Ex → List V → List Ob → Prop) : Prop := WPC P n (.loop a) s σ (Kof P n K kk)

section
variable {P : Program} {n : Nat} {s : List V} {σ : List Ob} {K : Ex → List V → List Ob → Prop} {k : V → List Ob → Prop} {kk : List Fr} {l : List CStp}
theorem Go_skip : Go P n .skip kk s σ K = Pop P n kk .normal s σ K := (rfl)
theorem Go_ops (l : List CStp) : Go P n (.ops l) kk s σ K = Rn P n l kk s σ K := (rfl)
theorem Go_seq (a b : CCode) : Go P n (.seq a b) kk s σ K = Go P n a (.code b :: kk) s σ K := (rfl)
theorem Go_cond (c : Operand) (a b : CCode) : Go P n (.cond c a b) kk s σ K = CondG P n (get s c) a b kk s σ K := (rfl)
theorem Go_block (id : Nat) (a : CCode) : Go P n (.block id a) kk s σ K = Go P n a (.blk id :: kk) s σ K := (rfl)
theorem Go_loop (a : CCode) : Go P n (.loop a) kk s σ K = LoopG P n a kk s σ K := (rfl)
theorem Go_exit (id : Nat) : Go P n (.exit id) kk s σ K = Pop P n kk (.exit id) s σ K := (rfl)
theorem Go_ret : Go P n .ret kk s σ K = Pop P n kk .ret s σ K := (rfl)
theorem Pop_nil (e : Ex) : Pop P n [] e s σ K = K e s σ := (rfl)
theorem Pop_code_n (c : CCode) : Pop P n (.code c :: kk) .normal s σ K = Go P n c kk s σ K := (rfl)
theorem Pop_code_r (c : CCode) : Pop P n (.code c :: kk) .ret s σ K = Pop P n kk .ret s σ K := (rfl)
theorem Pop_code_e (c : CCode) (i : Nat) : Pop P n (.code c :: kk) (.exit i) s σ K = Pop P n kk (.exit i) s σ K := (rfl)
theorem Pop_blk_n (i : Nat) : Pop P n (.blk i :: kk) .normal s σ K = Pop P n kk .normal s σ K := (rfl)
theorem Pop_blk_r (i : Nat) : Pop P n (.blk i :: kk) .ret s σ K = Pop P n kk .ret s σ K := (rfl)
theorem Pop_blk_e (i j : Nat) : Pop P n (.blk i :: kk) (.exit j) s σ K = if j = i then Pop P n kk .normal s σ K else Pop P n kk (.exit j) s σ K := (rfl)
theorem CondG_t (a b : CCode) : CondG P n (.d (.bool true)) a b kk s σ K = Go P n a kk s σ K := CondC_true _ _
theorem CondG_f (a b : CCode) : CondG P n (.d (.bool false)) a b kk s σ K = Go P n b kk s σ K := CondC_false _ _
theorem CondG_intro {t : Bool} {a b : CCode} (h1 : t = true → Go P n a kk s σ K) (h2 : t = false → Go P n b kk s σ K) : CondG P n (.d (.bool t)) a b kk s σ K := ⟨h1, h2⟩
theorem Rn_nil : Rn P n [] kk s σ K = Pop P n kk .normal s σ K := (rfl)
theorem BindV_some (v : V) (d : Option Tmp) : BindV P n (some v) d l kk s σ K = Rn P n l kk (putV s d v) σ K := (rfl)
theorem BindE_some (v : V) (σ' : List Ob) (d : Option Tmp) (chk : List (COp × Bool)) : BindE P n (some (v, σ')) d chk l kk s K = (chkC P chk (putV s d v) σ' ∧ Rn P n l kk (putV s d v) σ' K) := (rfl)
theorem BindE_some' (v : V) (σ' : List Ob) (d : Option Tmp) : BindE P n (some (v, σ')) d [] l kk s K = Rn P n l kk (putV s d v) σ' K := by simp [BindE, bindO, chkC]
theorem bindO_ite' {α : Type} {c : Prop} [Decidable c] (a : α) (f : α → Prop) : bindO (if c then some a else none) f = (c ∧ f a) := by
  by_cases h : c <;> simp [h, bindO]
theorem BindV_ite {c : Prop} [Decidable c] (v : V) (d : Option Tmp) : BindV P n (if c then some v else none) d l kk s σ K = (c ∧ Rn P n l kk (putV s d v) σ K) := bindO_ite' _ _
theorem FnK_fn (g : Nat) (caps args : List V) (d : Option Tmp) (chk : List (COp × Bool)) : FnK P n (.fn g caps) args σ d chk l kk s K = CallK P n g (args ++ caps) σ d chk l kk s K := (rfl)
theorem FnK_bm (g : Nat) (first args : List V) (d : Option Tmp) (chk : List (COp × Bool)) : FnK P n (.bm g first) args σ d chk l kk s K = CallK P n g (first ++ args) σ d chk l kk s K := (rfl)

theorem Rn_st (d : Option Tmp) (op : Op) : Rn P n (.st ⟨d, op, none⟩ :: l) kk s σ K = stepD P op s σ fun v σ' => Rn P n l kk (putV s d v) σ' K := (rfl)
theorem stepD_call (cl : Call) (k : V → List Ob → Prop) : stepD P (.call cl) s σ k = stepC P (.call cl) s σ k := (rfl)
theorem R_defer (d : Option Tmp) (f : Operand) (ts : Array TypeId) : Rn P n (.st ⟨d, .defer ⟨.value f, #[], ts⟩, none⟩ :: l) kk s σ K = ((match get s f with | .fn g caps => QuietG P g caps.length | _ => False) ∧ Rn P n l kk (putV s d .undef) σ K) := by
  show (dferC P ⟨.value f, #[], ts⟩ s ∧ Rn P n l kk (putV s d .undef) σ K) = _
  simp only [dferC]
  cases get s f <;> simp
theorem Rn_q (al : Bool) (d : Option Tmp) (op : Op) : Rn P n (.q al ⟨d, op, none⟩ :: l) kk s σ K = BindV P n (doQC P al op s σ) d l kk s σ K := (rfl)
theorem Rn_ef (d : Option Tmp) (op : Op) (chk : List (COp × Bool)) : Rn P n (.ef ⟨d, op, none⟩ chk :: l) kk s σ K = stepC P op s σ fun v σ' => chkE op σ σ' (chkC P chk (putV s d v) σ') ∧ Rn P n l kk (putV s d v) σ' K := (rfl)
theorem Rn_stG (d : Option Tmp) (op : Op) (t : Tmp) (w : Bool) : Rn P n (.st ⟨d, op, some (t, w)⟩ :: l) kk s σ K = GrdK P n (get s (.tmp t)) w t (.st ⟨d, op, none⟩) d l kk s σ K := (rfl)
theorem Rn_qG (al : Bool) (d : Option Tmp) (op : Op) (t : Tmp) (w : Bool) : Rn P n (.q al ⟨d, op, some (t, w)⟩ :: l) kk s σ K = GrdK P n (get s (.tmp t)) w t (.q al ⟨d, op, none⟩) d l kk s σ K := (rfl)
theorem Rn_efG (d : Option Tmp) (op : Op) (chk : List (COp × Bool)) (t : Tmp) (w : Bool) : Rn P n (.ef ⟨d, op, some (t, w)⟩ chk :: l) kk s σ K = GrdK P n (get s (.tmp t)) w t (.ef ⟨d, op, none⟩ chk) d l kk s σ K := (rfl)

theorem GrdC_l (t : Tmp) (w : Bool) (yes no : List V → Prop) (h : s.getD t .undef = .d (.bool w)) : GrdC t w (.d (.bool w)) s yes no = yes s := by
  simp only [GrdC, set_same_bool h]
  cases w <;> simp
theorem GrdK_tt {t : Tmp} {o : CStp} {d : Option Tmp} (h : s.getD t .undef = .d (.bool true)) : GrdK P n (.d (.bool true)) true t o d l kk s σ K = Rn P n (o :: l) kk s σ K := GrdC_l t true _ _ h
theorem GrdK_ff {t : Tmp} {o : CStp} {d : Option Tmp} (h : s.getD t .undef = .d (.bool false)) : GrdK P n (.d (.bool false)) false t o d l kk s σ K = Rn P n (o :: l) kk s σ K := GrdC_l t false _ _ h
theorem GrdK_tf {t : Tmp} {o : CStp} {d : Option Tmp} (h : s.getD t .undef = .d (.bool false)) : GrdK P n (.d (.bool false)) true t o d l kk s σ K = Rn P n l kk (putV s d (.tup [])) σ K := by
  have := set_same_bool h
  simp [GrdK, GrdC, this]
theorem GrdK_ft {t : Tmp} {o : CStp} {d : Option Tmp} (h : s.getD t .undef = .d (.bool true)) : GrdK P n (.d (.bool true)) false t o d l kk s σ K = Rn P n l kk (putV s d (.tup [])) σ K := by
  have := set_same_bool h
  simp [GrdK, GrdC, this]
theorem GrdK_no {t : Tmp} {w : Bool} {o : CStp} {d : Option Tmp} : GrdK P n (.tup []) w t o d l kk s σ K = Rn P n l kk (putV s d (.tup [])) σ K := (rfl)
/-- A guard that is not known: two ways. -/
theorem GrdK_intro {t : Tmp} {w b : Bool} {o : CStp} {d : Option Tmp} (h1 : b = w → Rn P n (o :: l) kk (s.set t (.d (.bool w))) σ K) (h2 : b = (!w) → Rn P n l kk (putV (s.set t (.d (.bool (!w)))) d (.tup [])) σ K) : GrdK P n (.d (.bool b)) w t o d l kk s σ K := ⟨h1, h2⟩

/-! the operations -/
theorem step_move (x : Operand) : stepC P (.move x) s σ k = bindO (some (get s x)) fun v => k v σ := (rfl)
theorem step_assign (x : Operand) : stepC P (.assign x) s σ k = bindO (some (get s x)) fun v => k v σ := (rfl)

def pickF (P : Program) (c a b : V) : Option V := match c with | .d (.bool t) => some (match t with | true => a | false => b) | _ => none
theorem pickF_t (a b : V) : pickF P (.d (.bool true)) a b = some a := (rfl)
theorem pickF_f (a b : V) : pickF P (.d (.bool false)) a b = some b := (rfl)
def nilCheckF (σ : List Ob) : V → Option V
  | .ptr o i k => if alive σ o then some (.ptr o i k) else none
  | .ipt cs => some (.ipt cs)
  | _ => none
def extractF (i : Nat) : V → Option V
  | .tup vs => vs[i]?
  | _ => none

theorem q_or (x : Option V) : (match x with | some r => k r σ | none => match (none : Option (V × List Ob)) with | some (r, σ') => k r σ' | none => False) = bindO x fun v => k v σ := by
  cases x <;> rfl

theorem step_pick (c a b : Operand) : stepC P (.pick c a b) s σ k = bindO (pickF P (get s c) (get s a) (get s b)) fun v => k v σ := q_or _
theorem step_nilCheck (x : Operand) : stepC P (.nilCheck x) s σ k = bindO (nilCheckF σ (get s x)) fun v => k v σ := q_or _
theorem step_unOp (op : UnOp) (t : TypeId) (x : Operand) : stepC P (.unOp op t x) s σ k = bindO (unF op (get s x)) fun v => k v σ := q_or _
theorem step_fieldAddr (t : TypeId) (x : Operand) (f : Nat) : stepC P (.fieldAddr t x f) s σ k = bindO (fieldAddrF P t f σ (get s x)) fun v => k v σ := q_or _
theorem step_field (t : TypeId) (x : Operand) (f : Nat) : stepC P (.field t x f) s σ k = bindO (fieldF P t f (get s x)) fun v => k v σ := q_or _
theorem step_load (t : TypeId) (x : Operand) : stepC P (.load t x) s σ k = bindO (loadF P t σ (get s x)) fun v => k v σ := q_or _
theorem step_indexAddr (t : TypeId) (x i : Operand) : stepC P (.indexAddr t x i) s σ k = bindO (indexAddrF P t σ (get s x) (get s i)) fun v => k v σ := q_or _
theorem step_index (t : TypeId) (x i : Operand) : stepC P (.index t x i) s σ k = bindO (indexF P t (get s x) (get s i)) fun v => k v σ := q_or _
theorem step_slice (t : TypeId) (x : Operand) (lo hi mx : Option Operand) : stepC P (.slice t x lo hi mx) s σ k = bindO (sliceF P t σ (get s x) (lo.map (get s)) (hi.map (get s)) (mx.map (get s))) fun v => k v σ := q_or _
theorem step_extract (x : Operand) (i : Nat) : stepC P (.extract x i) s σ k = bindO (extractF i (get s x)) fun v => k v σ := q_or _
theorem step_assert (x : Operand) (u t : TypeId) (ok : Bool) : stepC P (.typeAssert x u t ok) s σ k = bindO (assertF P t ok (get s x)) fun v => k v σ := q_or _
theorem step_makeFunc (f : Nat) (caps : Array Operand) : stepC P (.makeFunc (.func f) #[] caps) s σ k = bindO (some (.fn f (argsOf s caps))) fun v => k v σ := (rfl)
theorem step_makeBm (f : Nat) (x : Operand) : stepC P (.makeFunc (.func f) #[x] #[]) s σ k = bindO (some (.bm f [get s x])) fun v => k v σ := (rfl)
theorem step_lookup (t : TypeId) (x y : Operand) (ok : Bool) : stepC P (.lookup t x y ok) s σ k = bindO (lookupF P t σ (get s x) (get s y) ok) fun v => k v σ := q_or _
theorem step_build (t : TypeId) (ps : Array (Nat × Operand)) : stepC P (.build t ps) s σ k = bindO (buildF P t σ s ps.toList) fun v => k v σ := q_or _
theorem step_len (args : Array Operand) (ts : Array TypeId) : stepC P (.call ⟨.builtin .len, args, ts⟩) s σ k = bindO (builtinF P .len ts.toList σ (argsOf s args)) fun v => k v σ := q_or _
theorem step_min (args : Array Operand) (ts : Array TypeId) : stepC P (.call ⟨.builtin .min, args, ts⟩) s σ k = bindO (builtinF P .min ts.toList σ (argsOf s args)) fun v => k v σ := q_or _
theorem step_max (args : Array Operand) (ts : Array TypeId) : stepC P (.call ⟨.builtin .max, args, ts⟩) s σ k = bindO (builtinF P .max ts.toList σ (argsOf s args)) fun v => k v σ := q_or _

theorem b_or (x : Option V) (p : Prop) : (match x with | some r => k r σ | none => match (none : Option (V × List Ob)) with | some (r, σ') => k r σ' | none => p) = (match x with | some r => k r σ | none => p) := by
  cases x <;> rfl

theorem e_or (e : Option (V × List Ob)) : (match e with | some (r, σ') => k r σ' | none => False) = bindO e fun p => k p.1 p.2 := by cases e <;> rfl
theorem u_or (r : V) (e : Option (List Ob)) : (match e.map fun σ' => (r, σ') with | some (r, σ') => k r σ' | none => False) = bindO e fun σ' => k r σ' := by cases e <;> rfl

def allocE (P : Program) (t : TypeId) (σ : List Ob) : Option (V × List Ob) := (zeroCs P t).map fun cs => (.ptr σ.length 0 0, σ ++ [.box cs])
def boxE (σ : List Ob) (x : V) : Option (V × List Ob) := (cellsV σ x).map fun cs => (.ptr σ.length 0 0, σ ++ [.box cs])
def undE (x : Option (List Ob)) : Option (V × List Ob) := x.map fun σ' => (.undef, σ')
def tupE (x : Option (List Ob)) : Option (V × List Ob) := x.map fun σ' => (.tup [], σ')
theorem undE_some (σ' : List Ob) : undE (some σ') = some (.undef, σ') := (rfl)
theorem tupE_some (σ' : List Ob) : tupE (some σ') = some (.tup [], σ') := (rfl)
theorem step_alloc (t : TypeId) : stepC P (.alloc t) s σ k = bindO (allocE P t σ) fun p => k p.1 p.2 := e_or _
theorem step_box (t : TypeId) (x : Operand) : stepC P (.box t x) s σ k = bindO (boxE σ (get s x)) fun p => k p.1 p.2 := e_or _
theorem step_buildSlice (t : TypeId) (m : Nat) (ps : Array (Nat × Operand)) : stepC P (.buildSlice t m ps) s σ k = bindO (buildE P t m σ s ps.toList) fun p => k p.1 p.2 := e_or _
theorem step_store (t : TypeId) (a x : Operand) : stepC P (.store t a x) s σ k = bindO (undE (storeF P t σ (get s a) (get s x))) fun p => k p.1 p.2 := e_or _
theorem step_makeMap (t : TypeId) : stepC P (.makeMap t none) s σ k = bindO (some (.mp σ.length, σ ++ [.map [] 0])) fun p => k p.1 p.2 := (rfl)
theorem step_mapUpdate (t : TypeId) (m x y : Operand) : stepC P (.mapUpdate t m x y) s σ k = bindO (undE (mapUpdateF P t σ (get s m) (get s x) (get s y))) fun p => k p.1 p.2 := e_or _
theorem step_insert (t : TypeId) (m x y : Operand) : stepC P (.insert t m x y) s σ k = bindO (undE (mapUpdateF P t σ (get s m) (get s x) (get s y))) fun p => k p.1 p.2 := e_or _
theorem step_mapEntry (t : TypeId) (m x : Operand) : stepC P (.mapEntry t m x) s σ k = bindO (mapEntryF P t σ (get s m) (get s x)) fun p => k p.1 p.2 := e_or _
theorem step_entryStore (t : TypeId) (m x y : Operand) : stepC P (.entryStore t m x y) s σ k = bindO (undE (entryStoreF P σ (get s m) (get s x) (get s y))) fun p => k p.1 p.2 := e_or _
def makeF (P : Program) (t : TypeId) (σ : List Ob) (l c : V) : Option (V × List Ob) := match makeSliceF P t σ l c with | some r => some r | none => makeVecF P t σ l c
theorem step_makeSlice (t : TypeId) (x c : Operand) : stepC P (.makeSlice t x c) s σ k = bindO (makeF P t σ (get s x) (get s c)) fun p => k p.1 p.2 := e_or _
def appE (P : Program) (t tx : TypeId) (σ : List Ob) (d x : V) : Option (V × List Ob) := match appendInF P t tx σ d x with | some r => some r | none => (match appendF P t tx σ d x with | some r => some r | none => appendVecF P t tx σ d x)
theorem step_append (x y : Operand) (t tx : TypeId) : stepC P (.call ⟨.builtin .append, #[x, y], #[t, tx]⟩) s σ k = bindO (appE P t tx σ (get s x) (get s y)) fun p => k p.1 p.2 := e_or _
theorem step_delete (m x : Operand) (t t' : TypeId) : stepC P (.call ⟨.builtin .delete, #[m, x], #[t, t']⟩) s σ k = bindO (tupE (deleteF P t σ (get s m) (get s x))) fun p => k p.1 p.2 := e_or _
theorem step_clear (x : Operand) (t : TypeId) : stepC P (.call ⟨.builtin .clear, #[x], #[t]⟩) s σ k = bindO (tupE (clearF P t σ (get s x))) fun p => k p.1 p.2 := e_or _
def cvF (P : Program) (src dst : TypeId) (σ : List Ob) (x : V) : Option (V × List Ob) := match convF P src dst σ x with | some r => some (r, σ) | none => (match strBytesF P src dst σ x with | some r => some r | none => markF P src dst σ x)
theorem step_convert (src dst : TypeId) (x : Operand) : stepC P (.convert src dst x) s σ k = bindO (cvF P src dst σ (get s x)) fun p => k p.1 p.2 := by
  show (match convF P src dst σ (get s x) with | some r => k r σ | none => match (match strBytesF P src dst σ (get s x) with | some r => some r | none => markF P src dst σ (get s x)) with | some (r, σ') => k r σ' | none => False) = _
  unfold cvF
  cases convF P src dst σ (get s x) with
  | some r => rfl
  | none => exact e_or _
theorem step_call (g : Nat) (args : Array Operand) (ts : Array TypeId) : stepC P (.call ⟨.value (.func g), args, ts⟩) s σ k = callA P g (argsOf s args) σ k := by
  show callA P g (argsOf s args ++ []) σ k = _
  rw [List.append_nil]

theorem BindE_nil (x : Option (V × List Ob)) (d : Option Tmp) : BindE P n x d [] l kk s K = bindO x fun p => Rn P n l kk (putV s d p.1) p.2 K := by
  cases x <;> simp [BindE, bindO, chkC]
theorem R_move (x : Operand) (d : Option Tmp) : Rn P n (.st ⟨d, .move x, none⟩ :: l) kk s σ K = BindV P n ((some (get s x))) d l kk s σ K := step_move (P := P) (s := s) (k := fun v σ' => Rn P n l kk (putV s d v) σ' K) x
theorem R_assign (x : Operand) (d : Option Tmp) : Rn P n (.st ⟨d, .assign x, none⟩ :: l) kk s σ K = BindV P n ((some (get s x))) d l kk s σ K := step_assign (P := P) (s := s) (k := fun v σ' => Rn P n l kk (putV s d v) σ' K) x
theorem R_pick (c a b : Operand) (d : Option Tmp) : Rn P n (.st ⟨d, .pick c a b, none⟩ :: l) kk s σ K = BindV P n ((pickF P (get s c) (get s a) (get s b))) d l kk s σ K := step_pick (P := P) (s := s) (k := fun v σ' => Rn P n l kk (putV s d v) σ' K) c a b
theorem R_nilCheck (x : Operand) (d : Option Tmp) : Rn P n (.st ⟨d, .nilCheck x, none⟩ :: l) kk s σ K = BindV P n ((nilCheckF σ (get s x))) d l kk s σ K := step_nilCheck (P := P) (s := s) (k := fun v σ' => Rn P n l kk (putV s d v) σ' K) x
/-- An operator; or a slice against nil, where both answers are to be borne. -/
def BinK (P : Program) (n : Nat) (b : Option V) (op : Op) (d : Option Tmp) (l : List CStp) (kk : List Fr) (s : List V) (σ : List Ob) (K : Ex → List V → List Ob → Prop) : Prop :=
  match b with
  | some v => Rn P n l kk (putV s d v) σ K
  | none => nilA P s σ op fun v σ => Rn P n l kk (putV s d v) σ K
theorem BinK_some (v : V) (op : Op) (d : Option Tmp) : BinK P n (some v) op d l kk s σ K = Rn P n l kk (putV s d v) σ K := (rfl)
theorem R_binOp (op : BinOp) (t : TypeId) (x y : Operand) (yt : TypeId) (d : Option Tmp) : Rn P n (.st ⟨d, .binOp op t x y yt, none⟩ :: l) kk s σ K = BinK P n (binF P op t σ (get s x) (get s y)) (.binOp op t x y yt) d l kk s σ K :=
  b_or (k := fun v σ' => Rn P n l kk (putV s d v) σ' K) _ _

theorem R_unOp (op : UnOp) (t : TypeId) (x : Operand) (d : Option Tmp) : Rn P n (.st ⟨d, .unOp op t x, none⟩ :: l) kk s σ K = BindV P n ((unF op (get s x))) d l kk s σ K := step_unOp (P := P) (s := s) (k := fun v σ' => Rn P n l kk (putV s d v) σ' K) op t x
theorem R_fieldAddr (t : TypeId) (x : Operand) (f : Nat) (d : Option Tmp) : Rn P n (.st ⟨d, .fieldAddr t x f, none⟩ :: l) kk s σ K = BindV P n ((fieldAddrF P t f σ (get s x))) d l kk s σ K := step_fieldAddr (P := P) (s := s) (k := fun v σ' => Rn P n l kk (putV s d v) σ' K) t x f
theorem R_field (t : TypeId) (x : Operand) (f : Nat) (d : Option Tmp) : Rn P n (.st ⟨d, .field t x f, none⟩ :: l) kk s σ K = BindV P n ((fieldF P t f (get s x))) d l kk s σ K := step_field (P := P) (s := s) (k := fun v σ' => Rn P n l kk (putV s d v) σ' K) t x f
theorem R_load (t : TypeId) (x : Operand) (d : Option Tmp) : Rn P n (.st ⟨d, .load t x, none⟩ :: l) kk s σ K = BindV P n ((loadF P t σ (get s x))) d l kk s σ K := step_load (P := P) (s := s) (k := fun v σ' => Rn P n l kk (putV s d v) σ' K) t x
theorem R_indexAddr (t : TypeId) (x i : Operand) (d : Option Tmp) : Rn P n (.st ⟨d, .indexAddr t x i, none⟩ :: l) kk s σ K = BindV P n ((indexAddrF P t σ (get s x) (get s i))) d l kk s σ K := step_indexAddr (P := P) (s := s) (k := fun v σ' => Rn P n l kk (putV s d v) σ' K) t x i
theorem R_index (t : TypeId) (x i : Operand) (d : Option Tmp) : Rn P n (.st ⟨d, .index t x i, none⟩ :: l) kk s σ K = BindV P n ((indexF P t (get s x) (get s i))) d l kk s σ K := step_index (P := P) (s := s) (k := fun v σ' => Rn P n l kk (putV s d v) σ' K) t x i
theorem R_slice (t : TypeId) (x : Operand) (lo hi mx : Option Operand) (d : Option Tmp) : Rn P n (.st ⟨d, .slice t x lo hi mx, none⟩ :: l) kk s σ K = BindV P n ((sliceF P t σ (get s x) (lo.map (get s)) (hi.map (get s)) (mx.map (get s)))) d l kk s σ K := step_slice (P := P) (s := s) (k := fun v σ' => Rn P n l kk (putV s d v) σ' K) t x lo hi mx
theorem R_extract (x : Operand) (i : Nat) (d : Option Tmp) : Rn P n (.st ⟨d, .extract x i, none⟩ :: l) kk s σ K = BindV P n ((extractF i (get s x))) d l kk s σ K := step_extract (P := P) (s := s) (k := fun v σ' => Rn P n l kk (putV s d v) σ' K) x i
theorem R_assert (x : Operand) (u t : TypeId) (ok : Bool) (d : Option Tmp) : Rn P n (.st ⟨d, .typeAssert x u t ok, none⟩ :: l) kk s σ K = BindV P n ((assertF P t ok (get s x))) d l kk s σ K := step_assert (P := P) (s := s) (k := fun v σ' => Rn P n l kk (putV s d v) σ' K) x u t ok
theorem R_makeFunc (f : Nat) (caps : Array Operand) (d : Option Tmp) : Rn P n (.st ⟨d, .makeFunc (.func f) #[] caps, none⟩ :: l) kk s σ K = BindV P n ((some (.fn f (argsOf s caps)))) d l kk s σ K := step_makeFunc (P := P) (s := s) (k := fun v σ' => Rn P n l kk (putV s d v) σ' K) f caps
theorem R_makeBm (f : Nat) (x : Operand) (d : Option Tmp) : Rn P n (.st ⟨d, .makeFunc (.func f) #[x] #[], none⟩ :: l) kk s σ K = BindV P n ((some (.bm f [get s x]))) d l kk s σ K := step_makeBm (P := P) (s := s) (k := fun v σ' => Rn P n l kk (putV s d v) σ' K) f x
theorem R_lookup (t : TypeId) (x y : Operand) (ok : Bool) (d : Option Tmp) : Rn P n (.st ⟨d, .lookup t x y ok, none⟩ :: l) kk s σ K = BindV P n ((lookupF P t σ (get s x) (get s y) ok)) d l kk s σ K := step_lookup (P := P) (s := s) (k := fun v σ' => Rn P n l kk (putV s d v) σ' K) t x y ok
theorem R_len (args : Array Operand) (ts : Array TypeId) (d : Option Tmp) : Rn P n (.st ⟨d, .call ⟨.builtin .len, args, ts⟩, none⟩ :: l) kk s σ K = BindV P n ((builtinF P .len ts.toList σ (argsOf s args))) d l kk s σ K := step_len (P := P) (s := s) (k := fun v σ' => Rn P n l kk (putV s d v) σ' K) args ts
theorem R_min (args : Array Operand) (ts : Array TypeId) (d : Option Tmp) : Rn P n (.st ⟨d, .call ⟨.builtin .min, args, ts⟩, none⟩ :: l) kk s σ K = BindV P n ((builtinF P .min ts.toList σ (argsOf s args))) d l kk s σ K := step_min (P := P) (s := s) (k := fun v σ' => Rn P n l kk (putV s d v) σ' K) args ts
theorem R_max (args : Array Operand) (ts : Array TypeId) (d : Option Tmp) : Rn P n (.st ⟨d, .call ⟨.builtin .max, args, ts⟩, none⟩ :: l) kk s σ K = BindV P n ((builtinF P .max ts.toList σ (argsOf s args))) d l kk s σ K := step_max (P := P) (s := s) (k := fun v σ' => Rn P n l kk (putV s d v) σ' K) args ts
theorem R_alloc (t : TypeId) (d : Option Tmp) : Rn P n (.st ⟨d, .alloc t, none⟩ :: l) kk s σ K = BindE P n ((allocE P t σ)) d [] l kk s K := (step_alloc (P := P) (s := s) (k := fun v σ' => Rn P n l kk (putV s d v) σ' K) t).trans (BindE_nil _ _).symm
theorem F_alloc (t : TypeId) (d : Option Tmp) (chk : List (COp × Bool)) : Rn P n (.ef ⟨d, .alloc t, none⟩ chk :: l) kk s σ K = BindE P n ((allocE P t σ)) d chk l kk s K := step_alloc (P := P) (s := s) (k := fun v σ' => chkC P chk (putV s d v) σ' ∧ Rn P n l kk (putV s d v) σ' K) t
theorem R_box (t : TypeId) (x : Operand) (d : Option Tmp) : Rn P n (.st ⟨d, .box t x, none⟩ :: l) kk s σ K = BindE P n ((boxE σ (get s x))) d [] l kk s K := (step_box (P := P) (s := s) (k := fun v σ' => Rn P n l kk (putV s d v) σ' K) t x).trans (BindE_nil _ _).symm
theorem F_box (t : TypeId) (x : Operand) (d : Option Tmp) (chk : List (COp × Bool)) : Rn P n (.ef ⟨d, .box t x, none⟩ chk :: l) kk s σ K = BindE P n ((boxE σ (get s x))) d chk l kk s K := step_box (P := P) (s := s) (k := fun v σ' => chkC P chk (putV s d v) σ' ∧ Rn P n l kk (putV s d v) σ' K) t x
theorem R_store (t : TypeId) (a x : Operand) (d : Option Tmp) : Rn P n (.st ⟨d, .store t a x, none⟩ :: l) kk s σ K = BindE P n ((undE (storeF P t σ (get s a) (get s x)))) d [] l kk s K := (step_store (P := P) (s := s) (k := fun v σ' => Rn P n l kk (putV s d v) σ' K) t a x).trans (BindE_nil _ _).symm
theorem F_store (t : TypeId) (a x : Operand) (d : Option Tmp) (chk : List (COp × Bool)) : Rn P n (.ef ⟨d, .store t a x, none⟩ chk :: l) kk s σ K = BindE P n ((undE (storeF P t σ (get s a) (get s x)))) d chk l kk s K := step_store (P := P) (s := s) (k := fun v σ' => chkC P chk (putV s d v) σ' ∧ Rn P n l kk (putV s d v) σ' K) t a x
theorem R_makeMap (t : TypeId) (d : Option Tmp) : Rn P n (.st ⟨d, .makeMap t none, none⟩ :: l) kk s σ K = BindE P n ((some (.mp σ.length, σ ++ [.map [] 0]))) d [] l kk s K := (step_makeMap (P := P) (s := s) (k := fun v σ' => Rn P n l kk (putV s d v) σ' K) t).trans (BindE_nil _ _).symm
theorem F_makeMap (t : TypeId) (d : Option Tmp) (chk : List (COp × Bool)) : Rn P n (.ef ⟨d, .makeMap t none, none⟩ chk :: l) kk s σ K = BindE P n ((some (.mp σ.length, σ ++ [.map [] 0]))) d chk l kk s K := step_makeMap (P := P) (s := s) (k := fun v σ' => chkC P chk (putV s d v) σ' ∧ Rn P n l kk (putV s d v) σ' K) t
theorem step_range (t : TypeId) (x : Operand) : stepC P (.range t x) s σ k = bindO (rangeF P t σ (get s x)) fun p => k p.1 p.2 := e_or _
theorem step_nextS (x : Operand) : stepC P (.next x true) s σ k = bindO (nextS σ (get s x)) fun p => k p.1 p.2 := e_or _
theorem step_entry (x : Operand) : stepC P (.entry x) s σ k = bindO (entryF σ (get s x)) fun v => k v σ := by
  show (match (entryF σ (get s x)).map fun r => (r, σ) with | some (r, σ') => k r σ' | none => False) = _
  cases entryF σ (get s x) <;> rfl
theorem R_range (t : TypeId) (x : Operand) (d : Option Tmp) : Rn P n (.st ⟨d, .range t x, none⟩ :: l) kk s σ K = BindE P n (rangeF P t σ (get s x)) d [] l kk s K := (step_range (P := P) (s := s) (k := fun v σ' => Rn P n l kk (putV s d v) σ' K) t x).trans (BindE_nil _ _).symm
theorem R_nextS (x : Operand) (d : Option Tmp) : Rn P n (.st ⟨d, .next x true, none⟩ :: l) kk s σ K = BindE P n (nextS σ (get s x)) d [] l kk s K := (step_nextS (P := P) (s := s) (k := fun v σ' => Rn P n l kk (putV s d v) σ' K) x).trans (BindE_nil _ _).symm
theorem R_entry (x : Operand) (d : Option Tmp) : Rn P n (.st ⟨d, .entry x, none⟩ :: l) kk s σ K = BindV P n (entryF σ (get s x)) d l kk s σ K := step_entry (P := P) (s := s) (k := fun v σ' => Rn P n l kk (putV s d v) σ' K) x
/-- The next entry of a map: whichever comes. -/
def NextK (P : Program) (n : Nat) (x : Operand) (d : Option Tmp) (l : List CStp) (kk : List Fr) (s : List V) (σ : List Ob) (K : Ex → List V → List Ob → Prop) : Prop := nilA P s σ (.next x false) fun v σ => Rn P n l kk (putV s d v) σ K
theorem R_next (x : Operand) (d : Option Tmp) : Rn P n (.st ⟨d, .next x false, none⟩ :: l) kk s σ K = NextK P n x d l kk s σ K := (rfl)
theorem NextK_nil {x : Operand} {d : Option Tmp} {i since last : Nat} {seen : List Nat} (hx : get s x = .ptr i 0 0) (hi : σ[i]? = some (.mit (.d .nilm) since seen last)) (h : Rn P n l kk (putV s d (.tup [.d (.bool false)])) σ K) : NextK P n x d l kk s σ K := by
  simp only [NextK, nilA, hx, hi]
  exact h
theorem NextK_map {x : Operand} {d : Option Tmp} {i o since last clk : Nat} {seen : List Nat} {es : List (D × V × Nat)} (hx : get s x = .ptr i 0 0) (hi : σ[i]? = some (.mit (.mp o) since seen last)) (ho : σ[o]? = some (.map es clk)) (h1 : ∀ e ∈ es, e.2.2 < since) (h2 : since ≤ last)
    (k1 : (∀ e ∈ es, e.2.2 ∈ seen) → Rn P n l kk (putV s d (.tup [.d (.bool false)])) σ K)
    (k2 : ∀ e ∈ es, e.2.2 ∉ seen → Rn P n l kk (putV s d (.tup [.d (.bool true), .d e.1, e.2.1])) (σ.set i (.mit (.mp o) since (seen ++ [e.2.2]) clk)) K) : NextK P n x d l kk s σ K := by
  simp only [NextK, nilA, hx, hi, ho]
  exact ⟨h1, h2, k1, k2⟩
theorem R_mapUpdate (t : TypeId) (m x y : Operand) (d : Option Tmp) : Rn P n (.st ⟨d, .mapUpdate t m x y, none⟩ :: l) kk s σ K = BindE P n ((undE (mapUpdateF P t σ (get s m) (get s x) (get s y)))) d [] l kk s K := (step_mapUpdate (P := P) (s := s) (k := fun v σ' => Rn P n l kk (putV s d v) σ' K) t m x y).trans (BindE_nil _ _).symm
theorem F_mapUpdate (t : TypeId) (m x y : Operand) (d : Option Tmp) (chk : List (COp × Bool)) : Rn P n (.ef ⟨d, .mapUpdate t m x y, none⟩ chk :: l) kk s σ K = BindE P n ((undE (mapUpdateF P t σ (get s m) (get s x) (get s y)))) d chk l kk s K := step_mapUpdate (P := P) (s := s) (k := fun v σ' => chkC P chk (putV s d v) σ' ∧ Rn P n l kk (putV s d v) σ' K) t m x y
theorem R_insert (t : TypeId) (m x y : Operand) (d : Option Tmp) : Rn P n (.st ⟨d, .insert t m x y, none⟩ :: l) kk s σ K = BindE P n ((undE (mapUpdateF P t σ (get s m) (get s x) (get s y)))) d [] l kk s K := (step_insert (P := P) (s := s) (k := fun v σ' => Rn P n l kk (putV s d v) σ' K) t m x y).trans (BindE_nil _ _).symm
theorem F_insert (t : TypeId) (m x y : Operand) (d : Option Tmp) (chk : List (COp × Bool)) : Rn P n (.ef ⟨d, .insert t m x y, none⟩ chk :: l) kk s σ K = BindE P n ((undE (mapUpdateF P t σ (get s m) (get s x) (get s y)))) d chk l kk s K := step_insert (P := P) (s := s) (k := fun v σ' => chkC P chk (putV s d v) σ' ∧ Rn P n l kk (putV s d v) σ' K) t m x y
theorem R_entryStore (t : TypeId) (m x y : Operand) (d : Option Tmp) : Rn P n (.st ⟨d, .entryStore t m x y, none⟩ :: l) kk s σ K = BindE P n ((undE (entryStoreF P σ (get s m) (get s x) (get s y)))) d [] l kk s K := (step_entryStore (P := P) (s := s) (k := fun v σ' => Rn P n l kk (putV s d v) σ' K) t m x y).trans (BindE_nil _ _).symm
theorem F_entryStore (t : TypeId) (m x y : Operand) (d : Option Tmp) (chk : List (COp × Bool)) : Rn P n (.ef ⟨d, .entryStore t m x y, none⟩ chk :: l) kk s σ K = BindE P n ((undE (entryStoreF P σ (get s m) (get s x) (get s y)))) d chk l kk s K := step_entryStore (P := P) (s := s) (k := fun v σ' => chkC P chk (putV s d v) σ' ∧ Rn P n l kk (putV s d v) σ' K) t m x y
theorem R_mapEntry (t : TypeId) (m x : Operand) (d : Option Tmp) : Rn P n (.st ⟨d, .mapEntry t m x, none⟩ :: l) kk s σ K = BindE P n ((mapEntryF P t σ (get s m) (get s x))) d [] l kk s K := (step_mapEntry (P := P) (s := s) (k := fun v σ' => Rn P n l kk (putV s d v) σ' K) t m x).trans (BindE_nil _ _).symm
theorem F_mapEntry (t : TypeId) (m x : Operand) (d : Option Tmp) (chk : List (COp × Bool)) : Rn P n (.ef ⟨d, .mapEntry t m x, none⟩ chk :: l) kk s σ K = BindE P n ((mapEntryF P t σ (get s m) (get s x))) d chk l kk s K := step_mapEntry (P := P) (s := s) (k := fun v σ' => chkC P chk (putV s d v) σ' ∧ Rn P n l kk (putV s d v) σ' K) t m x
theorem R_makeSlice (t : TypeId) (x c : Operand) (d : Option Tmp) : Rn P n (.st ⟨d, .makeSlice t x c, none⟩ :: l) kk s σ K = BindE P n ((makeF P t σ (get s x) (get s c))) d [] l kk s K := (step_makeSlice (P := P) (s := s) (k := fun v σ' => Rn P n l kk (putV s d v) σ' K) t x c).trans (BindE_nil _ _).symm
theorem F_makeSlice (t : TypeId) (x c : Operand) (d : Option Tmp) (chk : List (COp × Bool)) : Rn P n (.ef ⟨d, .makeSlice t x c, none⟩ chk :: l) kk s σ K = BindE P n ((makeF P t σ (get s x) (get s c))) d chk l kk s K := step_makeSlice (P := P) (s := s) (k := fun v σ' => chkC P chk (putV s d v) σ' ∧ Rn P n l kk (putV s d v) σ' K) t x c
theorem R_append (x y : Operand) (t tx : TypeId) (d : Option Tmp) : Rn P n (.st ⟨d, .call ⟨.builtin .append, #[x, y], #[t, tx]⟩, none⟩ :: l) kk s σ K = BindE P n ((appE P t tx σ (get s x) (get s y))) d [] l kk s K := (step_append (P := P) (s := s) (k := fun v σ' => Rn P n l kk (putV s d v) σ' K) x y t tx).trans (BindE_nil _ _).symm
theorem F_append (x y : Operand) (t tx : TypeId) (d : Option Tmp) (chk : List (COp × Bool)) : Rn P n (.ef ⟨d, .call ⟨.builtin .append, #[x, y], #[t, tx]⟩, none⟩ chk :: l) kk s σ K = BindE P n ((appE P t tx σ (get s x) (get s y))) d chk l kk s K := step_append (P := P) (s := s) (k := fun v σ' => chkC P chk (putV s d v) σ' ∧ Rn P n l kk (putV s d v) σ' K) x y t tx
theorem R_delete (m x : Operand) (t t' : TypeId) (d : Option Tmp) : Rn P n (.st ⟨d, .call ⟨.builtin .delete, #[m, x], #[t, t']⟩, none⟩ :: l) kk s σ K = BindE P n ((tupE (deleteF P t σ (get s m) (get s x)))) d [] l kk s K := (step_delete (P := P) (s := s) (k := fun v σ' => Rn P n l kk (putV s d v) σ' K) m x t t').trans (BindE_nil _ _).symm
theorem F_delete (m x : Operand) (t t' : TypeId) (d : Option Tmp) (chk : List (COp × Bool)) : Rn P n (.ef ⟨d, .call ⟨.builtin .delete, #[m, x], #[t, t']⟩, none⟩ chk :: l) kk s σ K = BindE P n ((tupE (deleteF P t σ (get s m) (get s x)))) d chk l kk s K := step_delete (P := P) (s := s) (k := fun v σ' => chkC P chk (putV s d v) σ' ∧ Rn P n l kk (putV s d v) σ' K) m x t t'
theorem R_clear (x : Operand) (t : TypeId) (d : Option Tmp) : Rn P n (.st ⟨d, .call ⟨.builtin .clear, #[x], #[t]⟩, none⟩ :: l) kk s σ K = BindE P n (tupE (clearF P t σ (get s x))) d [] l kk s K := (step_clear (P := P) (s := s) (k := fun v σ' => Rn P n l kk (putV s d v) σ' K) x t).trans (BindE_nil _ _).symm
theorem F_clear (x : Operand) (t : TypeId) (d : Option Tmp) (chk : List (COp × Bool)) : Rn P n (.ef ⟨d, .call ⟨.builtin .clear, #[x], #[t]⟩, none⟩ chk :: l) kk s σ K = BindE P n (tupE (clearF P t σ (get s x))) d chk l kk s K := step_clear (P := P) (s := s) (k := fun v σ' => chkC P chk (putV s d v) σ' ∧ Rn P n l kk (putV s d v) σ' K) x t
theorem R_convert (src dst : TypeId) (x : Operand) (d : Option Tmp) : Rn P n (.st ⟨d, .convert src dst x, none⟩ :: l) kk s σ K = BindE P n ((cvF P src dst σ (get s x))) d [] l kk s K := (step_convert (P := P) (s := s) (k := fun v σ' => Rn P n l kk (putV s d v) σ' K) src dst x).trans (BindE_nil _ _).symm
theorem F_convert (src dst : TypeId) (x : Operand) (d : Option Tmp) (chk : List (COp × Bool)) : Rn P n (.ef ⟨d, .convert src dst x, none⟩ chk :: l) kk s σ K = BindE P n ((cvF P src dst σ (get s x))) d chk l kk s K := step_convert (P := P) (s := s) (k := fun v σ' => chkC P chk (putV s d v) σ' ∧ Rn P n l kk (putV s d v) σ' K) src dst x
theorem F_assign (x : Operand) (d : Option Tmp) : Rn P n (.ef ⟨d, .assign x, none⟩ [] :: l) kk s σ K = Rn P n l kk (putV s d (get s x)) σ K := by
  rw [Rn_ef, step_assign]
  simp [bindO, chkC, chkE, isCall]
theorem F_move (x : Operand) (d : Option Tmp) : Rn P n (.ef ⟨d, .move x, none⟩ [] :: l) kk s σ K = Rn P n l kk (putV s d (get s x)) σ K := by
  rw [Rn_ef, step_move]
  simp [bindO, chkC, chkE, isCall]
theorem R_call (g : Nat) (args : Array Operand) (ts : Array TypeId) (d : Option Tmp) : Rn P n (.st ⟨d, .call ⟨.value (.func g), args, ts⟩, none⟩ :: l) kk s σ K = CallK P n g (argsOf s args) σ d [] l kk s K := by
  rw [Rn_st, stepD_call, step_call]
  simp [CallK, chkC]
theorem F_call (g : Nat) (args : Array Operand) (ts : Array TypeId) (d : Option Tmp) (chk : List (COp × Bool)) : Rn P n (.ef ⟨d, .call ⟨.value (.func g), args, ts⟩, none⟩ chk :: l) kk s σ K = CallK P n g (argsOf s args) σ d chk l kk s K := by
  rw [Rn_ef, step_call]
  rfl
theorem R_callv (t : Tmp) (args : Array Operand) (ts : Array TypeId) (d : Option Tmp) : Rn P n (.st ⟨d, .call ⟨.value (.tmp t), args, ts⟩, none⟩ :: l) kk s σ K = FnK P n (get s (.tmp t)) (argsOf s args) σ d [] l kk s K := by
  rw [Rn_st, stepD_call]
  unfold stepC FnK
  simp only []
  generalize get s (.tmp t) = x
  cases x <;> simp [CallK, chkC]
theorem F_callv (t : Tmp) (args : Array Operand) (ts : Array TypeId) (d : Option Tmp) (chk : List (COp × Bool)) : Rn P n (.ef ⟨d, .call ⟨.value (.tmp t), args, ts⟩, none⟩ chk :: l) kk s σ K = FnK P n (get s (.tmp t)) (argsOf s args) σ d chk l kk s K := (rfl)

/-! quiet operations in a plan -/
theorem doQC_move (x : Operand) : doQC P false (.move x) s σ = some (get s x) := (rfl)
theorem doQC_assign (x : Operand) : doQC P false (.assign x) s σ = some (get s x) := (rfl)
theorem doQC_pick (c a b : Operand) : doQC P false (.pick c a b) s σ = pickF P (get s c) (get s a) (get s b) := (rfl)
theorem doQC_nilCheck (x : Operand) : doQC P false (.nilCheck x) s σ = nilCheckF σ (get s x) := (rfl)
theorem doQC_binOp (op : BinOp) (t : TypeId) (x y : Operand) (yt : TypeId) : doQC P false (.binOp op t x y yt) s σ = binF P op t σ (get s x) (get s y) := (rfl)
theorem doQC_unOp (op : UnOp) (t : TypeId) (x : Operand) : doQC P false (.unOp op t x) s σ = unF op (get s x) := (rfl)
theorem doQC_convert (a b : TypeId) (x : Operand) : doQC P false (.convert a b x) s σ = convF P a b σ (get s x) := (rfl)
theorem doQC_fieldAddr (t : TypeId) (x : Operand) (f : Nat) : doQC P false (.fieldAddr t x f) s σ = fieldAddrF P t f σ (get s x) := (rfl)
theorem doQC_field (t : TypeId) (x : Operand) (f : Nat) : doQC P false (.field t x f) s σ = fieldF P t f (get s x) := (rfl)
theorem doQC_load (t : TypeId) (x : Operand) : doQC P false (.load t x) s σ = loadF P t σ (get s x) := (rfl)
theorem doQC_indexAddr (t : TypeId) (x i : Operand) : doQC P false (.indexAddr t x i) s σ = indexAddrF P t σ (get s x) (get s i) := (rfl)
theorem doQC_index (t : TypeId) (x i : Operand) : doQC P false (.index t x i) s σ = indexF P t (get s x) (get s i) := (rfl)
theorem doQC_slice (t : TypeId) (x : Operand) (lo hi mx : Option Operand) : doQC P false (.slice t x lo hi mx) s σ = sliceF P t σ (get s x) (lo.map (get s)) (hi.map (get s)) (mx.map (get s)) := (rfl)
theorem doQC_extract (x : Operand) (i : Nat) : doQC P false (.extract x i) s σ = extractF i (get s x) := (rfl)
theorem doQC_makeFunc (f : Nat) (caps : Array Operand) : doQC P false (.makeFunc (.func f) #[] caps) s σ = some (.fn f (argsOf s caps)) := (rfl)
theorem doQC_makeBm (f : Nat) (x : Operand) : doQC P false (.makeFunc (.func f) #[x] #[]) s σ = some (.bm f [get s x]) := (rfl)
theorem doQC_lookup (t : TypeId) (x y : Operand) (ok : Bool) : doQC P false (.lookup t x y ok) s σ = lookupF P t σ (get s x) (get s y) ok := (rfl)
theorem doQC_build (t : TypeId) (ps : Array (Nat × Operand)) : doQC P false (.build t ps) s σ = buildF P t σ s ps.toList := (rfl)
theorem doQC_call (b : Builtin) (args : Array Operand) (ts : Array TypeId) : doQC P false (.call ⟨.builtin b, args, ts⟩) s σ = builtinF P b ts.toList σ (argsOf s args) := (rfl)
theorem doQC_al (t : TypeId) (l : Nat) (ps : Array (Nat × Operand)) : doQC P true (.buildSlice t l ps) s σ = buildSliceD P t l σ s ps.toList := (rfl)

/-! slots -/
theorem get_tmp (t : Tmp) : get s (.tmp t) = s.getD t .undef := (rfl)
theorem get_const (v : Value) : get s (.const v) = ofConst v := (rfl)
theorem get_func (f : Nat) : get s (.func f) = .fn f [] := (rfl)
theorem putV_some (d : Tmp) (v : V) : putV s (some d) v = s.set d v := (rfl)
theorem putV_none (v : V) : putV s none v = s := (rfl)
theorem ofConst_bool (b : Bool) : ofConst (.bool b) = .d (.bool b) := (rfl)
theorem ofConst_int (k : IntKind) (i : Int) : ofConst (.int k i) = .d (.int k i) := (rfl)
end

/-- A call, by what is known of the function. -/
theorem CallK_use {P : Program} {n : Nat} {f : FuncId} {args : List V} {σ : List Ob} {d : Option Tmp} {chk : List (COp × Bool)} {l : List CStp} {kk : List Fr} {s : List V} {K : Ex → List V → List Ob → Prop} {Q : V → List Ob → Prop}
    (h : callA P f args σ Q) (hk : ∀ v σ', Q v σ' → chkC P chk (putV s d v) σ' ∧ Rn P n l kk (putV s d v) σ' K) : CallK P n f args σ d chk l kk s K := callA_mono h fun v σ' q => ⟨.inr (hk v σ' q).1, (hk v σ' q).2⟩

/-- A call that leaves the store as it was: nothing is looked at again. -/
theorem CallK_same {P : Program} {n : Nat} {f : FuncId} {args : List V} {σ : List Ob} {d : Option Tmp} {chk : List (COp × Bool)} {l : List CStp} {kk : List Fr} {s : List V} {K : Ex → List V → List Ob → Prop} {Q : V → List Ob → Prop}
    (h : callA P f args σ Q) (hk : ∀ v σ', Q v σ' → σ' = σ ∧ Rn P n l kk (putV s d v) σ K) : CallK P n f args σ d chk l kk s K := callA_mono h fun v σ' q => by
  obtain ⟨e, h⟩ := hk v σ' q
  subst e
  exact ⟨.inl rfl, h⟩

theorem CallK_use' {P : Program} {n : Nat} {f : FuncId} {args : List V} {σ : List Ob} {d : Option Tmp} {l : List CStp} {kk : List Fr} {s : List V} {K : Ex → List V → List Ob → Prop} {Q : V → List Ob → Prop}
    (h : callA P f args σ Q) (hk : ∀ v σ', Q v σ' → Rn P n l kk (putV s d v) σ' K) : CallK P n f args σ d [] l kk s K := callA_mono h fun v σ' q => ⟨.inr trivial, hk v σ' q⟩

theorem Loop_use {P : Program} {n : Nat} {body : CCode} {kk : List Fr} {s : List V} {σ : List Ob} {K : Ex → List V → List Ob → Prop} {α : Type} (S : α → List V) (T : α → List Ob) (I : α → Prop) (μ : α → Nat) (x : α) (hs : s = S x) (hσ : σ = T x) (hx : I x)
    (round : ∀ x, I x → Go P n body [] (S x) (T x) (seqK (fun s' σ' => ∃ y, I y ∧ μ y < μ x ∧ Weak n s' σ' (S y) (T y)) (fun e s σ => Pop P n kk e s σ K))) : LoopG P n body kk s σ K := by
  subst hs; subst hσ
  exact WPC_loop S T I μ round x hx

theorem callG {P : Program} {f : FuncId} {fn : Func} {code : Code} {cc : CCode} (plans : List (Nat × List Stp)) (m : Nat) (rs : List ResultVar) (hf : P.funcs[f]? = some fn) (hname : (fn.name == "runtime.NumGoroutine") = false) (hb : fn.body = some code) (hc : comp plans code = cc) (ho : okAll P plans code = true) (hm : P.follows .mixedOrders = true) (ht : fn.ntmps = m) (hr : fn.results.toList = rs)
    {args : List V} {σ : List Ob} {Q : V → List Ob → Prop} (h : ∀ K, (∀ e s σ r, e = .normal ∨ e = .ret → resF P s σ rs = some r → Q r σ → K e s σ) → Go P σ.length cc [] (args ++ List.replicate (m - args.length) .undef) σ K) : callA P f args σ Q :=
  callC plans hf hname hb hc ho hm ht hr (h _ fun e s σ r he h1 h2 => by
    rcases he with rfl | rfl
    · exact ⟨r, h1, r, σ, Fin.refl _ r σ, h2⟩
    · exact ⟨r, h1, r, σ, Fin.refl _ r σ, h2⟩)

theorem EndK_ret {P : Program} {n : Nat} {rs : List ResultVar} {K : V → List Ob → Prop} {s : List V} {σ : List Ob} {r : V} (h : resF P s σ rs = some r) (hk : K r σ) : EndK P n rs K .ret s σ := ⟨r, h, r, σ, Fin.refl n r σ, hk⟩
theorem EndK_normal {P : Program} {n : Nat} {rs : List ResultVar} {K : V → List Ob → Prop} {s : List V} {σ : List Ob} {r : V} (h : resF P s σ rs = some r) (hk : K r σ) : EndK P n rs K .normal s σ := ⟨r, h, r, σ, Fin.refl n r σ, hk⟩
end Go.Proofs.YtchgfpehcjomeaaGreatDoor.Am
