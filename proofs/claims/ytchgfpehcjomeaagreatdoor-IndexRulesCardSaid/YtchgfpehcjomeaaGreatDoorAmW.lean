/- The engine's compact code: what a walk evaluates. -/
import Derived.Test.YtchgfpehcjomeaaGreatDoorAmO
set_option linter.unusedSimpArgs false
set_option linter.unusedVariables false
namespace Go.Proofs.YtchgfpehcjomeaaGreatDoor.Am
open Go

/-- One operation: target, operation, the slot that guards it. -/
structure COp where
  dst : Option Tmp
  op : Op
  g : Option (Tmp × Bool)

inductive CStp where
  | st (o : COp)
  | q (al : Bool) (o : COp)
  | ef (o : COp) (chk : List (COp × Bool))

inductive CCode where
  | skip
  | ops (l : List CStp)
  | seq (a b : CCode)
  | cond (c : Operand) (a b : CCode)
  | block (id : Nat) (a : CCode)
  | loop (a : CCode)
  | exit (id : Nat)
  | ret
  | bad

/-- Of an operation and the region that it is of. -/
def cop (ops : List Oper) (o : Oper) : COp := ⟨o.dst, o.op, match o.guard with | none => none | some (j, w) => match (ops[j]?).bind (·.dst) with | some d => some (d, w) | none => some (4294967295, w)⟩

def copAt (ops : List Oper) (i : Nat) : COp := match ops[i]? with | some o => cop ops o | none => ⟨none, .alloc 4294967295, none⟩

def cstp (ops : List Oper) : Stp → CStp
  | .q al i => .q al (copAt ops i)
  | .ef i chk => .ef (copAt ops i) (chk.map fun p => (copAt ops p.1, p.2))

def planFor (plans : List (Nat × List Stp)) (id : Nat) : List Stp := ((plans.find? (·.1 == id)).map (·.2)).getD []

/-- In the order of the text; the marked ones are literal slices as data. -/
def stOf (pl : List Stp) (all : List Oper) : Nat → List Oper → List CStp
  | _, [] => []
  | i, o :: r => (match pl.any (fun x => x.idx == i) with | true => .q true (cop all o) | false => .st (cop all o)) :: stOf pl all (i + 1) r

def opsOf : List Stp → List Oper → List CStp
  | [], all => all.map fun o => .st (cop all o)
  | x :: pl, all => stOf (x :: pl) all 0 all

def comp (plans : List (Nat × List Stp)) : Code → CCode
  | .skip => .skip
  | .label _ => .skip
  | .region id ops draw => if draw then .ops ((planFor plans id).map (cstp ops.toList)) else .ops (opsOf (planFor plans id) ops.toList)
  | .seq a b => .seq (comp plans a) (comp plans b)
  | .cond c a b => .cond c (comp plans a) (comp plans b)
  | .block id a => .block id (comp plans a)
  | .loop a => .loop (comp plans a)
  | .exit id => .exit id
  | .ret => .ret
  | _ => .bad

def guardsOk (ops : List Oper) : Bool := ops.all fun o => match o.guard with | none => true | some (j, _) => ((ops[j]?).bind (·.dst)).isSome

/-- The plans fit. -/
def okAll (P : Program) (plans : List (Nat × List Stp)) : Code → Bool
  | .region id ops draw => guardsOk ops.toList && (!draw || regOk P ops (planFor plans id))
  | .seq a b => okAll P plans a && okAll P plans b
  | .cond _ a b => okAll P plans a && okAll P plans b
  | .block _ a => okAll P plans a
  | .loop a => okAll P plans a
  | _ => true

/-! ### what it comes to; written so that a rewriter goes nowhere ahead of time -/
def Br (b : Prop) (X : Prop) : Prop := b → X
theorem Br.congr {b b' X : Prop} (h : b = b') : Br b X = Br b' X := by rw [h]

def bindO {α : Type} (x : Option α) (k : α → Prop) : Prop := match x with | some a => k a | none => False
theorem bindO.congr {α : Type} {x x' : Option α} {k : α → Prop} (h : x = x') : bindO x k = bindO x' k := by rw [h]
theorem bindO_some {α : Type} (a : α) (k : α → Prop) : bindO (some a) k = k a := rfl
theorem bindO_none {α : Type} (k : α → Prop) : bindO none k = False := rfl

def CondC (x : V) (X Y : Prop) : Prop := match x with
  | .d (.bool b) => (b = true → X) ∧ (b = false → Y)
  | _ => False
theorem CondC.congr {x x' : V} {X Y : Prop} (h : x = x') : CondC x X Y = CondC x' X Y := by rw [h]
theorem CondC_true (X Y : Prop) : CondC (.d (.bool true)) X Y = X := by simp [CondC]
theorem CondC_false (X Y : Prop) : CondC (.d (.bool false)) X Y = Y := by simp [CondC]
theorem CondC_intro {b : Bool} {X Y : Prop} (h1 : b = true → X) (h2 : b = false → Y) : CondC (.d (.bool b)) X Y := ⟨h1, h2⟩

/-- A guard: the slot d holds whether. -/
def GrdC (d : Nat) (w : Bool) (x : V) (s : List V) (yes no : List V → Prop) : Prop :=
  match x with
  | .d (.bool b) => (b = w → yes (s.set d (.d (.bool w)))) ∧ (b = (!w) → no (s.set d (.d (.bool (!w)))))
  | .tup [] => no s
  | _ => False
theorem GrdC.congr {d : Nat} {w : Bool} {x x' : V} {s : List V} {yes no : List V → Prop} (h : x = x') : GrdC d w x s yes no = GrdC d w x' s yes no := by rw [h]

def stepC (P : Program) (op : Op) (s : List V) (σ : List Ob) (K : V → List Ob → Prop) : Prop :=
  match op with
  | .call { callee := .value f, args, argTypes := _ } => match get s f with
    | .fn g caps => callA P g (argsOf s args ++ caps) σ K
    | .bm g first => callA P g (first ++ argsOf s args) σ K
    | _ => False
  | op => match quietG P s σ op with
    | some r => K r σ
    | none => match effF P s σ op with
      | some (r, σ') => K r σ'
      | none => nilA P s σ op K

/-- An operation in the order of the text: it may also put a call off. -/
def stepD (P : Program) (op : Op) (s : List V) (σ : List Ob) (K : V → List Ob → Prop) : Prop :=
  match op with
  | .defer cl => dferC P cl s ∧ K .undef σ
  | op => stepC P op s σ K

theorem stepA_C {P : Program} {o : Oper} {s : List V} {σ : List Ob} {K : V → List Ob → Prop} : stepA P o s σ K = stepC P o.op s σ K := rfl

def guardC (o : COp) (s : List V) (yes no : List V → Prop) : Prop :=
  match o.g with
  | none => yes s
  | some (d, w) => GrdC d w (s.getD d .undef) s yes no

def doQC (P : Program) (al : Bool) (op : Op) (s : List V) (σ : List Ob) : Option V :=
  match al with
  | false => quietG P s σ op
  | true => match op with
    | .buildSlice t len parts => buildSliceD P t len σ s parts.toList
    | _ => none

def wantC (o : COp) (s : List V) : Option Bool :=
  match o.g with
  | none => some true
  | some (d, w) => match s.getD d .undef with
    | .d (.bool b) => some (b == w)
    | .tup [] => some false
    | _ => none

def chkC (P : Program) : List (COp × Bool) → List V → List Ob → Prop
  | [], _, _ => True
  | q :: r, s, σ => (match wantC q.1 s with
      | some true => match q.1.dst with
        | some d => doQC P q.2 q.1.op s σ = some (s.getD d .undef)
        | none => (doQC P q.2 q.1.op s σ).isSome = true
      | some false => match q.1.dst with
        | some d => s.getD d .undef = .tup []
        | none => True
      | none => False) ∧ chkC P r s σ

def stC (P : Program) : List CStp → List V → List Ob → (List V → List Ob → Prop) → Prop
  | [], s, σ, K => K s σ
  | .st o :: r, s, σ, K => guardC o s (fun s => stepD P o.op s σ fun v σ' => stC P r (putV s o.dst v) σ' K) (fun s => stC P r (putV s o.dst (.tup [])) σ K)
  | .q al o :: r, s, σ, K => guardC o s (fun s => bindO (doQC P al o.op s σ) fun v => stC P r (putV s o.dst v) σ K) (fun s => stC P r (putV s o.dst (.tup [])) σ K)
  | .ef o chk :: r, s, σ, K => guardC o s (fun s => stepC P o.op s σ fun v σ' => chkE o.op σ σ' (chkC P chk (putV s o.dst v) σ') ∧ stC P r (putV s o.dst v) σ' K) (fun s => stC P r (putV s o.dst (.tup [])) σ K)

def WPC (P : Program) (n : Nat) (cc : CCode) (s : List V) (σ : List Ob) (K : Ex → List V → List Ob → Prop) : Prop :=
  ∀ plans code, comp plans code = cc → okAll P plans code = true → P.follows .mixedOrders = true → WP P n code s σ K
theorem WPC.congr {P : Program} {n : Nat} {cc : CCode} {s s' : List V} {σ σ' : List Ob} {K : Ex → List V → List Ob → Prop} (h : s = s') (h' : σ = σ') : WPC P n cc s σ K = WPC P n cc s' σ' K := by rw [h, h']
theorem callA.congr {P : Program} {f : FuncId} {s s' : List V} {σ σ' : List Ob} {K : V → List Ob → Prop} (h : s = s') (h' : σ = σ') : callA P f s σ K = callA P f s' σ' K := by rw [h, h']

def wpC (P : Program) (n : Nat) : CCode → List V → List Ob → (Ex → List V → List Ob → Prop) → Prop
  | .skip, s, σ, K => K .normal s σ
  | .ops l, s, σ, K => stC P l s σ (K .normal)
  | .seq a b, s, σ, K => wpC P n a s σ (seqK (fun s σ => wpC P n b s σ K) K)
  | .cond c a b, s, σ, K => CondC (get s c) (wpC P n a s σ K) (wpC P n b s σ K)
  | .block id a, s, σ, K => wpC P n a s σ (blockK id K)
  | .loop a, s, σ, K => WPC P n (.loop a) s σ K
  | .exit id, s, σ, K => K (.exit id) s σ
  | .ret, s, σ, K => K .ret s σ
  | .bad, _, _, _ => False

/-! ### soundness -/
section
variable {P : Program}

theorem guardC_A {ops : List Oper} {o : Oper} (hk : ∀ j w, o.guard = some (j, w) → ((ops[j]?).bind (·.dst)).isSome) {s : List V} {yes no yes' no' : List V → Prop} (h : guardC (cop ops o) s yes no) (hy : ∀ s, yes s → yes' s) (hn : ∀ s, no s → no' s) :
    match o.guard with
    | none => yes' s
    | some (j, want) => match (ops[j]?).bind (·.dst) with
      | some d => match s.getD d .undef with
        | .d (.bool b) => (b = want → yes' (s.set d (.d (.bool want)))) ∧ (b = (!want) → no' (s.set d (.d (.bool (!want)))))
        | .tup [] => no' s
        | _ => False
      | none => False := by
  unfold guardC cop at h
  cases hg : o.guard with
  | none => rw [hg] at h; exact hy _ h
  | some p =>
    obtain ⟨j, w⟩ := p
    rw [hg] at h
    simp only at h ⊢
    cases hd : (ops[j]?).bind (·.dst) with
    | none => have := hk j w hg; rw [hd] at this; cases this
    | some d =>
      rw [hd] at h
      simp only [GrdC] at h ⊢
      split at h
      · exact ⟨fun e => hy _ (h.1 e), fun e => hn _ (h.2 e)⟩
      · exact hn _ h
      · exact h.elim

theorem stepL_in {o : Oper} {s : List V} {σ : List Ob} {K : V → List Ob → Prop} (h : stepA P o s σ K) : stepL P o s σ K := .inl h
theorem stepL_lit {o : Oper} {s : List V} {σ : List Ob} {K : V → List Ob → Prop} (h : ∃ r, litA P o s σ = some r ∧ K r σ) : stepL P o s σ K := .inr (.inl h)
theorem stepL_D {o : Oper} {s : List V} {σ : List Ob} {K K' : V → List Ob → Prop} (h : stepD P o.op s σ K) (hk : ∀ v σ', K v σ' → K' v σ') : stepL P o s σ K' := by
  unfold stepD at h
  split at h
  · rename_i cl ho
    exact .inr (.inr ⟨cl, ho, h.1, hk _ _ h.2⟩)
  · exact .inl (stepA_mono (stepA_C ▸ h) hk)
theorem opsA_of_st {all : List Oper} (hk : guardsOk all = true) : ∀ (l : List Oper) (s : List V) (σ : List Ob) (K : List V → List Ob → Prop), (∀ o ∈ l, o ∈ all) → stC P (l.map fun o => .st (cop all o)) s σ K → opsA P all l s σ K
  | [], s, σ, K, _, h => h
  | o :: r, s, σ, K, hl, h => by
    simp only [List.map_cons, stC] at h
    unfold opsA
    have hl' : ∀ o ∈ r, o ∈ all := fun x hx => hl x (by simp [hx])
    refine guardC_A (fun j w e => ?_) h (fun s hs => stepL_D hs fun v σ' hh => opsA_of_st hk r _ _ K hl' hh) (fun s hs => opsA_of_st hk r _ _ K hl' hs)
    have := List.all_eq_true.1 hk o (hl o (by simp))
    rw [e] at this
    exact this

theorem opsA_of_stO {all : List Oper} (hk : guardsOk all = true) (pl : List Stp) : ∀ (l : List Oper) (i : Nat) (s : List V) (σ : List Ob) (K : List V → List Ob → Prop), (∀ o ∈ l, o ∈ all) → stC P (stOf pl all i l) s σ K → opsA P all l s σ K
  | [], i, s, σ, K, _, h => h
  | o :: r, i, s, σ, K, hl, h => by
    have hl' : ∀ o ∈ r, o ∈ all := fun x hx => hl x (by simp [hx])
    have hg : ∀ j w, o.guard = some (j, w) → ((all[j]?).bind (·.dst)).isSome := fun j w e => by
      have := List.all_eq_true.1 hk o (hl o (by simp))
      rw [e] at this
      exact this
    simp only [stOf] at h
    split at h
    · simp only [stC] at h
      unfold opsA
      refine guardC_A hg h (fun s hs => stepL_lit (P := P) (o := o) (s := s) (σ := σ) (K := fun v σ' => opsA P all r (putV s o.dst v) σ' K) ?_) (fun s hs => (opsA_of_stO hk pl r _ (putV s o.dst (.tup [])) _ K hl' hs))
      unfold bindO at hs
      split at hs
      · rename_i v hv
        refine ⟨v, ?_, opsA_of_stO hk pl r _ _ _ K hl' hs⟩
        rw [← hv]
        rfl
      · exact hs.elim
    · simp only [stC] at h
      unfold opsA
      exact guardC_A hg h (fun s hs => stepL_D hs fun v σ' hh => opsA_of_stO hk pl r _ _ _ K hl' hh) (fun s hs => (opsA_of_stO hk pl r _ (putV s o.dst (.tup [])) _ K hl' hs))

theorem guardC_G {ops : Array Oper} {o : Oper} (hk : ∀ j w, o.guard = some (j, w) → ((ops.toList[j]?).bind (·.dst)).isSome) {s : List V} {yes no yes' no' : List V → Prop} (h : guardC (cop ops.toList o) s yes no) (hy : ∀ s, yes s → yes' s) (hn : ∀ s, no s → no' s) : guardA ops o s yes' no' := by
  have := guardC_A hk h hy hn
  unfold guardA
  cases hg : o.guard with
  | none => rw [hg] at this; exact this
  | some p =>
    obtain ⟨j, w⟩ := p
    rw [hg] at this
    simp only [Array.getElem?_toList] at this
    exact this

theorem chk1_of {ops : Array Oper} (hk : guardsOk ops.toList = true) {i : Nat} {al : Bool} (hi : i < ops.size) {s : List V} {σ : List Ob} (h : chkC P [(copAt ops.toList i, al)] s σ) : chk1 P ops (i, al) s σ := by
  have ho : ops[i]? = some ops[i] := Array.getElem?_eq_getElem hi
  have ho' : ops.toList[i]? = some ops[i] := by simp [ho]
  have hmem : ops[i] ∈ ops.toList := by simp
  generalize ops[i] = o at ho ho' hmem
  unfold chk1
  simp only [ho]
  simp only [chkC, copAt, ho'] at h
  have hw : guardOf ops o s = wantC (cop ops.toList o) s := by
    unfold guardOf wantC cop
    cases hg : o.guard with
    | none => rfl
    | some p =>
      obtain ⟨j, w⟩ := p
      have := List.all_eq_true.1 hk o hmem
      rw [hg] at this
      simp only at this ⊢
      have e : (ops[j]?).bind (·.dst) = (ops.toList[j]?).bind (·.dst) := by simp
      rw [e]
      cases hd : (ops.toList[j]?).bind (·.dst) with
      | none => rw [hd] at this; cases this
      | some d => rfl
  rw [hw]
  exact h.1

theorem chkA_of {ops : Array Oper} (hk : guardsOk ops.toList = true) : ∀ (l : List (Nat × Bool)) {s : List V} {σ : List Ob}, (∀ p ∈ l, p.1 < ops.size) → chkC P (l.map fun p => (copAt ops.toList p.1, p.2)) s σ → chkA P ops l s σ
  | [], _, _, _, _ => trivial
  | (i, al) :: r, s, σ, hl, h => by
    simp only [List.map_cons] at h
    exact ⟨chk1_of hk (hl (i, al) (by simp)) ⟨h.1, trivial⟩, chkA_of hk r (fun p hp => hl p (by simp [hp])) h.2⟩

theorem anyA_of {ops : Array Oper} (hk : guardsOk ops.toList = true) : ∀ (plan : List Stp) (s : List V) (σ : List Ob) (K : List V → List Ob → Prop), (∀ x ∈ plan, x.idx < ops.size) → chkIn ops.size plan = true → stC P (plan.map (cstp ops.toList)) s σ K → anyA P ops plan s σ K
  | [], s, σ, K, _, _, h => h
  | .q al i :: r, s, σ, K, hl, hc, h => by
    have hi : i < ops.size := hl (.q al i) (by simp)
    have ho : ops[i]? = some ops[i] := Array.getElem?_eq_getElem hi
    have ho' : ops.toList[i]? = some ops[i] := by simp [ho]
    have hmem : ops[i] ∈ ops.toList := by simp
    generalize ops[i] = o at ho ho' hmem
    simp only [List.map_cons, cstp, copAt, ho', stC] at h
    simp only [anyA, ho]
    have hl' : ∀ x ∈ r, x.idx < ops.size := fun x hx => hl x (by simp [hx])
    refine guardC_G (fun j w e => ?_) h (fun s hs => ?_) (fun s hs => anyA_of hk r _ _ K hl' hc hs)
    · have := List.all_eq_true.1 hk o hmem
      rw [e] at this
      exact this
    · have e : doQC P al (cop ops.toList o).op s σ = doQ P al o s σ := rfl
      rw [e] at hs
      unfold bindO at hs
      split at hs
      · rename_i v hv
        simp only [hv]
        exact anyA_of hk r _ _ K hl' hc hs
      · exact hs.elim
  | .ef i chk :: r, s, σ, K, hl, hc, h => by
    have hi : i < ops.size := hl (.ef i chk) (by simp [Stp.idx])
    have ho : ops[i]? = some ops[i] := Array.getElem?_eq_getElem hi
    have ho' : ops.toList[i]? = some ops[i] := by simp [ho]
    have hmem : ops[i] ∈ ops.toList := by simp
    generalize ops[i] = o at ho ho' hmem
    simp only [List.map_cons, cstp, copAt, ho', stC] at h
    simp only [anyA, ho]
    simp only [chkIn, Bool.and_eq_true] at hc
    have hl' : ∀ x ∈ r, x.idx < ops.size := fun x hx => hl x (by simp [hx])
    refine guardC_G (fun j w e => ?_) h (fun s hs => ?_) (fun s hs => anyA_of hk r _ _ K hl' hc.2 hs)
    · have := List.all_eq_true.1 hk o hmem
      rw [e] at this
      exact this
    · refine stepA_mono (stepA_C ▸ hs) fun v σ' hh => ⟨chkE_mono hh.1 (chkA_of hk chk (fun p hp => by simpa using List.all_eq_true.1 hc.1 p hp)), anyA_of hk r _ _ K hl' hc.2 hh.2⟩

theorem wpC_mono {n : Nat} : ∀ (cc : CCode) (s : List V) (σ : List Ob) (K K' : Ex → List V → List Ob → Prop), (∀ e s σ, K e s σ → K' e s σ) → WPC P n cc s σ K → WPC P n cc s σ K' :=
  fun cc s σ K K' hk h plans code h1 h2 h3 => WP_mono (h plans code h1 h2 h3) hk

theorem regOk_lt {P : Program} {ops : Array Oper} {plan : List Stp} (h : regOk P ops plan = true) : ∀ x ∈ plan, x.idx < ops.size := by
  simp only [regOk, Bool.and_eq_true] at h
  intro x hx
  have := List.all_eq_true.1 h.1.1.1.1.2 x.idx (List.mem_map.2 ⟨x, hx, rfl⟩)
  simpa using this

theorem wpC_sound {n : Nat} : ∀ (cc : CCode) (s : List V) (σ : List Ob) (K : Ex → List V → List Ob → Prop), wpC P n cc s σ K → WPC P n cc s σ K := by
  intro cc
  induction cc with
  | skip =>
    intro s σ K h plans code h1 h2 h3
    cases code <;> simp only [comp] at h1 <;> (try (cases h1; done))
    · exact wpA_sound _ _ _ _ h
    · split at h1 <;> cases h1
    · exact wpA_sound _ _ _ _ h
  | ops l =>
    intro s σ K h plans code h1 h2 h3
    cases code <;> simp only [comp] at h1 <;> (try (cases h1; done))
    rename_i id ops draw
    simp only [okAll, Bool.and_eq_true] at h2
    cases draw with
    | false =>
      simp only [Bool.false_eq_true, if_false, CCode.ops.injEq] at h1
      subst h1
      generalize planFor plans id = pl at h
      cases pl with
      | nil => exact WP_region (opsA_of_st h2.1 _ _ _ _ (fun _ h => h) h)
      | cons x pl => exact WP_region (opsA_of_stO h2.1 _ _ _ _ _ _ (fun _ h => h) h)
    | true =>
      simp only [if_true, CCode.ops.injEq] at h1
      subst h1
      have hr : regOk P ops (planFor plans id) = true := by simpa using h2.2
      have hc : chkIn ops.size (planFor plans id) = true := by
        simp only [regOk, Bool.and_eq_true] at hr
        exact hr.1.1.1.1.1.1.1.2
      exact WP_any _ h3 hr (anyA_of h2.1 _ _ _ _ (regOk_lt hr) hc h)
  | seq a b iha ihb =>
    intro s σ K h plans code h1 h2 h3
    cases code <;> simp only [comp] at h1 <;> (try (cases h1; done))
    · split at h1 <;> cases h1
    · rename_i x y
      simp only [CCode.seq.injEq] at h1
      simp only [okAll, Bool.and_eq_true] at h2
      refine WP_seq (WP_mono (iha s σ _ h plans x h1.1 h2.1 h3) fun e s σ hh => ?_)
      cases e <;> simp only [seqK] at * <;> first | exact ihb _ _ _ hh plans y h1.2 h2.2 h3 | exact hh
  | cond c a b iha ihb =>
    intro s σ K h plans code h1 h2 h3
    cases code <;> simp only [comp] at h1 <;> (try (cases h1; done))
    · split at h1 <;> cases h1
    · rename_i z x y
      simp only [CCode.cond.injEq] at h1
      obtain ⟨rfl, h1, h1'⟩ := h1
      simp only [okAll, Bool.and_eq_true] at h2
      simp only [wpC, CondC] at h
      split at h
      · rename_i t ht
        exact WP_cond ht (fun e => iha s σ K (h.1 e) plans x h1 h2.1 h3) (fun e => ihb s σ K (h.2 e) plans y h1' h2.2 h3)
      · exact h.elim
  | block id a iha =>
    intro s σ K h plans code h1 h2 h3
    cases code <;> simp only [comp] at h1 <;> (try (cases h1; done))
    · split at h1 <;> cases h1
    · simp only [CCode.block.injEq] at h1
      obtain ⟨rfl, h1⟩ := h1
      exact WP_block (iha s σ _ h plans _ h1 h2 h3)
  | loop a iha => intro s σ K h; exact h
  | exit id =>
    intro s σ K h plans code h1 h2 h3
    cases code <;> simp only [comp] at h1 <;> (try (cases h1; done))
    · split at h1 <;> cases h1
    · simp only [CCode.exit.injEq] at h1; subst h1
      exact wpA_sound (.exit _) _ _ _ h
  | ret =>
    intro s σ K h plans code h1 h2 h3
    cases code <;> simp only [comp] at h1 <;> (try (cases h1; done))
    · split at h1 <;> cases h1
    · exact wpA_sound .ret _ _ _ h
  | bad => intro s σ K h; exact h.elim

theorem WPC_loop {n : Nat} {body : CCode} {α : Type} (S : α → List V) (T : α → List Ob) (I : α → Prop) (μ : α → Nat) {K : Ex → List V → List Ob → Prop}
    (round : ∀ x, I x → wpC P n body (S x) (T x) (seqK (fun s' σ' => ∃ y, I y ∧ μ y < μ x ∧ Weak n s' σ' (S y) (T y)) K)) (x : α) (hx : I x) : WPC P n (.loop body) (S x) (T x) K := by
  intro plans code h1 h2 h3
  cases code <;> simp only [comp] at h1 <;> (try (cases h1; done))
  · split at h1 <;> cases h1
  · rename_i c
    simp only [CCode.loop.injEq] at h1
    exact WP_loop S T I μ (fun x hx => wpC_sound body _ _ _ (round x hx) plans c h1 h2 h3) x hx

/-- A function by its compact code. -/
theorem callC {f : FuncId} {fn : Func} {code : Code} {cc : CCode} (plans : List (Nat × List Stp)) (hf : P.funcs[f]? = some fn) (hname : (fn.name == "runtime.NumGoroutine") = false) (hb : fn.body = some code) (hc : comp plans code = cc) (ho : okAll P plans code = true) (hm : P.follows .mixedOrders = true) {m : Nat} (ht : fn.ntmps = m) {rs : List ResultVar} (hr : fn.results.toList = rs)
    {args : List V} {σ : List Ob} {K : V → List Ob → Prop} (h : wpC P σ.length cc (args ++ List.replicate (m - args.length) .undef) σ (EndK P σ.length rs K)) : callA P f args σ K := by
  subst ht; subst hr
  exact callA_intro hf hname hb (wpC_sound cc _ _ _ h plans code hc ho hm)
end
end Go.Proofs.YtchgfpehcjomeaaGreatDoor.Am
