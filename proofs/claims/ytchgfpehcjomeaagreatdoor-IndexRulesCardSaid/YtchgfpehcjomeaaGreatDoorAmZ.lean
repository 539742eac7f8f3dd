/- The engine's evaluator: a run in which nothing is open, carried out in one go. -/
import Derived.Test.YtchgfpehcjomeaaGreatDoorAmY
set_option linter.unusedSimpArgs false
set_option linter.unusedVariables false
namespace Go.Proofs.YtchgfpehcjomeaaGreatDoor.Am
open Go

/-! ### are two values the same -/
mutual
def dEq : D → D → Bool
  | .int k a, .int k' b => decide (k = k') && decide (a = b)
  | .bool a, .bool b => decide (a = b)
  | .str a, .str b => decide (a = b)
  | .lst s a, .lst s' b => decide (s = s') && dEqs a b
  | .nils, .nils => true
  | .nilp, .nilp => true
  | .nilm, .nilm => true
  | .nilf, .nilf => true
  | .nili, .nili => true
  | .agg a, .agg b => dEqs a b
  | .ifc t a, .ifc t' b => decide (t = t') && dEq a b
  | .any, .any => true
  | _, _ => false
def dEqs : List D → List D → Bool
  | [], [] => true
  | a :: r, b :: r' => dEq a b && dEqs r r'
  | _, _ => false
end

mutual
theorem dEq_eq : ∀ (a b : D), dEq a b = true → a = b
  | .int k a, b, h => by cases b <;> simp_all [dEq]
  | .bool a, b, h => by cases b <;> simp_all [dEq]
  | .str a, b, h => by cases b <;> simp_all [dEq]
  | .lst s a, b, h => by
    cases b <;> simp only [dEq, Bool.and_eq_true, decide_eq_true_eq] at h <;> (try (cases h; done))
    obtain ⟨rfl, h⟩ := h
    rw [dEqs_eq a _ h]
  | .nils, b, h => by cases b <;> simp_all [dEq]
  | .nilp, b, h => by cases b <;> simp_all [dEq]
  | .nilm, b, h => by cases b <;> simp_all [dEq]
  | .nilf, b, h => by cases b <;> simp_all [dEq]
  | .nili, b, h => by cases b <;> simp_all [dEq]
  | .agg a, b, h => by
    cases b <;> simp only [dEq] at h <;> (try (cases h; done))
    rw [dEqs_eq a _ h]
  | .ifc t a, b, h => by
    cases b <;> simp only [dEq, Bool.and_eq_true, decide_eq_true_eq] at h <;> (try (cases h; done))
    obtain ⟨rfl, h⟩ := h
    rw [dEq_eq a _ h]
  | .any, b, h => by cases b <;> simp_all [dEq]
theorem dEqs_eq : ∀ (a b : List D), dEqs a b = true → a = b
  | [], b, h => by cases b <;> simp_all [dEqs]
  | a :: r, b, h => by
    cases b <;> simp only [dEqs, Bool.and_eq_true] at h <;> (try (cases h; done))
    rw [dEq_eq a _ h.1, dEqs_eq r _ h.2]
end

mutual
def vEq : V → V → Bool
  | .d a, .d b => dEq a b
  | .ptr o i k, .ptr o' i' k' => decide (o = o') && (decide (i = i') && decide (k = k'))
  | .ipt a, .ipt b => dEqs a b
  | .sl o i k, .sl o' i' k' => decide (o = o') && (decide (i = i') && decide (k = k'))
  | .mp o, .mp o' => decide (o = o')
  | .fn f a, .fn f' b => decide (f = f') && vEqs a b
  | .bm f a, .bm f' b => decide (f = f') && vEqs a b
  | .agg a, .agg b => vEqs a b
  | .tup a, .tup b => vEqs a b
  | .undef, .undef => true
  | _, _ => false
def vEqs : List V → List V → Bool
  | [], [] => true
  | a :: r, b :: r' => vEq a b && vEqs r r'
  | _, _ => false
end

mutual
theorem vEq_eq : ∀ (a b : V), vEq a b = true → a = b
  | .d a, b, h => by
    cases b <;> simp only [vEq] at h <;> (try (cases h; done))
    rw [dEq_eq a _ h]
  | .ptr o i k, b, h => by cases b <;> simp_all [vEq]
  | .ipt a, b, h => by
    cases b <;> simp only [vEq] at h <;> (try (cases h; done))
    rw [dEqs_eq a _ h]
  | .sl o i k, b, h => by cases b <;> simp_all [vEq]
  | .mp o, b, h => by cases b <;> simp_all [vEq]
  | .fn f a, b, h => by
    cases b <;> simp only [vEq, Bool.and_eq_true, decide_eq_true_eq] at h <;> (try (cases h; done))
    obtain ⟨rfl, h⟩ := h
    rw [vEqs_eq a _ h]
  | .bm f a, b, h => by
    cases b <;> simp only [vEq, Bool.and_eq_true, decide_eq_true_eq] at h <;> (try (cases h; done))
    obtain ⟨rfl, h⟩ := h
    rw [vEqs_eq a _ h]
  | .agg a, b, h => by
    cases b <;> simp only [vEq] at h <;> (try (cases h; done))
    rw [vEqs_eq a _ h]
  | .tup a, b, h => by
    cases b <;> simp only [vEq] at h <;> (try (cases h; done))
    rw [vEqs_eq a _ h]
  | .undef, b, h => by cases b <;> simp_all [vEq]
theorem vEqs_eq : ∀ (a b : List V), vEqs a b = true → a = b
  | [], b, h => by cases b <;> simp_all [vEqs]
  | a :: r, b, h => by
    cases b <;> simp only [vEqs, Bool.and_eq_true] at h <;> (try (cases h; done))
    rw [vEq_eq a _ h.1, vEqs_eq r _ h.2]
end

/-! ### what a function leaves behind, tidied -/
mutual
def refsV : V → List Nat
  | .ptr o _ _ => [o]
  | .sl o _ _ => [o]
  | .mp o => [o]
  | .fn _ caps => refsVs caps
  | .bm _ caps => refsVs caps
  | .agg cs => refsVs cs
  | .tup cs => refsVs cs
  | _ => []
def refsVs : List V → List Nat
  | [] => []
  | x :: r => refsV x ++ refsVs r
end

def refsO : Ob → List Nat
  | .box cs => refsVs cs
  | .vec _ cs => refsVs cs
  | .map es _ => refsVs (es.map (·.2.1))
  | .mit m _ _ _ => refsV m
  | _ => []

def bad (n : Nat) (l : List Nat) : List Nat := l.filter fun o => Nat.ble n o

/-- The objects from n on that can be reached. -/
def mark (n : Nat) (σ : List Ob) : Nat → List Nat → List Nat → List Nat
  | 0, _, acc => acc
  | _, [], acc => acc
  | k + 1, o :: r, acc => if acc.contains o then mark n σ k r acc else mark n σ k (bad n (refsO (σ.getD o .dead)) ++ r) (acc ++ [o])

def rootsOf (n : Nat) : List Ob → List Nat
  | [] => []
  | x :: r => bad n (refsO x) ++ rootsOf n r

def keepFor (n : Nat) (r : V) (σ : List Ob) : List Nat := mark n σ (4 * σ.length + 8) (bad n (refsV r) ++ rootsOf n (σ.take n)) []

def gc (n : Nat) (r : V) (σ : List Ob) : V × List Ob :=
  if Nat.ble σ.length n then (r, σ) else
  let acc := keepFor n r σ
  if acc.all (fun o => Nat.ble n o && Nat.ble (o + 1) σ.length) && decide acc.Nodup then
    (if acc.isEmpty && (bad n (refsV r)).isEmpty && (rootsOf n (σ.take n)).isEmpty then (r, σ.take n) else (renV (keepG (List.range n ++ acc)) r, keepσ (List.range n ++ acc) σ))
  else (r, σ)

mutual
theorem renV_id {g : Nat → Option Nat} {n : Nat} (hg : ∀ o, o < n → g o = some o) : ∀ x : V, bad n (refsV x) = [] → renV g x = x
  | .ptr o i k, h => by
    have : o < n := by simp [refsV, bad] at h; omega
    simp [renV, hg o this]
  | .sl o i k, h => by
    have : o < n := by simp [refsV, bad] at h; omega
    simp [renV, hg o this]
  | .mp o, h => by
    have : o < n := by simp [refsV, bad] at h; omega
    simp [renV, hg o this]
  | .fn f caps, h => by simp only [renV, renVs_id hg caps (by simpa [refsV] using h)]
  | .bm f caps, h => by simp only [renV, renVs_id hg caps (by simpa [refsV] using h)]
  | .agg cs, h => by simp only [renV, renVs_id hg cs (by simpa [refsV] using h)]
  | .tup cs, h => by simp only [renV, renVs_id hg cs (by simpa [refsV] using h)]
  | .d _, _ => by simp [renV]
  | .ipt _, _ => by simp [renV]
  | .undef, _ => by simp [renV]
theorem renVs_id {g : Nat → Option Nat} {n : Nat} (hg : ∀ o, o < n → g o = some o) : ∀ xs : List V, bad n (refsVs xs) = [] → renVs g xs = xs
  | [], _ => rfl
  | x :: r, h => by
    simp only [refsVs, bad, List.filter_append, List.append_eq_nil_iff] at h
    simp only [renVs, renV_id hg x h.1, renVs_id hg r h.2]
end

theorem renM_id {g : Nat → Option Nat} {n : Nat} (hg : ∀ o, o < n → g o = some o) : ∀ es : List (D × V × Nat), bad n (refsVs (es.map (·.2.1))) = [] → (es.map fun e => (e.1, renV g e.2.1, e.2.2)) = es
  | [], _ => rfl
  | (k, x, m) :: r, h => by
    simp only [List.map_cons, refsVs, bad, List.filter_append, List.append_eq_nil_iff] at h
    simp only [List.map_cons, renV_id hg x h.1, renM_id hg r h.2]

theorem range_keep {n : Nat} {o : Nat} (h : o < n) : keepG (List.range n) o = some o := by
  simp only [keepG]
  rw [List.idxOf?_eq_some_iff]
  refine ⟨by simpa using h, by simp, fun j hj => ?_⟩
  simp; omega

theorem rootsOf_nil {n : Nat} : ∀ {l : List Ob}, rootsOf n l = [] → ∀ x ∈ l, bad n (refsO x) = []
  | [], _, x, hx => by simp at hx
  | y :: r, h, x, hx => by
    simp only [rootsOf, List.append_eq_nil_iff] at h
    rcases List.mem_cons.1 hx with rfl | hx
    · exact h.1
    · exact rootsOf_nil h.2 x hx

theorem gc_fin (n : Nat) (r : V) (σ : List Ob) : Fin n r σ (gc n r σ).1 (gc n r σ).2 := by
  unfold gc
  split
  · exact Fin.refl _ _ _
  · rename_i hn
    have hlt : n < σ.length := by simpa using hn
    simp only
    split
    · rename_i h
      simp only [Bool.and_eq_true, List.all_eq_true, Nat.ble_eq, decide_eq_true_eq] at h
      split
      · rename_i h'
        simp only [Bool.and_eq_true, List.isEmpty_iff] at h'
        have hf := Fin.keep (n := n) (r := r) (σ := σ) (List.range n) List.nodup_range (fun o ho => by simp at ho; omega) (fun i hi => by simp [hi])
        have e1 : renV (keepG (List.range n)) r = r := renV_id (fun o ho => range_keep ho) r h'.1.2
        have e2 : keepσ (List.range n) σ = σ.take n := by
          apply List.ext_getElem?
          intro i
          simp only [keepσ, List.getElem?_map, List.getElem?_take]
          by_cases hi : i < n
          · simp only [hi, if_true]
            rw [List.getElem?_range hi]
            simp only [Option.map_some]
            have hx : σ[i]? = some σ[i] := List.getElem?_eq_getElem (by omega)
            rw [List.getD_eq_getElem?_getD, hx, Option.getD_some]
            congr 1
            have := rootsOf_nil h'.2 σ[i] (List.mem_iff_getElem?.2 ⟨i, by rw [List.getElem?_take, if_pos hi, hx]⟩)
            revert this
            generalize σ[i] = x
            intro this
            cases x with
            | box cs => simp only [renO, renVs_id (fun o ho => range_keep ho) cs this]
            | vec sz cs => simp only [renO, renVs_id (fun o ho => range_keep ho) cs this]
            | map es clk => simp only [renO, renM_id (fun o ho => range_keep ho) es this]
            | mit m s1 s2 s3 => simp only [renO, renV_id (fun o ho => range_keep ho) m this]
            | _ => rfl
          · simp only [hi, if_false]
            rw [List.getElem?_eq_none (by simp; omega)]
            rfl
        rw [e1, e2] at hf
        exact hf
      · refine Fin.keep _ ?_ ?_ ?_
        · rw [List.nodup_append]
          refine ⟨List.nodup_range, h.2, fun a ha b hb => ?_⟩
          have := (h.1 b hb).1
          simp at ha
          omega
        · intro o ho
          rcases List.mem_append.1 ho with ho | ho
          · simp at ho; omega
          · have := (h.1 o ho).2; omega
        · intro i hi
          rw [List.getElem?_append_left (by simpa using hi)]
          simp [hi]
    · exact Fin.refl _ _ _

/-- The first slice in a result that is new and could be data. -/
def freshIn (n : Nat) (σ : List Ob) : List Nat → Option (Nat × Nat × List D)
  | [] => none
  | o :: r => if Nat.ble n o then match σ[o]? with
      | some (.arr sz mk es) => some (o, sz, es)
      | _ => freshIn n σ r
    else freshIn n σ r

def frzAll (n : Nat) : Nat → V → List Ob → V × List Ob
  | 0, r, σ => (r, σ)
  | k + 1, r, σ => match freshIn n σ (refsV r) with
    | some (o, sz, es) => frzAll n k (frzV o sz es r) (frzσ o sz es σ)
    | none => (r, σ)

theorem freshIn_some {n : Nat} {σ : List Ob} : ∀ {l : List Nat} {o sz : Nat} {es : List D}, freshIn n σ l = some (o, sz, es) → ∃ mk, σ[o]? = some (.arr sz mk es)
  | [], _, _, _, h => by simp [freshIn] at h
  | x :: r, o, sz, es, h => by
    simp only [freshIn] at h
    split at h
    · split at h
      · rename_i e
        simp only [Option.some.injEq, Prod.mk.injEq] at h
        obtain ⟨rfl, rfl, rfl⟩ := h
        exact ⟨_, e⟩
      · exact freshIn_some h
    · exact freshIn_some h

theorem frzAll_fin (n : Nat) : ∀ (k : Nat) (r : V) (σ : List Ob), Fin n r σ (frzAll n k r σ).1 (frzAll n k r σ).2
  | 0, r, σ => Fin.refl _ _ _
  | k + 1, r, σ => by
    unfold frzAll
    split
    · rename_i o sz es h
      obtain ⟨mk, h⟩ := freshIn_some h
      exact (Fin.freeze h).trans (frzAll_fin n k _ _)
    · exact Fin.refl _ _ _

def tidy (frz : Bool) (n : Nat) (r : V) (σ : List Ob) : V × List Ob :=
  match frz with
  | true => match frzAll n 8 r σ with | (r', σ') => gc n r' σ'
  | false => gc n r σ

theorem tidy_fin (frz : Bool) (n : Nat) (r : V) (σ : List Ob) : Fin n r σ (tidy frz n r σ).1 (tidy frz n r σ).2 := by
  unfold tidy
  cases frz with
  | true => exact (frzAll_fin n 8 r σ).trans (gc_fin n _ _)
  | false => exact gc_fin n r σ

/-! ### the evaluator -/
structure FnE where
  code : CCode
  n : Nat
  rs : List ResultVar
  frz : Bool

inductive Tab where
  | leaf
  | node (k : Nat) (f : FnE) (l r : Tab)

def Tab.find : Tab → Nat → Option FnE
  | .leaf, _ => none
  | .node k f l r, i => match Nat.beq i k with
    | true => some f
    | false => match Nat.ble i k with
      | true => l.find i
      | false => r.find i

def Tab.All (p : Nat → FnE → Prop) : Tab → Prop
  | .leaf => True
  | .node k f l r => p k f ∧ l.All p ∧ r.All p

theorem Tab.All.find {p : Nat → FnE → Prop} : ∀ {T : Tab} {i : Nat} {f : FnE}, T.All p → T.find i = some f → p i f
  | .leaf, _, _, _, h => by simp [Tab.find] at h
  | .node k g l r, i, f, ha, h => by
    simp only [Tab.find] at h
    split at h
    · rename_i e
      have := Nat.eq_of_beq_eq_true e
      subst this
      simp only [Option.some.injEq] at h; subst h
      exact ha.1
    · split at h
      · exact Tab.All.find ha.2.1 h
      · exact Tab.All.find ha.2.2 h

section
variable (P : Program) (call : FuncId → List V → List Ob → Option (V × List Ob))

def nilB (s : List V) (σ : List Ob) (op : Op) : Option (V × List Ob) :=
  match op with
  | .binOp .eql t x y _ => match get s x, get s y with
    | .d (.lst _ (_ :: _)), .d .nils => if isSliceT P t then some (.d (.bool false), σ) else none
    | .sl o _ (_ + 1), .d .nils => if isSliceT P t && alive σ o then some (.d (.bool false), σ) else none
    | .d .nili, .d .nili => if isIfaceT P t && isConstB y then some (.d (.bool true), σ) else none
    | _, _ => none
  | .binOp .neq t x y _ => match get s x, get s y with
    | .d (.lst _ (_ :: _)), .d .nils => if isSliceT P t then some (.d (.bool true), σ) else none
    | .sl o _ (_ + 1), .d .nils => if isSliceT P t && alive σ o then some (.d (.bool true), σ) else none
    | .d .nili, .d .nili => if isIfaceT P t && isConstB y then some (.d (.bool false), σ) else none
    | _, _ => none
  | _ => none

def evOp (op : Op) (s : List V) (σ : List Ob) : Option (V × List Ob) :=
  match op with
  | .call { callee := .value f, args, argTypes := _ } => match get s f with
    | .fn g caps => call g (argsOf s args ++ caps) σ
    | .bm g first => call g (first ++ argsOf s args) σ
    | _ => none
  | op => match quietG P s σ op with
    | some r => some (r, σ)
    | none => match effF P s σ op with
      | some p => some p
      | none => nilB P s σ op

def chkB : List (COp × Bool) → List V → List Ob → Bool
  | [], _, _ => true
  | q :: r, s, σ => (match wantC q.1 s with
      | some true => match doQC P q.2 q.1.op s σ with
        | some v => match q.1.dst with
          | some d => vEq v (s.getD d .undef)
          | none => true
        | none => false
      | some false => match q.1.dst with
        | some d => vEq (s.getD d .undef) (.tup [])
        | none => true
      | none => false) && chkB r s σ

def dferB (P : Program) (cl : Call) (g : Operand → V) : Bool :=
  match cl with
  | { callee := .value f, args, argTypes := _ } => match g f with
    | .fn h caps => args.isEmpty && quietB P h caps.length
    | _ => false
  | _ => false

def evOpD (op : Op) (s : List V) (σ : List Ob) : Option (V × List Ob) :=
  match op with
  | .defer cl => if dferB P cl (get s) then some (.undef, σ) else none
  | op => evOp P call op s σ

def evSt : List CStp → List V → List Ob → Option (List V × List Ob)
  | [], s, σ => some (s, σ)
  | .st o :: r, s, σ => match wantC o s with
    | some true => match evOpD P call o.op s σ with
      | some (v, σ') => evSt r (putV s o.dst v) σ'
      | none => none
    | some false => evSt r (putV s o.dst (.tup [])) σ
    | none => none
  | .q al o :: r, s, σ => match wantC o s with
    | some true => match doQC P al o.op s σ with
      | some v => evSt r (putV s o.dst v) σ
      | none => none
    | some false => evSt r (putV s o.dst (.tup [])) σ
    | none => none
  | .ef o chk :: r, s, σ => match wantC o s with
    | some true => match evOp P call o.op s σ with
      | some (v, σ') => match chkB P chk (putV s o.dst v) σ' with
        | true => evSt r (putV s o.dst v) σ'
        | false => none
      | none => none
    | some false => evSt r (putV s o.dst (.tup [])) σ
    | none => none

def evLoop (body : List V → List Ob → Option (Ex × List V × List Ob)) : Nat → List V → List Ob → Option (Ex × List V × List Ob)
  | 0, _, _ => none
  | k + 1, s, σ => match body s σ with
    | some (.normal, s', σ') => evLoop body k s' σ'
    | r => r

def evC (k : Nat) : CCode → List V → List Ob → Option (Ex × List V × List Ob)
  | .skip, s, σ => some (.normal, s, σ)
  | .ops l, s, σ => match evSt P call l s σ with
    | some (s', σ') => some (.normal, s', σ')
    | none => none
  | .seq a b, s, σ => match evC k a s σ with
    | some (.normal, s', σ') => evC k b s' σ'
    | r => r
  | .cond c a b, s, σ => match get s c with
    | .d (.bool true) => evC k a s σ
    | .d (.bool false) => evC k b s σ
    | _ => none
  | .block id a, s, σ => match evC k a s σ with
    | some (.exit j, s', σ') => match Nat.beq j id with
      | true => some (.normal, s', σ')
      | false => some (.exit j, s', σ')
    | r => r
  | .loop a, s, σ => evLoop (fun s σ => evC k a s σ) k s σ
  | .exit id, s, σ => some (.exit id, s, σ)
  | .ret, s, σ => some (.ret, s, σ)
  | .bad, _, _ => none
end

/-- Contracts that the evaluator takes instead of a function's code. -/
abbrev Nat' := FuncId → List V → List Ob → Option (V × List Ob)

def evG (P : Program) (N : Nat') (T : Tab) : Nat → FuncId → List V → List Ob → Option (V × List Ob)
  | 0 => fun _ _ _ => none
  | k + 1 => fun f args σ => match N f args σ with
    | some r => some r
    | none => match T.find f with
    | none => none
    | some fn => match evC P (evG P N T k) k fn.code (args ++ List.replicate (fn.n - args.length) .undef) σ with
      | none => none
      | some (.exit _, _, _) => none
      | some (_, s, σ') => match resF P s σ' fn.rs with
        | some r => some (tidy fn.frz σ.length r σ')
        | none => none

def evF (P : Program) (T : Tab) : Nat → FuncId → List V → List Ob → Option (V × List Ob) := evG P (fun _ _ _ => none) T

/-! ### soundness -/
def Opened (P : Program) (f : Nat) (fn : FnE) : Prop :=
  ∀ (args : List V) (σ : List Ob) (Q : V → List Ob → Prop), wpC P σ.length fn.code (args ++ List.replicate (fn.n - args.length) .undef) σ (EndK P σ.length fn.rs Q) → callA P f args σ Q

theorem opened {P : Program} {f : FuncId} {fn : Func} {code : Code} {cc : CCode} (plans : List (Nat × List Stp)) (m : Nat) (rs : List ResultVar) (frz : Bool) (hf : P.funcs[f]? = some fn) (hname : (fn.name == "runtime.NumGoroutine") = false) (hb : fn.body = some code) (hc : comp plans code = cc) (ho : okAll P plans code = true) (hm : P.follows .mixedOrders = true) (ht : fn.ntmps = m) (hr : fn.results.toList = rs) :
    Opened P f ⟨cc, m, rs, frz⟩ := fun args σ Q h => callC plans hf hname hb hc ho hm ht hr h

section
variable {P : Program} {call : FuncId → List V → List Ob → Option (V × List Ob)}

/-- What a call comes to is what the run says. -/
def CallOk (P : Program) (call : FuncId → List V → List Ob → Option (V × List Ob)) : Prop := ∀ g as σ v σ', call g as σ = some (v, σ') → callA P g as σ fun r τ => r = v ∧ τ = σ'

theorem nilB_sound {s : List V} {σ σ' : List Ob} {op : Op} {v : V} {K : V → List Ob → Prop} (h : nilB P s σ op = some (v, σ')) (hk : K v σ') : nilA P s σ op K := by
  unfold nilB at h
  unfold nilA
  split at h
  · split at h
    · rename_i e1 e2
      split at h
      · rename_i ht
        simp only [Option.some.injEq, Prod.mk.injEq] at h
        obtain ⟨rfl, rfl⟩ := h
        simp only [e1, e2]
        exact ⟨ht, fun b hb => by cases b with | true => simp at hb | false => exact hk⟩
      · cases h
    · rename_i e1 e2
      split at h
      · rename_i ht
        simp only [Bool.and_eq_true] at ht
        simp only [Option.some.injEq, Prod.mk.injEq] at h
        obtain ⟨rfl, rfl⟩ := h
        simp only [e1, e2]
        exact ⟨ht.1, ht.2, fun b hb => by cases b with | true => simp at hb | false => exact hk⟩
      · cases h
    · rename_i e1 e2
      split at h
      · rename_i ht
        simp only [Bool.and_eq_true] at ht
        simp only [Option.some.injEq, Prod.mk.injEq] at h
        obtain ⟨rfl, rfl⟩ := h
        simp only [e1, e2]
        exact ⟨ht.1, ht.2, hk⟩
      · cases h
    · cases h
  · split at h
    · rename_i e1 e2
      split at h
      · rename_i ht
        simp only [Option.some.injEq, Prod.mk.injEq] at h
        obtain ⟨rfl, rfl⟩ := h
        simp only [e1, e2]
        exact ⟨ht, fun b hb => by cases b with | true => simp at hb | false => exact hk⟩
      · cases h
    · rename_i e1 e2
      split at h
      · rename_i ht
        simp only [Bool.and_eq_true] at ht
        simp only [Option.some.injEq, Prod.mk.injEq] at h
        obtain ⟨rfl, rfl⟩ := h
        simp only [e1, e2]
        exact ⟨ht.1, ht.2, fun b hb => by cases b with | true => simp at hb | false => exact hk⟩
      · cases h
    · rename_i e1 e2
      split at h
      · rename_i ht
        simp only [Bool.and_eq_true] at ht
        simp only [Option.some.injEq, Prod.mk.injEq] at h
        obtain ⟨rfl, rfl⟩ := h
        simp only [e1, e2]
        exact ⟨ht.1, ht.2, hk⟩
      · cases h
    · cases h
  · cases h

theorem evOp_sound (hc : CallOk P call) {op : Op} {s : List V} {σ σ' : List Ob} {v : V} {K : V → List Ob → Prop} (h : evOp P call op s σ = some (v, σ')) (hk : K v σ') : stepC P op s σ K := by
  unfold evOp at h
  unfold stepC
  split at h
  · rename_i f args ts
    split at h
    · rename_i g caps hg
      simp only [hg]
      exact callA_mono (hc _ _ _ _ _ h) fun r τ hr => by obtain ⟨rfl, rfl⟩ := hr; exact hk
    · rename_i g first hg
      simp only [hg]
      exact callA_mono (hc _ _ _ _ _ h) fun r τ hr => by obtain ⟨rfl, rfl⟩ := hr; exact hk
    · cases h
  · rename_i op' hop
    split
    · rename_i f args ts
      exact (hop f args ts rfl).elim
    · split at h
      · rename_i r hr
        simp only [Option.some.injEq, Prod.mk.injEq] at h
        obtain ⟨rfl, rfl⟩ := h
        simp only [hr]; exact hk
      · rename_i hr
        split at h
        · rename_i p hp
          simp only [Option.some.injEq] at h; subst h
          simp only [hr, hp]; exact hk
        · rename_i hp
          simp only [hr, hp]
          exact nilB_sound h hk

theorem chkB_sound : ∀ {l : List (COp × Bool)} {s : List V} {σ : List Ob}, chkB P l s σ = true → chkC P l s σ
  | [], _, _, _ => trivial
  | q :: r, s, σ, h => by
    simp only [chkB, Bool.and_eq_true] at h
    refine ⟨?_, chkB_sound h.2⟩
    have h1 := h.1
    split at h1
    · rename_i hw
      simp only [hw]
      split at h1
      · rename_i v hv
        simp only [hv]
        split at h1
        · rename_i d hd
          simp only [hd, vEq_eq _ _ h1]
        · rename_i hd
          simp only [hd, Option.isSome_some]
      · cases h1
    · rename_i hw
      simp only [hw]
      split at h1
      · rename_i d hd
        simp only [hd]
        exact vEq_eq _ _ h1
      · rename_i hd
        simp only [hd]
    · cases h1

theorem guardC_of {o : COp} {s : List V} {b : Bool} (h : wantC o s = some b) {yes no : List V → Prop} (hy : b = true → yes s) (hn : b = false → no s) : guardC o s yes no := by
  unfold wantC at h
  unfold guardC
  split at h
  · rename_i hg
    cases h
    first | exact hy rfl | (simp only [hg]; exact hy rfl) | (rw [hg]; exact hy rfl)
  · rename_i d w hg
    split at h
    · rename_i b' hb
      cases h
      simp only [hg, hb, GrdC]
      refine ⟨fun e => ?_, fun e => ?_⟩
      · subst e
        rw [set_same_bool hb]
        exact hy (by simp)
      · subst e
        rw [set_same_bool hb]
        exact hn (by cases w <;> rfl)
    · rename_i hb
      cases h
      simp only [hg, hb, GrdC]
      exact hn rfl
    · cases h

theorem evOpD_sound (hc : CallOk P call) {op : Op} {s : List V} {σ σ' : List Ob} {v : V} {K : V → List Ob → Prop} (h : evOpD P call op s σ = some (v, σ')) (hk : K v σ') : stepD P op s σ K := by
  unfold evOpD at h
  unfold stepD
  split at h
  · rename_i cl
    split at h
    · rename_i hq
      simp only [Option.some.injEq, Prod.mk.injEq] at h
      obtain ⟨rfl, rfl⟩ := h
      refine ⟨?_, hk⟩
      unfold dferB at hq
      unfold dferC
      split at hq
      · split at hq
        · rename_i hg
          simp only [hg]
          simp only [Bool.and_eq_true] at hq
          exact ⟨by simpa using hq.1, quietB_ok hq.2⟩
        · cases hq
      · cases hq
    · cases h
  · rename_i hne
    split
    · exact absurd rfl (hne _)
    · exact evOp_sound hc h hk

theorem evSt_sound (hc : CallOk P call) : ∀ {l : List CStp} {s : List V} {σ : List Ob} {s' : List V} {σ' : List Ob} {K : List V → List Ob → Prop}, evSt P call l s σ = some (s', σ') → K s' σ' → stC P l s σ K
  | [], s, σ, s', σ', K, h, hk => by
    simp only [evSt, Option.some.injEq, Prod.mk.injEq] at h
    obtain ⟨rfl, rfl⟩ := h
    exact hk
  | .st o :: r, s, σ, s', σ', K, h, hk => by
    simp only [evSt] at h
    simp only [stC]
    split at h
    · rename_i hw
      refine guardC_of hw (fun _ => ?_) (fun e => by cases e)
      split at h
      · rename_i v σ1 hv
        exact evOpD_sound hc hv (evSt_sound hc h hk)
      · cases h
    · rename_i hw
      exact guardC_of hw (fun e => by cases e) (fun _ => evSt_sound hc h hk)
    · cases h
  | .q al o :: r, s, σ, s', σ', K, h, hk => by
    simp only [evSt] at h
    simp only [stC]
    split at h
    · rename_i hw
      refine guardC_of hw (fun _ => ?_) (fun e => by cases e)
      split at h
      · rename_i v hv
        simp only [bindO, hv]
        exact evSt_sound hc h hk
      · cases h
    · rename_i hw
      exact guardC_of hw (fun e => by cases e) (fun _ => evSt_sound hc h hk)
    · cases h
  | .ef o chk :: r, s, σ, s', σ', K, h, hk => by
    simp only [evSt] at h
    simp only [stC]
    split at h
    · rename_i hw
      refine guardC_of hw (fun _ => ?_) (fun e => by cases e)
      split at h
      · rename_i v σ1 hv
        split at h
        · rename_i hq
          exact evOp_sound hc hv ⟨chkE_of (chkB_sound hq), evSt_sound hc h hk⟩
        · cases h
      · cases h
    · rename_i hw
      exact guardC_of hw (fun e => by cases e) (fun _ => evSt_sound hc h hk)
    · cases h

theorem evLoop_sound {n : Nat} {a : CCode} {body : List V → List Ob → Option (Ex × List V × List Ob)}
    (hb : ∀ {s : List V} {σ : List Ob} {e : Ex} {s' : List V} {σ' : List Ob} {K : Ex → List V → List Ob → Prop}, body s σ = some (e, s', σ') → K e s' σ' → wpC P n a s σ K)
    {k : Nat} {s : List V} {σ : List Ob} {e : Ex} {s' : List V} {σ' : List Ob} {K : Ex → List V → List Ob → Prop} (h : evLoop body k s σ = some (e, s', σ')) (hk : K e s' σ') : WPC P n (.loop a) s σ K := by
  refine WPC_loop (α := Nat × List V × List Ob) (fun x => x.2.1) (fun x => x.2.2) (fun x => evLoop body x.1 x.2.1 x.2.2 = some (e, s', σ')) (fun x => x.1) ?_ (k, s, σ) h
  rintro ⟨k, s, σ⟩ h
  simp only at h
  cases k with
  | zero => simp [evLoop] at h
  | succ k =>
    simp only [evLoop] at h
    split at h
    · rename_i s1 σ1 h1
      exact hb h1 ⟨(k, s1, σ1), h, by simp, Weak.refl _ _ _⟩
    · rename_i hne
      refine hb h ?_
      cases e with
      | normal => exact (hne _ _ h).elim
      | exit id => exact hk
      | ret => exact hk

theorem evC_sound (hc : CallOk P call) {k n : Nat} : ∀ {c : CCode} {s : List V} {σ : List Ob} {e : Ex} {s' : List V} {σ' : List Ob} {K : Ex → List V → List Ob → Prop}, evC P call k c s σ = some (e, s', σ') → K e s' σ' → wpC P n c s σ K
  | .skip, s, σ, e, s', σ', K, h, hk => by
    simp only [evC, Option.some.injEq, Prod.mk.injEq] at h
    obtain ⟨rfl, rfl, rfl⟩ := h
    exact hk
  | .ops l, s, σ, e, s', σ', K, h, hk => by
    simp only [evC] at h
    split at h
    · rename_i s1 σ1 h1
      simp only [Option.some.injEq, Prod.mk.injEq] at h
      obtain ⟨rfl, rfl, rfl⟩ := h
      exact evSt_sound hc h1 hk
    · cases h
  | .seq a b, s, σ, e, s', σ', K, h, hk => by
    simp only [evC] at h
    simp only [wpC]
    split at h
    · rename_i s1 σ1 h1
      exact evC_sound hc h1 (evC_sound hc h hk)
    · rename_i hne
      refine evC_sound hc h ?_
      cases e with
      | normal => exact (hne _ _ h).elim
      | exit id => exact hk
      | ret => exact hk
  | .cond c a b, s, σ, e, s', σ', K, h, hk => by
    simp only [evC] at h
    simp only [wpC]
    split at h
    · rename_i hx
      rw [hx, CondC_true]
      exact evC_sound hc h hk
    · rename_i hx
      rw [hx, CondC_false]
      exact evC_sound hc h hk
    · cases h
  | .block id a, s, σ, e, s', σ', K, h, hk => by
    simp only [evC] at h
    simp only [wpC]
    split at h
    · rename_i j s1 σ1 h1
      refine evC_sound hc h1 ?_
      simp only [blockK]
      split at h
      · rename_i hj
        have := Nat.eq_of_beq_eq_true hj
        simp only [Option.some.injEq, Prod.mk.injEq] at h
        obtain ⟨rfl, rfl, rfl⟩ := h
        rw [if_pos this]; exact hk
      · rename_i hj
        have : j ≠ id := fun q => by subst q; simp at hj
        simp only [Option.some.injEq, Prod.mk.injEq] at h
        obtain ⟨rfl, rfl, rfl⟩ := h
        rw [if_neg this]; exact hk
    · rename_i hne
      refine evC_sound hc h ?_
      cases e with
      | normal => exact hk
      | exit j => exact (hne _ _ _ h).elim
      | ret => exact hk
  | .loop a, s, σ, e, s', σ', K, h, hk => by
    simp only [evC] at h
    simp only [wpC]
    exact evLoop_sound (fun h hk => evC_sound hc h hk) h hk
  | .exit id, s, σ, e, s', σ', K, h, hk => by
    simp only [evC, Option.some.injEq, Prod.mk.injEq] at h
    obtain ⟨rfl, rfl, rfl⟩ := h
    exact hk
  | .ret, s, σ, e, s', σ', K, h, hk => by
    simp only [evC, Option.some.injEq, Prod.mk.injEq] at h
    obtain ⟨rfl, rfl, rfl⟩ := h
    exact hk
  | .bad, s, σ, e, s', σ', K, h, hk => by simp [evC] at h

theorem evG_sound {N : Nat'} (hN : CallOk P N) {T : Tab} (hT : T.All (Opened P)) : ∀ k, CallOk P (evG P N T k)
  | 0 => fun g as σ v σ' h => by simp [evG] at h
  | k + 1 => fun g as σ v σ' h => by
    simp only [evG] at h
    split at h
    · rename_i r hr
      cases h
      exact hN _ _ _ _ _ hr
    split at h
    · cases h
    · rename_i fn hfn
      refine Tab.All.find hT hfn as σ _ ?_
      split at h
      · cases h
      · cases h
      · rename_i e s1 σ1 hne h1
        refine evC_sound (evG_sound hN hT k) h1 ?_
        split at h
        · rename_i r hr
          simp only [Option.some.injEq] at h
          have hf := tidy_fin fn.frz σ.length r σ1
          rw [h] at hf
          cases e with
          | normal => exact ⟨r, hr, v, σ', hf, rfl, rfl⟩
          | exit j => exact (hne j rfl).elim
          | ret => exact ⟨r, hr, v, σ', hf, rfl, rfl⟩
        · cases h
theorem evF_sound {T : Tab} (hT : T.All (Opened P)) : ∀ k, CallOk P (evF P T k) := evG_sound (N := fun _ _ _ => none) (fun _ _ _ _ _ h => by cases h) hT
end

/-- A closed run. -/
theorem run_ok {P : Program} {T : Tab} (hT : T.All (Opened P)) (k : Nat) {f : FuncId} {args : List V} {σ σ' : List Ob} {v : V} (h : evF P T k f args σ = some (v, σ')) : callA P f args σ fun r τ => r = v ∧ τ = σ' := evF_sound hT k _ _ _ _ _ h
/-- A run with contracts. -/
theorem run_okN {P : Program} {N : Nat'} (hN : CallOk P N) {T : Tab} (hT : T.All (Opened P)) (k : Nat) {f : FuncId} {args : List V} {σ σ' : List Ob} {v : V} (h : evG P N T k f args σ = some (v, σ')) : callA P f args σ fun r τ => r = v ∧ τ = σ' := evG_sound hN hT k _ _ _ _ _ h
end Go.Proofs.YtchgfpehcjomeaaGreatDoor.Am
