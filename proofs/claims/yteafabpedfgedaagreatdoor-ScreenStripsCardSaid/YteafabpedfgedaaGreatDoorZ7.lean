/- The engine's regions that draw their order. -/
import Derived.Test.YteafabpedfgedaaGreatDoorZ6
import Derived.Orders
section
set_option linter.unusedSimpArgs false
set_option linter.unusedVariables false
namespace Go.Proofs.YteafabpedfgedaaGreatDoor.Am
open Go

/-! ### operations look at their operands alone -/
section
variable {P : Program} {s s' : List V} {σ : List Ob}

theorem argsOf_congr {xs : Array Operand} (h : ∀ x ∈ xs, get s x = get s' x) : argsOf s xs = argsOf s' xs :=
  List.map_congr_left fun x hx => h x (by simpa using hx)

theorem fillV_congr {place : Nat → Option (Nat × Nat)} : ∀ (ps : List (Nat × Operand)) (cs : List V), (∀ p ∈ ps, get s p.2 = get s' p.2) → fillV place σ s cs ps = fillV place σ s' cs ps
  | [], cs, _ => rfl
  | (i, x) :: r, cs, h => by
    simp only [fillV, h (i, x) (by simp)]
    split
    · split
      · exact fillV_congr r _ fun p hp => h p (by simp [hp])
      · rfl
    · rfl

theorem inOrder_mem : ∀ (n : Nat) (ps : List (Nat × Operand)) (xs : List Operand), inOrder n ps = some xs → ∀ x ∈ xs, ∃ i, (i, x) ∈ ps
  | n, [], xs, h, x, hx => by simp [inOrder] at h; subst h; simp at hx
  | n, (i, y) :: r, xs, h, x, hx => by
    simp only [inOrder] at h
    split at h
    · cases hr : inOrder (n + 1) r with
      | none => rw [hr] at h; cases h
      | some ys =>
        rw [hr] at h; simp at h; subst h
        rcases List.mem_cons.1 hx with e | e
        · subst e; exact ⟨i, by simp⟩
        · obtain ⟨j, hj⟩ := inOrder_mem (n + 1) r ys hr x e
          exact ⟨j, by simp [hj]⟩
    · cases h

theorem toDs_congr {sz : Nat} : ∀ (xs : List Operand), (∀ x ∈ xs, get s x = get s' x) → toDs σ s sz xs = toDs σ s' sz xs
  | [], _ => rfl
  | x :: r, h => by simp only [toDs, h x (by simp), toDs_congr r fun y hy => h y (by simp [hy])]

theorem buildSliceF_congr {t : TypeId} {len : Nat} {ps : List (Nat × Operand)} (h : ∀ p ∈ ps, get s p.2 = get s' p.2) : buildSliceF P t len σ s ps = buildSliceF P t len σ s' ps := by
  unfold buildSliceF
  split
  · split
    · split
      · rename_i xs hxs
        rw [toDs_congr (s' := s') xs fun x hx => by obtain ⟨i, hi⟩ := inOrder_mem _ _ _ hxs x hx; exact h _ hi]
      · rfl
    · rfl
  · rfl

theorem toCs_congr {sz : Nat} : ∀ (xs : List Operand), (∀ x ∈ xs, get s x = get s' x) → toCs σ s sz xs = toCs σ s' sz xs
  | [], _ => rfl
  | x :: xs, h => by
    simp only [toCs, h x (by simp), toCs_congr xs fun y hy => h y (by simp [hy])]
theorem buildVecF_congr {t : TypeId} {len : Nat} {ps : List (Nat × Operand)} (h : ∀ p ∈ ps, get s p.2 = get s' p.2) : buildVecF P t len σ s ps = buildVecF P t len σ s' ps := by
  unfold buildVecF
  cases elemOfSlice P t with
  | none => rfl
  | some e =>
    simp only
    cases hx : inOrder 0 ps with
    | none => rfl
    | some xs =>
      have : ∀ x ∈ xs, get s x = get s' x := by
        intro x hx'
        obtain ⟨z1, z2⟩ := inOrder_zip 0 _ _ hx
        obtain ⟨k, hk, rfl⟩ := List.getElem_of_mem hx'
        have := z2 k hk
        rw [List.getElem?_eq_getElem hk] at this
        exact h _ (List.mem_of_getElem? this)
      simp only [toCs_congr xs this]


theorem quietF_congr {op : Op} (h : ∀ x ∈ op.operands, get s x = get s' x) : quietF P s σ op = quietF P s' σ op := by
  cases op
  case slice t x lo hi mx =>
    simp only [quietF]
    have h0 := h x (by simp [Op.operands])
    have h1 : lo.map (get s) = lo.map (get s') := by cases lo <;> simp_all [Op.operands]
    have h2 : hi.map (get s) = hi.map (get s') := by cases hi <;> simp_all [Op.operands]
    have h3 : mx.map (get s) = mx.map (get s') := by cases mx <;> simp_all [Op.operands]
    rw [h0, h1, h2, h3]
  case makeFunc fn first caps =>
    unfold quietF
    cases fn <;> simp only []
    rw [argsOf_congr (xs := caps) fun x hx => h x (by simp [Op.operands, hx]), argsOf_congr (xs := first) fun x hx => h x (by simp [Op.operands, hx])]
  case call cl =>
    obtain ⟨callee, args, ts⟩ := cl
    cases callee <;> simp only [quietF]
    rw [argsOf_congr fun x hx => h x (by simp [Op.operands, Call.operands, hx])]
  all_goals (simp [Op.operands] at h)
  all_goals (simp only [quietF]; try simp only [h])

theorem quietG_congr {op : Op} (h : ∀ x ∈ op.operands, get s x = get s' x) : quietG P s σ op = quietG P s' σ op := by
  unfold quietG
  split
  · rename_i t parts
    unfold buildF
    have hp : ∀ p ∈ parts.toList, get s p.2 = get s' p.2 := fun p hp => h p.2 (by simp only [Op.operands, List.mem_toArray, List.mem_map]; exact ⟨p, hp, rfl⟩)
    simp only [fillV_congr (s' := s') _ _ hp]
  · exact quietF_congr h

theorem effF_congr {op : Op} (h : ∀ x ∈ op.operands, get s x = get s' x) : effF P s σ op = effF P s' σ op := by
  cases op
  case buildSlice t len parts =>
    have hp : ∀ p ∈ parts.toList, get s p.2 = get s' p.2 := fun p hp => h p.2 (by simp only [Op.operands, List.mem_toArray, List.mem_map]; exact ⟨p, hp, rfl⟩)
    simp only [effF, buildE, buildSliceF_congr hp, buildVecF_congr hp]
  case makeMap t r => cases r <;> simp only [effF]
  case next x b => cases b <;> simp only [effF, h x (by simp [Op.operands])]
  case call cl =>
    obtain ⟨callee, args, ts⟩ := cl
    have ha : ∀ x ∈ args.toList, get s x = get s' x := fun x hx => h x (by simp only [Op.operands, Call.operands]; cases callee <;> simp <;> simp at hx <;> simp [hx])
    cases callee with
    | builtin b =>
      cases b <;> simp only [effF]
      all_goals
        split
        · rename_i e _
          rw [e] at ha
          simp at ha
          simp only [ha]
        · rfl
    | _ => simp only [effF]
  all_goals (simp [Op.operands] at h)
  all_goals (simp only [effF]; try simp only [h])

theorem stepA_congr {o : Oper} {K : V → List Ob → Prop} (h : ∀ x ∈ o.op.operands, get s x = get s' x) : stepA P o s σ K = stepA P o s' σ K := by
  unfold stepA
  split
  · rename_i f args ts ho
    rw [ho] at h
    rw [h f (by simp [Op.operands, Call.operands]), argsOf_congr fun x hx => h x (by simp [Op.operands, Call.operands, hx])]
  · rename_i op hop
    rw [quietG_congr h, effF_congr h, nilA_congr h]
end

/-! ### a plan of a region -/
inductive Stp where
  | q (al : Bool) (i : Nat)
  | ef (i : Nat) (chk : List (Nat × Bool))

def Stp.idx : Stp → Nat
  | .q _ i => i
  | .ef i _ => i

theorem buildSliceD_congr {P : Program} {t : TypeId} {len : Nat} {σ : List Ob} {s s' : List V} {ps : List (Nat × Operand)} (h : ∀ p ∈ ps, get s p.2 = get s' p.2) : buildSliceD P t len σ s ps = buildSliceD P t len σ s' ps := by
  unfold buildSliceD
  split
  · split
    · split
      · rename_i xs hxs
        rw [toDs_congr (s' := s') xs fun x hx => by obtain ⟨i, hi⟩ := inOrder_mem _ _ _ hxs x hx; exact h _ hi]
      · rfl
    · rfl
  · rfl

/-- What a quiet operation yields; with the mark: a literal slice, as data. -/
def doQ (P : Program) (al : Bool) (o : Oper) (s : List V) (σ : List Ob) : Option V :=
  match al with
  | false => quietG P s σ o.op
  | true => match o.op with
    | .buildSlice t len parts => buildSliceD P t len σ s parts.toList
    | _ => none

theorem doQ_congr {P : Program} {al : Bool} {o : Oper} {s s' : List V} {σ : List Ob} (h : ∀ x ∈ o.op.operands, get s x = get s' x) : doQ P al o s σ = doQ P al o s' σ := by
  unfold doQ
  split
  · exact quietG_congr h
  · split
    · rename_i t len parts ho
      rw [ho] at h
      exact buildSliceD_congr fun p hp => h p.2 (by simp only [Op.operands, List.mem_toArray, List.mem_map]; exact ⟨p, hp, rfl⟩)
    · rfl

theorem doQ_sound {P : Program} {al : Bool} {o : Oper} {a : Act} {c : Cx} {s : List V} {σ : List Ob} (h : SR c σ) (hs : c.vrs s a.tmps.toList) {r : V} (e : doQ P al o s σ = some r) :
    ∃ u w', (execOp a.eval o).run P c.w = .ok (.value u) w' ∧ SR ⟨w', c.loc, c.hid⟩ σ ∧ Ext c ⟨w', c.loc, c.hid⟩ ∧ Cx.vr ⟨w', c.loc, c.hid⟩ r u := by
  unfold doQ at e
  split at e
  · obtain ⟨v, h1, h2⟩ := quietG_sound h hs e
    exact ⟨v, c.w, h1, h, Ext.refl c, h2⟩
  · split at e
    · rename_i t len parts ho
      obtain ⟨sz, ds, rfl, h1⟩ := buildSliceD_F e
      obtain ⟨v, w', g1, g2, g3, g4⟩ := buildSlice_data (σ' := σ) h hs h1
      refine ⟨v, w', ?_, g2, g3, g4⟩
      simp only [execOp, ho]
      exact run_value g1
    · cases e

def guardA (ops : Array Oper) (o : Oper) (s : List V) (yes no : List V → Prop) : Prop :=
  match o.guard with
  | none => yes s
  | some (j, want) => match (ops[j]?).bind (·.dst) with
    | some d => match s.getD d .undef with
      | .d (.bool b) => (b = want → yes (s.set d (.d (.bool want)))) ∧ (b = (!want) → no (s.set d (.d (.bool (!want)))))
      | .tup [] => no s
      | _ => False
    | none => False

def guardOf (ops : Array Oper) (o : Oper) (s : List V) : Option Bool :=
  match o.guard with
  | none => some true
  | some (j, want) => match (ops[j]?).bind (·.dst) with
    | some d => match s.getD d .undef with
      | .d (.bool b) => some (b == want)
      | .tup [] => some false
      | _ => none
    | none => none

def chk1 (P : Program) (ops : Array Oper) (q : Nat × Bool) (s : List V) (σ : List Ob) : Prop :=
  match ops[q.1]? with
  | some o => match guardOf ops o s with
    | some true => match o.dst with
      | some d => doQ P q.2 o s σ = some (s.getD d .undef)
      | none => (doQ P q.2 o s σ).isSome = true
    | some false => match o.dst with
      | some d => s.getD d .undef = .tup []
      | none => True
    | none => False
  | none => False

def chkA (P : Program) (ops : Array Oper) : List (Nat × Bool) → List V → List Ob → Prop
  | [], _, _ => True
  | q :: r, s, σ => chk1 P ops q s σ ∧ chkA P ops r s σ

/-- A call of a function; it may well leave the store as it was: then nothing need be looked at again. -/
def isCall : Op → Bool
  | .call { callee := .value _, args := _, argTypes := _ } => true
  | _ => false
def chkE (o : Op) (σ σ' : List Ob) (p : Prop) : Prop :=
  match isCall o with
  | true => σ' = σ ∨ p
  | false => p

theorem chkE_or {o : Op} {σ σ' : List Ob} {p : Prop} (h : chkE o σ σ' p) : σ' = σ ∨ p := by
  unfold chkE at h
  split at h
  · exact h
  · exact .inr h
theorem chkE_of {o : Op} {σ σ' : List Ob} {p : Prop} (h : p) : chkE o σ σ' p := by
  unfold chkE
  split
  · exact .inr h
  · exact h
theorem chkE_mono {o : Op} {σ σ' : List Ob} {p q : Prop} (h : chkE o σ σ' p) (hk : p → q) : chkE o σ σ' q := by
  unfold chkE at h ⊢
  split at h
  · exact h.imp id hk
  · exact hk h

/-- A region in the order of a plan; after each operation that acts, what may still be pending is looked at again. -/
def anyA (P : Program) (ops : Array Oper) : List Stp → List V → List Ob → (List V → List Ob → Prop) → Prop
  | [], s, σ, K => K s σ
  | .q al i :: r, s, σ, K => match ops[i]? with
    | some o => guardA ops o s
        (fun s => match doQ P al o s σ with | some v => anyA P ops r (putV s o.dst v) σ K | none => False)
        (fun s => anyA P ops r (putV s o.dst (.tup [])) σ K)
    | none => False
  | .ef i chk :: r, s, σ, K => match ops[i]? with
    | some o => guardA ops o s
        (fun s => stepA P o s σ fun v σ' => chkE o.op σ σ' (chkA P ops chk (putV s o.dst v) σ') ∧ anyA P ops r (putV s o.dst v) σ' K)
        (fun s => anyA P ops r (putV s o.dst (.tup [])) σ K)
    | none => False

def afterOf (ops : Array Oper) (i : Nat) : List Nat :=
  match ops[i]? with
  | some o => (o.after.toList.filter fun e => Region.binds .any e).map (·.on)
  | none => []

/-- A new variable's cell: it may be made at any time. -/
def isAl (ops : Array Oper) (i : Nat) : Bool :=
  match ops[i]? with
  | some o => match o.op with
    | .alloc _ => o.guard.isNone && o.dst.isSome
    | _ => false
  | none => false

theorem isAl_some {ops : Array Oper} {i : Nat} (h : isAl ops i = true) : ∃ o t d, ops[i]? = some o ∧ o.op = .alloc t ∧ o.guard = none ∧ o.dst = some d := by
  unfold isAl at h
  split at h
  · rename_i o ho
    split at h
    · rename_i t ht
      simp only [Bool.and_eq_true, Option.isNone_iff_eq_none] at h
      obtain ⟨d, hd⟩ := Option.isSome_iff_exists.1 h.2
      exact ⟨o, t, d, ho, ht, h.1, hd⟩
    · cases h
  · cases h

def behindOk (ops : Array Oper) : List Nat → List Nat → Bool
  | _, [] => true
  | B, i :: r => match isAl ops i with
    | true => behindOk ops B r
    | false => (afterOf ops i).any B.contains && behindOk ops (i :: B) r

def ancs (ops : Array Oper) : List Nat → List Nat → List Nat
  | [], A => A
  | j :: r, A => ancs ops r (if A.contains j then afterOf ops j ++ A else A)

def topoOk (ops : Array Oper) : List Nat → List Nat → Bool
  | _, [] => true
  | done, i :: r => (afterOf ops i).all done.contains && topoOk ops (i :: done) r

def efsOf : List Stp → List Nat
  | [] => []
  | .q _ _ :: r => efsOf r
  | .ef i _ :: r => i :: efsOf r

def planOk (ops : Array Oper) (efs : List Nat) : List Nat → List Nat → List Stp → Bool
  | _, _, [] => true
  | done, prev, .q _ i :: r => (!efs.contains i && !isAl ops i) && planOk ops efs (i :: done) (i :: prev) r
  | done, prev, .ef i chk :: r => behindOk ops [i] (r.map Stp.idx) && (prev.all fun p => (chk.map (·.1)).contains p || (ancs ops done (afterOf ops i)).contains p) && planOk ops efs (i :: done) (chk.map (·.1)) r

def chkIn (n : Nat) : List Stp → Bool
  | [] => true
  | .q _ _ :: r => chkIn n r
  | .ef _ chk :: r => (chk.all fun p => decide (p.1 < n)) && chkIn n r

def pairOk (ops : Array Oper) (efs : List Nat) (i j : Nat) : Bool :=
  match ops[i]?, ops[j]? with
  | some oi, some oj => match oj.dst with
    | some d => (!(oi.looksAt ops).contains d || (afterOf ops i).contains j || (efs.contains j && (i == j || (afterOf ops j).contains i))) && (i == j || oi.dst != some d)
    | none => true
  | _, _ => true

/-- A new cell's type has a zero value. -/
def alZ (P : Program) (ops : Array Oper) (i : Nat) : Bool :=
  match ops[i]? with
  | some o => match o.op with
    | .alloc t => (zeroCs P t).isSome
    | _ => true
  | none => true

def regOk (P : Program) (ops : Array Oper) (plan : List Stp) : Bool :=
  (((List.range ops.size).all fun i => (List.range ops.size).all fun j => pairOk ops (efsOf plan) i j) && chkIn ops.size plan && (plan.map Stp.idx).Nodup && (plan.length == ops.size) && ((plan.map Stp.idx).all fun i => decide (i < ops.size)) && ((List.range ops.size).all (plan.map Stp.idx).contains) && topoOk ops [] (plan.map Stp.idx) && planOk ops (efsOf plan) [] [] plan) && (List.range ops.size).all (alZ P ops)

/-! ### soundness -/
section
variable {P : Program} {ops : Array Oper} {efs : List Nat}

theorem behind_sound {L : Nat → Prop} : ∀ (r B : List Nat), behindOk ops B r = true → (∀ j ∈ B, ¬ L j) → (∀ i ∈ r, isAl ops i = false → ¬ L i) → ∀ i ∈ r, isAl ops i = false → ∃ j ∈ afterOf ops i, ¬ L j
  | [], B, _, _, _, i, hi, _ => by simp at hi
  | k :: r, B, h, hB, hr, i, hi, ha => by
    simp only [behindOk] at h
    split at h
    · rename_i hk
      rcases List.mem_cons.1 hi with rfl | hi
      · rw [ha] at hk; cases hk
      · exact behind_sound r B h hB (fun j hj => hr j (by simp [hj])) i hi ha
    · rename_i hk
      simp only [Bool.and_eq_true] at h
      rcases List.mem_cons.1 hi with rfl | hi
      · obtain ⟨j, h1, h2⟩ := List.any_eq_true.1 h.1
        exact ⟨j, h1, hB j (by simpa using h2)⟩
      · refine behind_sound r (k :: B) h.2 (fun j hj => ?_) (fun j hj => hr j (by simp [hj])) i hi ha
        rcases List.mem_cons.1 hj with rfl | hj
        · exact hr _ (by simp) hk
        · exact hB j hj

theorem ancs_sound {L : Nat → Prop} (hc : ∀ i, L i → ∀ j ∈ afterOf ops i, L j) : ∀ (done A : List Nat), (∀ j ∈ A, L j) → ∀ j ∈ ancs ops done A, L j
  | [], A, h, j, hj => h j hj
  | k :: r, A, h, j, hj => by
    simp only [ancs] at hj
    refine ancs_sound hc r _ (fun i hi => ?_) j hj
    split at hi
    · rename_i hk
      rcases List.mem_append.1 hi with q | q
      · exact hc k (h k (by simpa using hk)) i q
      · exact h i q
    · exact h i hi

/-- Each has what it waits for listed, or ahead of it. -/
def Topo (ops : Array Oper) : (Nat → Prop) → List Nat → Prop
  | _, [] => True
  | L, i :: r => (∀ j ∈ afterOf ops i, L j) ∧ Topo ops (fun k => L k ∨ k = i) r

theorem Topo.mono : ∀ (r : List Nat) (L L' : Nat → Prop), (∀ k, L k → L' k) → Topo ops L r → Topo ops L' r
  | [], _, _, _, _ => trivial
  | i :: r, L, L', h, ht => ⟨fun j hj => h j (ht.1 j hj), Topo.mono r _ _ (fun k hk => hk.imp (h k) id) ht.2⟩

theorem Topo.erase : ∀ (r : List Nat) (L : Nat → Prop) (x : Nat), Topo ops L r → Topo ops (fun k => L k ∨ k = x) (r.erase x)
  | [], _, _, _ => trivial
  | i :: r, L, x, ht => by
    by_cases h : i = x
    · subst h; simp only [List.erase_cons_head]; exact ht.2
    · rw [List.erase_cons_tail (by simpa using h)]
      refine ⟨fun j hj => .inl (ht.1 j hj), ?_⟩
      refine Topo.mono _ _ _ ?_ (Topo.erase r _ x ht.2)
      rintro k ((h | h) | h)
      · exact .inl (.inl h)
      · exact .inr h
      · exact .inl (.inr h)

theorem topo_of_ok : ∀ (r done : List Nat) (L : Nat → Prop), topoOk ops done r = true → (∀ j ∈ done, L j) → Topo ops L r
  | [], _, _, _, _ => trivial
  | i :: r, done, L, h, hd => by
    simp only [topoOk, Bool.and_eq_true] at h
    refine ⟨fun j hj => hd j (by simpa using List.all_eq_true.1 h.1 j hj), topo_of_ok r (i :: done) _ h.2 fun j hj => ?_⟩
    rcases List.mem_cons.1 hj with rfl | hj
    · exact .inr rfl
    · exact .inl (hd j hj)

def Lst (listed : Array Bool) (i : Nat) : Prop := listed.getD i false = true

def PendOk (P : Program) (ops : Array Oper) (i : Nat) (s : List V) (σ : List Ob) : Prop :=
  ∃ o, ops[i]? = some o ∧ ((guardOf ops o s = some true ∧ ∃ al v, doQ P al o s σ = some v ∧ ∀ d, o.dst = some d → d < s.length → s.getD d .undef = v) ∨ (guardOf ops o s = some false ∧ ∀ d, o.dst = some d → d < s.length → s.getD d .undef = .tup []))

theorem PendOk.of_chk {q : Nat × Bool} {s : List V} {σ : List Ob} (h : chk1 P ops q s σ) : PendOk P ops q.1 s σ := by
  unfold chk1 at h
  split at h
  · rename_i o ho
    refine ⟨o, ho, ?_⟩
    split at h
    · rename_i hg
      left
      refine ⟨hg, q.2, ?_⟩
      split at h
      · rename_i d hd
        exact ⟨_, h, fun d' hd' _ => by rw [hd] at hd'; cases hd'; rfl⟩
      · rename_i hd
        obtain ⟨v, hv⟩ := Option.isSome_iff_exists.1 h
        exact ⟨v, hv, fun d' hd' => by rw [hd] at hd'; cases hd'⟩
    · rename_i hg
      right
      refine ⟨hg, fun d hd _ => ?_⟩
      rw [hd] at h
      exact h
    · exact h.elim
  · exact h.elim

theorem guardOf_congr {o : Oper} {s s' : List V} (h : ∀ t ∈ o.looksAt ops, s.getD t .undef = s'.getD t .undef) : guardOf ops o s = guardOf ops o s' := by
  unfold guardOf
  split
  · rfl
  · rename_i j want hg
    split
    · rename_i d hd
      have : d ∈ o.looksAt ops := by
        unfold Oper.looksAt
        rw [hg]
        simp only [List.mem_append]
        right
        simp only [hd, Option.toList_some, List.mem_singleton]
      rw [h d this]
    · rfl

theorem get_congr_looks {o : Oper} {s s' : List V} (h : ∀ t ∈ o.looksAt ops, s.getD t .undef = s'.getD t .undef) : ∀ x ∈ o.op.operands, get s x = get s' x := by
  intro x hx
  cases x with
  | tmp t => exact h t (List.mem_append_left _ (List.mem_filterMap.2 ⟨.tmp t, by simpa using hx, rfl⟩))
  | _ => rfl

theorem PendOk.congr {i : Nat} {o : Oper} (ho : ops[i]? = some o) {s s' : List V} {σ : List Ob} (hl : s.length = s'.length) (h : ∀ t ∈ o.looksAt ops, s.getD t .undef = s'.getD t .undef) (hd : ∀ d, o.dst = some d → s.getD d .undef = s'.getD d .undef) (g : PendOk P ops i s σ) : PendOk P ops i s' σ := by
  obtain ⟨o', ho', g⟩ := g
  rw [ho] at ho'; cases ho'
  refine ⟨o, ho, ?_⟩
  rw [← guardOf_congr h, ← hl]
  rcases g with ⟨g1, al, v, g2, g3⟩ | ⟨g1, g2⟩
  · exact .inl ⟨g1, al, v, by rw [← doQ_congr (get_congr_looks h)]; exact g2, fun d e hlt => by rw [← hd d e]; exact g3 d e hlt⟩
  · exact .inr ⟨g1, fun d e hlt => by rw [← hd d e]; exact g2 d e hlt⟩

theorem set_same_bool {s : List V} {d : Nat} {b : Bool} (hb : s.getD d .undef = .d (.bool b)) : s.set d (.d (.bool b)) = s := by
  apply List.ext_getElem?
  intro i
  rw [List.getElem?_set]
  split
  · rename_i q; subst q
    rw [List.getD_eq_getElem?_getD] at hb
    split
    · rename_i hlt
      rw [List.getElem?_eq_getElem hlt] at hb ⊢
      simp at hb
      simp [hb]
    · rename_i hlt
      rw [List.getElem?_eq_none (by omega)]
  · rfl

theorem guardA_cases {o : Oper} {s : List V} {yes no : List V → Prop} (h : guardA ops o s yes no) : (guardOf ops o s = some true ∧ yes s) ∨ (guardOf ops o s = some false ∧ no s) := by
  unfold guardA at h
  unfold guardOf
  split at h
  · exact .inl ⟨rfl, h⟩
  · rename_i j want hg
    split at h
    · rename_i d hd
      split at h
      · rename_i b hb
        by_cases e : b = want
        · subst e
          left
          have := h.1 rfl
          rw [set_same_bool hb] at this
          exact ⟨by simp [hb], this⟩
        · right
          have hn : b = !want := by cases b <;> cases want <;> simp_all
          have := h.2 hn
          rw [← hn, set_same_bool hb] at this
          exact ⟨by simp [hb, e], this⟩
      · rename_i hb
        exact .inr ⟨by simp [hb], h⟩
      · exact h.elim
    · exact h.elim

/-- A variable's cell that was made ahead of its place in the plan: no call may touch it. -/
structure Ear (P : Program) (ops : Array Oper) (c0 c : Cx) (a : Act) (e : Nat × Nat) : Prop where
  ex : ∃ o t d cs, ops[e.1]? = some o ∧ o.op = .alloc t ∧ o.guard = none ∧ o.dst = some d ∧ zeroCs P t = some cs ∧ (∀ v, a.tmps[d]? = some v → v = .pointer (some ⟨e.2, 0, none⟩)) ∧
    ∃ (vs : List Value) (ty : TypeId), c.w.heap[e.2]? = some (.cells vs.toArray ty (0, 0)) ∧ cs = vs.map fun v => .d (sc v)
  new : c0.w.heap.size ≤ e.2

def Dn (listed : Array Bool) (l : List Nat) (k : Nat) : Prop := Lst listed k ∧ k ∉ l

structure Inv (P : Program) (ops : Array Oper) (efs : List Nat) (c0 : Cx) (listed : Array Bool) (pend : List Nat) (rest : List Nat) (E : List (Nat × Nat)) (s : List V) (σ : List Ob) (c : Cx) (a : Act) : Prop where
  sr : SR c σ
  df : DfOk P a.defers c.hid.df
  len : s.length = a.tmps.size
  vals : ∀ t, (∀ i ∈ pend ++ E.map (·.1), ∀ o, ops[i]? = some o → o.dst ≠ some t) → ∀ x v, s[t]? = some x → a.tmps[t]? = some v → c.vr x v
  sizeL : listed.size = ops.size
  un : ∀ i, i < ops.size → (¬ Lst listed i ↔ i ∈ pend ∨ (i ∈ rest ∧ i ∉ E.map (·.1)))
  lt : ∀ i ∈ pend ++ rest, i < ops.size
  nodup : (pend ++ rest).Nodup
  closed : ∀ i, Lst listed i → ∀ j ∈ afterOf ops i, Lst listed j
  topo : Topo ops (Dn listed (pend ++ rest)) (pend ++ rest)
  ok : ∀ i ∈ pend, PendOk P ops i s σ
  pq : ∀ i ∈ pend, i ∉ efs
  ein : ∀ e ∈ E, e.1 ∈ rest ∧ isAl ops e.1 = true
  ear : ∀ e ∈ E, Ear P ops c0 c a e
  enod : (E.map (·.1)).Nodup
  bnod : (E.map (·.2)).Nodup
  hid : ∀ b, c.hid.blk b ↔ (c0.hid.blk b ∨ b ∈ E.map (·.2))
  hdf : c.hid.df = c0.hid.df
  ext : Ext c0 ⟨c.w, c.loc, c0.hid⟩
  h0 : ∀ b, c0.hid.blk b → b < c0.w.heap.size

theorem lst_set {listed : Array Bool} {i : Nat} (hi : i < listed.size) (k : Nat) : Lst (listed.setIfInBounds i true) k ↔ Lst listed k ∨ k = i := by
  unfold Lst
  simp only [Array.getD_eq_getD_getElem?]
  rw [Array.getElem?_setIfInBounds]
  split
  · rename_i h; subst h; simp [hi]
  · rename_i h
    constructor
    · exact .inl
    · rintro (h' | h')
      · exact h'
      · exact absurd h'.symm h

theorem ready_iff {listed : Array Bool} (hl : listed.size = ops.size) {i : Nat} (h : i ∈ Region.ready .any ops listed) : i < ops.size ∧ ¬ Lst listed i ∧ ∀ j ∈ afterOf ops i, Lst listed j := by
  obtain ⟨h1, o, ho, h2⟩ := mem_ready.1 h
  have hlt : i < ops.size := (Array.getElem?_eq_some_iff.1 ho).1
  refine ⟨hlt, ?_, ?_⟩
  · unfold Lst
    have hi : i < listed.size := by omega
    simp only [Array.getD_eq_getD_getElem?, Array.getElem?_eq_getElem hi, Option.getD_some] at h1 ⊢
    simp [h1]
  · intro j hj
    simp only [afterOf, ho, List.mem_map, List.mem_filter] at hj
    obtain ⟨e, ⟨he, hb⟩, rfl⟩ := hj
    exact h2 e (by simpa using he) hb

theorem ready_of {listed : Array Bool} (hl : listed.size = ops.size) {i : Nat} (hlt : i < ops.size) (hn : ¬ Lst listed i) (ha : ∀ j ∈ afterOf ops i, Lst listed j) : i ∈ Region.ready .any ops listed := by
  refine mem_ready.2 ⟨?_, ops[i], Array.getElem?_eq_getElem hlt, fun e he hb => ?_⟩
  · unfold Lst at hn
    have hi : i < listed.size := by omega
    simp only [Array.getD_eq_getD_getElem?, Array.getElem?_eq_getElem hi, Option.getD_some] at hn ⊢
    simpa using hn
  · refine ha e.on ?_
    simp only [afterOf, Array.getElem?_eq_getElem hlt, List.mem_map, List.mem_filter]
    exact ⟨e, ⟨by simpa using he, hb⟩, rfl⟩

theorem Topo.pend {L : Nat → Prop} : ∀ (p r : List Nat), Topo ops L (p ++ r) → ∀ i ∈ p, ∀ j ∈ afterOf ops i, L j ∨ j ∈ p
  | [], _, _, i, hi, _, _ => by simp at hi
  | k :: p, r, h, i, hi, j, hj => by
    rcases List.mem_cons.1 hi with rfl | hi
    · exact .inl (h.1 j hj)
    · rcases Topo.pend p r h.2 i hi j hj with (q | q) | q
      · exact .inl q
      · exact .inr (by simp [q])
      · exact .inr (by simp [q])

theorem Topo.next {L : Nat → Prop} : ∀ (p : List Nat) (i : Nat) (r : List Nat), Topo ops L (p ++ i :: r) → ∀ j ∈ afterOf ops i, L j ∨ j ∈ p
  | [], i, r, h, j, hj => .inl (h.1 j hj)
  | k :: p, i, r, h, j, hj => by
    rcases Topo.next p i r h.2 j hj with (q | q) | q
    · exact .inl q
    · exact .inr (by simp [q])
    · exact .inr (by simp [q])

/-- The slots without what is pending. -/
def mask (ops : Array Oper) (pend : List Nat) (s : List V) : List V :=
  s.mapIdx fun t x => if pend.any fun i => (ops[i]?).bind (·.dst) == some t then .undef else x

theorem mask_free {pend : List Nat} {s : List V} {t : Nat} (h : ∀ i ∈ pend, ∀ o, ops[i]? = some o → o.dst ≠ some t) : (mask ops pend s).getD t .undef = s.getD t .undef := by
  have hn : (pend.any fun i => (ops[i]?).bind (·.dst) == some t) = false := by
    rw [List.any_eq_false]
    intro i hi hh
    cases ho : ops[i]? with
    | none => simp [ho] at hh
    | some o => exact h i hi o ho (by simpa [ho] using hh)
  simp only [List.getD_eq_getElem?_getD, mask, List.getElem?_mapIdx, hn]
  cases s[t]? <;> simp

variable {c0 : Cx} {E : List (Nat × Nat)}
theorem Inv.mask {listed : Array Bool} {pend rest : List Nat} {s : List V} {σ : List Ob} {c : Cx} {a : Act} (h : Inv P ops efs c0 listed pend rest E s σ c a) : Rel P c (mask ops (pend ++ E.map (·.1)) s) σ a := by
  refine ⟨h.sr, ?_, h.df⟩
  refine VRs_of_get (by simp [Am.mask, h.len]) fun t x v e f => ?_
  simp only [Am.mask, List.getElem?_mapIdx] at e
  cases hs : s[t]? with
  | none => simp [hs] at e
  | some y =>
    rw [hs] at e
    simp only [Option.map_some, Option.some.injEq] at e
    subst e
    split
    · simp [VR]
    · rename_i hn
      refine h.vals t (fun i hi o ho hd => ?_) y v hs (by simpa using f)
      apply hn
      rw [List.any_eq_true]
      exact ⟨i, hi, by simp [ho, hd]⟩

theorem wanted_of {pend : List Nat} {s : List V} {c : Cx} {a : Act} {o : Oper} (hs : c.vrs s a.tmps.toList) {b : Bool} (hg : guardOf ops o s = some b) : Region.wanted o (yielded ops a.tmps) = b := by
  unfold guardOf at hg
  unfold Region.wanted
  split at hg
  · rename_i h0
    simp only [Option.some.injEq] at hg; subst hg
    rw [h0]
  · rename_i j want h0
    rw [h0]
    simp only []
    split at hg
    · rename_i d hd
      split at hg
      · rename_i t ht
        simp only [Option.some.injEq] at hg; subst hg
        rw [yielded_of hs (by simpa using hd) ht]
        cases t <;> cases want <;> rfl
      · rename_i ht
        simp only [Option.some.injEq] at hg; subst hg
        rw [yielded_none hs (by simpa using hd) ht]
        rfl
      · cases hg
    · cases hg

theorem getD_put {s : List V} {dst : Option Tmp} {v : V} {t : Nat} (h : dst ≠ some t) : (putV s dst v).getD t .undef = s.getD t .undef := by
  cases dst with
  | none => rfl
  | some d =>
    simp only [putV, List.getD_eq_getElem?_getD]
    rw [List.getElem?_set_ne (fun e => h (by rw [e]))]

theorem putV_length (s : List V) (dst : Option Tmp) (v : V) : (putV s dst v).length = s.length := by
  cases dst <;> simp [putV]

theorem putV_get {s : List V} {dst : Option Tmp} {x : V} {t : Nat} {y : V} (h : (putV s dst x)[t]? = some y) : (dst = some t ∧ y = x) ∨ (dst ≠ some t ∧ s[t]? = some y) := by
  cases dst with
  | none => exact .inr ⟨by simp, h⟩
  | some d =>
    simp only [putV, List.getElem?_set] at h
    split at h
    · rename_i e; subst e
      split at h
      · simp at h; exact .inl ⟨rfl, h.symm⟩
      · cases h
    · rename_i e; exact .inr ⟨fun q => e (by simpa using q), h⟩

theorem put_get {a : Act} {dst : Option Tmp} {u v : Value} {t : Nat} (h : (a.put dst u).tmps[t]? = some v) : (dst = some t ∧ v = u) ∨ (dst ≠ some t ∧ a.tmps[t]? = some v) := by
  cases dst with
  | none => exact .inr ⟨by simp, h⟩
  | some d =>
    simp only [Act.put, Array.getElem?_setIfInBounds] at h
    split at h
    · rename_i e; subst e
      split at h
      · simp at h; exact .inl ⟨rfl, h.symm⟩
      · cases h
    · rename_i e; exact .inr ⟨fun q => e (by simpa using q), h⟩

theorem put_size (a : Act) (dst : Option Tmp) (u : Value) : (a.put dst u).tmps.size = a.tmps.size := by cases dst <;> simp [Act.put]
theorem put_df (a : Act) (dst : Option Tmp) (u : Value) : (a.put dst u).defers = a.defers := by cases dst <;> rfl

/-- The two facts of a region's own text. -/
structure Pairs (ops : Array Oper) (efs : List Nat) : Prop where
  dep : ∀ {i j : Nat} {oi oj : Oper} {d : Tmp}, ops[i]? = some oi → ops[j]? = some oj → oj.dst = some d → d ∈ oi.looksAt ops → j ∈ afterOf ops i ∨ (j ∈ efs ∧ (i = j ∨ i ∈ afterOf ops j))
  dst : ∀ {i j : Nat} {oi oj : Oper} {d : Tmp}, ops[i]? = some oi → ops[j]? = some oj → oi.dst = some d → oj.dst = some d → i = j

theorem pairs_of {plan : List Stp} (h : regOk P ops plan = true) : Pairs ops (efsOf plan) := by
  have hp : ∀ i j, i < ops.size → j < ops.size → pairOk ops (efsOf plan) i j = true := by
    simp only [regOk, Bool.and_eq_true] at h
    intro i j hi hj
    exact List.all_eq_true.1 (List.all_eq_true.1 h.1.1.1.1.1.1.1.1 i (by simpa using hi)) j (by simpa using hj)
  constructor
  · intro i j oi oj d ho hj hd hm
    have := hp i j (Array.getElem?_eq_some_iff.1 ho).1 (Array.getElem?_eq_some_iff.1 hj).1
    simp only [pairOk, ho, hj, hd, Bool.and_eq_true, Bool.or_eq_true, Bool.not_eq_true', List.contains_eq_mem, decide_eq_true_eq, decide_eq_false_iff_not, beq_iff_eq] at this
    rcases this.1 with (q | q) | q
    · exact absurd hm q
    · exact .inl q
    · exact .inr q
  · intro i j oi oj d ho hj hd hm
    have := hp i j (Array.getElem?_eq_some_iff.1 ho).1 (Array.getElem?_eq_some_iff.1 hj).1
    simp only [pairOk, ho, hj, hd, hm, Bool.and_eq_true, Bool.or_eq_true, bne_self_eq_false, Bool.false_eq_true, or_false, beq_iff_eq] at this
    exact this.2

theorem Inv.nopend {listed : Array Bool} {pend rest : List Nat} {s : List V} {σ : List Ob} {c : Cx} {a : Act} (h : Inv P ops efs c0 listed pend rest E s σ c a) {i : Nat} (hi : i ∈ rest) : i ∉ pend := fun q => by
  have hnd := h.nodup
  rw [List.nodup_append] at hnd
  exact hnd.2.2 i q i hi rfl

theorem Inv.elst {listed : Array Bool} {pend rest : List Nat} {s : List V} {σ : List Ob} {c : Cx} {a : Act} (h : Inv P ops efs c0 listed pend rest E s σ c a) {e : Nat × Nat} (he : e ∈ E) : Lst listed e.1 := by
  obtain ⟨h1, h2⟩ := h.ein e he
  have hlt := h.lt e.1 (by simp [h1])
  refine Classical.byContradiction fun q => ?_
  rcases (h.un e.1 hlt).1 q with q | q
  · exact h.nopend h1 q
  · exact q.2 (List.mem_map.2 ⟨e, he, rfl⟩)

/-- A ready operation looks at nothing that is pending, nor at a cell that was made too early. -/
theorem Inv.looks {listed : Array Bool} {pend rest : List Nat} {s : List V} {σ : List Ob} {c : Cx} {a : Act} (hp : Pairs ops efs) (h : Inv P ops efs c0 listed pend rest E s σ c a) {i : Nat} {o : Oper} (ho : ops[i]? = some o) (hn : ¬ Lst listed i) (hr : ∀ j ∈ afterOf ops i, Lst listed j) (htp : ∀ j ∈ afterOf ops i, Dn listed (pend ++ rest) j ∨ j ∈ pend) :
    ∀ t ∈ o.looksAt ops, s.getD t .undef = (Am.mask ops (pend ++ E.map (·.1)) s).getD t .undef := by
  intro t ht
  refine (mask_free fun j hj oj hoj hd => ?_).symm
  rcases List.mem_append.1 hj with hj | hj
  · have h1 : Lst listed j := by
      rcases hp.dep ho hoj hd ht with q | q
      · exact hr j q
      · exact absurd q.1 (h.pq j hj)
    have h2 := (h.un j (h.lt j (by simp [hj]))).2 (.inl hj)
    exact h2 h1
  · obtain ⟨e, he, rfl⟩ := List.mem_map.1 hj
    have hin := (h.ein e he).1
    rcases hp.dep ho hoj hd ht with q | ⟨_, q | q⟩
    · rcases htp e.1 q with q' | q'
      · exact q'.2 (by simp [hin])
      · exact h.nopend hin q'
    · subst q; exact hn (h.elst he)
    · exact hn (h.closed _ (h.elst he) i q)

/-- What is pending does not look at what comes later. -/
theorem Inv.pend_put {listed : Array Bool} {pend : List Nat} {i : Nat} {rest : List Nat} {s : List V} {σ : List Ob} {c : Cx} {a : Act} (hp : Pairs ops efs) (h : Inv P ops efs c0 listed pend (i :: rest) E s σ c a) {o : Oper} (ho : ops[i]? = some o) (hq : i ∉ efs ∨ ∀ k ∈ afterOf ops i, Lst listed k) (v : V) :
    ∀ j ∈ pend, PendOk P ops j (putV s o.dst v) σ := by
  intro j hj
  have g := h.ok j hj
  obtain ⟨oj, hoj, _⟩ := h.ok j hj
  have hij : i ∉ pend := h.nopend (by simp)
  refine PendOk.congr hoj (putV_length s o.dst v).symm (fun t ht => (getD_put fun e => ?_).symm) (fun d hd => (getD_put fun e => ?_).symm) g
  · rcases hp.dep hoj ho e ht with hd | ⟨he, hd | hd⟩
    · rcases Topo.pend pend (i :: rest) h.topo j hj i hd with q | q
      · exact q.2 (by simp)
      · exact hij q
    · subst hd; exact hij hj
    · rcases hq with hq | hq
      · exact hq he
      · exact (h.un j (h.lt j (by simp [hj]))).2 (.inl hj) (hq j hd)
  · have := hp.dst hoj ho hd e
    subst this
    exact hij hj

variable {Q : Exit → Act → World → Prop} {K : List V → List Ob → Prop}

theorem Ear.step {c c' : Cx} {a : Act} {e : Nat × Nat} (h : Ear P ops c0 c a e) (hE : Ext c c') (hb : e.2 < c.w.heap.size ∧ ¬ c.own e.2) {dst : Option Tmp} (u : Value) (hd : ∀ o, ops[e.1]? = some o → ∀ d, o.dst = some d → dst ≠ some d) : Ear P ops c0 c' (a.put dst u) e := by
  obtain ⟨⟨o, t, d, cs, h1, h2, h3, h4, h5, h6, vs, ty, h7, h8⟩, hn⟩ := h
  refine ⟨⟨o, t, d, cs, h1, h2, h3, h4, h5, fun v hv => ?_, vs, ty, ?_, h8⟩, hn⟩
  · rcases put_get hv with ⟨q, _⟩ | ⟨_, q⟩
    · exact absurd q (hd o h1 d h4)
    · exact h6 v q
  · rw [(hE.frame e.2 hb.1 hb.2).1, h7]

theorem ext_hid {c c' : Cx} (h : Ext c c') (hid : Hid) : Ext ⟨c.w, c.loc, hid⟩ ⟨c'.w, c'.loc, hid⟩ := ⟨rfl, h.size, h.cells, h.frame, h.loc, h.io⟩

theorem Inv.ehid {listed : Array Bool} {pend rest : List Nat} {s : List V} {σ : List Ob} {c : Cx} {a : Act} (h : Inv P ops efs c0 listed pend rest E s σ c a) {e : Nat × Nat} (he : e ∈ E) : e.2 < c.w.heap.size ∧ ¬ c.own e.2 := h.sr.hid e.2 ((h.hid e.2).2 (.inr (List.mem_map.2 ⟨e, he, rfl⟩)))

theorem Inv.done_step {listed : Array Bool} {pend rest pend' rest' : List Nat} {s s' : List V} {σ σ' : List Ob} {c c' : Cx} {a : Act} (hp : Pairs ops efs) (h : Inv P ops efs c0 listed pend rest E s σ c a) {i : Nat} {o : Oper} (ho : ops[i]? = some o) (u : Value) (hE : Ext c c') (hi : i < ops.size) (hmem : i ∈ pend ++ rest) (hie : i ∉ E.map (·.1)) (hr : ∀ j ∈ afterOf ops i, Lst listed j)
    (hl : pend' ++ rest' = (pend ++ rest).erase i) (hrr : ∀ k ∈ rest, k ≠ i → k ∈ rest') (hpr : ∀ k ∈ pend', k ∈ pend) (hrp : ∀ k ∈ rest', k ∈ rest) (sr : SR c' σ') (len : s'.length = a.tmps.size)
    (vals : ∀ t, (∀ i ∈ pend' ++ E.map (·.1), ∀ o, ops[i]? = some o → o.dst ≠ some t) → ∀ x v, s'[t]? = some x → (a.put o.dst u).tmps[t]? = some v → c'.vr x v) (ok : ∀ i ∈ pend', PendOk P ops i s' σ') (pq : ∀ i ∈ pend', i ∉ efs) :
    Inv P ops efs c0 (listed.setIfInBounds i true) pend' rest' E s' σ' c' (a.put o.dst u) := by
  have hil : i < listed.size := by rw [h.sizeL]; exact hi
  have hmem' : ∀ k, (k ∈ pend' ∨ k ∈ rest') ↔ (k ∈ pend ∨ k ∈ rest) ∧ k ≠ i := by
    intro k
    rw [← List.mem_append, ← List.mem_append, hl, h.nodup.mem_erase_iff]
    exact And.comm
  have hnl : i ∉ pend' ++ rest' := by rw [hl]; exact fun q => (h.nodup.mem_erase_iff.1 q).1 rfl
  refine ⟨sr, by rw [put_df, hE.hid]; exact h.df, by rw [put_size]; exact len, vals, by simp [h.sizeL], fun k hk => ?_, fun k hk => ?_, ?_, ?_, ?_, ok, pq, fun e he => ⟨?_, (h.ein e he).2⟩, fun e he => ?_, h.enod, h.bnod, fun b => by rw [hE.hid]; exact h.hid b, by rw [hE.hid]; exact h.hdf, h.ext.trans (ext_hid hE c0.hid), h.h0⟩
  · rw [lst_set hil]
    constructor
    · intro q
      have q1 : ¬ Lst listed k := fun e => q (.inl e)
      have q2 : k ≠ i := fun e => q (.inr e)
      rcases (h.un k hk).1 q1 with g | g
      · rcases (hmem' k).2 ⟨.inl g, q2⟩ with g' | g'
        · exact .inl g'
        · exact absurd g (h.nopend (hrp k g'))
      · exact .inr ⟨hrr k g.1 q2, g.2⟩
    · rintro (q | q) (g | g)
      · exact (h.un k hk).2 (.inl (hpr k q)) g
      · subst g; exact hnl (by simp [q])
      · exact (h.un k hk).2 (.inr ⟨hrp k q.1, q.2⟩) g
      · subst g; exact hnl (by simp [q.1])
  · rw [hl] at hk
    exact h.lt k (List.mem_of_mem_erase hk)
  · rw [hl]; exact h.nodup.erase i
  · intro k hk j hj
    rw [lst_set hil] at hk ⊢
    rcases hk with q | q
    · exact .inl (h.closed k q j hj)
    · subst q; exact .inl (hr j hj)
  · have := Topo.erase _ _ i h.topo
    rw [← hl] at this
    refine Topo.mono _ _ _ (fun k q => ?_) this
    rcases q with q | q
    · exact ⟨(lst_set hil k).2 (.inl q.1), fun g => q.2 (by rw [hl] at g; exact List.mem_of_mem_erase g)⟩
    · subst q; exact ⟨(lst_set hil k).2 (.inr rfl), hnl⟩
  · exact hrr e.1 (h.ein e he).1 fun q => hie (q ▸ List.mem_map.2 ⟨e, he, rfl⟩)
  · refine (h.ear e he).step hE (h.ehid he) u fun oe hoe d hd hq => ?_
    exact hie (hp.dst ho hoe hq hd ▸ List.mem_map.2 ⟨e, he, rfl⟩)

theorem chkA_mem {s : List V} {σ : List Ob} : ∀ {l : List (Nat × Bool)}, chkA P ops l s σ → ∀ q ∈ l, chk1 P ops q s σ
  | [], _, q, hq => by simp at hq
  | p :: r, h, q, hq => by
    rcases List.mem_cons.1 hq with rfl | hq
    · exact h.1
    · exact chkA_mem h.2 q hq

theorem wpOp_wanted {i : Nat} {o : Oper} (ho : ops[i]? = some o) {a : Act} {w : World} {R : Act → World → Prop} (hw : Region.wanted o (yielded ops a.tmps) = true) (h : o.wp P a w R Q ∨ (o.asks P a w ∧ LetsOut Q)) : wpOp P ops Q i R a w := by
  unfold wpOp
  simp only [ho, hw, if_true]
  exact h

theorem wpOp_unwanted {i : Nat} {o : Oper} (ho : ops[i]? = some o) {a : Act} {w : World} {R : Act → World → Prop} (hw : Region.wanted o (yielded ops a.tmps) = false) (h : R (a.put o.dst undef) w) : wpOp P ops Q i R a w := by
  unfold wpOp
  simp only [ho, hw, Bool.false_eq_true, if_false]
  exact h

theorem vals_put {pend pend' : List Nat} {i : Nat} {o : Oper} (ho : ops[i]? = some o) (hsub : ∀ j ∈ pend, j ≠ i → j ∈ pend') {s s' : List V} {c c' : Cx} {a : Act} {u : Value}
    (vals : ∀ t, (∀ i ∈ pend, ∀ o, ops[i]? = some o → o.dst ≠ some t) → ∀ x v, s[t]? = some x → a.tmps[t]? = some v → c.vr x v) (hE : ∀ x v, c.vr x v → c'.vr x v)
    (hs : ∀ t x, s'[t]? = some x → (o.dst = some t ∧ c'.vr x u) ∨ (o.dst ≠ some t ∧ s[t]? = some x)) :
    ∀ t, (∀ i ∈ pend', ∀ o, ops[i]? = some o → o.dst ≠ some t) → ∀ x v, s'[t]? = some x → (a.put o.dst u).tmps[t]? = some v → c'.vr x v := by
  intro t ht x v hx hv
  rcases put_get hv with ⟨h1, rfl⟩ | ⟨h1, h2⟩
  · rcases hs t x hx with ⟨_, q⟩ | ⟨q, _⟩
    · exact q
    · exact absurd h1 q
  · rcases hs t x hx with ⟨q, _⟩ | ⟨_, q⟩
    · exact absurd q h1
    · refine hE _ _ (vals t (fun j hj oj hoj hd => ?_) x v q h2)
      by_cases e : j = i
      · subst e
        rw [ho] at hoj; cases hoj
        exact h1 hd
      · exact ht j (hsub j hj e) oj hoj hd

theorem first_not (F : List Nat) : ∀ l : List Nat, (∃ x ∈ l, x ∉ F) → ∃ p x r, l = p ++ x :: r ∧ (∀ y ∈ p, y ∈ F) ∧ x ∉ F
  | [], h => by obtain ⟨x, hx, _⟩ := h; cases hx
  | y :: l, h => by
    by_cases q : y ∈ F
    · obtain ⟨x, hx, hn⟩ := h
      rcases List.mem_cons.1 hx with rfl | hx
      · exact absurd q hn
      · obtain ⟨p, x', r, h1, h2, h3⟩ := first_not F l ⟨x, hx, hn⟩
        refine ⟨y :: p, x', r, by rw [h1]; rfl, fun z hz => ?_, h3⟩
        rcases List.mem_cons.1 hz with rfl | hz
        · exact q
        · exact h2 z hz
    · exact ⟨[], y, l, rfl, by simp, q⟩

theorem Inv.some_ready {listed : Array Bool} {pend rest : List Nat} {s : List V} {σ : List Ob} {c : Cx} {a : Act} (inv : Inv P ops efs c0 listed pend rest E s σ c a) (hx : ∃ x ∈ pend ++ rest, x ∉ E.map (·.1)) : Region.ready .any ops listed ≠ [] := by
  intro h0
  obtain ⟨p, x, r, hL, hp, hn⟩ := first_not _ _ hx
  have ht := inv.topo
  have hxm : x ∈ pend ++ rest := by rw [hL]; simp
  have hlt := inv.lt x hxm
  have hun : ¬ Lst listed x := (inv.un x hlt).2 ((List.mem_append.1 hxm).imp id fun q => ⟨q, hn⟩)
  have := ready_of inv.sizeL hlt hun fun j hj => ?_
  · rw [h0] at this
    cases this
  · have ht' : Topo ops (Dn listed (pend ++ rest)) (p ++ x :: r) := by rw [← hL]; exact ht
    rcases Topo.next p x r ht' j hj with q | q
    · exact q.1
    · obtain ⟨e, he, rfl⟩ := List.mem_map.1 (hp j q)
      exact inv.elst he

theorem pend_step (m : Nat) (rest : List Nat) (hp : Pairs ops efs) {listed : Array Bool} {pend : List Nat} {s : List V} {σ : List Ob} {c : Cx} {a : Act} (inv : Inv P ops efs c0 listed pend rest E s σ c a) {i : Nat} (hi : i ∈ pend) (hr : ∀ j ∈ afterOf ops i, Lst listed j)
    (go : ∀ listed pend' c' a', Inv P ops efs c0 listed pend' rest E s σ c' a' → (∀ j ∈ pend', j ∈ pend) → pend'.length + 1 = pend.length → wpAny P .any ops Q m listed a' c'.w) :
    wpOp P ops Q i (wpAny P .any ops Q m (listed.setIfInBounds i true)) a c.w := by
  obtain ⟨o, ho, hok⟩ := inv.ok i hi
  have hni : ¬ Lst listed i := (inv.un i (inv.lt i (by simp [hi]))).2 (.inl hi)
  have hlk := inv.looks hp ho hni hr (fun j hj => Topo.pend pend rest inv.topo i hi j hj)
  have hrel := inv.mask
  have hw : ∀ b, guardOf ops o s = some b → Region.wanted o (yielded ops a.tmps) = b := fun b hb => wanted_of (pend := pend) hrel.sl (by rw [← guardOf_congr hlk]; exact hb)
  have hsub : ∀ j ∈ pend.erase i, j ∈ pend := fun j hj => List.mem_of_mem_erase hj
  have hl : pend.erase i ++ rest = (pend ++ rest).erase i := (List.erase_append_left _ hi).symm
  have hlen : (pend.erase i).length + 1 = pend.length := by
    rw [List.length_erase_of_mem hi]
    have := List.length_pos_of_mem hi
    omega
  have hie : i ∉ E.map (·.1) := fun q => by
    obtain ⟨e, he, rfl⟩ := List.mem_map.1 q
    exact inv.nopend (inv.ein e he).1 hi
  have hkeep : ∀ j ∈ pend ++ E.map (·.1), j ≠ i → j ∈ pend.erase i ++ E.map (·.1) := fun j hj hne => by
    rcases List.mem_append.1 hj with q | q
    · exact List.mem_append.2 (.inl ((List.mem_erase_of_ne hne).2 q))
    · exact List.mem_append.2 (.inr q)
  have hlt := inv.lt i (by simp [hi])
  have hir : ∀ k ∈ rest, k ≠ i → k ∈ rest := fun k hk _ => hk
  rcases hok with ⟨hg, al, v, hv, hd⟩ | ⟨hg, hd⟩
  · refine wpOp_wanted ho (hw _ hg) (.inl ?_)
    rw [doQ_congr (get_congr_looks hlk)] at hv
    obtain ⟨u, w', h1, h2, h3, h4⟩ := doQ_sound hrel.sr hrel.sl hv
    unfold Oper.wp
    rw [h1, Oper.upon_value]
    refine go _ (pend.erase i) ⟨w', c.loc, c.hid⟩ (a.put o.dst u) ?_ hsub hlen
    refine inv.done_step hp ho u h3 hlt (by simp [hi]) hie hr hl hir hsub (fun k hk => hk) h2 inv.len ?_ (fun j hj => inv.ok j (hsub j hj)) (fun j hj => inv.pq j (hsub j hj))
    refine vals_put ho hkeep inv.vals (fun x v => h3.vr) fun t y hy => ?_
    by_cases e : o.dst = some t
    · have hlt' := (List.getElem?_eq_some_iff.1 hy).1
      have := hd t e hlt'
      rw [List.getD_eq_getElem?_getD, hy] at this
      simp at this
      subst this
      exact .inl ⟨e, h4⟩
    · exact .inr ⟨e, hy⟩
  · refine wpOp_unwanted ho (hw _ hg) ?_
    refine go _ (pend.erase i) c (a.put o.dst undef) ?_ hsub hlen
    refine inv.done_step hp ho undef (Ext.refl c) hlt (by simp [hi]) hie hr hl hir hsub (fun k hk => hk) inv.sr inv.len ?_ (fun j hj => inv.ok j (hsub j hj)) (fun j hj => inv.pq j (hsub j hj))
    refine vals_put ho hkeep inv.vals (fun x v h => h) fun t y hy => ?_
    by_cases e : o.dst = some t
    · have := hd t e (List.getElem?_eq_some_iff.1 hy).1
      rw [List.getD_eq_getElem?_getD, hy] at this
      simp at this
      subst this
      exact .inl ⟨e, VR_none⟩
    · exact .inr ⟨e, hy⟩

/-- An object stays where its block has not changed. -/
theorem OR.keepg {c c' : Cx} (hi : c.im.Le c'.im) (hl : locLe c.loc c'.loc) (hc : Cells c.w c'.w) {l : Loc} {x : Ob} (r : OR c l x) (hb : ∀ b base sz, l = .here b base sz → c'.w.heap[b]? = c.w.heap[b]?) : OR c' l x := by
  cases x with
  | dead => exact r
  | box cs =>
    obtain ⟨b, sz, rfl, arr, e, f, h1, h2, vs, rest, hv, h3⟩ := r
    exact ⟨b, sz, rfl, arr, e, f, by rw [hb _ _ _ rfl]; exact h1, h2, vs, rest, hv, VRs_mono hi hl hc cs vs h3⟩
  | vec sz cs =>
    obtain ⟨b, base, rfl, h0, arr, e, f, h1, h2, us, hle, hat, h3⟩ := r
    exact ⟨b, base, rfl, h0, arr, e, f, by rw [hb _ _ _ rfl]; exact h1, h2, us, hle, hat, VRs_mono hi hl hc cs us h3⟩
  | arr sz mk es =>
    rcases r with r | ⟨b, base, rfl, h0, arr, e, f, h1, h2, h3, h4⟩
    · exact .inl r
    · exact .inr ⟨b, base, rfl, h0, arr, e, f, by rw [hb _ _ _ rfl]; exact h1, h2, h3, RowsR_mono hi es b base sz (fun o => cell?_of_heap (hb _ _ _ rfl) o) h4⟩
  | map es clk =>
    obtain ⟨b, rfl, ents, h1, h2, h3⟩ := r
    exact ⟨b, rfl, ents, by rw [hb _ _ _ rfl]; exact h1, h2.imp hi fun x v q => VR_mono hi hl hc x v q, h3⟩
  | mit m since seen last =>
    obtain ⟨b, rfl, r, h1, h2⟩ := r
    exact ⟨b, rfl, r, by rw [hb _ _ _ rfl]; exact h1, VR_mono hi hl hc m _ h2⟩
  | sit s pos =>
    obtain ⟨b, rfl, h1⟩ := r
    exact ⟨b, rfl, by rw [hb _ _ _ rfl]; exact h1⟩

def aside (l : List Nat) (F : List Nat) : List Nat := l.filter fun k => decide (k ∉ F)
theorem aside_cons {l F : List Nat} {k : Nat} : ∀ {l : List Nat}, l.Nodup → k ∈ l → k ∉ F → (aside l (k :: F)).length + 1 = (aside l F).length
  | [], _, h, _ => by cases h
  | x :: l, hn, h, hF => by
    rw [List.nodup_cons] at hn
    by_cases q : x = k
    · subst q
      have e : aside l (x :: F) = aside l F := by
        unfold aside
        refine List.filter_congr fun y hy => ?_
        have : y ≠ x := fun g => hn.1 (g ▸ hy)
        simp [this]
      have e2 : aside (x :: l) (x :: F) = aside l (x :: F) := by simp [aside]
      have e1 : aside (x :: l) F = x :: aside l F := by simp [aside, hF]
      rw [e2, e1, e, List.length_cons]
    · have hk : k ∈ l := by
        rcases List.mem_cons.1 h with g | g
        · exact absurd g.symm q
        · exact g
      have ih := aside_cons (F := F) (l := l) hn.2 hk hF
      by_cases g : x ∈ F
      · have e1 : aside (x :: l) F = aside l F := by simp [aside, g]
        have e2 : aside (x :: l) (k :: F) = aside l (k :: F) := by simp [aside, g]
        rw [e1, e2]; exact ih
      · have e1 : aside (x :: l) F = x :: aside l F := by simp [aside, g]
        have e2 : aside (x :: l) (k :: F) = x :: aside l (k :: F) := by simp [aside, g, q]
        rw [e1, e2, List.length_cons, List.length_cons]; omega

theorem locLe.rfl' (l : Nat → Loc) : locLe l l := fun _ => .inl rfl

/-- A cell that is made ahead of its place. -/
theorem Inv.early {listed : Array Bool} {pend rest : List Nat} {s : List V} {σ : List Ob} {c : Cx} {a : Act} (hp : Pairs ops efs) (inv : Inv P ops efs c0 listed pend rest E s σ c a) {k : Nat} (hk : k ∈ rest) (hke : k ∉ E.map (·.1)) (hka : isAl ops k = true) (hr : ∀ j ∈ afterOf ops k, Lst listed j)
    (hz : ∀ o t, ops[k]? = some o → o.op = .alloc t → (zeroCs P t).isSome = true) {m : Nat}
    (go : ∀ listed c' a' b, Inv P ops efs c0 listed pend rest ((k, b) :: E) s σ c' a' → wpAny P .any ops Q m listed a' c'.w) :
    wpOp P ops Q k (wpAny P .any ops Q m (listed.setIfInBounds k true)) a c.w := by
  obtain ⟨o, t, d, ho, hop, hg, hd⟩ := isAl_some hka
  obtain ⟨cs, hcs⟩ := Option.isSome_iff_exists.1 (hz o t ho hop)
  have hlt := inv.lt k (by simp [hk])
  have hil : k < listed.size := by rw [inv.sizeL]; exact hlt
  have hw : Region.wanted o (yielded ops a.tmps) = true := by unfold Region.wanted; rw [hg]
  refine wpOp_wanted ho hw (.inl ?_)
  have hcs' := hcs
  unfold zeroCs at hcs'
  split at hcs'
  case h_2 => cases hcs'
  rename_i i hi
  cases hzz : i.zero with
  | none => rw [hzz] at hcs'; cases hcs'
  | some z =>
    rw [hzz] at hcs'; simp at hcs'
    have hrun : (execOp a.eval o).run P c.w = .ok (.value (.pointer (some ⟨c.w.heap.size, 0, none⟩))) { c.w with heap := c.w.heap.push (.cells z.cells.toList.toArray t) } := by
      simp [execOp, hop, Instr.alloc, zeroValue, typeInfo, hi, hzz, newVar, newRow]
    unfold Oper.wp
    rw [hrun, Oper.upon_value]
    let w' : World := { c.w with heap := c.w.heap.push (.cells z.cells.toList.toArray t) }
    let b := c.w.heap.size
    let c' : Cx := ⟨w', c.loc, ⟨fun x => c.hid.blk x ∨ x = b, c.hid.df⟩⟩
    have e1 : w'.heap.size = c.w.heap.size + 1 := by simp [w']
    have e2 : ∀ b', b' < c.w.heap.size → w'.heap[b']? = c.w.heap[b']? := fun b' hb => heap_push_lt hb
    have hcl : Cells c.w w' := fun b' cs' ty f q => ⟨cs', f, by rw [e2 b' (Array.getElem?_eq_some_iff.1 q).1]; exact q, rfl⟩
    have hX : Ext c ⟨w', c.loc, c.hid⟩ := ⟨rfl, by simp only [e1]; omega, hcl, fun b' hb ho => ⟨e2 b' hb, ho⟩, fun _ => .inl rfl, rfl, rfl, rfl⟩
    have him : c.im.Le c'.im := fun b' hb => ⟨⟨by show b' < w'.heap.size; have := hb.1; omega, hb.2.1, fun q => q.elim hb.2.2 fun g => by have := hb.1; omega⟩, fun o => cell?_of_heap (e2 b' hb.1) o⟩
    have hv : ∀ x v, c.vr x v → c'.vr x v := fun x v => VR_mono him (locLe.rfl' _) hcl x v
    have hS : SR c' σ := by
      refine ⟨fun o => ?_, inv.sr.inj, fun b' hb => ?_, inv.sr.gl.le him⟩
      · have r := inv.sr.obj o
        show ORo c' (c.loc o) σ[o]?
        cases hx : σ[o]? with
        | none => rw [hx] at r; exact r
        | some x => rw [hx] at r; exact OR.keepg him (locLe.rfl' _) hcl r fun b' base sz hl => e2 b' (inv.sr.lt hl)
      · rcases hb with hb | rfl
        · obtain ⟨g1, g2⟩ := inv.sr.hid b' hb
          exact ⟨by show b' < w'.heap.size; omega, g2⟩
        · refine ⟨by show b < w'.heap.size; omega, ?_⟩
          rintro ⟨o, base, sz, q⟩
          have := inv.sr.lt (o := o) q
          exact absurd this (Nat.lt_irrefl _)
    have hbE : b ∉ E.map (·.2) := fun q => by
      obtain ⟨e, he, h2⟩ := List.mem_map.1 q
      have := (inv.ehid he).1
      rw [h2] at this
      exact absurd this (Nat.lt_irrefl _)
    have hun0 : ¬ Lst listed k := (inv.un k hlt).2 (.inr ⟨hk, hke⟩)
    refine go _ c' (a.put o.dst (.pointer (some ⟨b, 0, none⟩))) b ⟨hS, by rw [put_df]; exact inv.df, by rw [put_size]; exact inv.len, ?_, by simp [inv.sizeL], fun j hj => ?_, inv.lt, inv.nodup, fun i hi j hj => ?_, ?_, inv.ok, inv.pq, fun e he => ?_, fun e he => ?_, ?_, ?_, fun x => ?_, inv.hdf, inv.ext.trans (ext_hid hX c0.hid), inv.h0⟩
    · intro t' ht x v hx hv'
      rcases put_get hv' with ⟨q, _⟩ | ⟨_, q⟩
      · exact absurd q (ht k (by simp) o ho)
      · exact hv _ _ (inv.vals t' (fun j hj => ht j (by simp only [List.map_cons, List.mem_append, List.mem_cons] at hj ⊢; rcases hj with hj | hj <;> simp [hj])) x v hx q)
    · rw [lst_set hil]
      constructor
      · intro q
        have q1 : ¬ Lst listed j := fun e => q (.inl e)
        rcases (inv.un j hj).1 q1 with g | g
        · exact .inl g
        · exact .inr ⟨g.1, fun h => by
            rcases List.mem_cons.1 h with h | h
            · exact q (.inr h)
            · exact g.2 h⟩
      · rintro (q | q) (g | g)
        · exact (inv.un j hj).2 (.inl q) g
        · subst g; exact inv.nopend hk q
        · exact (inv.un j hj).2 (.inr ⟨q.1, fun h => q.2 (List.mem_cons_of_mem _ h)⟩) g
        · subst g; exact q.2 (by simp)
    · rw [lst_set hil] at hi ⊢
      rcases hi with q | q
      · exact .inl (inv.closed i q j hj)
      · subst q; exact .inl (hr j hj)
    · exact Topo.mono _ _ _ (fun j q => ⟨(lst_set hil j).2 (.inl q.1), q.2⟩) inv.topo
    · rcases List.mem_cons.1 he with rfl | he
      · exact ⟨hk, hka⟩
      · exact inv.ein e he
    · rcases List.mem_cons.1 he with rfl | he
      · refine ⟨⟨o, t, d, cs, ho, hop, hg, hd, hcs, fun v hv' => ?_, z.cells.toList, t, heap_push_at, hcs'.symm⟩, ?_⟩
        · rcases put_get hv' with ⟨_, q⟩ | ⟨q, _⟩
          · exact q
          · exact absurd hd q
        · have := inv.ext.size
          exact this
      · obtain ⟨⟨oe, te, de, ce, h1, h2, h3, h4, h5, h6, vs, ty, h7, h8⟩, hn⟩ := inv.ear e he
        refine ⟨⟨oe, te, de, ce, h1, h2, h3, h4, h5, fun v hv' => ?_, vs, ty, ?_, h8⟩, hn⟩
        · rcases put_get hv' with ⟨q, _⟩ | ⟨_, q⟩
          · exact absurd (hp.dst ho h1 q h4 ▸ List.mem_map.2 ⟨e, he, rfl⟩) hke
          · exact h6 v q
        · show w'.heap[e.2]? = _
          rw [e2 _ (inv.ehid he).1, h7]
    · simp only [List.map_cons, List.nodup_cons]; exact ⟨hke, inv.enod⟩
    · simp only [List.map_cons, List.nodup_cons]; exact ⟨hbE, inv.bnod⟩
    · show (c.hid.blk x ∨ x = b) ↔ _
      rw [inv.hid x]
      simp only [List.map_cons, List.mem_cons]
      constructor
      · rintro ((q | q) | q)
        · exact .inl q
        · exact .inr (.inr q)
        · exact .inr (.inl q)
      · rintro (q | q | q)
        · exact .inl (.inl q)
        · exact .inr q
        · exact .inl (.inr q)

/-- The plan comes to a cell that was made before. -/
theorem Inv.adopt {listed : Array Bool} {pend : List Nat} {k : Nat} {r : List Nat} {s : List V} {σ : List Ob} {c : Cx} {a : Act} (hp : Pairs ops efs) (inv : Inv P ops efs c0 listed pend (k :: r) E s σ c a) {b : Nat} (he : (k, b) ∈ E) :
    ∃ o t cs, ops[k]? = some o ∧ o.op = .alloc t ∧ o.guard = none ∧ zeroCs P t = some cs ∧
      ((∀ j ∈ pend, PendOk P ops j (putV s o.dst (.ptr σ.length 0 0)) (σ ++ [.box cs])) → ∃ c', c'.w = c.w ∧ Inv P ops efs c0 listed pend r (E.erase (k, b)) (putV s o.dst (.ptr σ.length 0 0)) (σ ++ [.box cs]) c' a) := by
  obtain ⟨⟨o, t, d, cs, ho, hop, hg, hd, hcs, htm, vs, ty, hheap, hvs⟩, hnew⟩ := inv.ear _ he
  simp only at ho htm hheap hnew
  refine ⟨o, t, cs, ho, hop, hg, hcs, fun hok => ?_⟩
  have hb := inv.ehid he
  simp only at hb
  let c' : Cx := ⟨c.w, upd c.loc σ.length (.here b 0 cs.length), ⟨fun x => c.hid.blk x ∧ x ≠ b, c.hid.df⟩⟩
  have hub := inv.sr.unborn (Nat.le_refl σ.length)
  have hown : ∀ x, c'.own x → c.own x ∨ x = b := by
    rintro x ⟨o', base, sz, q⟩
    by_cases g : o' = σ.length
    · subst g
      have q' : Loc.here b 0 cs.length = .here x base sz := by simpa [c'] using q
      injection q' with q1
      exact .inr q1.symm
    · have q' : c.loc o' = .here x base sz := by rw [← upd_other c.loc (.here b 0 cs.length) g]; exact q
      exact .inl ⟨o', base, sz, q'⟩
  have hloc : locLe c.loc c'.loc := fun o' => by
    by_cases g : o' = σ.length
    · subst g; exact .inr (.inr hub)
    · exact .inl (upd_other _ _ g)
  have hhid : c.hid.blk b := (inv.hid b).2 (.inr (List.mem_map.2 ⟨_, he, rfl⟩))
  have him : c.im.Le c'.im := fun x hx => ⟨⟨hx.1, fun q => (hown x q).elim hx.2.1 fun g => hx.2.2 (g ▸ hhid), fun q => hx.2.2 q.1⟩, fun _ => rfl⟩
  have hcl : Cells c.w c'.w := fun _ cs _ f q => ⟨cs, f, q, rfl⟩
  have hv : ∀ x v, c.vr x v → c'.vr x v := fun x v => VR_mono him hloc hcl x v
  have hlen : vs.length = cs.length := by rw [hvs]; simp
  have hS : SR c' (σ ++ [.box cs]) := by
    refine ⟨fun o' => ?_, ?_, fun x hx => ?_, inv.sr.gl.le him⟩
    · show ORo c' (upd c.loc σ.length _ o') _
      rcases Nat.lt_trichotomy o' σ.length with g | g | g
      · rw [List.getElem?_append_left g, upd_other _ _ (Nat.ne_of_lt g), List.getElem?_eq_getElem g]
        exact OR.keepg him hloc hcl (inv.sr.get (List.getElem?_eq_getElem g)) fun _ _ _ _ => rfl
      · subst g
        simp only [upd_same, List.getElem?_concat_length]
        refine ⟨b, cs.length, rfl, vs.toArray, ty, (0, 0), hheap, ?_, vs, [], by simp, ?_⟩
        · exact unfrozen0 _
        · rw [hvs]; exact VRs_map_sc _ _ _ vs
      · rw [List.getElem?_eq_none (by simp; omega), upd_other _ _ (Nat.ne_of_gt g)]
        exact inv.sr.unborn (Nat.le_of_lt g)
    · intro o1 o2 x ba sz ba' sz' q1 q2
      have key : ∀ o' ba sz, c'.loc o' = .here x ba sz → (o' = σ.length ∧ x = b) ∨ (o' ≠ σ.length ∧ c.loc o' = .here x ba sz) := by
        intro o' ba sz q
        by_cases g : o' = σ.length
        · subst g
          have q' : Loc.here b 0 cs.length = .here x ba sz := by simpa [c'] using q
          injection q' with q3
          exact .inl ⟨rfl, q3.symm⟩
        · exact .inr ⟨g, by rw [← upd_other c.loc (.here b 0 cs.length) g]; exact q⟩
      rcases key _ _ _ q1 with ⟨g1, g2⟩ | ⟨g1, g2⟩ <;> rcases key _ _ _ q2 with ⟨l1, l2⟩ | ⟨l1, l2⟩
      · rw [g1, l1]
      · exact (hb.2 ⟨o2, _, _, g2 ▸ l2⟩).elim
      · exact (hb.2 ⟨o1, _, _, l2 ▸ g2⟩).elim
      · exact inv.sr.inj g2 l2
    · obtain ⟨g1, g2⟩ := inv.sr.hid x hx.1
      exact ⟨g1, fun q => (hown x q).elim g2 hx.2⟩
  have hE1 : ∀ e ∈ E.erase (k, b), e ∈ E ∧ e.1 ≠ k ∧ e.2 ≠ b := fun e hm => by
    have hm' := List.mem_of_mem_erase hm
    have hnd : E.Nodup := List.Pairwise.imp (fun h q => h (congrArg Prod.fst q)) (List.pairwise_map.1 inv.enod)
    have hne : e ≠ (k, b) := fun q => (hnd.mem_erase_iff.1 hm).1 q
    refine ⟨hm', fun q => hne ?_, fun q => hne ?_⟩
    · obtain ⟨i1, g1⟩ := List.getElem_of_mem hm'
      obtain ⟨i2, g2⟩ := List.getElem_of_mem he
      obtain ⟨h1, g1⟩ := g1
      obtain ⟨h2, g2⟩ := g2
      have : i1 = i2 := (List.getElem_inj (xs := E.map (·.1)) (h₀ := by simpa using h1) (h₁ := by simpa using h2) inv.enod).1 (by simp [g1, g2, q])
      subst this
      rw [← g1, g2]
    · obtain ⟨i1, g1⟩ := List.getElem_of_mem hm'
      obtain ⟨i2, g2⟩ := List.getElem_of_mem he
      obtain ⟨h1, g1⟩ := g1
      obtain ⟨h2, g2⟩ := g2
      have : i1 = i2 := (List.getElem_inj (xs := E.map (·.2)) (h₀ := by simpa using h1) (h₁ := by simpa using h2) inv.bnod).1 (by simp [g1, g2, q])
      subst this
      rw [← g1, g2]
  have hE2 : ∀ e ∈ E, e ≠ (k, b) → e ∈ E.erase (k, b) := fun e hm hne => (List.mem_erase_of_ne hne).2 hm
  have hkr : k ∉ r := fun q => by
    have := inv.nodup
    rw [List.nodup_append] at this
    exact (List.nodup_cons.1 this.2.1).1 q
  have hkl : Lst listed k := inv.elst he
  refine ⟨c', rfl, hS, inv.df, by rw [putV_length]; exact inv.len, ?_, inv.sizeL, fun j hj => ?_, fun j hj => inv.lt j (by rcases List.mem_append.1 hj with q | q <;> simp [q]), ?_, inv.closed, ?_, hok, inv.pq, fun e hm => ?_, fun e hm => ?_, ?_, ?_, fun x => ?_, inv.hdf, ?_, inv.h0⟩
  · intro t' ht x v hx hv'
    rcases putV_get hx with ⟨q, rfl⟩ | ⟨q, hx'⟩
    · rw [hd] at q
      simp only [Option.some.injEq] at q; subst q
      rw [htm v hv']
      simp [Cx.vr, VR, c']
    · refine hv _ _ (inv.vals t' (fun j hj oj hoj hdj => ?_) x v hx' hv')
      by_cases g : j = k
      · subst g; rw [ho] at hoj; cases hoj; exact q hdj
      · refine ht j ?_ oj hoj hdj
        rcases List.mem_append.1 hj with q | q
        · exact List.mem_append.2 (.inl q)
        · obtain ⟨e, hm, rfl⟩ := List.mem_map.1 q
          exact List.mem_append.2 (.inr (List.mem_map.2 ⟨e, hE2 e hm fun h => g (by rw [h]), rfl⟩))
  · rw [inv.un j hj]
    constructor
    · rintro (q | ⟨q1, q2⟩)
      · exact .inl q
      · rcases List.mem_cons.1 q1 with g | g
        · subst g; exact absurd (List.mem_map.2 ⟨_, he, rfl⟩) q2
        · exact .inr ⟨g, fun h => by
            obtain ⟨e, hm, rfl⟩ := List.mem_map.1 h
            exact q2 (List.mem_map.2 ⟨e, (hE1 e hm).1, rfl⟩)⟩
    · rintro (q | ⟨q1, q2⟩)
      · exact .inl q
      · refine .inr ⟨List.mem_cons_of_mem _ q1, fun h => ?_⟩
        obtain ⟨e, hm, rfl⟩ := List.mem_map.1 h
        refine q2 (List.mem_map.2 ⟨e, hE2 e hm fun g => ?_, rfl⟩)
        subst g
        exact hkr q1
  · have := inv.nodup
    rw [List.nodup_append] at this ⊢
    exact ⟨this.1, (List.nodup_cons.1 this.2.1).2, fun x hx y hy => this.2.2 x hx y (List.mem_cons_of_mem _ hy)⟩
  · have hkp := inv.nopend (i := k) (by simp)
    have e0 : (pend ++ k :: r).erase k = pend ++ r := by rw [List.erase_append_right _ hkp]; simp
    have := Topo.erase _ _ k inv.topo
    rw [e0] at this
    refine Topo.mono _ _ _ (fun j q => ?_) this
    rcases q with q | q
    · exact ⟨q.1, fun g => q.2 (by rcases List.mem_append.1 g with g | g <;> simp [g])⟩
    · subst q
      refine ⟨hkl, fun g => ?_⟩
      rcases List.mem_append.1 g with g | g
      · exact hkp g
      · exact hkr g
  · obtain ⟨h1, h2, h3⟩ := hE1 e hm
    obtain ⟨g1, g2⟩ := inv.ein e h1
    exact ⟨(List.mem_cons.1 g1).resolve_left h2, g2⟩
  · obtain ⟨h1, _, _⟩ := hE1 e hm
    exact ⟨(inv.ear e h1).ex, (inv.ear e h1).new⟩
  · exact (List.Sublist.map _ (List.erase_sublist)).nodup inv.enod
  · exact (List.Sublist.map _ (List.erase_sublist)).nodup inv.bnod
  · show (c.hid.blk x ∧ x ≠ b) ↔ _
    rw [inv.hid x]
    constructor
    · rintro ⟨q | q, g⟩
      · exact .inl q
      · obtain ⟨e, hm, rfl⟩ := List.mem_map.1 q
        exact .inr (List.mem_map.2 ⟨e, hE2 e hm fun h => g (by rw [h]), rfl⟩)
    · rintro (q | q)
      · refine ⟨.inl q, fun g => ?_⟩
        subst g
        -- a block hidden from the start is older than the cell
        have h1 := inv.ext.size
        exact absurd q (fun q => by
          have := inv.h0 _ q
          omega)
      · obtain ⟨e, hm, rfl⟩ := List.mem_map.1 q
        obtain ⟨h1, _, h3⟩ := hE1 e hm
        exact ⟨.inr (List.mem_map.2 ⟨e, h1, rfl⟩), h3⟩
  · have hx := inv.ext
    refine ⟨rfl, hx.size, hx.cells, fun x hxs hxo => ?_, fun o' => ?_, hx.io⟩
    · obtain ⟨g1, g2⟩ := hx.frame x hxs hxo
      refine ⟨g1, fun q => ?_⟩
      rcases hown x q with q | q
      · exact g2 q
      · subst q; omega
    · by_cases g : o' = σ.length
      · subst g
        refine .inr (.inr ?_)
        rcases hx.loc σ.length with q | q | q
        · exact q.symm.trans hub
        · rw [show (Cx.mk c.w c.loc c0.hid).loc σ.length = .unborn from hub] at q; cases q
        · exact q
      · show upd c.loc σ.length _ o' = _ ∨ upd c.loc σ.length _ o' = _ ∨ _
        rw [upd_other _ _ g]
        exact hx.loc o'

theorem any_main (hp : Pairs ops efs) (c0 : Cx) (hz : ∀ (k : Nat) (o : Oper) (t : TypeId), ops[k]? = some o → o.op = .alloc t → (zeroCs P t).isSome = true) (hQ : ∀ s σ c a, K s σ → Rel P c s σ a → Ext c0 c → Q .normal a c.w) : ∀ (m : Nat) (plan : List Stp) (listed : Array Bool) (pend done prev : List Nat) (E : List (Nat × Nat)) (s : List V) (σ : List Ob) (c : Cx) (a : Act), Inv P ops efs c0 listed pend (plan.map Stp.idx) E s σ c a → (∀ i ∈ pend, i ∈ prev) → planOk ops efs done prev plan = true → anyA P ops plan s σ K → pend.length + (aside (plan.map Stp.idx) (E.map (·.1))).length = m → wpAny P .any ops Q m listed a c.w
  | m, .q al i :: r, listed, pend, done, prev, E, s, σ, c, a, inv, hprev, hplan, h, hm => by
    simp only [anyA] at h
    split at h
    · rename_i o ho
      have hip : i ∉ pend := inv.nopend (by simp [Stp.idx])
      simp only [planOk, Bool.and_eq_true, Bool.not_eq_true', List.contains_eq_mem, decide_eq_false_iff_not] at hplan
      obtain ⟨⟨hqe, hqa⟩, hplan⟩ := hplan
      have hie : i ∉ E.map (·.1) := fun q => by
        obtain ⟨e, he, rfl⟩ := List.mem_map.1 q
        rw [(inv.ein e he).2] at hqa; cases hqa
      have hni : ¬ Lst listed i := (inv.un i (inv.lt i (by simp [Stp.idx]))).2 (.inr ⟨by simp [Stp.idx], hie⟩)
      have hself : ∀ d, o.dst = some d → d ∉ o.looksAt ops := fun d hd hm => by
        rcases hp.dep ho ho hd hm with hd | hd
        · rcases Topo.next pend i (r.map Stp.idx) inv.topo i hd with q | q
          · exact hni q.1
          · exact hip q
        · exact hqe hd.1
      have next : ∀ v, PendOk P ops i (putV s o.dst v) σ → Inv P ops efs c0 listed (pend ++ [i]) (r.map Stp.idx) E (putV s o.dst v) σ c a := by
        intro v hv
        refine ⟨inv.sr, inv.df, by rw [putV_length]; exact inv.len, fun t ht x u hx hu => ?_, inv.sizeL, fun k hk => ?_, fun k hk => inv.lt k (by simpa [Stp.idx] using hk), by simpa [Stp.idx] using inv.nodup, inv.closed, by simpa [Stp.idx] using inv.topo, fun k hk => ?_, fun k hk => ?_, fun e he => ?_, inv.ear, inv.enod, inv.bnod, inv.hid, inv.hdf, inv.ext, inv.h0⟩
        · rcases putV_get hx with ⟨q, _⟩ | ⟨q, hx'⟩
          · exact absurd q (ht i (by simp) o ho)
          · refine inv.vals t (fun j hj => ht j ?_) x u hx' hu
            simp only [List.mem_append, List.mem_singleton] at hj ⊢
            rcases hj with hj | hj
            · exact .inl (.inl hj)
            · exact .inr hj
        · rw [inv.un k hk]
          simp only [List.map_cons, Stp.idx, List.mem_cons, List.mem_append, List.not_mem_nil, or_false]
          constructor
          · rintro (q | ⟨q | q, g⟩)
            · exact .inl (.inl q)
            · exact .inl (.inr q)
            · exact .inr ⟨q, g⟩
          · rintro ((q | q) | ⟨q, g⟩)
            · exact .inl q
            · subst q; exact .inr ⟨.inl rfl, hie⟩
            · exact .inr ⟨.inr q, g⟩
        · rcases List.mem_append.1 hk with q | q
          · exact inv.pend_put hp ho (.inl hqe) v k q
          · simp only [List.mem_singleton] at q; subst q; exact hv
        · rcases List.mem_append.1 hk with q | q
          · exact inv.pq k q
          · simp only [List.mem_singleton] at q; subst q; exact hqe
        · obtain ⟨g1, g2⟩ := inv.ein e he
          refine ⟨?_, g2⟩
          rcases List.mem_cons.1 g1 with q | q
          · exact absurd (List.mem_map.2 ⟨e, he, q⟩) hie
          · exact q
      have hlen : (pend ++ [i]).length + (aside (r.map Stp.idx) (E.map (·.1))).length = m := by
        have : aside ((Stp.q al i :: r).map Stp.idx) (E.map (·.1)) = i :: aside (r.map Stp.idx) (E.map (·.1)) := by simp [aside, Stp.idx, hie]
        rw [this] at hm
        simp at hm ⊢; omega
      have hpr : ∀ j ∈ pend ++ [i], j ∈ i :: prev := fun j hj => by
        rcases List.mem_append.1 hj with q | q
        · exact List.mem_cons_of_mem _ (hprev j q)
        · simp only [List.mem_singleton] at q; simp [q]
      have hlook : ∀ v t, t ∈ o.looksAt ops → (putV s o.dst v).getD t .undef = s.getD t .undef := fun v t ht => getD_put fun e => hself t e ht
      rcases guardA_cases h with ⟨hg, h⟩ | ⟨hg, h⟩
      · split at h
        · rename_i v hv
          refine any_main hp c0 hz hQ m r listed (pend ++ [i]) (i :: done) (i :: prev) E _ σ c a (next v ⟨o, ho, .inl ⟨?_, al, v, ?_, fun d hd hlt => ?_⟩⟩) hpr hplan h hlen
          · rw [guardOf_congr (hlook v)]; exact hg
          · rw [doQ_congr (get_congr_looks (hlook v))]; exact hv
          · rw [hd]
            rw [putV_length] at hlt
            simp [putV, List.getD_eq_getElem?_getD, List.getElem?_set_self hlt]
        · exact h.elim
      · refine any_main hp c0 hz hQ m r listed (pend ++ [i]) (i :: done) (i :: prev) E _ σ c a (next (.tup []) ⟨o, ho, .inr ⟨?_, fun d hd hlt => ?_⟩⟩) hpr hplan h hlen
        · rw [guardOf_congr (hlook _)]; exact hg
        · rw [hd]
          rw [putV_length] at hlt
          simp [putV, List.getD_eq_getElem?_getD, List.getElem?_set_self hlt]
    · exact h.elim
  | 0, [], listed, pend, done, prev, E, s, σ, c, a, inv, hprev, hplan, h, hm => by
    have e1 : pend = [] := List.eq_nil_of_length_eq_zero (by omega)
    subst e1
    have e2 : E = [] := by
      rw [List.eq_nil_iff_forall_not_mem]
      intro e he
      have := (inv.ein e he).1
      simp at this
    subst e2
    refine ⟨?_, hQ s σ c a h ?_ ?_⟩
    · rw [List.eq_nil_iff_forall_not_mem]
      intro i hi
      obtain ⟨g1, g2, _⟩ := ready_iff inv.sizeL hi
      have := (inv.un i g1).1 g2
      simp at this
    · have := inv.mask
      have e : mask ops ([] ++ ([] : List (Nat × Nat)).map (·.1)) s = s := by
        unfold mask
        apply List.ext_getElem?
        intro i
        simp [List.getElem?_mapIdx]
      rw [e] at this
      exact this
    · have hh : c.hid = c0.hid := by
        have h1 : c.hid.blk = c0.hid.blk := funext fun b => propext (by rw [inv.hid b]; simp)
        have h2 := inv.hdf
        cases hc : c.hid; cases hc0 : c0.hid
        rw [hc, hc0] at h1 h2
        simp only at h1 h2
        rw [h1, h2]
      have := inv.ext
      rw [← hh] at this
      exact this
  | m + 1, [], listed, pend, done, prev, E, s, σ, c, a, inv, hprev, hplan, h, hm => by
    have hpl : pend.length = m + 1 := by simpa [aside] using hm
    have hE : E = [] := by
      rw [List.eq_nil_iff_forall_not_mem]
      intro e he
      have := (inv.ein e he).1
      simp at this
    refine ⟨fun h0 => ?_, fun i hi => ?_⟩
    · obtain ⟨x, hx⟩ := List.exists_mem_of_length_pos (l := pend) (by omega)
      exact absurd h0 (inv.some_ready ⟨x, by simp [hx], by rw [hE]; simp⟩)
    · obtain ⟨g1, g2, g3⟩ := ready_iff inv.sizeL hi
      rcases (inv.un i g1).1 g2 with q | q
      · exact pend_step m [] hp inv q g3 fun listed pend' c' a' inv' hsub hl => any_main hp c0 hz hQ m [] listed pend' done prev E s σ c' a' inv' (fun j hj => hprev j (hsub j hj)) hplan h (by simp [aside]; omega)
      · simp at q
  | m, .ef i chk :: r, listed, pend, done, prev, E, s, σ, c, a, inv, hprev, hplan, h, hm => by
    have hplan0 := hplan
    simp only [planOk, Bool.and_eq_true] at hplan
    obtain ⟨⟨hb, hpv⟩, hplan⟩ := hplan
    have hir : i ∉ r.map Stp.idx := fun q => by
      have := inv.nodup
      rw [List.nodup_append] at this
      exact (List.nodup_cons.1 this.2.1).1 q
    have hip : i ∉ pend := inv.nopend (by simp [Stp.idx])
    by_cases hie : i ∈ E.map (·.1)
    · -- the cell was made before
      obtain ⟨⟨i', b⟩, he, hi'⟩ := List.mem_map.1 hie
      simp only at hi'
      subst hi'
      obtain ⟨o, t, cs, ho', hop, hg, hcs, next⟩ := Inv.adopt (k := i') (r := r.map Stp.idx) hp inv he
      have ho : ops[i']? = some o := ho'
      simp only [anyA] at h
      split at h
      case h_2 => exact h.elim
      rename_i o2 ho2
      have eo : o2 = o := by rw [ho] at ho2; cases ho2; rfl
      subst eo
      have h : stepA P o2 s σ fun v σ' => chkE o2.op σ σ' (chkA P ops chk (putV s o2.dst v) σ') ∧ anyA P ops r (putV s o2.dst v) σ' K := by
        rcases guardA_cases h with ⟨_, h⟩ | ⟨hg', _⟩
        · exact h
        · simp [guardOf, hg] at hg'
      have hstep : stepA P o2 s σ = fun K => K (.ptr σ.length 0 0) (σ ++ [.box cs]) := by
        funext K
        unfold stepA
        rw [hop]
        simp only [quietG, quietF, effF, hcs, Option.map_some]
      rw [hstep] at h
      have hsub : ∀ j ∈ pend, j ∈ chk.map (·.1) := fun j hj => by
        have := List.all_eq_true.1 hpv j (hprev j hj)
        simp only [Bool.or_eq_true, List.contains_eq_mem, decide_eq_true_eq] at this
        rcases this with q | q
        · exact q
        · exact absurd (ancs_sound inv.closed done _ (fun j hj => inv.closed i' (inv.elst he) j hj) j q) ((inv.un j (inv.lt j (by simp [hj]))).2 (.inl hj))
      obtain ⟨c', hw, inv'⟩ := next fun j hj => by
        obtain ⟨p, hp1, rfl⟩ := List.mem_map.1 (hsub j hj)
        have h1 := h.1
        rw [hop] at h1
        exact .of_chk (chkA_mem h1 p hp1)
      rw [← hw]
      refine any_main hp c0 hz hQ m r listed pend (i' :: done) (chk.map (·.1)) (E.erase (i', b)) _ _ c' a inv' hsub hplan h.2 ?_
      have e1 : aside ((Stp.ef i' chk :: r).map Stp.idx) (E.map (·.1)) = aside (r.map Stp.idx) (E.map (·.1)) := by simp [aside, Stp.idx, hie]
      have e2 : aside (r.map Stp.idx) ((E.erase (i', b)).map (·.1)) = aside (r.map Stp.idx) (E.map (·.1)) := by
        unfold aside
        refine List.filter_congr fun y hy => ?_
        have hne : y ≠ i' := fun g => hir (g ▸ hy)
        have : y ∈ (E.erase (i', b)).map (·.1) ↔ y ∈ E.map (·.1) := by
          constructor
          · intro q
            obtain ⟨e, hm, rfl⟩ := List.mem_map.1 q
            exact List.mem_map.2 ⟨e, List.mem_of_mem_erase hm, rfl⟩
          · intro q
            obtain ⟨e, hm, rfl⟩ := List.mem_map.1 q
            exact List.mem_map.2 ⟨e, (List.mem_erase_of_ne fun g => hne (by rw [g])).2 hm, rfl⟩
        simp only [this]
      rw [e2, ← e1]; exact hm
    · have eas : aside ((Stp.ef i chk :: r).map Stp.idx) (E.map (·.1)) = i :: aside (r.map Stp.idx) (E.map (·.1)) := by simp [aside, Stp.idx, hie]
      rw [eas, List.length_cons] at hm
      obtain ⟨m', rfl⟩ : ∃ m', m = m' + 1 := ⟨m - 1, by omega⟩
      have hni : ¬ Lst listed i := (inv.un i (inv.lt i (by simp [Stp.idx]))).2 (.inr ⟨by simp [Stp.idx], hie⟩)
      refine ⟨fun h0 => ?_, fun k hk => ?_⟩
      · exact absurd h0 (inv.some_ready ⟨i, by simp [Stp.idx], hie⟩)
      · obtain ⟨g1, g2, g3⟩ := ready_iff inv.sizeL hk
        rcases (inv.un k g1).1 g2 with q | ⟨q, hke⟩
        · exact pend_step m' ((Stp.ef i chk :: r).map Stp.idx) hp inv q g3 fun listed pend' c' a' inv' hsub hl => any_main hp c0 hz hQ m' (.ef i chk :: r) listed pend' done prev E s σ c' a' inv' (fun j hj => hprev j (hsub j hj)) hplan0 h (by rw [eas, List.length_cons]; omega)
        · by_cases hki : k = i
          · subst hki
            simp only [anyA] at h
            split at h
            · rename_i o ho
              have hlk := inv.looks hp ho hni g3 (fun j hj => Topo.next pend k (r.map Stp.idx) inv.topo j hj)
              have hrel := inv.mask
              have hw : ∀ b, guardOf ops o s = some b → Region.wanted o (yielded ops a.tmps) = b := fun b hb => wanted_of (pend := pend) hrel.sl (by rw [← guardOf_congr hlk]; exact hb)
              have hl : pend ++ r.map Stp.idx = (pend ++ (Stp.ef k chk :: r).map Stp.idx).erase k := by
                rw [List.erase_append_right _ hip]
                simp [Stp.idx]
              have hlen : pend.length + (aside (r.map Stp.idx) (E.map (·.1))).length = m' := by omega
              have hsub : ∀ j ∈ pend, j ∈ chk.map (·.1) := fun j hj => by
                have := List.all_eq_true.1 hpv j (hprev j hj)
                simp only [Bool.or_eq_true, List.contains_eq_mem, decide_eq_true_eq] at this
                rcases this with q | q
                · exact q
                · exact absurd (ancs_sound inv.closed done _ g3 j q) ((inv.un j (inv.lt j (by simp [hj]))).2 (.inl hj))
              have hrr : ∀ x ∈ (Stp.ef k chk :: r).map Stp.idx, x ≠ k → x ∈ r.map Stp.idx := fun x hx hne => by
                rcases List.mem_cons.1 hx with g | g
                · exact absurd g hne
                · exact g
              have hrp : ∀ x ∈ r.map Stp.idx, x ∈ (Stp.ef k chk :: r).map Stp.idx := fun x hx => List.mem_cons_of_mem _ hx
              rcases guardA_cases h with ⟨hg, h⟩ | ⟨hg, h⟩
              · refine wpOp_wanted ho (hw _ hg) (.inl ?_)
                rw [stepA_congr (get_congr_looks hlk)] at h
                refine step_sound' h hrel rfl fun x σ' loc' u w' hK h1 h2 h3 => ?_
                refine any_main hp c0 hz hQ m' r _ pend (k :: done) (chk.map (·.1)) E (putV s o.dst x) σ' ⟨w', loc', c.hid⟩ (a.put o.dst u) ?_ hsub hplan hK.2 hlen
                refine inv.done_step hp ho u h2 g1 (by simp [Stp.idx]) hie g3 hl hrr (fun _ h => h) hrp h1 (by rw [putV_length]; exact inv.len) ?_ ?_ ?_
                · refine vals_put ho (fun j hj _ => hj) inv.vals (fun x v => h2.vr) fun t y hy => ?_
                  rcases putV_get hy with ⟨q1, rfl⟩ | q1
                  · exact .inl ⟨q1, h3⟩
                  · exact .inr q1
                · intro j hj
                  rcases chkE_or hK.1 with e | hch
                  · subst e
                    exact inv.pend_put hp ho (.inr g3) x j hj
                  obtain ⟨p, hp1, rfl⟩ := List.mem_map.1 (hsub j hj)
                  exact .of_chk (chkA_mem hch p hp1)
                · exact inv.pq
              · refine wpOp_unwanted ho (hw _ hg) ?_
                refine any_main hp c0 hz hQ m' r _ pend (k :: done) (chk.map (·.1)) E (putV s o.dst (.tup [])) σ c (a.put o.dst undef) ?_ hsub hplan h hlen
                refine inv.done_step hp ho undef (Ext.refl c) g1 (by simp [Stp.idx]) hie g3 hl hrr (fun _ h => h) hrp inv.sr (by rw [putV_length]; exact inv.len) ?_ (inv.pend_put hp ho (.inr g3) (.tup [])) inv.pq
                refine vals_put ho (fun j hj _ => hj) inv.vals (fun x v h => h) fun t y hy => ?_
                rcases putV_get hy with ⟨q1, rfl⟩ | q1
                · exact .inl ⟨q1, VR_none⟩
                · exact .inr q1
            · exact h.elim
          · have hkr : k ∈ r.map Stp.idx := by
              rcases List.mem_cons.1 q with g | g
              · exact absurd g hki
              · exact g
            have hka : isAl ops k = true := by
              cases hka : isAl ops k with
              | true => rfl
              | false =>
                obtain ⟨j, hj, hn⟩ := behind_sound (L := Lst listed) (r.map Stp.idx) [i] hb (fun j hj => by simp only [List.mem_singleton] at hj; subst hj; exact hni) (fun j hj hja => (inv.un j (inv.lt j (by simp only [List.mem_append, List.map_cons, List.mem_cons]; exact .inr (.inr hj)))).2 (.inr ⟨by simp only [List.map_cons, List.mem_cons]; exact .inr hj, fun h => by
                  obtain ⟨e, he, rfl⟩ := List.mem_map.1 h
                  rw [(inv.ein e he).2] at hja; cases hja⟩)) k hkr hka
                exact absurd (g3 j hj) hn
            refine inv.early hp q hke hka g3 (fun o t => hz k o t) fun listed c' a' b inv' => any_main hp c0 hz hQ m' (.ef i chk :: r) listed pend done prev ((k, b) :: E) s σ c' a' inv' hprev hplan0 h ?_
            · have hnd := inv.nodup
              rw [List.nodup_append] at hnd
              have := aside_cons (F := E.map (·.1)) (l := (Stp.ef i chk :: r).map Stp.idx) hnd.2.1 q hke
              rw [eas, List.length_cons] at this
              show pend.length + (aside ((Stp.ef i chk :: r).map Stp.idx) (k :: E.map (·.1))).length = m'
              omega
  termination_by m plan => (m, plan.length)
end

/-- A REGION THAT DRAWS ITS ORDER. -/
theorem WP_any {P : Program} {n : Nat} {id : Nat} {ops : Array Oper} (plan : List Stp) (hm : P.follows .mixedOrders = true) (hok : regOk P ops plan = true) {s : List V} {σ : List Ob} {K : Ex → List V → List Ob → Prop} (h : anyA P ops plan s σ (K .normal)) : WP P n (.region id ops true) s σ K := by
  intro c a hr
  have hk := hok
  simp only [regOk, Bool.and_eq_true, decide_eq_true_eq, beq_iff_eq] at hk
  obtain ⟨⟨⟨⟨⟨⟨⟨⟨_, _⟩, hnd⟩, hlen⟩, hlt⟩, hin⟩, htopo⟩, hplan⟩, hzs⟩ := hk
  have hz : ∀ (k : Nat) (o : Oper) (t : TypeId), ops[k]? = some o → o.op = .alloc t → (zeroCs P t).isSome = true := fun k o t ho hop => by
    have := List.all_eq_true.1 hzs k (by simpa using (Array.getElem?_eq_some_iff.1 ho).1)
    simpa [alZ, ho, hop] using this
  have hlt' : ∀ i ∈ plan.map Stp.idx, i < ops.size := fun i hi => by simpa using List.all_eq_true.1 hlt i hi
  have hall : ∀ i, i < ops.size → i ∈ plan.map Stp.idx := by
    intro i hi
    simpa using List.all_eq_true.1 hin i (by simpa using hi)
  refine wp_region_any hm ?_
  have hl0 : ∀ i, ¬ Lst (Array.replicate ops.size false) i := by
    intro i
    unfold Lst
    simp only [Array.getD_eq_getD_getElem?, Array.getElem?_replicate]
    split <;> simp
  have hd : ∀ (c : Cx) (w' : World), w'.heap = c.w.heap → IoEq c.w w' → Ext c ⟨w', c.loc, c.hid⟩ := fun c w' e io => ⟨rfl, by simp only [e]; exact Nat.le_refl _, fun b cs t f q => ⟨cs, f, by simp only [e]; exact q, rfl⟩, fun b hb ho => ⟨by simp only [e], ho⟩, fun _ => .inl rfl, io⟩
  have hE := hd c { c.w with drawn := c.w.drawn + 1 } rfl ⟨rfl, rfl, rfl⟩
  have hS : SR ⟨{ c.w with drawn := c.w.drawn + 1 }, c.loc, c.hid⟩ σ := by
    refine ⟨fun o => ?_, hr.sr.inj, hr.sr.hid, hE.glob hr.sr.gl⟩
    have r := hr.sr.obj o
    cases hx : σ[o]? with
    | none => rw [hx] at r; exact r
    | some x => rw [hx] at r; exact OR.keep hE r fun b base sz hl => rfl
  have hrel := hr.ext hE hS
  refine any_main (P := P) (K := K .normal) (pairs_of hok) ⟨{ c.w with drawn := c.w.drawn + 1 }, c.loc, c.hid⟩ hz (fun s σ c' a hk hr' hE' => ?_) ops.size plan _ [] [] [] [] s σ ⟨_, c.loc, c.hid⟩ a ?_ (by simp) hplan h ?_
  · have hE2 := hE.trans hE'
    have : (⟨c'.w, c'.loc, c.hid⟩ : Cx) = c' := by rw [← hE2.hid]
    exact .inr ⟨.normal, c'.loc, s, σ, rfl, by rw [this]; exact hr', by rw [this]; exact hE2.toN n, hk⟩
  · refine ⟨hS, hrel.df, by have := VRs_length hrel.sl; simpa using this.symm, fun t _ x v hx hv => ?_, by simp, fun i hi => ?_, fun i hi => hlt' i (by simpa using hi), by simpa using hnd, fun i hi => absurd hi (hl0 i), by simpa using topo_of_ok _ [] _ htopo (by simp), by simp, by simp, by simp, by simp, by simp, by simp, fun b => by simp, rfl, Ext.refl _, fun b hb => (hS.hid b hb).1⟩
    · obtain ⟨u, q1, q2⟩ := VRs_get hrel.sl t hx
      have : u = v := by
        rw [Array.getElem?_toList, hv] at q1
        simpa using q1.symm
      rw [← this]; exact q2
    · constructor
      · intro _; exact .inr ⟨hall i hi, by simp⟩
      · intro _; exact hl0 i
  · have : ∀ l : List Nat, aside l [] = l := fun l => by
      unfold aside
      exact List.filter_eq_self.2 fun x _ => by simp
    simp [this, hlen]
end Go.Proofs.YteafabpedfgedaaGreatDoor.Am
end
/- The engine's compact code: what a walk evaluates. -/
section
set_option linter.unusedSimpArgs false
set_option linter.unusedVariables false
namespace Go.Proofs.YteafabpedfgedaaGreatDoor.Am
open Go

/-- One operation: target, operation, the slot that guards it. -/
structure COp where
  dst : Option Tmp
  op : Op
  g : Option (Tmp × Bool)

inductive CStp where
  | st (o : COp)
  | q (al : Bool) (o : COp)
  | ef (o : COp) (chk : List (COp × Bool))

inductive CCode where
  | skip
  | ops (l : List CStp)
  | seq (a b : CCode)
  | cond (c : Operand) (a b : CCode)
  | block (id : Nat) (a : CCode)
  | loop (a : CCode)
  | exit (id : Nat)
  | ret
  | bad

/-- Of an operation and the region that it is of. -/
def cop (ops : List Oper) (o : Oper) : COp := ⟨o.dst, o.op, match o.guard with | none => none | some (j, w) => match (ops[j]?).bind (·.dst) with | some d => some (d, w) | none => some (4294967295, w)⟩

def copAt (ops : List Oper) (i : Nat) : COp := match ops[i]? with | some o => cop ops o | none => ⟨none, .alloc 4294967295, none⟩

def cstp (ops : List Oper) : Stp → CStp
  | .q al i => .q al (copAt ops i)
  | .ef i chk => .ef (copAt ops i) (chk.map fun p => (copAt ops p.1, p.2))

def planFor (plans : List (Nat × List Stp)) (id : Nat) : List Stp := ((plans.find? (·.1 == id)).map (·.2)).getD []

/-- In the order of the text; the marked ones are literal slices as data. -/
def stOf (pl : List Stp) (all : List Oper) : Nat → List Oper → List CStp
  | _, [] => []
  | i, o :: r => (match pl.any (fun x => x.idx == i) with | true => .q true (cop all o) | false => .st (cop all o)) :: stOf pl all (i + 1) r

def opsOf : List Stp → List Oper → List CStp
  | [], all => all.map fun o => .st (cop all o)
  | x :: pl, all => stOf (x :: pl) all 0 all

def comp (plans : List (Nat × List Stp)) : Code → CCode
  | .skip => .skip
  | .label _ => .skip
  | .region id ops draw => if draw then .ops ((planFor plans id).map (cstp ops.toList)) else .ops (opsOf (planFor plans id) ops.toList)
  | .seq a b => .seq (comp plans a) (comp plans b)
  | .cond c a b => .cond c (comp plans a) (comp plans b)
  | .block id a => .block id (comp plans a)
  | .loop a => .loop (comp plans a)
  | .exit id => .exit id
  | .ret => .ret
  | _ => .bad

def guardsOk (ops : List Oper) : Bool := ops.all fun o => match o.guard with | none => true | some (j, _) => ((ops[j]?).bind (·.dst)).isSome

/-- The plans fit. -/
def okAll (P : Program) (plans : List (Nat × List Stp)) : Code → Bool
  | .region id ops draw => guardsOk ops.toList && (!draw || regOk P ops (planFor plans id))
  | .seq a b => okAll P plans a && okAll P plans b
  | .cond _ a b => okAll P plans a && okAll P plans b
  | .block _ a => okAll P plans a
  | .loop a => okAll P plans a
  | _ => true

/-! ### what it comes to; written so that a rewriter goes nowhere ahead of time -/
def Br (b : Prop) (X : Prop) : Prop := b → X
theorem Br.congr {b b' X : Prop} (h : b = b') : Br b X = Br b' X := by rw [h]

def bindO {α : Type} (x : Option α) (k : α → Prop) : Prop := match x with | some a => k a | none => False
theorem bindO.congr {α : Type} {x x' : Option α} {k : α → Prop} (h : x = x') : bindO x k = bindO x' k := by rw [h]
theorem bindO_some {α : Type} (a : α) (k : α → Prop) : bindO (some a) k = k a := rfl
theorem bindO_none {α : Type} (k : α → Prop) : bindO none k = False := rfl

def CondC (x : V) (X Y : Prop) : Prop := match x with
  | .d (.bool b) => (b = true → X) ∧ (b = false → Y)
  | _ => False
theorem CondC.congr {x x' : V} {X Y : Prop} (h : x = x') : CondC x X Y = CondC x' X Y := by rw [h]
theorem CondC_true (X Y : Prop) : CondC (.d (.bool true)) X Y = X := by simp [CondC]
theorem CondC_false (X Y : Prop) : CondC (.d (.bool false)) X Y = Y := by simp [CondC]
theorem CondC_intro {b : Bool} {X Y : Prop} (h1 : b = true → X) (h2 : b = false → Y) : CondC (.d (.bool b)) X Y := ⟨h1, h2⟩

/-- A guard: the slot d holds whether. -/
def GrdC (d : Nat) (w : Bool) (x : V) (s : List V) (yes no : List V → Prop) : Prop :=
  match x with
  | .d (.bool b) => (b = w → yes (s.set d (.d (.bool w)))) ∧ (b = (!w) → no (s.set d (.d (.bool (!w)))))
  | .tup [] => no s
  | _ => False
theorem GrdC.congr {d : Nat} {w : Bool} {x x' : V} {s : List V} {yes no : List V → Prop} (h : x = x') : GrdC d w x s yes no = GrdC d w x' s yes no := by rw [h]

def stepC (P : Program) (op : Op) (s : List V) (σ : List Ob) (K : V → List Ob → Prop) : Prop :=
  match op with
  | .call { callee := .value f, args, argTypes := _ } => match get s f with
    | .fn g caps => callA P g (argsOf s args ++ caps) σ K
    | .bm g first => callA P g (first ++ argsOf s args) σ K
    | _ => False
  | op => match quietG P s σ op with
    | some r => K r σ
    | none => match effF P s σ op with
      | some (r, σ') => K r σ'
      | none => nilA P s σ op K

/-- An operation in the order of the text: it may also put a call off. -/
def stepD (P : Program) (op : Op) (s : List V) (σ : List Ob) (K : V → List Ob → Prop) : Prop :=
  match op with
  | .defer cl => dferC P cl s ∧ K .undef σ
  | op => stepC P op s σ K

theorem stepA_C {P : Program} {o : Oper} {s : List V} {σ : List Ob} {K : V → List Ob → Prop} : stepA P o s σ K = stepC P o.op s σ K := rfl

def guardC (o : COp) (s : List V) (yes no : List V → Prop) : Prop :=
  match o.g with
  | none => yes s
  | some (d, w) => GrdC d w (s.getD d .undef) s yes no

def doQC (P : Program) (al : Bool) (op : Op) (s : List V) (σ : List Ob) : Option V :=
  match al with
  | false => quietG P s σ op
  | true => match op with
    | .buildSlice t len parts => buildSliceD P t len σ s parts.toList
    | _ => none

def wantC (o : COp) (s : List V) : Option Bool :=
  match o.g with
  | none => some true
  | some (d, w) => match s.getD d .undef with
    | .d (.bool b) => some (b == w)
    | .tup [] => some false
    | _ => none

def chkC (P : Program) : List (COp × Bool) → List V → List Ob → Prop
  | [], _, _ => True
  | q :: r, s, σ => (match wantC q.1 s with
      | some true => match q.1.dst with
        | some d => doQC P q.2 q.1.op s σ = some (s.getD d .undef)
        | none => (doQC P q.2 q.1.op s σ).isSome = true
      | some false => match q.1.dst with
        | some d => s.getD d .undef = .tup []
        | none => True
      | none => False) ∧ chkC P r s σ

def stC (P : Program) : List CStp → List V → List Ob → (List V → List Ob → Prop) → Prop
  | [], s, σ, K => K s σ
  | .st o :: r, s, σ, K => guardC o s (fun s => stepD P o.op s σ fun v σ' => stC P r (putV s o.dst v) σ' K) (fun s => stC P r (putV s o.dst (.tup [])) σ K)
  | .q al o :: r, s, σ, K => guardC o s (fun s => bindO (doQC P al o.op s σ) fun v => stC P r (putV s o.dst v) σ K) (fun s => stC P r (putV s o.dst (.tup [])) σ K)
  | .ef o chk :: r, s, σ, K => guardC o s (fun s => stepC P o.op s σ fun v σ' => chkE o.op σ σ' (chkC P chk (putV s o.dst v) σ') ∧ stC P r (putV s o.dst v) σ' K) (fun s => stC P r (putV s o.dst (.tup [])) σ K)

def WPC (P : Program) (n : Nat) (cc : CCode) (s : List V) (σ : List Ob) (K : Ex → List V → List Ob → Prop) : Prop :=
  ∀ plans code, comp plans code = cc → okAll P plans code = true → P.follows .mixedOrders = true → WP P n code s σ K
theorem WPC.congr {P : Program} {n : Nat} {cc : CCode} {s s' : List V} {σ σ' : List Ob} {K : Ex → List V → List Ob → Prop} (h : s = s') (h' : σ = σ') : WPC P n cc s σ K = WPC P n cc s' σ' K := by rw [h, h']
theorem callA.congr {P : Program} {f : FuncId} {s s' : List V} {σ σ' : List Ob} {K : V → List Ob → Prop} (h : s = s') (h' : σ = σ') : callA P f s σ K = callA P f s' σ' K := by rw [h, h']

def wpC (P : Program) (n : Nat) : CCode → List V → List Ob → (Ex → List V → List Ob → Prop) → Prop
  | .skip, s, σ, K => K .normal s σ
  | .ops l, s, σ, K => stC P l s σ (K .normal)
  | .seq a b, s, σ, K => wpC P n a s σ (seqK (fun s σ => wpC P n b s σ K) K)
  | .cond c a b, s, σ, K => CondC (get s c) (wpC P n a s σ K) (wpC P n b s σ K)
  | .block id a, s, σ, K => wpC P n a s σ (blockK id K)
  | .loop a, s, σ, K => WPC P n (.loop a) s σ K
  | .exit id, s, σ, K => K (.exit id) s σ
  | .ret, s, σ, K => K .ret s σ
  | .bad, _, _, _ => False

/-! ### soundness -/
section
variable {P : Program}

theorem guardC_A {ops : List Oper} {o : Oper} (hk : ∀ j w, o.guard = some (j, w) → ((ops[j]?).bind (·.dst)).isSome) {s : List V} {yes no yes' no' : List V → Prop} (h : guardC (cop ops o) s yes no) (hy : ∀ s, yes s → yes' s) (hn : ∀ s, no s → no' s) :
    match o.guard with
    | none => yes' s
    | some (j, want) => match (ops[j]?).bind (·.dst) with
      | some d => match s.getD d .undef with
        | .d (.bool b) => (b = want → yes' (s.set d (.d (.bool want)))) ∧ (b = (!want) → no' (s.set d (.d (.bool (!want)))))
        | .tup [] => no' s
        | _ => False
      | none => False := by
  unfold guardC cop at h
  cases hg : o.guard with
  | none => rw [hg] at h; exact hy _ h
  | some p =>
    obtain ⟨j, w⟩ := p
    rw [hg] at h
    simp only at h ⊢
    cases hd : (ops[j]?).bind (·.dst) with
    | none => have := hk j w hg; rw [hd] at this; cases this
    | some d =>
      rw [hd] at h
      simp only [GrdC] at h ⊢
      split at h
      · exact ⟨fun e => hy _ (h.1 e), fun e => hn _ (h.2 e)⟩
      · exact hn _ h
      · exact h.elim

theorem stepL_in {o : Oper} {s : List V} {σ : List Ob} {K : V → List Ob → Prop} (h : stepA P o s σ K) : stepL P o s σ K := .inl h
theorem stepL_lit {o : Oper} {s : List V} {σ : List Ob} {K : V → List Ob → Prop} (h : ∃ r, litA P o s σ = some r ∧ K r σ) : stepL P o s σ K := .inr (.inl h)
theorem stepL_D {o : Oper} {s : List V} {σ : List Ob} {K K' : V → List Ob → Prop} (h : stepD P o.op s σ K) (hk : ∀ v σ', K v σ' → K' v σ') : stepL P o s σ K' := by
  unfold stepD at h
  split at h
  · rename_i cl ho
    exact .inr (.inr ⟨cl, ho, h.1, hk _ _ h.2⟩)
  · exact .inl (stepA_mono (stepA_C ▸ h) hk)
theorem opsA_of_st {all : List Oper} (hk : guardsOk all = true) : ∀ (l : List Oper) (s : List V) (σ : List Ob) (K : List V → List Ob → Prop), (∀ o ∈ l, o ∈ all) → stC P (l.map fun o => .st (cop all o)) s σ K → opsA P all l s σ K
  | [], s, σ, K, _, h => h
  | o :: r, s, σ, K, hl, h => by
    simp only [List.map_cons, stC] at h
    unfold opsA
    have hl' : ∀ o ∈ r, o ∈ all := fun x hx => hl x (by simp [hx])
    refine guardC_A (fun j w e => ?_) h (fun s hs => stepL_D hs fun v σ' hh => opsA_of_st hk r _ _ K hl' hh) (fun s hs => opsA_of_st hk r _ _ K hl' hs)
    have := List.all_eq_true.1 hk o (hl o (by simp))
    rw [e] at this
    exact this

theorem opsA_of_stO {all : List Oper} (hk : guardsOk all = true) (pl : List Stp) : ∀ (l : List Oper) (i : Nat) (s : List V) (σ : List Ob) (K : List V → List Ob → Prop), (∀ o ∈ l, o ∈ all) → stC P (stOf pl all i l) s σ K → opsA P all l s σ K
  | [], i, s, σ, K, _, h => h
  | o :: r, i, s, σ, K, hl, h => by
    have hl' : ∀ o ∈ r, o ∈ all := fun x hx => hl x (by simp [hx])
    have hg : ∀ j w, o.guard = some (j, w) → ((all[j]?).bind (·.dst)).isSome := fun j w e => by
      have := List.all_eq_true.1 hk o (hl o (by simp))
      rw [e] at this
      exact this
    simp only [stOf] at h
    split at h
    · simp only [stC] at h
      unfold opsA
      refine guardC_A hg h (fun s hs => stepL_lit (P := P) (o := o) (s := s) (σ := σ) (K := fun v σ' => opsA P all r (putV s o.dst v) σ' K) ?_) (fun s hs => (opsA_of_stO hk pl r _ (putV s o.dst (.tup [])) _ K hl' hs))
      unfold bindO at hs
      split at hs
      · rename_i v hv
        refine ⟨v, ?_, opsA_of_stO hk pl r _ _ _ K hl' hs⟩
        rw [← hv]
        rfl
      · exact hs.elim
    · simp only [stC] at h
      unfold opsA
      exact guardC_A hg h (fun s hs => stepL_D hs fun v σ' hh => opsA_of_stO hk pl r _ _ _ K hl' hh) (fun s hs => (opsA_of_stO hk pl r _ (putV s o.dst (.tup [])) _ K hl' hs))

theorem guardC_G {ops : Array Oper} {o : Oper} (hk : ∀ j w, o.guard = some (j, w) → ((ops.toList[j]?).bind (·.dst)).isSome) {s : List V} {yes no yes' no' : List V → Prop} (h : guardC (cop ops.toList o) s yes no) (hy : ∀ s, yes s → yes' s) (hn : ∀ s, no s → no' s) : guardA ops o s yes' no' := by
  have := guardC_A hk h hy hn
  unfold guardA
  cases hg : o.guard with
  | none => rw [hg] at this; exact this
  | some p =>
    obtain ⟨j, w⟩ := p
    rw [hg] at this
    simp only [Array.getElem?_toList] at this
    exact this

theorem chk1_of {ops : Array Oper} (hk : guardsOk ops.toList = true) {i : Nat} {al : Bool} (hi : i < ops.size) {s : List V} {σ : List Ob} (h : chkC P [(copAt ops.toList i, al)] s σ) : chk1 P ops (i, al) s σ := by
  have ho : ops[i]? = some ops[i] := Array.getElem?_eq_getElem hi
  have ho' : ops.toList[i]? = some ops[i] := by simp [ho]
  have hmem : ops[i] ∈ ops.toList := by simp
  generalize ops[i] = o at ho ho' hmem
  unfold chk1
  simp only [ho]
  simp only [chkC, copAt, ho'] at h
  have hw : guardOf ops o s = wantC (cop ops.toList o) s := by
    unfold guardOf wantC cop
    cases hg : o.guard with
    | none => rfl
    | some p =>
      obtain ⟨j, w⟩ := p
      have := List.all_eq_true.1 hk o hmem
      rw [hg] at this
      simp only at this ⊢
      have e : (ops[j]?).bind (·.dst) = (ops.toList[j]?).bind (·.dst) := by simp
      rw [e]
      cases hd : (ops.toList[j]?).bind (·.dst) with
      | none => rw [hd] at this; cases this
      | some d => rfl
  rw [hw]
  exact h.1

theorem chkA_of {ops : Array Oper} (hk : guardsOk ops.toList = true) : ∀ (l : List (Nat × Bool)) {s : List V} {σ : List Ob}, (∀ p ∈ l, p.1 < ops.size) → chkC P (l.map fun p => (copAt ops.toList p.1, p.2)) s σ → chkA P ops l s σ
  | [], _, _, _, _ => trivial
  | (i, al) :: r, s, σ, hl, h => by
    simp only [List.map_cons] at h
    exact ⟨chk1_of hk (hl (i, al) (by simp)) ⟨h.1, trivial⟩, chkA_of hk r (fun p hp => hl p (by simp [hp])) h.2⟩

theorem anyA_of {ops : Array Oper} (hk : guardsOk ops.toList = true) : ∀ (plan : List Stp) (s : List V) (σ : List Ob) (K : List V → List Ob → Prop), (∀ x ∈ plan, x.idx < ops.size) → chkIn ops.size plan = true → stC P (plan.map (cstp ops.toList)) s σ K → anyA P ops plan s σ K
  | [], s, σ, K, _, _, h => h
  | .q al i :: r, s, σ, K, hl, hc, h => by
    have hi : i < ops.size := hl (.q al i) (by simp)
    have ho : ops[i]? = some ops[i] := Array.getElem?_eq_getElem hi
    have ho' : ops.toList[i]? = some ops[i] := by simp [ho]
    have hmem : ops[i] ∈ ops.toList := by simp
    generalize ops[i] = o at ho ho' hmem
    simp only [List.map_cons, cstp, copAt, ho', stC] at h
    simp only [anyA, ho]
    have hl' : ∀ x ∈ r, x.idx < ops.size := fun x hx => hl x (by simp [hx])
    refine guardC_G (fun j w e => ?_) h (fun s hs => ?_) (fun s hs => anyA_of hk r _ _ K hl' hc hs)
    · have := List.all_eq_true.1 hk o hmem
      rw [e] at this
      exact this
    · have e : doQC P al (cop ops.toList o).op s σ = doQ P al o s σ := rfl
      rw [e] at hs
      unfold bindO at hs
      split at hs
      · rename_i v hv
        simp only [hv]
        exact anyA_of hk r _ _ K hl' hc hs
      · exact hs.elim
  | .ef i chk :: r, s, σ, K, hl, hc, h => by
    have hi : i < ops.size := hl (.ef i chk) (by simp [Stp.idx])
    have ho : ops[i]? = some ops[i] := Array.getElem?_eq_getElem hi
    have ho' : ops.toList[i]? = some ops[i] := by simp [ho]
    have hmem : ops[i] ∈ ops.toList := by simp
    generalize ops[i] = o at ho ho' hmem
    simp only [List.map_cons, cstp, copAt, ho', stC] at h
    simp only [anyA, ho]
    simp only [chkIn, Bool.and_eq_true] at hc
    have hl' : ∀ x ∈ r, x.idx < ops.size := fun x hx => hl x (by simp [hx])
    refine guardC_G (fun j w e => ?_) h (fun s hs => ?_) (fun s hs => anyA_of hk r _ _ K hl' hc.2 hs)
    · have := List.all_eq_true.1 hk o hmem
      rw [e] at this
      exact this
    · refine stepA_mono (stepA_C ▸ hs) fun v σ' hh => ⟨chkE_mono hh.1 (chkA_of hk chk (fun p hp => by simpa using List.all_eq_true.1 hc.1 p hp)), anyA_of hk r _ _ K hl' hc.2 hh.2⟩

theorem wpC_mono {n : Nat} : ∀ (cc : CCode) (s : List V) (σ : List Ob) (K K' : Ex → List V → List Ob → Prop), (∀ e s σ, K e s σ → K' e s σ) → WPC P n cc s σ K → WPC P n cc s σ K' :=
  fun cc s σ K K' hk h plans code h1 h2 h3 => WP_mono (h plans code h1 h2 h3) hk

theorem regOk_lt {P : Program} {ops : Array Oper} {plan : List Stp} (h : regOk P ops plan = true) : ∀ x ∈ plan, x.idx < ops.size := by
  simp only [regOk, Bool.and_eq_true] at h
  intro x hx
  have := List.all_eq_true.1 h.1.1.1.1.2 x.idx (List.mem_map.2 ⟨x, hx, rfl⟩)
  simpa using this

theorem wpC_sound {n : Nat} : ∀ (cc : CCode) (s : List V) (σ : List Ob) (K : Ex → List V → List Ob → Prop), wpC P n cc s σ K → WPC P n cc s σ K := by
  intro cc
  induction cc with
  | skip =>
    intro s σ K h plans code h1 h2 h3
    cases code <;> simp only [comp] at h1 <;> (try (cases h1; done))
    · exact wpA_sound _ _ _ _ h
    · split at h1 <;> cases h1
    · exact wpA_sound _ _ _ _ h
  | ops l =>
    intro s σ K h plans code h1 h2 h3
    cases code <;> simp only [comp] at h1 <;> (try (cases h1; done))
    rename_i id ops draw
    simp only [okAll, Bool.and_eq_true] at h2
    cases draw with
    | false =>
      simp only [Bool.false_eq_true, if_false, CCode.ops.injEq] at h1
      subst h1
      generalize planFor plans id = pl at h
      cases pl with
      | nil => exact WP_region (opsA_of_st h2.1 _ _ _ _ (fun _ h => h) h)
      | cons x pl => exact WP_region (opsA_of_stO h2.1 _ _ _ _ _ _ (fun _ h => h) h)
    | true =>
      simp only [if_true, CCode.ops.injEq] at h1
      subst h1
      have hr : regOk P ops (planFor plans id) = true := by simpa using h2.2
      have hc : chkIn ops.size (planFor plans id) = true := by
        simp only [regOk, Bool.and_eq_true] at hr
        exact hr.1.1.1.1.1.1.1.2
      exact WP_any _ h3 hr (anyA_of h2.1 _ _ _ _ (regOk_lt hr) hc h)
  | seq a b iha ihb =>
    intro s σ K h plans code h1 h2 h3
    cases code <;> simp only [comp] at h1 <;> (try (cases h1; done))
    · split at h1 <;> cases h1
    · rename_i x y
      simp only [CCode.seq.injEq] at h1
      simp only [okAll, Bool.and_eq_true] at h2
      refine WP_seq (WP_mono (iha s σ _ h plans x h1.1 h2.1 h3) fun e s σ hh => ?_)
      cases e <;> simp only [seqK] at * <;> first | exact ihb _ _ _ hh plans y h1.2 h2.2 h3 | exact hh
  | cond c a b iha ihb =>
    intro s σ K h plans code h1 h2 h3
    cases code <;> simp only [comp] at h1 <;> (try (cases h1; done))
    · split at h1 <;> cases h1
    · rename_i z x y
      simp only [CCode.cond.injEq] at h1
      obtain ⟨rfl, h1, h1'⟩ := h1
      simp only [okAll, Bool.and_eq_true] at h2
      simp only [wpC, CondC] at h
      split at h
      · rename_i t ht
        exact WP_cond ht (fun e => iha s σ K (h.1 e) plans x h1 h2.1 h3) (fun e => ihb s σ K (h.2 e) plans y h1' h2.2 h3)
      · exact h.elim
  | block id a iha =>
    intro s σ K h plans code h1 h2 h3
    cases code <;> simp only [comp] at h1 <;> (try (cases h1; done))
    · split at h1 <;> cases h1
    · simp only [CCode.block.injEq] at h1
      obtain ⟨rfl, h1⟩ := h1
      exact WP_block (iha s σ _ h plans _ h1 h2 h3)
  | loop a iha => intro s σ K h; exact h
  | exit id =>
    intro s σ K h plans code h1 h2 h3
    cases code <;> simp only [comp] at h1 <;> (try (cases h1; done))
    · split at h1 <;> cases h1
    · simp only [CCode.exit.injEq] at h1; subst h1
      exact wpA_sound (.exit _) _ _ _ h
  | ret =>
    intro s σ K h plans code h1 h2 h3
    cases code <;> simp only [comp] at h1 <;> (try (cases h1; done))
    · split at h1 <;> cases h1
    · exact wpA_sound .ret _ _ _ h
  | bad => intro s σ K h; exact h.elim

theorem WPC_loop {n : Nat} {body : CCode} {α : Type} (S : α → List V) (T : α → List Ob) (I : α → Prop) (μ : α → Nat) {K : Ex → List V → List Ob → Prop}
    (round : ∀ x, I x → wpC P n body (S x) (T x) (seqK (fun s' σ' => ∃ y, I y ∧ μ y < μ x ∧ Weak n s' σ' (S y) (T y)) K)) (x : α) (hx : I x) : WPC P n (.loop body) (S x) (T x) K := by
  intro plans code h1 h2 h3
  cases code <;> simp only [comp] at h1 <;> (try (cases h1; done))
  · split at h1 <;> cases h1
  · rename_i c
    simp only [CCode.loop.injEq] at h1
    exact WP_loop S T I μ (fun x hx => wpC_sound body _ _ _ (round x hx) plans c h1 h2 h3) x hx

/-- A function by its compact code. -/
theorem callC {f : FuncId} {fn : Func} {code : Code} {cc : CCode} (plans : List (Nat × List Stp)) (hf : P.funcs[f]? = some fn) (hname : (fn.name == "runtime.NumGoroutine") = false) (hb : fn.body = some code) (hc : comp plans code = cc) (ho : okAll P plans code = true) (hm : P.follows .mixedOrders = true) {m : Nat} (ht : fn.ntmps = m) {rs : List ResultVar} (hr : fn.results.toList = rs)
    {args : List V} {σ : List Ob} {K : V → List Ob → Prop} (h : wpC P σ.length cc (args ++ List.replicate (m - args.length) .undef) σ (EndK P σ.length rs K)) : callA P f args σ K := by
  subst ht; subst hr
  exact callA_intro hf hname hb (wpC_sound cc _ _ _ h plans code hc ho hm)
end
end Go.Proofs.YteafabpedfgedaaGreatDoor.Am
end
