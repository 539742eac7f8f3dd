/- The engine's regions that draw their order. -/
import Derived.Test.YtjidelngljpbdaaAmN
import Derived.Orders
set_option linter.unusedSimpArgs false
set_option linter.unusedVariables false
namespace Go.Proofs.Ytjidelngljpbdaa.Am
open Go

/-! ### operations look at their operands alone -/
section
variable {P : Program} {s s' : List V} {σ : List Ob}

theorem argsOf_congr {xs : Array Operand} (h : ∀ x ∈ xs, get s x = get s' x) : argsOf s xs = argsOf s' xs :=
  List.map_congr_left fun x hx => h x (by simpa using hx)

theorem fillV_congr {place : Nat → Option (Nat × Nat)} : ∀ (ps : List (Nat × Operand)) (cs : List V), (∀ p ∈ ps, get s p.2 = get s' p.2) → fillV place σ s cs ps = fillV place σ s' cs ps
  | [], cs, _ => rfl
  | (i, x) :: r, cs, h => by
    simp only [fillV, h (i, x) (by simp)]
    split
    · split
      · exact fillV_congr r _ fun p hp => h p (by simp [hp])
      · rfl
    · rfl

theorem inOrder_mem : ∀ (n : Nat) (ps : List (Nat × Operand)) (xs : List Operand), inOrder n ps = some xs → ∀ x ∈ xs, ∃ i, (i, x) ∈ ps
  | n, [], xs, h, x, hx => by simp [inOrder] at h; subst h; simp at hx
  | n, (i, y) :: r, xs, h, x, hx => by
    simp only [inOrder] at h
    split at h
    · cases hr : inOrder (n + 1) r with
      | none => rw [hr] at h; cases h
      | some ys =>
        rw [hr] at h; simp at h; subst h
        rcases List.mem_cons.1 hx with e | e
        · subst e; exact ⟨i, by simp⟩
        · obtain ⟨j, hj⟩ := inOrder_mem (n + 1) r ys hr x e
          exact ⟨j, by simp [hj]⟩
    · cases h

theorem toDs_congr {sz : Nat} : ∀ (xs : List Operand), (∀ x ∈ xs, get s x = get s' x) → toDs σ s sz xs = toDs σ s' sz xs
  | [], _ => rfl
  | x :: r, h => by simp only [toDs, h x (by simp), toDs_congr r fun y hy => h y (by simp [hy])]

theorem buildSliceF_congr {t : TypeId} {len : Nat} {ps : List (Nat × Operand)} (h : ∀ p ∈ ps, get s p.2 = get s' p.2) : buildSliceF P t len σ s ps = buildSliceF P t len σ s' ps := by
  unfold buildSliceF
  split
  · split
    · split
      · rename_i xs hxs
        rw [toDs_congr (s' := s') xs fun x hx => by obtain ⟨i, hi⟩ := inOrder_mem _ _ _ hxs x hx; exact h _ hi]
      · rfl
    · rfl
  · rfl

theorem quietF_congr {op : Op} (h : ∀ x ∈ op.operands, get s x = get s' x) : quietF P s σ op = quietF P s' σ op := by
  cases op
  case slice t x lo hi mx =>
    simp only [quietF]
    have h0 := h x (by simp [Op.operands])
    have h1 : lo.map (get s) = lo.map (get s') := by cases lo <;> simp_all [Op.operands]
    have h2 : hi.map (get s) = hi.map (get s') := by cases hi <;> simp_all [Op.operands]
    have h3 : mx.map (get s) = mx.map (get s') := by cases mx <;> simp_all [Op.operands]
    rw [h0, h1, h2, h3]
  case makeFunc fn first caps =>
    unfold quietF
    cases fn <;> simp only []
    rw [argsOf_congr fun x hx => h x (by simp [Op.operands, hx])]
  case call cl =>
    obtain ⟨callee, args, ts⟩ := cl
    cases callee <;> simp only [quietF]
    rw [argsOf_congr fun x hx => h x (by simp [Op.operands, Call.operands, hx])]
  all_goals (simp [Op.operands] at h)
  all_goals (simp only [quietF]; try simp only [h])

theorem quietG_congr {op : Op} (h : ∀ x ∈ op.operands, get s x = get s' x) : quietG P s σ op = quietG P s' σ op := by
  unfold quietG
  split
  · rename_i t parts
    unfold buildF
    have hp : ∀ p ∈ parts.toList, get s p.2 = get s' p.2 := fun p hp => h p.2 (by simp only [Op.operands, List.mem_toArray, List.mem_map]; exact ⟨p, hp, rfl⟩)
    simp only [fillV_congr (s' := s') _ _ hp]
  · exact quietF_congr h

theorem effF_congr {op : Op} (h : ∀ x ∈ op.operands, get s x = get s' x) : effF P s σ op = effF P s' σ op := by
  cases op
  case buildSlice t len parts =>
    simp only [effF]
    exact buildSliceF_congr fun p hp => h p.2 (by simp only [Op.operands, List.mem_toArray, List.mem_map]; exact ⟨p, hp, rfl⟩)
  case makeMap t r => cases r <;> simp only [effF]
  case call cl =>
    obtain ⟨callee, args, ts⟩ := cl
    have ha : ∀ x ∈ args.toList, get s x = get s' x := fun x hx => h x (by simp only [Op.operands, Call.operands]; cases callee <;> simp <;> simp at hx <;> simp [hx])
    cases callee with
    | builtin b =>
      cases b <;> simp only [effF]
      all_goals
        split
        · rename_i e _
          rw [e] at ha
          simp at ha
          simp only [ha]
        · rfl
    | _ => simp only [effF]
  all_goals (simp [Op.operands] at h)
  all_goals (simp only [effF]; try simp only [h])

theorem stepA_congr {o : Oper} {K : V → List Ob → Prop} (h : ∀ x ∈ o.op.operands, get s x = get s' x) : stepA P o s σ K = stepA P o s' σ K := by
  unfold stepA
  split
  · rename_i f args ts ho
    rw [ho] at h
    rw [h f (by simp [Op.operands, Call.operands]), argsOf_congr fun x hx => h x (by simp [Op.operands, Call.operands, hx])]
  · rename_i op hop
    rw [quietG_congr h, effF_congr h, nilA_congr h]
end

/-! ### a plan of a region -/
inductive Stp where
  | q (al : Bool) (i : Nat)
  | ef (i : Nat) (chk : List (Nat × Bool))

def Stp.idx : Stp → Nat
  | .q _ i => i
  | .ef i _ => i

theorem buildSliceD_congr {P : Program} {t : TypeId} {len : Nat} {σ : List Ob} {s s' : List V} {ps : List (Nat × Operand)} (h : ∀ p ∈ ps, get s p.2 = get s' p.2) : buildSliceD P t len σ s ps = buildSliceD P t len σ s' ps := by
  unfold buildSliceD
  split
  · split
    · split
      · rename_i xs hxs
        rw [toDs_congr (s' := s') xs fun x hx => by obtain ⟨i, hi⟩ := inOrder_mem _ _ _ hxs x hx; exact h _ hi]
      · rfl
    · rfl
  · rfl

/-- What a quiet operation yields; with the mark: a literal slice, as data. -/
def doQ (P : Program) (al : Bool) (o : Oper) (s : List V) (σ : List Ob) : Option V :=
  match al with
  | false => quietG P s σ o.op
  | true => match o.op with
    | .buildSlice t len parts => buildSliceD P t len σ s parts.toList
    | _ => none

theorem doQ_congr {P : Program} {al : Bool} {o : Oper} {s s' : List V} {σ : List Ob} (h : ∀ x ∈ o.op.operands, get s x = get s' x) : doQ P al o s σ = doQ P al o s' σ := by
  unfold doQ
  split
  · exact quietG_congr h
  · split
    · rename_i t len parts ho
      rw [ho] at h
      exact buildSliceD_congr fun p hp => h p.2 (by simp only [Op.operands, List.mem_toArray, List.mem_map]; exact ⟨p, hp, rfl⟩)
    · rfl

theorem doQ_sound {P : Program} {al : Bool} {o : Oper} {a : Act} {c : Cx} {s : List V} {σ : List Ob} (h : SR c σ) (hs : c.vrs s a.tmps.toList) {r : V} (e : doQ P al o s σ = some r) :
    ∃ u w', (execOp a.eval o).run P c.w = .ok (.value u) w' ∧ SR ⟨w', c.loc, c.hid⟩ σ ∧ Ext c ⟨w', c.loc, c.hid⟩ ∧ Cx.vr ⟨w', c.loc, c.hid⟩ r u := by
  unfold doQ at e
  split at e
  · obtain ⟨v, h1, h2⟩ := quietG_sound h hs e
    exact ⟨v, c.w, h1, h, Ext.refl c, h2⟩
  · split at e
    · rename_i t len parts ho
      obtain ⟨sz, ds, rfl, h1⟩ := buildSliceD_F e
      obtain ⟨v, w', g1, g2, g3, g4⟩ := buildSlice_data (σ' := σ) h hs h1
      refine ⟨v, w', ?_, g2, g3, g4⟩
      simp only [execOp, ho]
      exact run_value g1
    · cases e

def guardA (ops : Array Oper) (o : Oper) (s : List V) (yes no : List V → Prop) : Prop :=
  match o.guard with
  | none => yes s
  | some (j, want) => match (ops[j]?).bind (·.dst) with
    | some d => match s.getD d .undef with
      | .d (.bool b) => (b = want → yes (s.set d (.d (.bool want)))) ∧ (b = (!want) → no (s.set d (.d (.bool (!want)))))
      | .tup [] => no s
      | _ => False
    | none => False

def guardOf (ops : Array Oper) (o : Oper) (s : List V) : Option Bool :=
  match o.guard with
  | none => some true
  | some (j, want) => match (ops[j]?).bind (·.dst) with
    | some d => match s.getD d .undef with
      | .d (.bool b) => some (b == want)
      | .tup [] => some false
      | _ => none
    | none => none

def chk1 (P : Program) (ops : Array Oper) (q : Nat × Bool) (s : List V) (σ : List Ob) : Prop :=
  match ops[q.1]? with
  | some o => match guardOf ops o s with
    | some true => match o.dst with
      | some d => doQ P q.2 o s σ = some (s.getD d .undef)
      | none => (doQ P q.2 o s σ).isSome = true
    | some false => match o.dst with
      | some d => s.getD d .undef = .tup []
      | none => True
    | none => False
  | none => False

def chkA (P : Program) (ops : Array Oper) : List (Nat × Bool) → List V → List Ob → Prop
  | [], _, _ => True
  | q :: r, s, σ => chk1 P ops q s σ ∧ chkA P ops r s σ

/-- A region in the order of a plan; after each operation that acts, what may still be pending is looked at again. -/
def anyA (P : Program) (ops : Array Oper) : List Stp → List V → List Ob → (List V → List Ob → Prop) → Prop
  | [], s, σ, K => K s σ
  | .q al i :: r, s, σ, K => match ops[i]? with
    | some o => guardA ops o s
        (fun s => match doQ P al o s σ with | some v => anyA P ops r (putV s o.dst v) σ K | none => False)
        (fun s => anyA P ops r (putV s o.dst (.tup [])) σ K)
    | none => False
  | .ef i chk :: r, s, σ, K => match ops[i]? with
    | some o => guardA ops o s
        (fun s => stepA P o s σ fun v σ' => chkA P ops chk (putV s o.dst v) σ' ∧ anyA P ops r (putV s o.dst v) σ' K)
        (fun s => anyA P ops r (putV s o.dst (.tup [])) σ K)
    | none => False

def afterOf (ops : Array Oper) (i : Nat) : List Nat :=
  match ops[i]? with
  | some o => (o.after.toList.filter fun e => Region.binds .any e).map (·.on)
  | none => []

def behindOk (ops : Array Oper) : List Nat → List Nat → Bool
  | _, [] => true
  | B, i :: r => (afterOf ops i).any B.contains && behindOk ops (i :: B) r

def ancs (ops : Array Oper) : List Nat → List Nat → List Nat
  | [], A => A
  | j :: r, A => ancs ops r (if A.contains j then afterOf ops j ++ A else A)

def topoOk (ops : Array Oper) : List Nat → List Nat → Bool
  | _, [] => true
  | done, i :: r => (afterOf ops i).all done.contains && topoOk ops (i :: done) r

def efsOf : List Stp → List Nat
  | [] => []
  | .q _ _ :: r => efsOf r
  | .ef i _ :: r => i :: efsOf r

def planOk (ops : Array Oper) (efs : List Nat) : List Nat → List Nat → List Stp → Bool
  | _, _, [] => true
  | done, prev, .q _ i :: r => !efs.contains i && planOk ops efs (i :: done) (i :: prev) r
  | done, prev, .ef i chk :: r => behindOk ops [i] (r.map Stp.idx) && (prev.all fun p => (chk.map (·.1)).contains p || (ancs ops done (afterOf ops i)).contains p) && planOk ops efs (i :: done) (chk.map (·.1)) r

def chkIn (n : Nat) : List Stp → Bool
  | [] => true
  | .q _ _ :: r => chkIn n r
  | .ef _ chk :: r => (chk.all fun p => decide (p.1 < n)) && chkIn n r

def pairOk (ops : Array Oper) (efs : List Nat) (i j : Nat) : Bool :=
  match ops[i]?, ops[j]? with
  | some oi, some oj => match oj.dst with
    | some d => (!(oi.looksAt ops).contains d || (afterOf ops i).contains j || (efs.contains j && (i == j || (afterOf ops j).contains i))) && (i == j || oi.dst != some d)
    | none => true
  | _, _ => true

def regOk (ops : Array Oper) (plan : List Stp) : Bool :=
  ((List.range ops.size).all fun i => (List.range ops.size).all fun j => pairOk ops (efsOf plan) i j) && chkIn ops.size plan && (plan.map Stp.idx).Nodup && (plan.length == ops.size) && ((plan.map Stp.idx).all fun i => decide (i < ops.size)) && ((List.range ops.size).all (plan.map Stp.idx).contains) && topoOk ops [] (plan.map Stp.idx) && planOk ops (efsOf plan) [] [] plan

/-! ### soundness -/
section
variable {P : Program} {ops : Array Oper} {efs : List Nat}

theorem behind_sound {L : Nat → Prop} : ∀ (r B : List Nat), behindOk ops B r = true → (∀ j ∈ B, ¬ L j) → (∀ i ∈ r, ¬ L i) → ∀ i ∈ r, ∃ j ∈ afterOf ops i, ¬ L j
  | [], B, _, _, _, i, hi => by simp at hi
  | k :: r, B, h, hB, hr, i, hi => by
    simp only [behindOk, Bool.and_eq_true] at h
    rcases List.mem_cons.1 hi with rfl | hi
    · obtain ⟨j, h1, h2⟩ := List.any_eq_true.1 h.1
      exact ⟨j, h1, hB j (by simpa using h2)⟩
    · refine behind_sound r (k :: B) h.2 (fun j hj => ?_) (fun j hj => hr j (by simp [hj])) i hi
      rcases List.mem_cons.1 hj with rfl | hj
      · exact hr _ (by simp)
      · exact hB j hj

theorem ancs_sound {L : Nat → Prop} (hc : ∀ i, L i → ∀ j ∈ afterOf ops i, L j) : ∀ (done A : List Nat), (∀ j ∈ A, L j) → ∀ j ∈ ancs ops done A, L j
  | [], A, h, j, hj => h j hj
  | k :: r, A, h, j, hj => by
    simp only [ancs] at hj
    refine ancs_sound hc r _ (fun i hi => ?_) j hj
    split at hi
    · rename_i hk
      rcases List.mem_append.1 hi with q | q
      · exact hc k (h k (by simpa using hk)) i q
      · exact h i q
    · exact h i hi

/-- Each has what it waits for listed, or ahead of it. -/
def Topo (ops : Array Oper) : (Nat → Prop) → List Nat → Prop
  | _, [] => True
  | L, i :: r => (∀ j ∈ afterOf ops i, L j) ∧ Topo ops (fun k => L k ∨ k = i) r

theorem Topo.mono : ∀ (r : List Nat) (L L' : Nat → Prop), (∀ k, L k → L' k) → Topo ops L r → Topo ops L' r
  | [], _, _, _, _ => trivial
  | i :: r, L, L', h, ht => ⟨fun j hj => h j (ht.1 j hj), Topo.mono r _ _ (fun k hk => hk.imp (h k) id) ht.2⟩

theorem Topo.erase : ∀ (r : List Nat) (L : Nat → Prop) (x : Nat), Topo ops L r → Topo ops (fun k => L k ∨ k = x) (r.erase x)
  | [], _, _, _ => trivial
  | i :: r, L, x, ht => by
    by_cases h : i = x
    · subst h; simp only [List.erase_cons_head]; exact ht.2
    · rw [List.erase_cons_tail (by simpa using h)]
      refine ⟨fun j hj => .inl (ht.1 j hj), ?_⟩
      refine Topo.mono _ _ _ ?_ (Topo.erase r _ x ht.2)
      rintro k ((h | h) | h)
      · exact .inl (.inl h)
      · exact .inr h
      · exact .inl (.inr h)

theorem topo_of_ok : ∀ (r done : List Nat) (L : Nat → Prop), topoOk ops done r = true → (∀ j ∈ done, L j) → Topo ops L r
  | [], _, _, _, _ => trivial
  | i :: r, done, L, h, hd => by
    simp only [topoOk, Bool.and_eq_true] at h
    refine ⟨fun j hj => hd j (by simpa using List.all_eq_true.1 h.1 j hj), topo_of_ok r (i :: done) _ h.2 fun j hj => ?_⟩
    rcases List.mem_cons.1 hj with rfl | hj
    · exact .inr rfl
    · exact .inl (hd j hj)

def Lst (listed : Array Bool) (i : Nat) : Prop := listed.getD i false = true

def PendOk (P : Program) (ops : Array Oper) (i : Nat) (s : List V) (σ : List Ob) : Prop :=
  ∃ o, ops[i]? = some o ∧ ((guardOf ops o s = some true ∧ ∃ al v, doQ P al o s σ = some v ∧ ∀ d, o.dst = some d → d < s.length → s.getD d .undef = v) ∨ (guardOf ops o s = some false ∧ ∀ d, o.dst = some d → d < s.length → s.getD d .undef = .tup []))

theorem PendOk.of_chk {q : Nat × Bool} {s : List V} {σ : List Ob} (h : chk1 P ops q s σ) : PendOk P ops q.1 s σ := by
  unfold chk1 at h
  split at h
  · rename_i o ho
    refine ⟨o, ho, ?_⟩
    split at h
    · rename_i hg
      left
      refine ⟨hg, q.2, ?_⟩
      split at h
      · rename_i d hd
        exact ⟨_, h, fun d' hd' _ => by rw [hd] at hd'; cases hd'; rfl⟩
      · rename_i hd
        obtain ⟨v, hv⟩ := Option.isSome_iff_exists.1 h
        exact ⟨v, hv, fun d' hd' => by rw [hd] at hd'; cases hd'⟩
    · rename_i hg
      right
      refine ⟨hg, fun d hd _ => ?_⟩
      rw [hd] at h
      exact h
    · exact h.elim
  · exact h.elim

theorem guardOf_congr {o : Oper} {s s' : List V} (h : ∀ t ∈ o.looksAt ops, s.getD t .undef = s'.getD t .undef) : guardOf ops o s = guardOf ops o s' := by
  unfold guardOf
  split
  · rfl
  · rename_i j want hg
    split
    · rename_i d hd
      have : d ∈ o.looksAt ops := by
        unfold Oper.looksAt
        rw [hg]
        simp only [List.mem_append]
        right
        simp only [hd, Option.toList_some, List.mem_singleton]
      rw [h d this]
    · rfl

theorem get_congr_looks {o : Oper} {s s' : List V} (h : ∀ t ∈ o.looksAt ops, s.getD t .undef = s'.getD t .undef) : ∀ x ∈ o.op.operands, get s x = get s' x := by
  intro x hx
  cases x with
  | tmp t => exact h t (List.mem_append_left _ (List.mem_filterMap.2 ⟨.tmp t, by simpa using hx, rfl⟩))
  | _ => rfl

theorem PendOk.congr {i : Nat} {o : Oper} (ho : ops[i]? = some o) {s s' : List V} {σ : List Ob} (hl : s.length = s'.length) (h : ∀ t ∈ o.looksAt ops, s.getD t .undef = s'.getD t .undef) (hd : ∀ d, o.dst = some d → s.getD d .undef = s'.getD d .undef) (g : PendOk P ops i s σ) : PendOk P ops i s' σ := by
  obtain ⟨o', ho', g⟩ := g
  rw [ho] at ho'; cases ho'
  refine ⟨o, ho, ?_⟩
  rw [← guardOf_congr h, ← hl]
  rcases g with ⟨g1, al, v, g2, g3⟩ | ⟨g1, g2⟩
  · exact .inl ⟨g1, al, v, by rw [← doQ_congr (get_congr_looks h)]; exact g2, fun d e hlt => by rw [← hd d e]; exact g3 d e hlt⟩
  · exact .inr ⟨g1, fun d e hlt => by rw [← hd d e]; exact g2 d e hlt⟩

theorem set_same_bool {s : List V} {d : Nat} {b : Bool} (hb : s.getD d .undef = .d (.bool b)) : s.set d (.d (.bool b)) = s := by
  apply List.ext_getElem?
  intro i
  rw [List.getElem?_set]
  split
  · rename_i q; subst q
    rw [List.getD_eq_getElem?_getD] at hb
    split
    · rename_i hlt
      rw [List.getElem?_eq_getElem hlt] at hb ⊢
      simp at hb
      simp [hb]
    · rename_i hlt
      rw [List.getElem?_eq_none (by omega)]
  · rfl

theorem guardA_cases {o : Oper} {s : List V} {yes no : List V → Prop} (h : guardA ops o s yes no) : (guardOf ops o s = some true ∧ yes s) ∨ (guardOf ops o s = some false ∧ no s) := by
  unfold guardA at h
  unfold guardOf
  split at h
  · exact .inl ⟨rfl, h⟩
  · rename_i j want hg
    split at h
    · rename_i d hd
      split at h
      · rename_i b hb
        by_cases e : b = want
        · subst e
          left
          have := h.1 rfl
          rw [set_same_bool hb] at this
          exact ⟨by simp [hb], this⟩
        · right
          have hn : b = !want := by cases b <;> cases want <;> simp_all
          have := h.2 hn
          rw [← hn, set_same_bool hb] at this
          exact ⟨by simp [hb, e], this⟩
      · rename_i hb
        exact .inr ⟨by simp [hb], h⟩
      · exact h.elim
    · exact h.elim

structure Inv (P : Program) (ops : Array Oper) (efs : List Nat) (listed : Array Bool) (pend : List Nat) (rest : List Nat) (s : List V) (σ : List Ob) (c : Cx) (a : Act) : Prop where
  sr : SR c σ
  df : a.defers = []
  len : s.length = a.tmps.size
  vals : ∀ t, (∀ i ∈ pend, ∀ o, ops[i]? = some o → o.dst ≠ some t) → ∀ x v, s[t]? = some x → a.tmps[t]? = some v → c.vr x v
  sizeL : listed.size = ops.size
  un : ∀ i, i < ops.size → (¬ Lst listed i ↔ i ∈ pend ∨ i ∈ rest)
  lt : ∀ i ∈ pend ++ rest, i < ops.size
  nodup : (pend ++ rest).Nodup
  closed : ∀ i, Lst listed i → ∀ j ∈ afterOf ops i, Lst listed j
  topo : Topo ops (Lst listed) (pend ++ rest)
  ok : ∀ i ∈ pend, PendOk P ops i s σ
  pq : ∀ i ∈ pend, i ∉ efs

theorem lst_set {listed : Array Bool} {i : Nat} (hi : i < listed.size) (k : Nat) : Lst (listed.setIfInBounds i true) k ↔ Lst listed k ∨ k = i := by
  unfold Lst
  simp only [Array.getD_eq_getD_getElem?]
  rw [Array.getElem?_setIfInBounds]
  split
  · rename_i h; subst h; simp [hi]
  · rename_i h
    constructor
    · exact .inl
    · rintro (h' | h')
      · exact h'
      · exact absurd h'.symm h

theorem ready_iff {listed : Array Bool} (hl : listed.size = ops.size) {i : Nat} (h : i ∈ Region.ready .any ops listed) : i < ops.size ∧ ¬ Lst listed i ∧ ∀ j ∈ afterOf ops i, Lst listed j := by
  obtain ⟨h1, o, ho, h2⟩ := mem_ready.1 h
  have hlt : i < ops.size := (Array.getElem?_eq_some_iff.1 ho).1
  refine ⟨hlt, ?_, ?_⟩
  · unfold Lst
    have hi : i < listed.size := by omega
    simp only [Array.getD_eq_getD_getElem?, Array.getElem?_eq_getElem hi, Option.getD_some] at h1 ⊢
    simp [h1]
  · intro j hj
    simp only [afterOf, ho, List.mem_map, List.mem_filter] at hj
    obtain ⟨e, ⟨he, hb⟩, rfl⟩ := hj
    exact h2 e (by simpa using he) hb

theorem ready_of {listed : Array Bool} (hl : listed.size = ops.size) {i : Nat} (hlt : i < ops.size) (hn : ¬ Lst listed i) (ha : ∀ j ∈ afterOf ops i, Lst listed j) : i ∈ Region.ready .any ops listed := by
  refine mem_ready.2 ⟨?_, ops[i], Array.getElem?_eq_getElem hlt, fun e he hb => ?_⟩
  · unfold Lst at hn
    have hi : i < listed.size := by omega
    simp only [Array.getD_eq_getD_getElem?, Array.getElem?_eq_getElem hi, Option.getD_some] at hn ⊢
    simpa using hn
  · refine ha e.on ?_
    simp only [afterOf, Array.getElem?_eq_getElem hlt, List.mem_map, List.mem_filter]
    exact ⟨e, ⟨by simpa using he, hb⟩, rfl⟩

theorem Topo.pend {L : Nat → Prop} : ∀ (p r : List Nat), Topo ops L (p ++ r) → ∀ i ∈ p, ∀ j ∈ afterOf ops i, L j ∨ j ∈ p
  | [], _, _, i, hi, _, _ => by simp at hi
  | k :: p, r, h, i, hi, j, hj => by
    rcases List.mem_cons.1 hi with rfl | hi
    · exact .inl (h.1 j hj)
    · rcases Topo.pend p r h.2 i hi j hj with (q | q) | q
      · exact .inl q
      · exact .inr (by simp [q])
      · exact .inr (by simp [q])

theorem Topo.next {L : Nat → Prop} : ∀ (p : List Nat) (i : Nat) (r : List Nat), Topo ops L (p ++ i :: r) → ∀ j ∈ afterOf ops i, L j ∨ j ∈ p
  | [], i, r, h, j, hj => .inl (h.1 j hj)
  | k :: p, i, r, h, j, hj => by
    rcases Topo.next p i r h.2 j hj with (q | q) | q
    · exact .inl q
    · exact .inr (by simp [q])
    · exact .inr (by simp [q])

/-- The slots without what is pending. -/
def mask (ops : Array Oper) (pend : List Nat) (s : List V) : List V :=
  s.mapIdx fun t x => if pend.any fun i => (ops[i]?).bind (·.dst) == some t then .undef else x

theorem mask_free {pend : List Nat} {s : List V} {t : Nat} (h : ∀ i ∈ pend, ∀ o, ops[i]? = some o → o.dst ≠ some t) : (mask ops pend s).getD t .undef = s.getD t .undef := by
  have hn : (pend.any fun i => (ops[i]?).bind (·.dst) == some t) = false := by
    rw [List.any_eq_false]
    intro i hi hh
    cases ho : ops[i]? with
    | none => simp [ho] at hh
    | some o => exact h i hi o ho (by simpa [ho] using hh)
  simp only [List.getD_eq_getElem?_getD, mask, List.getElem?_mapIdx, hn]
  cases s[t]? <;> simp

theorem Inv.mask {listed : Array Bool} {pend rest : List Nat} {s : List V} {σ : List Ob} {c : Cx} {a : Act} (h : Inv P ops efs listed pend rest s σ c a) : Rel c (mask ops pend s) σ a := by
  refine ⟨h.sr, ?_, h.df⟩
  refine VRs_of_get (by simp [Am.mask, h.len]) fun t x v e f => ?_
  simp only [Am.mask, List.getElem?_mapIdx] at e
  cases hs : s[t]? with
  | none => simp [hs] at e
  | some y =>
    rw [hs] at e
    simp only [Option.map_some, Option.some.injEq] at e
    subst e
    split
    · simp [VR]
    · rename_i hn
      refine h.vals t (fun i hi o ho hd => ?_) y v hs (by simpa using f)
      apply hn
      rw [List.any_eq_true]
      exact ⟨i, hi, by simp [ho, hd]⟩

theorem wanted_of {pend : List Nat} {s : List V} {c : Cx} {a : Act} {o : Oper} (hs : c.vrs s a.tmps.toList) {b : Bool} (hg : guardOf ops o s = some b) : Region.wanted o (yielded ops a.tmps) = b := by
  unfold guardOf at hg
  unfold Region.wanted
  split at hg
  · rename_i h0
    simp only [Option.some.injEq] at hg; subst hg
    rw [h0]
  · rename_i j want h0
    rw [h0]
    simp only []
    split at hg
    · rename_i d hd
      split at hg
      · rename_i t ht
        simp only [Option.some.injEq] at hg; subst hg
        rw [yielded_of hs (by simpa using hd) ht]
        cases t <;> cases want <;> rfl
      · rename_i ht
        simp only [Option.some.injEq] at hg; subst hg
        rw [yielded_none hs (by simpa using hd) ht]
        rfl
      · cases hg
    · cases hg

theorem getD_put {s : List V} {dst : Option Tmp} {v : V} {t : Nat} (h : dst ≠ some t) : (putV s dst v).getD t .undef = s.getD t .undef := by
  cases dst with
  | none => rfl
  | some d =>
    simp only [putV, List.getD_eq_getElem?_getD]
    rw [List.getElem?_set_ne (fun e => h (by rw [e]))]

theorem putV_length (s : List V) (dst : Option Tmp) (v : V) : (putV s dst v).length = s.length := by
  cases dst <;> simp [putV]

theorem putV_get {s : List V} {dst : Option Tmp} {x : V} {t : Nat} {y : V} (h : (putV s dst x)[t]? = some y) : (dst = some t ∧ y = x) ∨ (dst ≠ some t ∧ s[t]? = some y) := by
  cases dst with
  | none => exact .inr ⟨by simp, h⟩
  | some d =>
    simp only [putV, List.getElem?_set] at h
    split at h
    · rename_i e; subst e
      split at h
      · simp at h; exact .inl ⟨rfl, h.symm⟩
      · cases h
    · rename_i e; exact .inr ⟨fun q => e (by simpa using q), h⟩

theorem put_get {a : Act} {dst : Option Tmp} {u v : Value} {t : Nat} (h : (a.put dst u).tmps[t]? = some v) : (dst = some t ∧ v = u) ∨ (dst ≠ some t ∧ a.tmps[t]? = some v) := by
  cases dst with
  | none => exact .inr ⟨by simp, h⟩
  | some d =>
    simp only [Act.put, Array.getElem?_setIfInBounds] at h
    split at h
    · rename_i e; subst e
      split at h
      · simp at h; exact .inl ⟨rfl, h.symm⟩
      · cases h
    · rename_i e; exact .inr ⟨fun q => e (by simpa using q), h⟩

theorem put_size (a : Act) (dst : Option Tmp) (u : Value) : (a.put dst u).tmps.size = a.tmps.size := by cases dst <;> simp [Act.put]
theorem put_df (a : Act) (dst : Option Tmp) (u : Value) : (a.put dst u).defers = a.defers := by cases dst <;> rfl

/-- The two facts of a region's own text. -/
structure Pairs (ops : Array Oper) (efs : List Nat) : Prop where
  dep : ∀ {i j : Nat} {oi oj : Oper} {d : Tmp}, ops[i]? = some oi → ops[j]? = some oj → oj.dst = some d → d ∈ oi.looksAt ops → j ∈ afterOf ops i ∨ (j ∈ efs ∧ (i = j ∨ i ∈ afterOf ops j))
  dst : ∀ {i j : Nat} {oi oj : Oper} {d : Tmp}, ops[i]? = some oi → ops[j]? = some oj → oi.dst = some d → oj.dst = some d → i = j

theorem pairs_of {plan : List Stp} (h : regOk ops plan = true) : Pairs ops (efsOf plan) := by
  have hp : ∀ i j, i < ops.size → j < ops.size → pairOk ops (efsOf plan) i j = true := by
    simp only [regOk, Bool.and_eq_true] at h
    intro i j hi hj
    exact List.all_eq_true.1 (List.all_eq_true.1 h.1.1.1.1.1.1.1 i (by simpa using hi)) j (by simpa using hj)
  constructor
  · intro i j oi oj d ho hj hd hm
    have := hp i j (Array.getElem?_eq_some_iff.1 ho).1 (Array.getElem?_eq_some_iff.1 hj).1
    simp only [pairOk, ho, hj, hd, Bool.and_eq_true, Bool.or_eq_true, Bool.not_eq_true', List.contains_eq_mem, decide_eq_true_eq, decide_eq_false_iff_not, beq_iff_eq] at this
    rcases this.1 with (q | q) | q
    · exact absurd hm q
    · exact .inl q
    · exact .inr q
  · intro i j oi oj d ho hj hd hm
    have := hp i j (Array.getElem?_eq_some_iff.1 ho).1 (Array.getElem?_eq_some_iff.1 hj).1
    simp only [pairOk, ho, hj, hd, hm, Bool.and_eq_true, Bool.or_eq_true, bne_self_eq_false, Bool.false_eq_true, or_false, beq_iff_eq] at this
    exact this.2

/-- A ready operation looks at nothing that is pending. -/
theorem Inv.looks {listed : Array Bool} {pend rest : List Nat} {s : List V} {σ : List Ob} {c : Cx} {a : Act} (hp : Pairs ops efs) (h : Inv P ops efs listed pend rest s σ c a) {i : Nat} {o : Oper} (ho : ops[i]? = some o) (hr : ∀ j ∈ afterOf ops i, Lst listed j) :
    ∀ t ∈ o.looksAt ops, s.getD t .undef = (Am.mask ops pend s).getD t .undef := by
  intro t ht
  refine (mask_free fun j hj oj hoj hd => ?_).symm
  have h1 : Lst listed j := by
    rcases hp.dep ho hoj hd ht with q | q
    · exact hr j q
    · exact absurd q.1 (h.pq j hj)
  have h2 := (h.un j (h.lt j (by simp [hj]))).2 (.inl hj)
  exact h2 h1

/-- What is pending does not look at what comes later. -/
theorem Inv.pend_put {listed : Array Bool} {pend : List Nat} {i : Nat} {rest : List Nat} {s : List V} {σ : List Ob} {c : Cx} {a : Act} (hp : Pairs ops efs) (h : Inv P ops efs listed pend (i :: rest) s σ c a) {o : Oper} (ho : ops[i]? = some o) (hq : i ∉ efs ∨ ∀ k ∈ afterOf ops i, Lst listed k) (v : V) :
    ∀ j ∈ pend, PendOk P ops j (putV s o.dst v) σ := by
  intro j hj
  have g := h.ok j hj
  obtain ⟨oj, hoj, _⟩ := h.ok j hj
  have hnd := h.nodup
  have hij : i ∉ pend := fun q => by
    rw [List.nodup_append] at hnd
    exact hnd.2.2 i q i (by simp) rfl
  have hni : ¬ Lst listed i := (h.un i (h.lt i (by simp))).2 (.inr (by simp))
  refine PendOk.congr hoj (putV_length s o.dst v).symm (fun t ht => (getD_put fun e => ?_).symm) (fun d hd => (getD_put fun e => ?_).symm) g
  · rcases hp.dep hoj ho e ht with hd | ⟨he, hd | hd⟩
    · rcases Topo.pend pend (i :: rest) h.topo j hj i hd with q | q
      · exact hni q
      · exact hij q
    · subst hd; exact hij hj
    · rcases hq with hq | hq
      · exact hq he
      · exact (h.un j (h.lt j (by simp [hj]))).2 (.inl hj) (hq j hd)
  · have := hp.dst hoj ho hd e
    subst this
    exact hij hj

variable {Q : Exit → Act → World → Prop} {K : List V → List Ob → Prop}

theorem Inv.done_step {listed : Array Bool} {pend rest pend' rest' : List Nat} {s s' : List V} {σ σ' : List Ob} {c c' : Cx} {a a' : Act} (h : Inv P ops efs listed pend rest s σ c a) {i : Nat} (hi : i < ops.size) (hmem : i ∈ pend ++ rest) (hr : ∀ j ∈ afterOf ops i, Lst listed j)
    (hl : pend' ++ rest' = (pend ++ rest).erase i) (sr : SR c' σ') (df : a'.defers = []) (len : s'.length = a'.tmps.size)
    (vals : ∀ t, (∀ i ∈ pend', ∀ o, ops[i]? = some o → o.dst ≠ some t) → ∀ x v, s'[t]? = some x → a'.tmps[t]? = some v → c'.vr x v) (ok : ∀ i ∈ pend', PendOk P ops i s' σ') (pq : ∀ i ∈ pend', i ∉ efs) :
    Inv P ops efs (listed.setIfInBounds i true) pend' rest' s' σ' c' a' := by
  have hil : i < listed.size := by rw [h.sizeL]; exact hi
  have hmem' : ∀ k, k ∈ pend' ∨ k ∈ rest' ↔ (k ∈ pend ∨ k ∈ rest) ∧ k ≠ i := by
    intro k
    rw [← List.mem_append, ← List.mem_append, hl, h.nodup.mem_erase_iff]
    exact And.comm
  refine ⟨sr, df, len, vals, by simp [h.sizeL], fun k hk => ?_, fun k hk => ?_, ?_, ?_, ?_, ok, pq⟩
  · rw [lst_set hil, hmem', ← h.un k hk]
    constructor
    · intro q; exact ⟨fun e => q (.inl e), fun e => q (.inr e)⟩
    · rintro ⟨q1, q2⟩ (q | q)
      · exact q1 q
      · exact q2 q
  · rw [hl] at hk
    exact h.lt k (List.mem_of_mem_erase hk)
  · rw [hl]; exact h.nodup.erase i
  · intro k hk j hj
    rw [lst_set hil] at hk ⊢
    rcases hk with q | q
    · exact .inl (h.closed k q j hj)
    · subst q; exact .inl (hr j hj)
  · rw [hl]
    exact Topo.mono _ _ _ (fun k q => (lst_set hil k).2 q) (Topo.erase _ _ i h.topo)

theorem chkA_mem {s : List V} {σ : List Ob} : ∀ {l : List (Nat × Bool)}, chkA P ops l s σ → ∀ q ∈ l, chk1 P ops q s σ
  | [], _, q, hq => by simp at hq
  | p :: r, h, q, hq => by
    rcases List.mem_cons.1 hq with rfl | hq
    · exact h.1
    · exact chkA_mem h.2 q hq

theorem wpOp_wanted {i : Nat} {o : Oper} (ho : ops[i]? = some o) {a : Act} {w : World} {R : Act → World → Prop} (hw : Region.wanted o (yielded ops a.tmps) = true) (h : o.wp P a w R Q ∨ (o.asks P a w ∧ LetsOut Q)) : wpOp P ops Q i R a w := by
  unfold wpOp
  simp only [ho, hw, if_true]
  exact h

theorem wpOp_unwanted {i : Nat} {o : Oper} (ho : ops[i]? = some o) {a : Act} {w : World} {R : Act → World → Prop} (hw : Region.wanted o (yielded ops a.tmps) = false) (h : R (a.put o.dst undef) w) : wpOp P ops Q i R a w := by
  unfold wpOp
  simp only [ho, hw, Bool.false_eq_true, if_false]
  exact h

theorem vals_put {pend pend' : List Nat} {i : Nat} {o : Oper} (ho : ops[i]? = some o) (hsub : ∀ j ∈ pend, j ≠ i → j ∈ pend') {s s' : List V} {c c' : Cx} {a : Act} {u : Value}
    (vals : ∀ t, (∀ i ∈ pend, ∀ o, ops[i]? = some o → o.dst ≠ some t) → ∀ x v, s[t]? = some x → a.tmps[t]? = some v → c.vr x v) (hE : Ext c c')
    (hs : ∀ t x, s'[t]? = some x → (o.dst = some t ∧ c'.vr x u) ∨ (o.dst ≠ some t ∧ s[t]? = some x)) :
    ∀ t, (∀ i ∈ pend', ∀ o, ops[i]? = some o → o.dst ≠ some t) → ∀ x v, s'[t]? = some x → (a.put o.dst u).tmps[t]? = some v → c'.vr x v := by
  intro t ht x v hx hv
  rcases put_get hv with ⟨h1, rfl⟩ | ⟨h1, h2⟩
  · rcases hs t x hx with ⟨_, q⟩ | ⟨q, _⟩
    · exact q
    · exact absurd h1 q
  · rcases hs t x hx with ⟨q, _⟩ | ⟨_, q⟩
    · exact absurd q h1
    · refine hE.vr (vals t (fun j hj oj hoj hd => ?_) x v q h2)
      by_cases e : j = i
      · subst e
        rw [ho] at hoj; cases hoj
        exact h1 hd
      · exact ht j (hsub j hj e) oj hoj hd

theorem Inv.some_ready {listed : Array Bool} {pend : List Nat} {plan : List Stp} {s : List V} {σ : List Ob} {c : Cx} {a : Act} {m : Nat} (inv : Inv P ops efs listed pend (plan.map Stp.idx) s σ c a) (hm : pend.length + plan.length = m + 1) : Region.ready .any ops listed ≠ [] := by
  intro h0
  cases hL : pend ++ plan.map Stp.idx with
  | nil =>
    have := congrArg List.length hL
    simp at this
    rw [this.1, this.2] at hm
    simp at hm
  | cons x l =>
    have ht := inv.topo
    rw [hL] at ht
    have hx : x ∈ pend ++ plan.map Stp.idx := by rw [hL]; simp
    have := ready_of inv.sizeL (inv.lt x hx) ((inv.un x (inv.lt x hx)).2 (List.mem_append.1 hx)) ht.1
    rw [h0] at this
    cases this

theorem pend_step (m : Nat) (plan : List Stp) (hp : Pairs ops efs) {listed : Array Bool} {pend : List Nat} {s : List V} {σ : List Ob} {c : Cx} {a : Act} (inv : Inv P ops efs listed pend (plan.map Stp.idx) s σ c a) {i : Nat} (hi : i ∈ pend) (hr : ∀ j ∈ afterOf ops i, Lst listed j)
    (go : ∀ listed pend' c' a', Ext c c' → Inv P ops efs listed pend' (plan.map Stp.idx) s σ c' a' → (∀ j ∈ pend', j ∈ pend) → pend'.length + plan.length = m → wpAny P .any ops Q m listed a' c'.w) (hm : pend.length + plan.length = m + 1) :
    wpOp P ops Q i (wpAny P .any ops Q m (listed.setIfInBounds i true)) a c.w := by
  obtain ⟨o, ho, hok⟩ := inv.ok i hi
  have hlk := inv.looks hp ho hr
  have hrel := inv.mask
  have hw : ∀ b, guardOf ops o s = some b → Region.wanted o (yielded ops a.tmps) = b := fun b hb => wanted_of (pend := pend) hrel.sl (by rw [← guardOf_congr hlk]; exact hb)
  have hsub : ∀ j ∈ pend.erase i, j ∈ pend := fun j hj => List.mem_of_mem_erase hj
  have hl : pend.erase i ++ plan.map Stp.idx = (pend ++ plan.map Stp.idx).erase i := (List.erase_append_left _ hi).symm
  have hlen : (pend.erase i).length + plan.length = m := by
    rw [List.length_erase_of_mem hi]
    have := List.length_pos_of_mem hi
    omega
  have hkeep : ∀ j ∈ pend, j ≠ i → j ∈ pend.erase i := fun j hj hne => (List.mem_erase_of_ne hne).2 hj
  have hlt := inv.lt i (by simp [hi])
  rcases hok with ⟨hg, al, v, hv, hd⟩ | ⟨hg, hd⟩
  · refine wpOp_wanted ho (hw _ hg) (.inl ?_)
    rw [doQ_congr (get_congr_looks hlk)] at hv
    obtain ⟨u, w', h1, h2, h3, h4⟩ := doQ_sound hrel.sr hrel.sl hv
    unfold Oper.wp
    rw [h1, Oper.upon_value]
    refine go _ (pend.erase i) ⟨w', c.loc, c.hid⟩ (a.put o.dst u) h3 ?_ hsub hlen
    refine inv.done_step hlt (by simp [hi]) hr hl h2 (by rw [put_df]; exact inv.df) (by rw [put_size]; exact inv.len) ?_ (fun j hj => inv.ok j (hsub j hj)) (fun j hj => inv.pq j (hsub j hj))
    refine vals_put ho hkeep inv.vals h3 fun t y hy => ?_
    by_cases e : o.dst = some t
    · have hlt' := (List.getElem?_eq_some_iff.1 hy).1
      have := hd t e hlt'
      rw [List.getD_eq_getElem?_getD, hy] at this
      simp at this
      subst this
      exact .inl ⟨e, h4⟩
    · exact .inr ⟨e, hy⟩
  · refine wpOp_unwanted ho (hw _ hg) ?_
    refine go _ (pend.erase i) c (a.put o.dst undef) (Ext.refl c) ?_ hsub hlen
    refine inv.done_step hlt (by simp [hi]) hr hl inv.sr (by rw [put_df]; exact inv.df) (by rw [put_size]; exact inv.len) ?_ (fun j hj => inv.ok j (hsub j hj)) (fun j hj => inv.pq j (hsub j hj))
    refine vals_put ho hkeep inv.vals (Ext.refl c) fun t y hy => ?_
    by_cases e : o.dst = some t
    · have := hd t e (List.getElem?_eq_some_iff.1 hy).1
      rw [List.getD_eq_getElem?_getD, hy] at this
      simp at this
      subst this
      exact .inl ⟨e, VR_none⟩
    · exact .inr ⟨e, hy⟩

theorem any_main (hp : Pairs ops efs) (c0 : Cx) (hQ : ∀ s σ c a, K s σ → Rel c s σ a → Ext c0 c → Q .normal a c.w) : ∀ (m : Nat) (plan : List Stp) (listed : Array Bool) (pend done prev : List Nat) (s : List V) (σ : List Ob) (c : Cx) (a : Act), Ext c0 c → Inv P ops efs listed pend (plan.map Stp.idx) s σ c a → (∀ i ∈ pend, i ∈ prev) → planOk ops efs done prev plan = true → anyA P ops plan s σ K → pend.length + plan.length = m → wpAny P .any ops Q m listed a c.w
  | 0, plan, listed, pend, done, prev, s, σ, c, a, hE, inv, hprev, hplan, h, hm => by
    have e1 : pend = [] := List.eq_nil_of_length_eq_zero (by omega)
    have e2 : plan = [] := List.eq_nil_of_length_eq_zero (by omega)
    subst e1; subst e2
    refine ⟨?_, hQ s σ c a h ?_ hE⟩
    · rw [List.eq_nil_iff_forall_not_mem]
      intro i hi
      obtain ⟨g1, g2, _⟩ := ready_iff inv.sizeL hi
      have := (inv.un i g1).1 g2
      simp at this
    · have := inv.mask
      have e : mask ops [] s = s := by
        unfold mask
        apply List.ext_getElem?
        intro i
        simp [List.getElem?_mapIdx]
      rw [e] at this
      exact this
  | m + 1, .q al i :: r, listed, pend, done, prev, s, σ, c, a, hE, inv, hprev, hplan, h, hm => by
    simp only [anyA] at h
    split at h
    · rename_i o ho
      have hnd := inv.nodup
      have hip : i ∉ pend := fun q => by
        rw [List.nodup_append] at hnd
        exact hnd.2.2 i q i (by simp [Stp.idx]) rfl
      have hni : ¬ Lst listed i := (inv.un i (inv.lt i (by simp [Stp.idx]))).2 (.inr (by simp [Stp.idx]))
      simp only [planOk, Bool.and_eq_true, Bool.not_eq_true', List.contains_eq_mem, decide_eq_false_iff_not] at hplan
      obtain ⟨hqe, hplan⟩ := hplan
      have hself : ∀ d, o.dst = some d → d ∉ o.looksAt ops := fun d hd hm => by
        rcases hp.dep ho ho hd hm with hd | hd
        · rcases Topo.next pend i (r.map Stp.idx) inv.topo i hd with q | q
          · exact hni q
          · exact hip q
        · exact hqe hd.1
      have next : ∀ v, PendOk P ops i (putV s o.dst v) σ → Inv P ops efs listed (pend ++ [i]) (r.map Stp.idx) (putV s o.dst v) σ c a := by
        intro v hv
        refine ⟨inv.sr, inv.df, by rw [putV_length]; exact inv.len, fun t ht x u hx hu => ?_, inv.sizeL, fun k hk => ?_, fun k hk => inv.lt k (by simpa [Stp.idx] using hk), by simpa [Stp.idx] using inv.nodup, inv.closed, by simpa [Stp.idx] using inv.topo, fun k hk => ?_, fun k hk => ?_⟩
        · rcases putV_get hx with ⟨q, _⟩ | ⟨q, hx'⟩
          · exact absurd q (ht i (by simp) o ho)
          · exact inv.vals t (fun j hj => ht j (by simp [hj])) x u hx' hu
        · rw [inv.un k hk]
          simp [Stp.idx]
          constructor
          · rintro (q | q | q) <;> simp [q]
          · rintro ((q | q) | q) <;> simp [q]
        · rcases List.mem_append.1 hk with q | q
          · exact inv.pend_put hp ho (.inl hqe) v k q
          · simp only [List.mem_singleton] at q; subst q; exact hv
        · rcases List.mem_append.1 hk with q | q
          · exact inv.pq k q
          · simp only [List.mem_singleton] at q; subst q; exact hqe
      have hlen : (pend ++ [i]).length + r.length = m + 1 := by simp at hm ⊢; omega
      have hpr : ∀ j ∈ pend ++ [i], j ∈ i :: prev := fun j hj => by
        rcases List.mem_append.1 hj with q | q
        · exact List.mem_cons_of_mem _ (hprev j q)
        · simp only [List.mem_singleton] at q; simp [q]
      have hlook : ∀ v t, t ∈ o.looksAt ops → (putV s o.dst v).getD t .undef = s.getD t .undef := fun v t ht => getD_put fun e => hself t e ht
      rcases guardA_cases h with ⟨hg, h⟩ | ⟨hg, h⟩
      · split at h
        · rename_i v hv
          refine any_main hp c0 hQ (m + 1) r listed (pend ++ [i]) (i :: done) (i :: prev) _ σ c a hE (next v ⟨o, ho, .inl ⟨?_, al, v, ?_, fun d hd hlt => ?_⟩⟩) hpr hplan h hlen
          · rw [guardOf_congr (hlook v)]; exact hg
          · rw [doQ_congr (get_congr_looks (hlook v))]; exact hv
          · rw [hd]
            rw [putV_length] at hlt
            simp [putV, List.getD_eq_getElem?_getD, List.getElem?_set_self hlt]
        · exact h.elim
      · refine any_main hp c0 hQ (m + 1) r listed (pend ++ [i]) (i :: done) (i :: prev) _ σ c a hE (next (.tup []) ⟨o, ho, .inr ⟨?_, fun d hd hlt => ?_⟩⟩) hpr hplan h hlen
        · rw [guardOf_congr (hlook _)]; exact hg
        · rw [hd]
          rw [putV_length] at hlt
          simp [putV, List.getD_eq_getElem?_getD, List.getElem?_set_self hlt]
    · exact h.elim
  | m + 1, [], listed, pend, done, prev, s, σ, c, a, hE, inv, hprev, hplan, h, hm => by
    refine ⟨fun h0 => ?_, fun i hi => ?_⟩
    · exact absurd h0 (inv.some_ready hm)
    · obtain ⟨g1, g2, g3⟩ := ready_iff inv.sizeL hi
      rcases (inv.un i g1).1 g2 with q | q
      · exact pend_step m [] hp inv q g3 (fun listed pend' c' a' hE' inv' hsub hl => any_main hp c0 hQ m [] listed pend' done prev s σ c' a' (hE.trans hE') inv' (fun j hj => hprev j (hsub j hj)) hplan h hl) hm
      · simp at q
  | m + 1, .ef i chk :: r, listed, pend, done, prev, s, σ, c, a, hE, inv, hprev, hplan, h, hm => by
    refine ⟨fun h0 => ?_, fun k hk => ?_⟩
    · exact absurd h0 (inv.some_ready hm)
    · obtain ⟨g1, g2, g3⟩ := ready_iff inv.sizeL hk
      rcases (inv.un k g1).1 g2 with q | q
      · exact pend_step m (.ef i chk :: r) hp inv q g3 (fun listed pend' c' a' hE' inv' hsub hl => any_main hp c0 hQ m (.ef i chk :: r) listed pend' done prev s σ c' a' (hE.trans hE') inv' (fun j hj => hprev j (hsub j hj)) hplan h hl) hm
      · simp only [planOk, Bool.and_eq_true] at hplan
        obtain ⟨⟨hb, hpv⟩, hplan⟩ := hplan
        have hun : ∀ j ∈ (Stp.ef i chk :: r).map Stp.idx, ¬ Lst listed j := fun j hj => (inv.un j (inv.lt j (by simp only [List.mem_append]; exact .inr hj))).2 (.inr hj)
        have hki : k = i := by
          rcases List.mem_cons.1 q with e | e
          · exact e
          · obtain ⟨j, hj, hn⟩ := behind_sound (L := Lst listed) (r.map Stp.idx) [i] hb (fun j hj => by simp only [List.mem_singleton] at hj; subst hj; exact hun _ (by simp [Stp.idx])) (fun j hj => hun j (by simp only [List.map_cons, List.mem_cons]; exact .inr hj)) k e
            exact absurd (g3 j hj) hn
        subst hki
        simp only [anyA] at h
        split at h
        · rename_i o ho
          have hnd := inv.nodup
          have hkp : k ∉ pend := fun q => by
            rw [List.nodup_append] at hnd
            exact hnd.2.2 k q k (by simp [Stp.idx]) rfl
          have hlk := inv.looks hp ho g3
          have hrel := inv.mask
          have hw : ∀ b, guardOf ops o s = some b → Region.wanted o (yielded ops a.tmps) = b := fun b hb => wanted_of (pend := pend) hrel.sl (by rw [← guardOf_congr hlk]; exact hb)
          have hl : pend ++ r.map Stp.idx = (pend ++ (Stp.ef k chk :: r).map Stp.idx).erase k := by
            rw [List.erase_append_right _ hkp]
            simp [Stp.idx]
          have hlen : pend.length + r.length = m := by simp at hm; omega
          have hsub : ∀ j ∈ pend, j ∈ chk.map (·.1) := fun j hj => by
            have := List.all_eq_true.1 hpv j (hprev j hj)
            simp only [Bool.or_eq_true, List.contains_eq_mem, decide_eq_true_eq] at this
            rcases this with q | q
            · exact q
            · exact absurd (ancs_sound inv.closed done _ g3 j q) ((inv.un j (inv.lt j (by simp [hj]))).2 (.inl hj))
          rcases guardA_cases h with ⟨hg, h⟩ | ⟨hg, h⟩
          · refine wpOp_wanted ho (hw _ hg) (.inl ?_)
            rw [stepA_congr (get_congr_looks hlk)] at h
            refine step_sound' h hrel rfl fun x σ' loc' u w' hK h1 h2 h3 => ?_
            refine any_main hp c0 hQ m r _ pend (k :: done) (chk.map (·.1)) (putV s o.dst x) σ' ⟨w', loc', c.hid⟩ (a.put o.dst u) (hE.trans h2) ?_ hsub hplan hK.2 hlen
            refine inv.done_step g1 (by simp [Stp.idx]) g3 hl h1 (by rw [put_df]; exact inv.df) (by rw [putV_length, put_size]; exact inv.len) ?_ ?_ ?_
            · refine vals_put ho (fun j hj _ => hj) inv.vals h2 fun t y hy => ?_
              rcases putV_get hy with ⟨q1, rfl⟩ | q1
              · exact .inl ⟨q1, h3⟩
              · exact .inr q1
            · intro j hj
              obtain ⟨p, hp1, rfl⟩ := List.mem_map.1 (hsub j hj)
              exact .of_chk (chkA_mem hK.1 p hp1)
            · exact inv.pq
          · refine wpOp_unwanted ho (hw _ hg) ?_
            refine any_main hp c0 hQ m r _ pend (k :: done) (chk.map (·.1)) (putV s o.dst (.tup [])) σ c (a.put o.dst undef) hE ?_ hsub hplan h hlen
            refine inv.done_step g1 (by simp [Stp.idx]) g3 hl inv.sr (by rw [put_df]; exact inv.df) (by rw [putV_length, put_size]; exact inv.len) ?_ (inv.pend_put hp ho (.inr g3) (.tup [])) inv.pq
            refine vals_put ho (fun j hj _ => hj) inv.vals (Ext.refl c) fun t y hy => ?_
            rcases putV_get hy with ⟨q1, rfl⟩ | q1
            · exact .inl ⟨q1, VR_none⟩
            · exact .inr q1
        · exact h.elim
  termination_by m plan => (m, plan.length)
end

/-- A REGION THAT DRAWS ITS ORDER. -/
theorem WP_any {P : Program} {n : Nat} {id : Nat} {ops : Array Oper} (plan : List Stp) (hm : P.follows .mixedOrders = true) (hok : regOk ops plan = true) {s : List V} {σ : List Ob} {K : Ex → List V → List Ob → Prop} (h : anyA P ops plan s σ (K .normal)) : WP P n (.region id ops true) s σ K := by
  intro c a hr
  have hk := hok
  simp only [regOk, Bool.and_eq_true, decide_eq_true_eq, beq_iff_eq] at hk
  obtain ⟨⟨⟨⟨⟨⟨⟨_, _⟩, hnd⟩, hlen⟩, hlt⟩, hin⟩, htopo⟩, hplan⟩ := hk
  have hlt' : ∀ i ∈ plan.map Stp.idx, i < ops.size := fun i hi => by simpa using List.all_eq_true.1 hlt i hi
  have hall : ∀ i, i < ops.size → i ∈ plan.map Stp.idx := by
    intro i hi
    simpa using List.all_eq_true.1 hin i (by simpa using hi)
  refine wp_region_any hm ?_
  have hl0 : ∀ i, ¬ Lst (Array.replicate ops.size false) i := by
    intro i
    unfold Lst
    simp only [Array.getD_eq_getD_getElem?, Array.getElem?_replicate]
    split <;> simp
  have hd : ∀ (c : Cx) (w' : World), w'.heap = c.w.heap → IoEq c.w w' → Ext c ⟨w', c.loc, c.hid⟩ := fun c w' e io => ⟨rfl, by simp only [e]; exact Nat.le_refl _, fun b cs t f q => ⟨cs, f, by simp only [e]; exact q, rfl⟩, fun b hb ho => ⟨by simp only [e], ho⟩, fun _ => .inl rfl, io⟩
  have hE := hd c { c.w with drawn := c.w.drawn + 1 } rfl ⟨rfl, rfl, rfl⟩
  have hS : SR ⟨{ c.w with drawn := c.w.drawn + 1 }, c.loc, c.hid⟩ σ := by
    refine ⟨fun o => ?_, hr.sr.inj, hr.sr.hid⟩
    have r := hr.sr.obj o
    cases hx : σ[o]? with
    | none => rw [hx] at r; exact r
    | some x => rw [hx] at r; exact OR.keep hE r fun b base sz hl => rfl
  have hrel := hr.ext hE hS
  refine any_main (P := P) (K := K .normal) (pairs_of hok) c (fun s σ c' a hk hr' hE' => ?_) ops.size plan _ [] [] [] s σ ⟨_, c.loc, c.hid⟩ a hE ?_ (by simp) hplan h (by simp [hlen])
  · have : (⟨c'.w, c'.loc, c.hid⟩ : Cx) = c' := by rw [← hE'.hid]
    exact .inr ⟨.normal, c'.loc, s, σ, rfl, by rw [this]; exact hr', by rw [this]; exact hE'.toN n, hk⟩
  · refine ⟨hS, hrel.df, by have := VRs_length hrel.sl; simpa using this.symm, fun t _ x v hx hv => ?_, by simp, fun i hi => ?_, fun i hi => hlt' i (by simpa using hi), by simpa using hnd, fun i hi => absurd hi (hl0 i), by simpa using topo_of_ok _ [] _ htopo (by simp), by simp, by simp⟩
    · obtain ⟨u, q1, q2⟩ := VRs_get hrel.sl t hx
      have : u = v := by
        rw [Array.getElem?_toList, hv] at q1
        simpa using q1.symm
      rw [← this]; exact q2
    · constructor
      · intro _; exact .inr (hall i hi)
      · intro _; exact hl0 i
end Go.Proofs.Ytjidelngljpbdaa.Am
