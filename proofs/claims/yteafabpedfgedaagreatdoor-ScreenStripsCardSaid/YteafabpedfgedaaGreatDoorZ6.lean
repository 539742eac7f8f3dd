/- The engine's calls, regions and code. -/
import Derived.Test.YteafabpedfgedaaGreatDoorZ5
import Derived.Recover
import Derived.Maps.RangeRun
section
set_option linter.unusedSimpArgs false
set_option linter.unusedVariables false
namespace Go.Proofs.YteafabpedfgedaaGreatDoor.Am
open Go

/-- Every quiet operation, struct literals among them. -/
def quietG (P : Program) (s : List V) (σ : List Ob) : Op → Option V
  | .build t parts => buildF P t σ s parts.toList
  | op => quietF P s σ op

theorem quietG_sound {P : Program} {o : Oper} {a : Act} {c : Cx} {s : List V} {σ : List Ob} (h : SR c σ) (hs : c.vrs s a.tmps.toList) {r : V} (e : quietG P s σ o.op = some r) :
    ∃ v, (execOp a.eval o).run P c.w = .ok (.value v) c.w ∧ c.vr r v := by
  unfold quietG at e
  split at e
  · rename_i t parts hop
    obtain ⟨v, h1, h2⟩ := buildF_sound h hs e
    exact ⟨v, by simp only [execOp, hop]; exact run_value h1, h2⟩
  · exact quiet_sound h hs e

/-! ### calls -/
def callable (P : Program) (f : FuncId) : Prop := ∃ fn, P.funcs[f]? = some fn ∧ (fn.name == "runtime.NumGoroutine") = false ∧ fn.body.isSome = true

/-- What a call leaves. -/
def CallPost (c : Cx) (K : V → List Ob → Prop) (e : Ending) (w' : World) : Prop :=
  match e with
  | .outgrown => False
  | .panicked _ => False
  | .returned v => ∃ loc' σ' r, SR ⟨w', loc', c.hid⟩ σ' ∧ Ext c ⟨w', loc', c.hid⟩ ∧ Cx.vr ⟨w', loc', c.hid⟩ r v ∧ K r σ'

/-- THE CONTRACT OF A CALL: from every world that fits, it returns, and what it leaves meets K. -/
def callA (P : Program) (f : FuncId) (args : List V) (σ : List Ob) (K : V → List Ob → Prop) : Prop :=
  callable P f ∧ ∀ (c : Cx) (vals : List Value), SR c σ → c.vrs args vals → Calls P f vals.toArray c.w (CallPost c K)

theorem callA_mono {P : Program} {f : FuncId} {args : List V} {σ : List Ob} {K K' : V → List Ob → Prop} (h : callA P f args σ K) (hk : ∀ r σ', K r σ' → K' r σ') : callA P f args σ K' :=
  ⟨h.1, fun c vals hs hv => (h.2 c vals hs hv).mono fun e w' hp => by
    cases e with
    | outgrown => exact hp
    | panicked _ => exact hp
    | returned v =>
      obtain ⟨loc', σ', r, h1, h2, h3, h4⟩ := hp
      exact ⟨loc', σ', r, h1, h2, h3, hk _ _ h4⟩⟩

/-! ### one operation -/
theorem vr_sl_nil {c : Cx} {σ : List Ob} (h : SR c σ) {o off len : Nat} {v : Value} (ha : alive σ o = true) (r : c.vr (.sl o off len) v) : ∃ (ad : Option Addr) (cap : Nat), v = .slice ad len cap ∧ (ad.isNone = true → len = 0) := by
  have hd := h.at_alive ha
  simp only [Cx.vr, VR] at r
  cases e : c.loc o with
  | unborn => exact (hd.2 e).elim
  | dead => exact (hd.1 e).elim
  | nil => rw [e] at r; obtain ⟨rfl, _, rfl⟩ := r; exact ⟨_, _, rfl, fun _ => rfl⟩
  | here b base sz => rw [e] at r; obtain ⟨a, cap, rfl, _⟩ := r; exact ⟨_, _, rfl, fun q => by cases q⟩

def isConstB : Operand → Bool
  | .const _ => true
  | _ => false
def isIfaceT (P : Program) (t : TypeId) : Bool := match P.underlying t with | some (.interface _) => true | _ => false
theorem isIfaceT_some {P : Program} {t : TypeId} (h : isIfaceT P t = true) : ∃ ms, P.underlying t = some (.interface ms) := by
  unfold isIfaceT at h
  split at h
  · exact ⟨_, by assumption⟩
  · cases h
theorem equal_nilI {P : Program} {w : World} {t : TypeId} (h : isIfaceT P t = true) : (Op.equal t .nilIface .nilIface).run P w = .ok true w := by
  obtain ⟨ms, hu⟩ := isIfaceT_some h
  have key : ∀ d, (Op.equalIn (d + 1) t .nilIface .nilIface).run P w = .ok true w := by
    intro d
    simp [Op.equalIn, run_underlying hu]
  exact key 9999

/-- A slice against nil, where nil or not cannot be told. -/
def nilA (P : Program) (s : List V) (σ : List Ob) (op : Op) (K : V → List Ob → Prop) : Prop :=
  match op with
  | .binOp .eql t x y _ => match get s x, get s y with
    | .d (.lst _ es), .d .nils => isSliceT P t = true ∧ ∀ b : Bool, (b = true → es = []) → K (.d (.bool b)) σ
    | .sl o _ len, .d .nils => isSliceT P t = true ∧ alive σ o = true ∧ ∀ b : Bool, (b = true → len = 0) → K (.d (.bool b)) σ
    | .d .nili, .d .nili => isIfaceT P t = true ∧ isConstB y = true ∧ K (.d (.bool true)) σ
    | _, _ => False
  | .binOp .neq t x y _ => match get s x, get s y with
    | .d (.lst _ es), .d .nils => isSliceT P t = true ∧ ∀ b : Bool, (b = true → es = []) → K (.d (.bool (!b))) σ
    | .sl o _ len, .d .nils => isSliceT P t = true ∧ alive σ o = true ∧ ∀ b : Bool, (b = true → len = 0) → K (.d (.bool (!b))) σ
    | .d .nili, .d .nili => isIfaceT P t = true ∧ isConstB y = true ∧ K (.d (.bool false)) σ
    | _, _ => False
  | .next x false => match get s x with
    | .ptr i 0 0 => match σ[i]? with
      | some (.mit (.d .nilm) _ _ _) => K (.tup [.d (.bool false)]) σ
      | some (.mit (.mp o) since seen last) => match σ[o]? with
        | some (.map es clk) => (∀ e ∈ es, e.2.2 < since) ∧ since ≤ last ∧ ((∀ e ∈ es, e.2.2 ∈ seen) → K (.tup [.d (.bool false)]) σ) ∧
            ∀ e ∈ es, e.2.2 ∉ seen → K (.tup [.d (.bool true), .d e.1, e.2.1]) (σ.set i (.mit (.mp o) since (seen ++ [e.2.2]) clk))
        | _ => False
      | _ => False
    | _ => False
  | _ => False

theorem nilA_mono {P : Program} {s : List V} {σ : List Ob} {op : Op} {K K' : V → List Ob → Prop} (hk : ∀ r σ', K r σ' → K' r σ') (h : nilA P s σ op K) : nilA P s σ op K' := by
  unfold nilA at h ⊢
  split at h
  · split at h
    · exact ⟨h.1, fun b q => hk _ _ (h.2 b q)⟩
    · exact ⟨h.1, h.2.1, fun b q => hk _ _ (h.2.2 b q)⟩
    · exact ⟨h.1, h.2.1, hk _ _ h.2.2⟩
    · exact h.elim
  · split at h
    · exact ⟨h.1, fun b q => hk _ _ (h.2 b q)⟩
    · exact ⟨h.1, h.2.1, fun b q => hk _ _ (h.2.2 b q)⟩
    · exact ⟨h.1, h.2.1, hk _ _ h.2.2⟩
    · exact h.elim
  · split at h
    · split at h
      · exact hk _ _ h
      · split at h
        · exact ⟨h.1, h.2.1, fun q => hk _ _ (h.2.2.1 q), fun e he q => hk _ _ (h.2.2.2 e he q)⟩
        · exact h.elim
      · exact h.elim
    · exact h.elim
  · exact h.elim

theorem nilA_congr {P : Program} {s s' : List V} {σ : List Ob} {op : Op} {K : V → List Ob → Prop} (h : ∀ x ∈ op.operands, get s x = get s' x) : nilA P s σ op K = nilA P s' σ op K := by
  unfold nilA
  split
  · rename_i t x y yt
    rw [h x (by simp [Op.operands]), h y (by simp [Op.operands])]
  · rename_i t x y yt
    rw [h x (by simp [Op.operands]), h y (by simp [Op.operands])]
  · rename_i x
    rw [h x (by simp [Op.operands])]
  · rfl

theorem MapR.mem {I : Im} {w : World} {loc : Nat → Loc} {es : List (D × V × Nat)} {l : List MapEntry} (m : MapR I w loc es l) : ∀ e ∈ l, ∃ x ∈ es, DR I x.1 e.key ∧ VR I w loc x.2.1 e.val ∧ e.born = x.2.2 := by
  induction m with
  | nil => intro e he; simp at he
  | @cons k x n e es l a b hn _ ih =>
    intro e' he'
    rcases List.mem_cons.1 he' with rfl | he'
    · exact ⟨_, List.mem_cons_self, a, b, hn⟩
    · obtain ⟨y, h1, h2⟩ := ih e' he'
      exact ⟨y, List.mem_cons_of_mem _ h1, h2⟩
theorem MapR.mem' {I : Im} {w : World} {loc : Nat → Loc} {es : List (D × V × Nat)} {l : List MapEntry} (m : MapR I w loc es l) : ∀ x ∈ es, ∃ e ∈ l, e.born = x.2.2 := by
  induction m with
  | nil => intro e he; simp at he
  | @cons k x n e es l a b hn _ ih =>
    intro y hy
    rcases List.mem_cons.1 hy with rfl | hy
    · exact ⟨e, List.mem_cons_self, hn⟩
    · obtain ⟨e', h1, h2⟩ := ih y hy
      exact ⟨e', List.mem_cons_of_mem _ h1, h2⟩

/-- The next entry of a map that is ranged over. -/
theorem next_sound {P : Program} {ty : TypeId} {c : Cx} {σ : List Ob} (h : SR c σ) {i o : Nat} {since last : Nat} {seen : List Nat} (hi : σ[i]? = some (.mit (.mp o) since seen last)) {es : List (D × V × Nat)} {clk : Nat} (ho : σ[o]? = some (.map es clk))
    (h1 : ∀ e ∈ es, e.2.2 < since) (h2 : since ≤ last) {K : V → List Ob → Prop} (k1 : (∀ e ∈ es, e.2.2 ∈ seen) → K (.tup [.d (.bool false)]) σ) (k2 : ∀ e ∈ es, e.2.2 ∉ seen → K (.tup [.d (.bool true), .d e.1, e.2.1]) (σ.set i (.mit (.mp o) since (seen ++ [e.2.2]) clk))) {v : Value} (r : c.vr (.ptr i 0 0) v) :
    ∃ u w' q σ', (Instr.next v false ty).run P c.w = .ok u w' ∧ SR ⟨w', c.loc, c.hid⟩ σ' ∧ Ext c ⟨w', c.loc, c.hid⟩ ∧ Cx.vr ⟨w', c.loc, c.hid⟩ q u ∧ K q σ' := by
  obtain ⟨b, mb, ents, hl, rfl, g1, g2, g3, g4, g5⟩ := mit_at h hi ho r
  have hold : ∀ x ∈ ents.toList, x.born < since := fun x hx => by
    obtain ⟨y, y1, y2⟩ := g3.mem x hx
    rw [y2.2.2]; exact h1 y y1
  rcases run_next_at (P := P) c.w ty b mb since last seen.toArray ents clk g1 g2 hold h2 with ⟨n1, n2⟩ | ⟨e, n1, w1, n2, n3⟩
  · refine ⟨_, c.w, _, σ, n2, h, Ext.refl c, ?_, k1 fun x hx => ?_⟩
    · simp only [Cx.vr, VR, VRs]; exact ⟨[.bool false], rfl, _, [], rfl, by simp [DR], rfl⟩
    · obtain ⟨e, e1, e2⟩ := g3.mem' x hx
      have : leftOf ents seen.toArray = #[] := Array.eq_empty_of_size_eq_zero n1
      unfold leftOf at this
      rw [Array.filter_eq_empty_iff] at this
      have := this e (by simpa using e1)
      rw [e2] at this
      simpa using this
  · have ⟨m1, m2⟩ : e ∈ ents.toList ∧ e.born ∉ seen := by
      unfold leftOf at n1
      simp at n1
      exact ⟨by simpa using n1.1, n1.2⟩
    obtain ⟨x, x1, x2, x3, x4⟩ := g3.mem e m1
    have hw1 : w1.heap = c.w.heap ∧ IoEq c.w w1 := by rcases n2 with rfl | rfl <;> exact ⟨rfl, rfl, rfl, rfl⟩
    have hlt := (Array.getElem?_eq_some_iff.1 g1).1
    obtain ⟨w', hw'⟩ : ∃ w', w' = ChangeMaps.setBlock w1 b (.mapIter (some mb) since (seen.toArray.push e.born) clk) := ⟨_, rfl⟩
    have hheap : w'.heap = c.w.heap.setIfInBounds b (.mapIter (some mb) since (seen.toArray.push e.born) clk) := by rw [hw', ← hw1.1]; rfl
    have e1 : w'.heap.size = c.w.heap.size := by rw [hheap]; simp
    have e2 : ∀ b', b' ≠ b → w'.heap[b']? = c.w.heap[b']? := fun b' hb' => by rw [hheap, Array.getElem?_setIfInBounds_ne (Ne.symm hb')]
    have e3 : ∀ (cs : Array Value) (e : TypeId) (f : Nat × Nat), c.w.heap[b]? = some (.cells cs e f) → ∃ (cs' : Array Value) (f' : Nat × Nat), w'.heap[b]? = some (.cells cs' e f') ∧ cs'.size = cs.size := by
      intro cs e f q; rw [g1] at q; cases q
    have hio : IoEq c.w w' := by rw [hw']; exact hw1.2
    have hE := Ext.write hl w' e1 e2 e3 hio
    have hm : c.vr (.mp o) (.map (some mb)) := by
      obtain ⟨b', hl', q, q1, q2⟩ := h.get hi
      rw [hl] at hl'; cases hl'
      rw [g1] at q1; cases q1
      exact q2
    have hS := SR.write h hl w' e1 e2 e3 (.mit (.mp o) since (seen ++ [x.2.2]) clk) ⟨b, rfl, some mb, by rw [hheap]; simp [hlt, x4], hE.vr hm⟩ hio
    refine ⟨_, w', .tup [.d (.bool true), .d x.1, x.2.1], _, by rw [hw']; exact n3, hS, hE, ?_, k2 x x1 (by rw [← x4]; exact m2)⟩
    simp only [Cx.vr, VR, VRs]
    exact ⟨[.bool true, e.key, e.val], rfl, _, _, rfl, by simp [DR], e.key, [e.val], rfl, hE.dr x2, e.val, [], rfl, hE.vr x3, rfl⟩

theorem nilA_sound {P : Program} {op : Oper} {a : Act} {c : Cx} {s : List V} {σ : List Ob} {K : V → List Ob → Prop} (h : SR c σ) (hs : c.vrs s a.tmps.toList) (e : nilA P s σ op.op K) :
    ∃ v w' r σ', (execOp a.eval op).run P c.w = .ok (.value v) w' ∧ SR ⟨w', c.loc, c.hid⟩ σ' ∧ Ext c ⟨w', c.loc, c.hid⟩ ∧ Cx.vr ⟨w', c.loc, c.hid⟩ r v ∧ K r σ' := by
  have sl : ∀ {t : TypeId} (ht : isSliceT P t = true) (ad : Option Addr) (n cap : Nat) (ox oy : Operand),
      (do eqGuard .eql t ox oy (.slice ad n cap) (.slice none 0 0); binOp .eql t (.slice ad n cap) (.slice none 0 0) : Sem Value).run P c.w = .ok (.bool ad.isNone) c.w ∧ (do eqGuard .neq t ox oy (.slice ad n cap) (.slice none 0 0); binOp .neq t (.slice ad n cap) (.slice none 0 0) : Sem Value).run P c.w = .ok (.bool (!ad.isNone)) c.w := by
    intro t ht ad n cap ox oy
    obtain ⟨el, hel⟩ := Option.isSome_iff_exists.1 ht
    exact eql_of (fun op => by rw [eqGuard_at_slice]; rfl) (equal_slice (elemOfSlice_some hel) _ _ _) (by simp [binOp]) (by simp [binOp])
  unfold nilA at e
  split at e
  · rename_i t x y yt hop
    have hx := vr_get h.gl hs x
    have hy := vr_get h.gl hs y
    split at e
    · rename_i sz es e1 e2
      rw [e1] at hx; rw [e2] at hy
      simp only [Cx.vr, VR, DR] at hx hy
      obtain ⟨ad, cap, hx, g1, g2⟩ := hx
      refine ⟨.bool ad.isNone, c.w, _, σ, ?_, h, Ext.refl c, by simp [Cx.vr, VR, DR], e.2 ad.isNone fun q => ?_⟩
      · simp only [execOp, hop, hx, hy]
        exact run_value (sl e.1 ad _ cap x y).1
      · rcases g2 with g2 | ⟨b, off, rfl, _⟩
        · exact g2
        · cases q
    · rename_i ob off len e1 e2
      rw [e1] at hx; rw [e2] at hy
      obtain ⟨ht, ha, e⟩ := e
      simp only [Cx.vr, VR, DR] at hy
      obtain ⟨ad, cap, hx', hz⟩ := vr_sl_nil h ha hx
      refine ⟨.bool ad.isNone, c.w, _, σ, ?_, h, Ext.refl c, by simp [Cx.vr, VR, DR], e ad.isNone hz⟩
      simp only [execOp, hop, hx', hy]
      exact run_value (sl ht ad _ cap x y).1
    · rename_i e1 e2
      rw [e1] at hx; rw [e2] at hy
      obtain ⟨ht, hc, e⟩ := e
      simp only [Cx.vr, VR, DR] at hx hy
      obtain ⟨cv, rfl⟩ : ∃ cv, y = .const cv := by cases y <;> simp [isConstB] at hc; exact ⟨_, rfl⟩
      refine ⟨.bool true, c.w, _, σ, ?_, h, Ext.refl c, by simp [Cx.vr, VR, DR], e⟩
      simp only [execOp, hop, hx, hy]
      exact run_value (eql_of (fun op => by rw [eqGuard_nil_constR]; rfl) (equal_nilI ht) (by simp [binOp]) (by simp [binOp])).1
    · exact e.elim
  · rename_i t x y yt hop
    have hx := vr_get h.gl hs x
    have hy := vr_get h.gl hs y
    split at e
    · rename_i sz es e1 e2
      rw [e1] at hx; rw [e2] at hy
      simp only [Cx.vr, VR, DR] at hx hy
      obtain ⟨ad, cap, hx, g1, g2⟩ := hx
      refine ⟨.bool (!ad.isNone), c.w, _, σ, ?_, h, Ext.refl c, by simp [Cx.vr, VR, DR], e.2 ad.isNone fun q => ?_⟩
      · simp only [execOp, hop, hx, hy]
        exact run_value (sl e.1 ad _ cap x y).2
      · rcases g2 with g2 | ⟨b, off, rfl, _⟩
        · exact g2
        · cases q
    · rename_i ob off len e1 e2
      rw [e1] at hx; rw [e2] at hy
      obtain ⟨ht, ha, e⟩ := e
      simp only [Cx.vr, VR, DR] at hy
      obtain ⟨ad, cap, hx', hz⟩ := vr_sl_nil h ha hx
      refine ⟨.bool (!ad.isNone), c.w, _, σ, ?_, h, Ext.refl c, by simp [Cx.vr, VR, DR], e ad.isNone hz⟩
      simp only [execOp, hop, hx', hy]
      exact run_value (sl ht ad _ cap x y).2
    · rename_i e1 e2
      rw [e1] at hx; rw [e2] at hy
      obtain ⟨ht, hc, e⟩ := e
      simp only [Cx.vr, VR, DR] at hx hy
      obtain ⟨cv, rfl⟩ : ∃ cv, y = .const cv := by cases y <;> simp [isConstB] at hc; exact ⟨_, rfl⟩
      refine ⟨.bool false, c.w, _, σ, ?_, h, Ext.refl c, by simp [Cx.vr, VR, DR], e⟩
      simp only [execOp, hop, hx, hy]
      exact run_value (eql_of (fun op => by rw [eqGuard_nil_constR]; rfl) (equal_nilI ht) (by simp [binOp]) (by simp [binOp])).2
    · exact e.elim
  · rename_i x hop
    have hx := vr_get h.gl hs x
    split at e
    · rename_i i e1
      rw [e1] at hx
      split at e
      · rename_i s0 s1 s2 hi
        obtain ⟨b, hl, q, h1, h2⟩ := h.get hi
        have hx' : a.eval x = .pointer (some ⟨b, 0, none⟩) := by simpa [Cx.vr, VR, hl] using hx
        have hq : q = none := by simpa [Cx.vr, VR, DR] using h2
        subst hq
        refine ⟨.tuple #[.bool false], c.w, _, σ, ?_, h, Ext.refl c, ?_, e⟩
        · simp only [execOp, hop, hx']
          refine run_value ?_
          simp only [Instr.next, getObj, Sem.run_bind, Sem.run, h1, Result.andThen]
          rfl
        · simp only [Cx.vr, VR, VRs]; exact ⟨[.bool false], rfl, _, [], rfl, by simp [DR], rfl⟩
      · rename_i o since seen last hi
        split at e
        · rename_i es clk ho
          obtain ⟨u, w', q, σ', g1, g2, g3, g4, g5⟩ := next_sound (P := P) (ty := op.type) h hi ho e.1 e.2.1 e.2.2.1 e.2.2.2 hx
          exact ⟨u, w', q, σ', by simp only [execOp, hop]; exact run_value g1, g2, g3, g4, g5⟩
        · exact e.elim
      · exact e.elim
    · exact e.elim
  · exact e.elim

def stepA (P : Program) (o : Oper) (s : List V) (σ : List Ob) (K : V → List Ob → Prop) : Prop :=
  match o.op with
  | .call { callee := .value f, args, argTypes := _ } => match get s f with
    | .fn g caps => callA P g (argsOf s args ++ caps) σ K
    | .bm g first => callA P g (first ++ argsOf s args) σ K
    | _ => False
  | op => match quietG P s σ op with
    | some r => K r σ
    | none => match effF P s σ op with
      | some (r, σ') => K r σ'
      | none => nilA P s σ op K

/-- A world with new blocks. -/
def Grown (w w' : World) : Prop := w.heap.size ≤ w'.heap.size ∧ (∀ b, b < w.heap.size → w'.heap[b]? = w.heap[b]?) ∧ IoEq w w'

theorem Ext.grow {c : Cx} {w' : World} (g : Grown c.w w') : Ext c ⟨w', c.loc, c.hid⟩ :=
  ⟨rfl, g.1, fun b cs e f hb => ⟨cs, f, by rw [g.2.1 b (Array.getElem?_eq_some_iff.1 hb).1]; exact hb, rfl⟩, fun b hb ho => ⟨g.2.1 b hb, ho⟩, fun o => .inl rfl, g.2.2⟩

theorem SR.grow {c : Cx} {σ : List Ob} (h : SR c σ) {w' : World} (g : Grown c.w w') : SR ⟨w', c.loc, c.hid⟩ σ := by
  have hE := Ext.grow g
  refine ⟨fun o => ?_, h.inj, h.hid_ext hE, hE.glob h.gl⟩
  have r := h.obj o
  cases hx : σ[o]? with
  | none => rw [hx] at r; exact r
  | some x => exact (h.get hx).keep hE fun b base s e => g.2.1 b (h.lt e)

/-- A call put off that does nothing where nothing panics. -/
def QuietD (P : Program) (d : Deferred) : Prop :=
  ∃ fv cap, d.target = .fn fv cap ∧ ∀ c σ, SR c σ → ∃ f args, (invoke d.target d.args).run P c.w = .ok (.enter f args) c.w ∧ CallsD P f args .returning c.w fun e u' w' => u' = .returning ∧ Grown c.w w' ∧ ∃ v, e = .returned v

theorem leaves_quiet {P : Program} {fn : Func} {tmps : Array Value} {R : Ending → World → Prop} : ∀ (ds : List Deferred) (c : Cx) (σ : List Ob), SR c σ → (∀ w', SR ⟨w', c.loc, c.hid⟩ σ → Ext c ⟨w', c.loc, c.hid⟩ → ∃ v, (results fn tmps).run P w' = .ok v w' ∧ R (.returned v) w') → (∀ d ∈ ds, QuietD P d) → Leaves P fn tmps R ds .returning c.w
  | [], c, σ, hs, h, _ => h c.w hs (Ext.refl c)
  | d :: ds, c, σ, hs, h, hq => by
    obtain ⟨fv, cap, ht, hd⟩ := hq d (by simp)
    obtain ⟨f, args, hi, hc⟩ := hd c σ hs
    obtain ⟨t, as⟩ := d
    simp only at ht hi
    subst ht
    refine leaves_cons (by intro q; cases q) hi (hc.mono fun e u' w' ⟨h1, h2, v, h3⟩ => ?_)
    subst h1; subst h3
    exact leaves_quiet ds ⟨w', c.loc, c.hid⟩ σ (hs.grow h2) (fun w'' k1 k2 => h w'' k1 ((Ext.grow h2).trans k2)) fun d hd => hq d (by simp [hd])

/-- Calls put off since. -/
def DfOk (P : Program) (l base : List Deferred) : Prop := ∃ ds, (∀ d ∈ ds, QuietD P d) ∧ l = ds ++ base

theorem DfOk.refl (P : Program) (l : List Deferred) : DfOk P l l := ⟨[], by simp, rfl⟩
theorem DfOk.cons {P : Program} {l base : List Deferred} (h : DfOk P l base) {d : Deferred} (hd : QuietD P d) : DfOk P (d :: l) base := by
  obtain ⟨ds, h1, rfl⟩ := h
  exact ⟨d :: ds, by intro x hx; rcases List.mem_cons.1 hx with rfl | hx; exact hd; exact h1 x hx, rfl⟩
theorem DfOk.trans {P : Program} {l m base : List Deferred} (h : DfOk P l m) (g : DfOk P m base) : DfOk P l base := by
  obtain ⟨ds, h1, rfl⟩ := h
  obtain ⟨es, h2, rfl⟩ := g
  exact ⟨ds ++ es, by intro x hx; rcases List.mem_append.1 hx with hx | hx; exact h1 x hx; exact h2 x hx, by simp⟩
theorem DfOk.quiet {P : Program} {l : List Deferred} (h : DfOk P l []) : ∀ d ∈ l, QuietD P d := by
  obtain ⟨ds, h1, rfl⟩ := h
  simpa using h1

/-- The frame is as the slots say, the world as the store says. -/
structure Rel (P : Program) (c : Cx) (s : List V) (σ : List Ob) (a : Act) : Prop where
  sr : SR c σ
  sl : c.vrs s a.tmps.toList
  df : DfOk P a.defers c.hid.df

def putV (s : List V) (dst : Option Tmp) (v : V) : List V :=
  match dst with
  | some d => s.set d v
  | none => s

theorem vrs_set {c : Cx} {s : List V} {vs : List Value} (h : c.vrs s vs) (d : Nat) {x : V} {v : Value} (r : c.vr x v) : c.vrs (s.set d x) (vs.set d v) := by
  have hl := VRs_length h
  refine VRs_of_get (by simp [hl]) fun i y u e f => ?_
  rw [List.getElem?_set] at e f
  split at e
  · rename_i hd
    rw [if_pos hd] at f
    split at e
    · split at f
      · simp at e f; subst e; subst f; exact r
      · cases f
    · cases e
  · rename_i hd
    rw [if_neg hd] at f
    obtain ⟨z, q1, q2⟩ := VRs_get h i e
    rw [q1] at f; simp at f; subst f; exact q2

theorem Rel.put {P : Program} {c : Cx} {s : List V} {σ : List Ob} {a : Act} (h : Rel P c s σ a) (dst : Option Tmp) {x : V} {v : Value} (r : c.vr x v) : Rel P c (putV s dst x) σ (a.put dst v) := by
  cases dst with
  | none => exact h
  | some d =>
    refine ⟨h.sr, ?_, h.df⟩
    show c.vrs (s.set d x) (a.tmps.setIfInBounds d v).toList
    rw [Array.toList_setIfInBounds]
    exact vrs_set h.sl d r

theorem Rel.ext {P : Program} {c c' : Cx} {s : List V} {σ σ' : List Ob} {a : Act} (h : Rel P c s σ a) (hE : Ext c c') (hS : SR c' σ') : Rel P c' s σ' a := ⟨hS, hE.vrs h.sl, by have q := h.df; rwa [show c.hid.df = c'.hid.df by rw [hE.hid]] at q⟩

/-- The end of a piece of code, as the kit's exits say it. -/
inductive Ex where
  | normal
  | exit (id : Nat)
  | ret
  deriving DecidableEq

def exOf : Exit → Option Ex
  | .normal => some .normal
  | .exit i => some (.exit i)
  | .ret => some .ret
  | _ => none

/-- From one context to a later one, as far as the n objects go that were there when the function began. -/
structure ExtN (n : Nat) (c c' : Cx) : Prop where
  hid : c'.hid = c.hid
  size : c.w.heap.size ≤ c'.w.heap.size
  cells : Cells c.w c'.w
  frame : ∀ b, b < c.w.heap.size → ¬ c.own b → c'.w.heap[b]? = c.w.heap[b]? ∧ ¬ c'.own b
  loc : ∀ o, o < n → c'.loc o = c.loc o ∨ c'.loc o = .dead ∨ c.loc o = .unborn
  io : IoEq c.w c'.w

theorem Ext.toN {c c' : Cx} (h : Ext c c') (n : Nat) : ExtN n c c' := ⟨h.hid, h.size, h.cells, h.frame, fun o _ => h.loc o, h.io⟩
theorem ExtN.refl (n : Nat) (c : Cx) : ExtN n c c := (Ext.refl c).toN n

theorem ExtN.trans {n : Nat} {c c' c'' : Cx} (h : ExtN n c c') (g : ExtN n c' c'') : ExtN n c c'' := by
  refine ⟨g.hid.trans h.hid, Nat.le_trans h.size g.size, ?_, ?_, ?_, h.io.trans g.io⟩
  · intro b cs e f hb
    obtain ⟨cs', f', h1, h2⟩ := h.cells b cs e f hb
    obtain ⟨cs'', f'', g1, g2⟩ := g.cells b cs' e f' h1
    exact ⟨cs'', f'', g1, g2.trans h2⟩
  · intro b hb ho
    obtain ⟨h1, h2⟩ := h.frame b hb ho
    obtain ⟨g1, g2⟩ := g.frame b (Nat.lt_of_lt_of_le hb h.size) h2
    exact ⟨g1.trans h1, g2⟩
  · intro o hn
    rcases g.loc o hn with e | e | e
    · rw [e]; exact h.loc o hn
    · exact .inr (.inl e)
    · rcases h.loc o hn with e' | e' | e'
      · exact .inr (.inr (e' ▸ e))
      · rw [e] at e'; cases e'
      · exact .inr (.inr e')

theorem ExtN.toExt {n : Nat} {c c' : Cx} {σ : List Ob} (h : ExtN n c c') (hs : SR c σ) (hn : σ.length ≤ n) : Ext c c' :=
  ⟨h.hid, h.size, h.cells, h.frame, fun o => by
    rcases Nat.lt_or_ge o n with q | q
    · exact h.loc o q
    · exact .inr (.inr (hs.unborn (by omega))), h.io⟩

def Post (P : Program) (n : Nat) (c : Cx) (K : Ex → List V → List Ob → Prop) (e : Exit) (a' : Act) (w' : World) : Prop :=
  False ∨ ∃ x loc' s' σ', exOf e = some x ∧ Rel P ⟨w', loc', c.hid⟩ s' σ' a' ∧ ExtN n c ⟨w', loc', c.hid⟩ ∧ K x s' σ'


theorem Post.back {P : Program} {n : Nat} {c c' : Cx} (hE : ExtN n c c') (hh : c'.hid = c.hid) {K : Ex → List V → List Ob → Prop} {e : Exit} {a' : Act} {w' : World} (h : Post P n c' K e a' w') : Post P n c K e a' w' := by
  rcases h with h | ⟨x, loc', s', σ', h1, h2, h3, h4⟩
  · exact h.elim
  · rw [hh] at h2 h3
    exact .inr ⟨x, loc', s', σ', h1, h2, hE.trans h3, h4⟩

theorem resolve_call {P : Program} {c : Cx} {s : List V} {a : Act} (hG : Glob c) (hs : c.vrs s a.tmps.toList) {o : Oper} {f : Operand} {args : Array Operand} {ts : Array TypeId} (ho : o.op = .call { callee := .value f, args, argTypes := ts }) {g : FuncId} {caps : List V} (hf : get s f = .fn g caps)
    (hg : callable P g) : ∃ vals : List Value, (execOp a.eval o).run P c.w = .ok (.enter g vals.toArray) c.w ∧ c.vrs (argsOf s args ++ caps) vals := by
  have hv := vr_get hG hs f
  rw [hf] at hv
  simp only [Cx.vr, VR] at hv
  obtain ⟨vs, hv1, hv2⟩ := hv
  obtain ⟨fn, h1, h2, h3⟩ := hg
  have hn : fn.body.isNone = false := by cases hb : fn.body <;> simp_all
  refine ⟨args.toList.map a.eval ++ vs, ?_, ?_⟩
  · simp only [execOp, ho, resolve, hv1, Deferred.ofValue, Sem.run_bind, Sem.run_pure, Result.andThen_ok, invoke, callFunc, run_program, h1, h2, hn, Bool.false_eq_true, if_false]
    congr 2
    apply Array.ext'
    simp
  · have := vrs_args hG hs args.toList
    refine VRs_of_get (by simp [VRs_length this, VRs_length hv2, argsOf]) fun i x v e f' => ?_
    rw [List.getElem?_append] at e f'
    simp only [argsOf, List.length_map] at e f'
    split at e
    · rename_i hi
      rw [if_pos hi] at f'
      obtain ⟨z, q1, q2⟩ := VRs_get this i e
      rw [q1] at f'; simp at f'; subst f'; exact q2
    · rename_i hi
      rw [if_neg hi] at f'
      obtain ⟨z, q1, q2⟩ := VRs_get hv2 _ e
      rw [q1] at f'; simp at f'; subst f'; exact q2

theorem resolve_bm {P : Program} {c : Cx} {s : List V} {a : Act} (hG : Glob c) (hs : c.vrs s a.tmps.toList) {o : Oper} {f : Operand} {args : Array Operand} {ts : Array TypeId} (ho : o.op = .call { callee := .value f, args, argTypes := ts }) {g : FuncId} {first : List V} (hf : get s f = .bm g first)
    (hg : callable P g) : ∃ vals : List Value, (execOp a.eval o).run P c.w = .ok (.enter g vals.toArray) c.w ∧ c.vrs (first ++ argsOf s args) vals := by
  have hv := vr_get hG hs f
  rw [hf] at hv
  simp only [Cx.vr, VR] at hv
  obtain ⟨vs, hv1, hv2⟩ := hv
  obtain ⟨fn, h1, h2, h3⟩ := hg
  have hn : fn.body.isNone = false := by cases hb : fn.body <;> simp_all
  refine ⟨vs ++ args.toList.map a.eval, ?_, ?_⟩
  · simp only [execOp, ho, resolve, hv1, Deferred.ofValue, Sem.run_bind, Sem.run_pure, Result.andThen_ok, invoke, callFunc, run_program, h1, h2, hn, Bool.false_eq_true, if_false]
    congr 2
    apply Array.ext'
    simp
  · have := vrs_args hG hs args.toList
    refine VRs_of_get (by simp [VRs_length this, VRs_length hv2, argsOf]) fun i x v e f' => ?_
    rw [List.getElem?_append] at e f'
    rw [VRs_length hv2] at f'
    split at e
    · rename_i hi
      rw [if_pos hi] at f'
      obtain ⟨z, q1, q2⟩ := VRs_get hv2 i e
      rw [q1] at f'; simp at f'; subst f'; exact q2
    · rename_i hi
      rw [if_neg hi] at f'
      obtain ⟨z, q1, q2⟩ := VRs_get this _ e
      rw [q1] at f'; simp at f'; subst f'; exact q2

/-- ONE OPERATION, CARRIED OUT. -/
theorem step_sound' {P : Program} {o : Oper} {s : List V} {σ : List Ob} {K : V → List Ob → Prop} (h : stepA P o s σ K) {c : Cx} {a a' : Act} (hr : Rel P c s σ a') (hae : execOp a.eval o = execOp a'.eval o) {next : Act → World → Prop} {Q : Exit → Act → World → Prop}
    (hn : ∀ r σ' loc' v w', K r σ' → SR ⟨w', loc', c.hid⟩ σ' → Ext c ⟨w', loc', c.hid⟩ → Cx.vr ⟨w', loc', c.hid⟩ r v → next (a.put o.dst v) w') :
    o.wp P a c.w next Q := by
  unfold stepA at h
  split at h
  · rename_i f args ts ho
    split at h
    · rename_i g caps hf
      obtain ⟨vals, h1, h2⟩ := resolve_call hr.sr.gl hr.sl ho hf h.1
      unfold Oper.wp
      rw [hae, h1, Oper.upon_enter]
      refine (h.2 c vals hr.sr h2).mono fun e w' hp => ?_
      cases e with
      | outgrown => exact hp.elim
      | panicked _ => exact hp.elim
      | returned v =>
        obtain ⟨loc', σ', r, g1, g2, g3, g4⟩ := hp
        exact hn r σ' loc' v w' g4 g1 g2 g3
    · rename_i g first hf
      obtain ⟨vals, h1, h2⟩ := resolve_bm hr.sr.gl hr.sl ho hf h.1
      unfold Oper.wp
      rw [hae, h1, Oper.upon_enter]
      refine (h.2 c vals hr.sr h2).mono fun e w' hp => ?_
      cases e with
      | outgrown => exact hp.elim
      | panicked _ => exact hp.elim
      | returned v =>
        obtain ⟨loc', σ', r, g1, g2, g3, g4⟩ := hp
        exact hn r σ' loc' v w' g4 g1 g2 g3
    · exact h.elim
  · rename_i op hop
    split at h
    · rename_i r hq
      obtain ⟨v, h1, h2⟩ := quietG_sound hr.sr hr.sl hq
      unfold Oper.wp
      rw [hae, h1, Oper.upon_value]
      exact hn r σ c.loc v c.w h hr.sr (Ext.refl c) h2
    · split at h
      · rename_i r σ' he
        obtain ⟨nx, w', loc', v, g1, g2, g3, g4, g5⟩ := eff_sound hr.sr hr.sl he
        · unfold Oper.wp
          rw [hae, g1]
          rcases g2 with rfl | ⟨rfl, rfl⟩
          · rw [Oper.upon_value]; exact hn r σ' loc' v w' h g3 g4 g5
          · rw [Oper.upon_skip]; exact hn r σ' loc' undef w' h g3 g4 g5
      · obtain ⟨v, w', r, σ', h1, h2, h3, h4, h5⟩ := nilA_sound hr.sr hr.sl h
        unfold Oper.wp
        rw [hae, h1, Oper.upon_value]
        exact hn r σ' c.loc v w' h5 h2 h3 h4

theorem step_sound {P : Program} {o : Oper} {s : List V} {σ : List Ob} {K : V → List Ob → Prop} (h : stepA P o s σ K) {c : Cx} {a : Act} (hr : Rel P c s σ a) {next : Act → World → Prop} {Q : Exit → Act → World → Prop}
    (hn : ∀ r σ' loc' v w', K r σ' → SR ⟨w', loc', c.hid⟩ σ' → Ext c ⟨w', loc', c.hid⟩ → Cx.vr ⟨w', loc', c.hid⟩ r v → next (a.put o.dst v) w') :
    o.wp P a c.w next Q := step_sound' h hr rfl hn

def buildSliceD (P : Program) (t : TypeId) (len : Nat) (σ : List Ob) (s : List V) (parts : List (Nat × Operand)) : Option V :=
  match elemOfSlice P t with
  | some e => if elemOk P e = true ∧ len * szOf P e ≤ 16777216 then
      match inOrder 0 parts with
      | some xs => if xs.length = len then match toDs σ s (szOf P e) xs with
          | some ds => some (.d (.lst (szOf P e) ds))
          | none => none
        else none
      | none => none
    else none
  | none => none

theorem buildSliceD_F {P : Program} {t : TypeId} {len : Nat} {σ : List Ob} {s : List V} {parts : List (Nat × Operand)} {x : V} (e : buildSliceD P t len σ s parts = some x) :
    ∃ sz ds, x = .d (.lst sz ds) ∧ buildSliceF P t len σ s parts = some (.sl σ.length 0 len, σ ++ [.arr sz false ds]) := by
  unfold buildSliceD at e
  unfold buildSliceF
  split at e
  · rename_i el hel
    rw [hel]
    simp only []
    split at e
    · rename_i hk
      rw [if_pos hk]
      split at e
      · rename_i xs hxs
        simp only [hxs]
        split at e
        · rename_i hlen
          rw [if_pos hlen]
          split at e
          · rename_i ds hds
            simp only [Option.some.injEq] at e
            exact ⟨_, ds, e.symm, by simp only [hds]⟩
          · cases e
        · cases e
      · cases e
    · cases e
  · cases e

/-- A literal slice that is data from the start. -/
def litA (P : Program) (o : Oper) (s : List V) (σ : List Ob) : Option V :=
  match o.op with
  | .buildSlice t len parts => buildSliceD P t len σ s parts.toList
  | _ => none

/-- A closure that does nothing where nothing panics. -/
def QuietG (P : Program) (g : FuncId) (n : Nat) : Prop := ∀ caps : Array Value, caps.size = n → QuietD P ⟨.fn (.func g) caps, #[]⟩

/-- What is put off is such a closure. -/
def dferC (P : Program) (cl : Call) (s : List V) : Prop :=
  match cl with
  | { callee := .value f, args, argTypes := _ } => match get s f with
    | .fn g caps => args = #[] ∧ QuietG P g caps.length
    | _ => False
  | _ => False

/-- An operation, or a literal slice as data, or a call put off. -/
def stepL (P : Program) (o : Oper) (s : List V) (σ : List Ob) (K : V → List Ob → Prop) : Prop := stepA P o s σ K ∨ (∃ r, litA P o s σ = some r ∧ K r σ) ∨ ∃ cl, o.op = .defer cl ∧ dferC P cl s ∧ K .undef σ

theorem stepL_sound {P : Program} {o : Oper} {s : List V} {σ : List Ob} {K : V → List Ob → Prop} (h : stepL P o s σ K) {c : Cx} {a : Act} (hr : Rel P c s σ a) {next : Act → World → Prop} {Q : Exit → Act → World → Prop}
    (hn : ∀ r σ' loc' v w' (a1 : Act), K r σ' → SR ⟨w', loc', c.hid⟩ σ' → Ext c ⟨w', loc', c.hid⟩ → Cx.vr ⟨w', loc', c.hid⟩ r v → a1.tmps = a.tmps → DfOk P a1.defers a.defers → next (a1.put o.dst v) w') :
    o.wp P a c.w next Q := by
  rcases h with h | ⟨r, h, hk⟩ | ⟨cl, ho, hd, hk⟩
  · exact step_sound h hr fun r σ' loc' v w' h1 h2 h3 h4 => hn r σ' loc' v w' a h1 h2 h3 h4 rfl (DfOk.refl P _)
  · unfold litA at h
    split at h
    · rename_i t len parts ho
      obtain ⟨sz, ds, rfl, h1⟩ := buildSliceD_F h
      obtain ⟨v, w', g1, g2, g3, g4⟩ := buildSlice_data (σ' := σ) hr.sr hr.sl h1
      have hx : (execOp a.eval o).run P c.w = .ok (.value v) w' := by
        simp only [execOp, ho]
        exact run_value g1
      unfold Oper.wp
      rw [hx, Oper.upon_value]
      exact hn _ σ c.loc v w' a hk g2 g3 g4 rfl (DfOk.refl P _)
    · cases h
  · unfold dferC at hd
    split at hd
    · rename_i f args ts
      split at hd
      · rename_i g caps hf
        obtain ⟨rfl, hq⟩ := hd
        have hv := vr_get hr.sr.gl hr.sl f
        rw [hf] at hv
        simp only [Cx.vr, VR] at hv
        obtain ⟨vs, hv1, hv2⟩ := hv
        have hx : (execOp a.eval o).run P c.w = .ok (.defer ⟨.fn (.func g) vs.toArray, #[]⟩) c.w := by
          simp only [execOp, ho, resolve, hv1, Deferred.ofValue, Sem.run_bind, Sem.run_pure, Result.andThen_ok, Array.map_empty, Array.append_empty]
        unfold Oper.wp
        rw [hx, Oper.upon_defer]
        exact hn .undef σ c.loc undef c.w _ hk hr.sr (Ext.refl c) (by simp [Cx.vr, VR]) rfl ((DfOk.refl P _).cons (hq _ (by simpa using VRs_length hv2)))
      · exact hd.elim
    · exact hd.elim

/-! ### regions in the order of the text -/
def opsA (P : Program) (all : List Oper) : List Oper → List V → List Ob → (List V → List Ob → Prop) → Prop
  | [], s, σ, K => K s σ
  | o :: r, s, σ, K => match o.guard with
    | none => stepL P o s σ fun v σ' => opsA P all r (putV s o.dst v) σ' K
    | some (j, want) => match (all[j]?).bind (·.dst) with
      | some d => match s.getD d .undef with
        | .d (.bool b) => (b = want → stepL P o (s.set d (.d (.bool want))) σ fun v σ' => opsA P all r (putV (s.set d (.d (.bool want))) o.dst v) σ' K) ∧
            (b = (!want) → opsA P all r (putV (s.set d (.d (.bool (!want)))) o.dst (.tup [])) σ K)
        | .tup [] => opsA P all r (putV s o.dst (.tup [])) σ K
        | _ => False
      | none => False

theorem yielded_of {ops : Array Oper} {c : Cx} {s : List V} {a : Act} (hs : c.vrs s a.tmps.toList) {j d : Nat} {b : Bool} (hd : (ops.toList[j]?).bind (·.dst) = some d) (hb : s.getD d .undef = .d (.bool b)) : yielded ops a.tmps j = some b := by
  have h1 : (ops[j]?).bind (·.dst) = some d := by rw [← hd]; simp
  unfold yielded
  rw [h1]
  rw [List.getD_eq_getElem?_getD] at hb
  cases e : s[d]? with
  | none => rw [e] at hb; cases hb
  | some x =>
    rw [e] at hb; simp at hb; subst hb
    obtain ⟨v, q1, q2⟩ := VRs_get hs d e
    simp only [VR, DR] at q2; subst q2
    rw [Array.getElem?_toList] at q1
    simp [q1]

theorem VR_none {c : Cx} : c.vr (.tup []) undef := ⟨[], rfl, rfl⟩
/-- A guard whose own operation was left out. -/
theorem yielded_none {ops : Array Oper} {c : Cx} {s : List V} {a : Act} (hs : c.vrs s a.tmps.toList) {j d : Nat} (hd : (ops.toList[j]?).bind (·.dst) = some d) (hb : s.getD d .undef = .tup []) : yielded ops a.tmps j = none := by
  have h1 : (ops[j]?).bind (·.dst) = some d := by rw [← hd]; simp
  unfold yielded
  rw [h1]
  rw [List.getD_eq_getElem?_getD] at hb
  cases e : s[d]? with
  | none => rw [e] at hb; cases hb
  | some x =>
    rw [e] at hb; simp at hb; subst hb
    obtain ⟨v, q1, q2⟩ := VRs_get hs d e
    simp only [VR, VRs] at q2
    obtain ⟨vs, rfl, rfl⟩ := q2
    rw [Array.getElem?_toList] at q1
    simp [q1]

theorem vrs_set_same {c : Cx} {s : List V} {a : Act} (hs : c.vrs s a.tmps.toList) {d : Nat} {b : Bool} (hb : s.getD d .undef = .d (.bool b)) : s.set d (.d (.bool b)) = s := by
  rw [List.getD_eq_getElem?_getD] at hb
  cases e : s[d]? with
  | none => rw [e] at hb; cases hb
  | some x =>
    rw [e] at hb; simp at hb; subst hb
    apply List.ext_getElem?
    intro i
    rw [List.getElem?_set]
    split
    · rename_i q; subst q
      rw [e]
      have := (List.getElem?_eq_some_iff.1 e).1
      simp [this]
    · rfl

theorem ops_sound {P : Program} {ops : Array Oper} : ∀ (todo : List Oper) (i : Nat) (s : List V) (σ : List Ob) (K : List V → List Ob → Prop), ops.toList.drop i = todo → opsA P ops.toList todo s σ K →
    ∀ (c : Cx) (a : Act), Rel P c s σ a → ∀ (Q : Exit → Act → World → Prop),
      (∀ s' σ' loc' a' w', K s' σ' → Rel P ⟨w', loc', c.hid⟩ s' σ' a' → Ext c ⟨w', loc', c.hid⟩ → Q .normal a' w') → wpOps P ops Q (List.range' i todo.length) a c.w
  | [], i, s, σ, K, _, h, c, a, hr, Q, hq => by
    simp only [List.length_nil, List.range'_zero, wpOps]
    exact hq s σ c.loc a c.w h hr (Ext.refl c)
  | o :: r, i, s, σ, K, hd, h, c, a, hr, Q, hq => by
    have hi : ops[i]? = some o := by
      have := congrArg (·[0]?) hd
      simp at this
      exact this
    have hd' : ops.toList.drop (i + 1) = r := by
      have := congrArg (List.drop 1) hd
      rw [List.drop_drop] at this
      simpa [Nat.add_comm] using this
    simp only [List.length_cons, List.range'_succ, wpOps, hi]
    have step : ∀ (s0 : List V), Rel P c s0 σ a → (stepL P o s0 σ fun v σ' => opsA P ops.toList r (putV s0 o.dst v) σ' K) →
        o.wp P a c.w (wpOps P ops Q (List.range' (i + 1) r.length)) Q := by
      intro s0 hr0 hst
      refine stepL_sound hst hr0 fun v σ' loc' u w' a1 hk g1 g2 g3 g4 g5 => ?_
      have hrel : Rel P ⟨w', loc', c.hid⟩ (putV s0 o.dst v) σ' (a1.put o.dst u) := Rel.put ⟨g1, by rw [g4]; exact g2.vrs hr0.sl, g5.trans hr0.df⟩ o.dst g3
      exact ops_sound r (i + 1) _ σ' K hd' hk ⟨w', loc', c.hid⟩ _ hrel Q fun s'' σ'' loc'' a'' w'' k1 k2 k3 => hq s'' σ'' loc'' a'' w'' k1 k2 (g2.trans k3)
    unfold opsA at h
    split at h
    · rename_i hg
      have hw : Region.wanted o (yielded ops a.tmps) = true := by simp [Region.wanted, hg]
      rw [if_pos hw]
      exact .inl (step s hr h)
    · rename_i j want hg
      split at h
      · rename_i d hjd
        split at h
        · rename_i b hb
          have hy := yielded_of hr.sl hjd hb
          by_cases hbw : b = want
          · subst hbw
            have hw : Region.wanted o (yielded ops a.tmps) = true := by simp [Region.wanted, hg, hy]
            rw [if_pos hw]
            have h1 := h.1 rfl
            rw [vrs_set_same hr.sl hb] at h1
            exact .inl (step s hr h1)
          · have hw : Region.wanted o (yielded ops a.tmps) = false := by simp [Region.wanted, hg, hy, hbw]
            rw [if_neg (by rw [hw]; simp)]
            have hbn : b = !want := by cases b <;> cases want <;> simp_all
            subst hbn
            have h2 := h.2 rfl
            rw [vrs_set_same hr.sl hb] at h2
            have hrel := hr.put o.dst (x := .tup []) (v := undef) VR_none
            exact ops_sound r (i + 1) _ σ K hd' h2 c _ hrel Q hq
        · rename_i hb
          have hy := yielded_none hr.sl hjd hb
          have hw : Region.wanted o (yielded ops a.tmps) = false := by simp [Region.wanted, hg, hy]
          rw [if_neg (by rw [hw]; simp)]
          have hrel := hr.put o.dst (x := .tup []) (v := undef) VR_none
          exact ops_sound r (i + 1) _ σ K hd' h c _ hrel Q hq
        · exact h.elim
      · exact h.elim

/-! ### closures that are put off -/
/-- Operations without guards, none of them a call. -/
def opsE (P : Program) : List Oper → List V → List Ob → Option (List V × List Ob)
  | [], s, σ => some (s, σ)
  | o :: r, s, σ => match o.guard with
    | none => match quietG P s σ o.op with
      | some v => opsE P r (putV s o.dst v) σ
      | none => match effF P s σ o.op with
        | some (v, σ') => opsE P r (putV s o.dst v) σ'
        | none => none
    | some _ => none

theorem put_defers (a : Act) (dst : Option Tmp) (u : Value) : (a.put dst u).defers = a.defers := by cases dst <;> rfl

theorem opsE_sound {P : Program} {ops : Array Oper} {Q : Exit → Act → List Frame → World → Prop} {cs : List Frame} : ∀ (todo : List Oper) (i : Nat) (s : List V) (σ : List Ob) {s' : List V} {σ' : List Ob}, ops.toList.drop i = todo → opsE P todo s σ = some (s', σ') →
    ∀ (c : Cx) (a : Act), Rel P c s σ a → (∀ loc' a' w', Rel P ⟨w', loc', c.hid⟩ s' σ' a' → Ext c ⟨w', loc', c.hid⟩ → a'.defers = a.defers → Q .normal a' cs w') → wpOpsS P ops Q (List.range' i todo.length) a cs c.w
  | [], i, s, σ, s', σ', _, h, c, a, hr, hq => by
    simp only [opsE, Option.some.injEq, Prod.mk.injEq] at h
    obtain ⟨rfl, rfl⟩ := h
    simp only [List.length_nil, List.range'_zero, wpOpsS]
    exact hq c.loc a c.w hr (Ext.refl c) rfl
  | o :: r, i, s, σ, s', σ', hd, h, c, a, hr, hq => by
    have hi : ops[i]? = some o := by
      have := congrArg (·[0]?) hd
      simp at this
      exact this
    have hd' : ops.toList.drop (i + 1) = r := by
      have := congrArg (List.drop 1) hd
      rw [List.drop_drop] at this
      simpa [Nat.add_comm] using this
    simp only [List.length_cons, List.range'_succ, wpOpsS, hi]
    simp only [opsE] at h
    split at h
    · rename_i hg
      have hw : Region.wanted o (yielded ops a.tmps) = true := by simp [Region.wanted, hg]
      rw [if_pos hw]
      split at h
      · rename_i v hv
        obtain ⟨u, h1, h2⟩ := quietG_sound hr.sr hr.sl hv
        simp only [h1]
        rw [Oper.upon_value]
        exact opsE_sound r (i + 1) _ σ hd' h c _ (hr.put o.dst h2) fun loc' a' w' k1 k2 k3 => hq loc' a' w' k1 k2 (k3.trans (put_defers _ _ _))
      · split at h
        · rename_i v σ1 he
          obtain ⟨nx, w', loc', u, g1, g2, g3, g4, g5⟩ := eff_sound hr.sr hr.sl he
          have hrel : Rel P ⟨w', loc', c.hid⟩ (putV s o.dst v) σ1 (a.put o.dst u) := (hr.ext g4 g3).put o.dst g5
          have next := opsE_sound r (i + 1) _ σ1 hd' h ⟨w', loc', c.hid⟩ (a.put o.dst u) hrel (Q := Q) (cs := cs) fun loc'' a' w'' k1 k2 k3 => hq loc'' a' w'' k1 (g4.trans k2) (k3.trans (put_defers _ _ _))
          simp only [g1]
          rcases g2 with rfl | ⟨rfl, rfl⟩
          · exact next
          · exact next
        · cases h
    · cases h

def recOp : Op → Bool
  | .call { callee := .builtin .recover, args, argTypes := _ } => args.isEmpty
  | _ => false

/-- A closure that recovers, finds nothing, and ends. -/
def quietB (P : Program) (g n : Nat) : Bool :=
  match P.funcs[g]? with
  | none => false
  | some fn => match fn.body with
    | some (.seq (.region _ ops false) (.seq (.region _ ops1 false) (.cond (.tmp t) _ .skip))) => match ops.toList with
      | o :: l => match o.dst with
        | some d => recOp o.op && o.guard.isNone && fn.results.toList.isEmpty && decide (n ≤ fn.ntmps) && !(fn.name == "runtime.NumGoroutine") &&
          (match opsE P l ((List.replicate fn.ntmps .undef).set d (.d .nili)) [] with
          | some (s, σ) => match opsE P ops1.toList s σ with
            | some (s', _) => match s'.getD t .undef with
              | .d (.bool false) => true
              | _ => false
            | none => false
          | none => false)
        | none => false
      | [] => false
    | _ => false

theorem quietB_ok {P : Program} {g n : Nat} (h : quietB P g n = true) : QuietG P g n := by
  intro caps hcaps
  refine ⟨.func g, caps, rfl, fun c σ hs => ⟨g, caps, ?_⟩⟩
  unfold quietB at h
  split at h
  · cases h
  rename_i fn hf
  split at h
  rotate_left
  · cases h
  rename_i id ops id1 ops1 t x hb
  split at h
  rotate_left
  · cases h
  rename_i o l hl
  split at h
  rotate_left
  · cases h
  rename_i d hd
  simp only [Bool.and_eq_true, decide_eq_true_eq, Bool.not_eq_true'] at h
  obtain ⟨⟨⟨⟨⟨h1, h2⟩, h3⟩, h4⟩, h5⟩, h6⟩ := h
  split at h6
  rotate_left
  · cases h6
  rename_i s σ1 hs1
  split at h6
  rotate_left
  · cases h6
  rename_i s' σ2 hs2
  split at h6
  rotate_left
  · cases h6
  rename_i hst
  constructor
  · have hn : fn.body.isNone = false := by rw [hb]; rfl
    simp only [invoke, callFunc, Sem.run_bind, Sem.run_pure, Result.andThen_ok, run_program, hf, h5, hn, Bool.false_eq_true, if_false]
    congr 2
    simp
  refine callsD_of_wpS hf hb fun c₀ cs hm => ?_
  let c0 : Cx := ⟨c.w, fun _ => .unborn, ⟨fun b => c.own b ∨ c.hid.blk b, []⟩⟩
  have own0 : ∀ b, ¬ c0.own b := by
    rintro b ⟨o, base, sz, q⟩
    cases q
  have hS0 : SR c0 [] := by
    refine ⟨fun o => ?_, (fun q => by cases q), fun b hb => ⟨?_, own0 b⟩, ?_⟩
    · show ORo c0 .unborn ([] : List Ob)[o]?
      rw [List.getElem?_nil]; rfl
    · rcases hb with hb | hb
      · obtain ⟨o, base, sz, q⟩ := hb
        exact hs.lt q
      · exact (hs.hid b hb).1
    · refine Glob.le (c := c) (c' := c0) (fun b hb => ⟨⟨hb.1, own0 b, fun q => ?_⟩, fun _ => rfl⟩) hs.gl
      rcases q with q | q
      · exact hb.2.1 q
      · exact hb.2.2 q
  let a0 : Act := { tmps := caps ++ Array.replicate (fn.ntmps - caps.size) undef, defers := [] }
  have hsz : a0.tmps.size = fn.ntmps := by simp [a0]; omega
  have hrel0 : Rel P c0 (List.replicate fn.ntmps .undef) [] a0 := by
    refine ⟨hS0, ?_, DfOk.refl P []⟩
    refine VRs_of_get (by simp [hsz]) fun i x v e f => ?_
    rw [List.getElem?_replicate] at e
    split at e
    · simp only [Option.some.injEq] at e; subst e; simp [VR]
    · cases e
  have hrel1 : Rel P c0 ((List.replicate fn.ntmps .undef).set d (.d .nili)) [] (a0.put (some d) .nilIface) := hrel0.put (some d) (x := .d .nili) (by simp [Cx.vr, VR, DR])
  refine wpS_seq (wpS_region ?_)
  have hlen : ops.size = l.length + 1 := by
    have := congrArg List.length hl
    simpa using this
  have h0 : ops[0]? = some o := by
    have := congrArg (·[0]?) hl
    simpa using this
  rw [hlen, List.range_eq_range', List.range'_succ]
  simp only [wpOpsS, h0]
  have hw : Region.wanted o (yielded ops a0.tmps) = true := by
    have : o.guard = none := by simpa using h2
    simp [Region.wanted, this]
  have hrun : (execOp a0.eval o).run P c.w = .ok .recover c.w := by
    unfold recOp at h1
    split at h1
    · rename_i args ts ho
      have ha : args = #[] := by simpa using h1
      subst ha
      simp [execOp, ho, resolve, invoke, builtin]
    · cases h1
  rw [if_pos hw]
  simp only [a0] at hrun hrel1
  simp only [hrun]
  have hrec : recoverD (c₀ :: cs) = none := by simp [recoverD, hm]
  simp only [hrec, hd]
  refine opsE_sound (P := P) l 1 _ [] (by rw [hl]; rfl) hs1 c0 _ hrel1 fun loc' a' w' k1 k2 k3 => ?_
  show Code.wpS _ _ _ _ _ _
  refine wpS_seq (wpS_region ?_)
  have e1 : List.range ops1.size = List.range' 0 ops1.toList.length := by rw [List.range_eq_range']; simp
  rw [e1]
  refine opsE_sound (P := P) ops1.toList 0 _ σ1 rfl hs2 ⟨w', loc', c0.hid⟩ _ k1 fun loc'' a'' w'' k4 k5 k6 => ?_
  show Code.wpS _ _ _ _ _ _
  have hev : a''.eval (.tmp t) = .bool false := by
    have := vr_get k4.sr.gl k4.sl (.tmp t)
    simp only [get] at this
    rw [hst] at this
    simpa [Cx.vr, VR, DR] using this
  refine wpS_cond (t := false) hev (wpS_of_wp (wp_skip ?_))
  have hE := k2.trans k5
  refine ⟨k6.trans (k3.trans (put_defers _ _ _)), .returning, ?_, .tuple #[], ?_, rfl, ⟨hE.size, fun b hb => (hE.frame b hb (own0 b)).1, hE.io⟩, _, rfl⟩
  · cases c₀
    simp only at hm
    subst hm
    rfl
  · have : fn.results = #[] := by
      have := h3
      simpa using this
    simp [results, this]

end Go.Proofs.YteafabpedfgedaaGreatDoor.Am
end
/- The engine's code: what a piece of code comes to, and that it does. -/
section
set_option linter.unusedSimpArgs false
set_option linter.unusedVariables false
namespace Go.Proofs.YteafabpedfgedaaGreatDoor.Am
open Go

/-- A piece of code, from every frame and world that fit. -/
def WP (P : Program) (n : Nat) (code : Code) (s : List V) (σ : List Ob) (K : Ex → List V → List Ob → Prop) : Prop :=
  ∀ (c : Cx) (a : Act), Rel P c s σ a → code.wp P (Post P n c K) a c.w

theorem WP_mono {P : Program} {n : Nat} {code : Code} {s : List V} {σ : List Ob} {K K' : Ex → List V → List Ob → Prop} (h : WP P n code s σ K) (hk : ∀ e s σ, K e s σ → K' e s σ) : WP P n code s σ K' :=
  fun c a hr => wp_mono (h c a hr) fun e a' w' hp => by
    rcases hp with hp | ⟨x, loc', s', σ', h1, h2, h3, h4⟩
    · exact .inl hp
    · exact .inr ⟨x, loc', s', σ', h1, h2, h3, hk _ _ _ h4⟩

def seqK (k : List V → List Ob → Prop) (K : Ex → List V → List Ob → Prop) : Ex → List V → List Ob → Prop
  | .normal, s, σ => k s σ
  | e, s, σ => K e s σ

def blockK (id : Nat) (K : Ex → List V → List Ob → Prop) : Ex → List V → List Ob → Prop
  | .exit j, s, σ => if j = id then K .normal s σ else K (.exit j) s σ
  | e, s, σ => K e s σ

theorem WP_seq {P : Program} {n : Nat} {x y : Code} {s : List V} {σ : List Ob} {K : Ex → List V → List Ob → Prop} (h : WP P n x s σ (seqK (fun s σ => WP P n y s σ K) K)) : WP P n (.seq x y) s σ K := by
  intro c a hr
  refine wp_seq (wp_mono (h c a hr) fun e a' w' hp => ?_)
  rcases hp with hp | ⟨x, loc', s', σ', h1, h2, h3, h4⟩
  · exact hp.elim
  · cases e <;> simp only [exOf] at h1 <;> (try (cases h1; done)) <;> simp only [Option.some.injEq] at h1 <;> subst h1
    · exact wp_mono (h4 ⟨w', loc', c.hid⟩ a' h2) fun e a'' w'' hp => Post.back h3 rfl hp
    · exact .inr ⟨_, loc', s', σ', rfl, h2, h3, h4⟩
    · exact .inr ⟨_, loc', s', σ', rfl, h2, h3, h4⟩

theorem WP_block {P : Program} {n : Nat} {id : Nat} {x : Code} {s : List V} {σ : List Ob} {K : Ex → List V → List Ob → Prop} (h : WP P n x s σ (blockK id K)) : WP P n (.block id x) s σ K := by
  intro c a hr
  refine wp_block (wp_mono (h c a hr) fun e a' w' hp => ?_)
  rcases hp with hp | ⟨x, loc', s', σ', h1, h2, h3, h4⟩
  · exact hp.elim
  · cases e <;> simp only [exOf] at h1 <;> (try (cases h1; done)) <;> simp only [Option.some.injEq] at h1 <;> subst h1
    · exact .inr ⟨_, loc', s', σ', rfl, h2, h3, h4⟩
    · rename_i j
      simp only [blockK] at h4
      simp only [Exit.inBlock]
      split at h4
      · rename_i e; rw [if_pos e]; exact .inr ⟨_, loc', s', σ', rfl, h2, h3, h4⟩
      · rename_i e; rw [if_neg e]; exact .inr ⟨_, loc', s', σ', rfl, h2, h3, h4⟩
    · exact .inr ⟨_, loc', s', σ', rfl, h2, h3, h4⟩

theorem WP_region {P : Program} {n : Nat} {id : Nat} {ops : Array Oper} {s : List V} {σ : List Ob} {K : Ex → List V → List Ob → Prop} (h : opsA P ops.toList ops.toList s σ (K .normal)) : WP P n (.region id ops false) s σ K := by
  intro c a hr
  refine wp_region ?_
  rw [List.range_eq_range']
  have := ops_sound (P := P) (ops := ops) ops.toList 0 s σ (K .normal) rfl h c a hr (Post P n c K) (fun s' σ' loc' a' w' h1 h2 h3 => .inr ⟨.normal, loc', s', σ', rfl, h2, h3.toN n, h1⟩)
  simpa using this

theorem WP_cond {P : Program} {n : Nat} {x : Operand} {y z : Code} {s : List V} {σ : List Ob} {K : Ex → List V → List Ob → Prop} {b : Bool} (hb : get s x = .d (.bool b)) (h1 : b = true → WP P n y s σ K) (h2 : b = false → WP P n z s σ K) : WP P n (.cond x y z) s σ K := by
  intro c a hr
  have hv := vr_get hr.sr.gl hr.sl x
  rw [hb] at hv
  simp only [Cx.vr, VR, DR] at hv
  exact wp_cond_split hv (fun e => h1 e c a hr) (fun e => h2 e c a hr)

/-- THE CODE'S OWN WEAKEST CONDITION; at a loop it stops. -/
def wpA (P : Program) (n : Nat) : Code → List V → List Ob → (Ex → List V → List Ob → Prop) → Prop
  | .skip, s, σ, K => K .normal s σ
  | .label _, s, σ, K => K .normal s σ
  | .region _ ops false, s, σ, K => opsA P ops.toList ops.toList s σ (K .normal)
  | .region id ops true, s, σ, K => WP P n (.region id ops true) s σ K
  | .seq x y, s, σ, K => wpA P n x s σ (seqK (fun s σ => wpA P n y s σ K) K)
  | .cond x y z, s, σ, K => match get s x with
    | .d (.bool b) => (b = true → wpA P n y s σ K) ∧ (b = false → wpA P n z s σ K)
    | _ => False
  | .block id x, s, σ, K => wpA P n x s σ (blockK id K)
  | .loop x, s, σ, K => WP P n (.loop x) s σ K
  | .exit id, s, σ, K => K (.exit id) s σ
  | .ret, s, σ, K => K .ret s σ
  | _, _, _, _ => False

theorem stepA_mono {P : Program} {o : Oper} {s : List V} {σ : List Ob} {K K' : V → List Ob → Prop} (h : stepA P o s σ K) (hk : ∀ r σ', K r σ' → K' r σ') : stepA P o s σ K' := by
  unfold stepA at h ⊢
  split at h
  · split at h
    · exact callA_mono h hk
    · exact callA_mono h hk
    · exact h.elim
  · split at h
    · exact hk _ _ h
    · split at h
      · exact hk _ _ h
      · exact nilA_mono hk h

theorem stepL_mono {P : Program} {o : Oper} {s : List V} {σ : List Ob} {K K' : V → List Ob → Prop} (h : stepL P o s σ K) (hk : ∀ r σ', K r σ' → K' r σ') : stepL P o s σ K' := by
  rcases h with h | ⟨r, h1, h2⟩ | ⟨cl, h1, h2, h3⟩
  · exact .inl (stepA_mono h hk)
  · exact .inr (.inl ⟨r, h1, hk _ _ h2⟩)
  · exact .inr (.inr ⟨cl, h1, h2, hk _ _ h3⟩)

theorem opsA_mono {P : Program} {all : List Oper} : ∀ (l : List Oper) (s : List V) (σ : List Ob) (K K' : List V → List Ob → Prop), opsA P all l s σ K → (∀ s σ, K s σ → K' s σ) → opsA P all l s σ K'
  | [], s, σ, K, K', h, hk => hk _ _ h
  | o :: r, s, σ, K, K', h, hk => by
    unfold opsA at h ⊢
    split at h
    · exact stepL_mono h fun v σ' hh => opsA_mono r _ _ K K' hh hk
    · split at h
      · split at h
        · exact ⟨fun e => stepL_mono (h.1 e) fun v σ' hh => opsA_mono r _ _ K K' hh hk, fun e => opsA_mono r _ _ K K' (h.2 e) hk⟩
        · exact opsA_mono r _ _ K K' h hk
        · exact h.elim
      · exact h.elim

theorem wpA_mono {P : Program} {n : Nat} : ∀ (code : Code) (s : List V) (σ : List Ob) (K K' : Ex → List V → List Ob → Prop), wpA P n code s σ K → (∀ e s σ, K e s σ → K' e s σ) → wpA P n code s σ K'
  | .skip, s, σ, K, K', h, hk => hk _ _ _ h
  | .label _, s, σ, K, K', h, hk => hk _ _ _ h
  | .region _ ops false, s, σ, K, K', h, hk => opsA_mono _ s σ _ _ h (hk .normal)
  | .region id ops true, s, σ, K, K', h, hk => WP_mono h hk
  | .seq x y, s, σ, K, K', h, hk => wpA_mono x s σ _ _ h fun e s σ hh => by
      cases e <;> simp only [seqK] at * <;> first | exact wpA_mono y s σ K K' hh hk | exact hk _ _ _ hh
  | .cond x y z, s, σ, K, K', h, hk => by
    simp only [wpA] at h ⊢
    split at h
    · exact ⟨fun e => wpA_mono y s σ K K' (h.1 e) hk, fun e => wpA_mono z s σ K K' (h.2 e) hk⟩
    · exact h.elim
  | .block id x, s, σ, K, K', h, hk => wpA_mono x s σ _ _ h fun e s σ hh => by
      cases e <;> simp only [blockK] at * <;> first | (split at hh <;> simp_all; done) | exact hk _ _ _ hh
  | .loop x, s, σ, K, K', h, hk => WP_mono h hk
  | .exit id, s, σ, K, K', h, hk => hk _ _ _ h
  | .ret, s, σ, K, K', h, hk => hk _ _ _ h
  | .rangeFunc .., _, _, _, _, h, _ => h.elim
  | .scope _, _, _, _, _, h, _ => h.elim
  | .goto _, _, _, _, _, h, _ => h.elim
  | .refuse _, _, _, _, _, h, _ => h.elim

theorem wpA_sound {P : Program} {n : Nat} : ∀ (code : Code) (s : List V) (σ : List Ob) (K : Ex → List V → List Ob → Prop), wpA P n code s σ K → WP P n code s σ K
  | .skip, s, σ, K, h => fun c a hr => wp_skip (.inr ⟨.normal, c.loc, s, σ, rfl, hr, ExtN.refl n c, h⟩)
  | .label _, s, σ, K, h => fun c a hr => wp_label (.inr ⟨.normal, c.loc, s, σ, rfl, hr, ExtN.refl n c, h⟩)
  | .region _ ops false, s, σ, K, h => WP_region h
  | .region id ops true, s, σ, K, h => h
  | .seq x y, s, σ, K, h => WP_seq (wpA_sound x s σ _ (by
      have h' : wpA P n x s σ (seqK (fun s σ => wpA P n y s σ K) K) := h
      have e : ∀ (k k' : List V → List Ob → Prop), (∀ s σ, k s σ → k' s σ) → ∀ e s σ, seqK k K e s σ → seqK k' K e s σ := by
        intro k k' hk e s σ hh; cases e <;> simp only [seqK] at * <;> first | exact hk _ _ hh | exact hh
      exact wpA_mono x s σ _ _ h' (e _ _ fun s σ => wpA_sound y s σ K)))
  | .cond x y z, s, σ, K, h => by
    simp only [wpA] at h
    split at h
    · rename_i b hb
      exact WP_cond hb (fun e => wpA_sound y s σ K (h.1 e)) (fun e => wpA_sound z s σ K (h.2 e))
    · exact h.elim
  | .block id x, s, σ, K, h => WP_block (wpA_sound x s σ _ h)
  | .loop x, s, σ, K, h => h
  | .exit id, s, σ, K, h => fun c a hr => wp_exit (.inr ⟨.exit id, c.loc, s, σ, rfl, hr, ExtN.refl n c, h⟩)
  | .ret, s, σ, K, h => fun c a hr => wp_ret (.inr ⟨.ret, c.loc, s, σ, rfl, hr, ExtN.refl n c, h⟩)
  | .rangeFunc .., _, _, _, h => h.elim
  | .scope _, _, _, _, h => h.elim
  | .goto _, _, _, _, h => h.elim
  | .refuse _, _, _, _, h => h.elim
end Go.Proofs.YteafabpedfgedaaGreatDoor.Am
end
/- The engine's names of objects: a call that knows a part of the store alone, results, what a function leaves behind. -/
section
set_option linter.unusedSimpArgs false
set_option linter.unusedVariables false
namespace Go.Proofs.YteafabpedfgedaaGreatDoor.Am
open Go

/-! ### other names for the objects -/
mutual
def renV (g : Nat → Option Nat) : V → V
  | .ptr o i k => match g o with | some j => .ptr j i k | none => .undef
  | .sl o off len => match g o with | some j => .sl j off len | none => .undef
  | .mp o => match g o with | some j => .mp j | none => .undef
  | .fn f caps => .fn f (renVs g caps)
  | .bm f caps => .bm f (renVs g caps)
  | .agg cs => .agg (renVs g cs)
  | .tup cs => .tup (renVs g cs)
  | x => x
def renVs (g : Nat → Option Nat) : List V → List V
  | [] => []
  | x :: r => renV g x :: renVs g r
end

def renO (g : Nat → Option Nat) : Ob → Ob
  | .box cs => .box (renVs g cs)
  | .vec sz cs => .vec sz (renVs g cs)
  | .map es clk => .map (es.map fun e => (e.1, renV g e.2.1, e.2.2)) clk
  | .mit m since seen last => .mit (renV g m) since seen last
  | x => x

@[simp] theorem renVs_length (g : Nat → Option Nat) : ∀ xs : List V, (renVs g xs).length = xs.length
  | [] => rfl
  | x :: r => by simp [renVs, renVs_length g r]

mutual
theorem VR_ren {I : Im} {w : World} {l l' : Nat → Loc} {g : Nat → Option Nat} (hg : ∀ o j, g o = some j → l' j = l o) : ∀ (x : V) (v : Value), VR I w l x v → VR I w l' (renV g x) v
  | .d x, v, r => by simpa [renV, VR] using r
  | .ptr o i k, v, r => by
    simp only [renV]
    cases h : g o with
    | none => simp [VR]
    | some j => simp only [VR] at r ⊢; rw [hg o j h]; exact r
  | .ipt cs, v, r => by simpa [renV, VR] using r
  | .sl o off len, v, r => by
    simp only [renV]
    cases h : g o with
    | none => simp [VR]
    | some j => simp only [VR] at r ⊢; rw [hg o j h]; exact r
  | .mp o, v, r => by
    simp only [renV]
    cases h : g o with
    | none => simp [VR]
    | some j => simp only [VR] at r ⊢; rw [hg o j h]; exact r
  | .fn f caps, v, r => by
    simp only [renV, VR] at r ⊢
    obtain ⟨vs, h1, h2⟩ := r
    exact ⟨vs, h1, VRs_ren hg caps vs h2⟩
  | .bm f caps, v, r => by
    simp only [renV, VR] at r ⊢
    obtain ⟨vs, h1, h2⟩ := r
    exact ⟨vs, h1, VRs_ren hg caps vs h2⟩
  | .agg cs, v, r => by
    simp only [renV, VR] at r ⊢
    obtain ⟨vs, h1, h2⟩ := r
    exact ⟨vs, h1, VRs_ren hg cs vs h2⟩
  | .tup cs, v, r => by
    simp only [renV, VR] at r ⊢
    obtain ⟨vs, h1, h2⟩ := r
    exact ⟨vs, h1, VRs_ren hg cs vs h2⟩
  | .undef, _, _ => by simp [renV, VR]
theorem VRs_ren {I : Im} {w : World} {l l' : Nat → Loc} {g : Nat → Option Nat} (hg : ∀ o j, g o = some j → l' j = l o) : ∀ (xs : List V) (vs : List Value), VRs I w l xs vs → VRs I w l' (renVs g xs) vs
  | [], vs, r => by simpa [renVs, VRs] using r
  | x :: xs, vs, r => by
    simp only [renVs, VRs] at r ⊢
    obtain ⟨v, t, h1, h2, h3⟩ := r
    exact ⟨v, t, h1, VR_ren hg x v h2, VRs_ren hg xs t h3⟩
end

mutual
theorem VR_unren {I : Im} {w : World} {l l' : Nat → Loc} {g : Nat → Nat} (hg : ∀ o, l' (g o) = l o) : ∀ (x : V) (v : Value), VR I w l' (renV (fun o => some (g o)) x) v → VR I w l x v
  | .d x, v, r => by simpa [renV, VR] using r
  | .ptr o i k, v, r => by simp only [renV, VR] at r ⊢; rw [hg o] at r; exact r
  | .ipt cs, v, r => by simpa [renV, VR] using r
  | .sl o off len, v, r => by simp only [renV, VR] at r ⊢; rw [hg o] at r; exact r
  | .mp o, v, r => by simp only [renV, VR] at r ⊢; rw [hg o] at r; exact r
  | .fn f caps, v, r => by
    simp only [renV, VR] at r ⊢
    obtain ⟨vs, h1, h2⟩ := r
    exact ⟨vs, h1, VRs_unren hg caps vs h2⟩
  | .bm f caps, v, r => by
    simp only [renV, VR] at r ⊢
    obtain ⟨vs, h1, h2⟩ := r
    exact ⟨vs, h1, VRs_unren hg caps vs h2⟩
  | .agg cs, v, r => by
    simp only [renV, VR] at r ⊢
    obtain ⟨vs, h1, h2⟩ := r
    exact ⟨vs, h1, VRs_unren hg cs vs h2⟩
  | .tup cs, v, r => by
    simp only [renV, VR] at r ⊢
    obtain ⟨vs, h1, h2⟩ := r
    exact ⟨vs, h1, VRs_unren hg cs vs h2⟩
  | .undef, _, _ => by simp [VR]
theorem VRs_unren {I : Im} {w : World} {l l' : Nat → Loc} {g : Nat → Nat} (hg : ∀ o, l' (g o) = l o) : ∀ (xs : List V) (vs : List Value), VRs I w l' (renVs (fun o => some (g o)) xs) vs → VRs I w l xs vs
  | [], vs, r => by simpa [renVs, VRs] using r
  | x :: xs, vs, r => by
    simp only [renVs, VRs] at r ⊢
    obtain ⟨v, t, h1, h2, h3⟩ := r
    exact ⟨v, t, h1, VR_unren hg x v h2, VRs_unren hg xs t h3⟩
end

theorem MapR.ren {I J : Im} {w w' : World} {l l' : Nat → Loc} (h : I.Le J) {f : V → V} (hv : ∀ x v, VR I w l x v → VR J w' l' (f x) v) {es : List (D × V × Nat)} {ents : List MapEntry} (m : MapR I w l es ents) : MapR J w' l' (es.map fun e => (e.1, f e.2.1, e.2.2)) ents := by
  induction m with
  | nil => exact .nil
  | cons a b e _ ih => exact .cons (DR_mono h _ _ a) (hv _ _ b) e ih
theorem MapR.unren {I J : Im} {w w' : World} {l l' : Nat → Loc} (h : I.Le J) {f : V → V} (hv : ∀ x v, VR I w l (f x) v → VR J w' l' x v) : ∀ {es : List (D × V × Nat)} {ents : List MapEntry}, MapR I w l (es.map fun e => (e.1, f e.2.1, e.2.2)) ents → MapR J w' l' es ents
  | [], ents, m => by cases m; exact .nil
  | (k, x, n) :: es, ents, m => by
    cases m with
    | cons a b e m => exact .cons (DR_mono h _ _ a) (hv _ _ b) e (MapR.unren h hv m)

/-- Two contexts over one memory: the immutable part is the same or more. -/
theorem OR_ren {c c' : Cx} (hw : c'.w = c.w) (hi : c.im.Le c'.im) {g : Nat → Option Nat} (hg : ∀ o j, g o = some j → c'.loc j = c.loc o) {l : Loc} {x : Ob} (r : OR c l x) : OR c' l (renO g x) := by
  have hcell : ∀ b o, c'.im.cell b o = c.im.cell b o := fun b o => by simp [Cx.im, hw]
  cases x with
  | dead => exact r
  | box cs =>
    obtain ⟨b, bs, h0, arr, e, f, h1, h2, us, rest, hu, h3⟩ := r
    refine ⟨b, bs, h0, arr, e, f, by rw [hw]; exact h1, h2, us, rest, hu, ?_⟩
    have : VRs c'.im c'.w c.loc cs us := VRs_mono hi (fun o => .inl rfl) (fun b cs e f h => ⟨cs, f, by rw [hw]; exact h, rfl⟩) cs _ h3
    exact VRs_ren hg cs _ this
  | vec sz cs =>
    obtain ⟨b, bs, h0, h0', arr, e, f, h1, h2, us, hle, hat, h3⟩ := r
    refine ⟨b, bs, h0, h0', arr, e, f, by rw [hw]; exact h1, h2, us, hle, hat, ?_⟩
    have : VRs c'.im c'.w c.loc cs us := VRs_mono hi (fun o => .inl rfl) (fun b cs e f h => ⟨cs, f, by rw [hw]; exact h, rfl⟩) cs _ h3
    exact VRs_ren hg cs _ this
  | arr sz mk es =>
    rcases r with r | ⟨b, base, h0, h1, arr, e, f, h2, h3, h4, h5⟩
    · exact .inl r
    · exact .inr ⟨b, base, h0, h1, arr, e, f, by rw [hw]; exact h2, h3, h4, RowsR_mono hi es b base sz (fun o => hcell b o) h5⟩
  | map es clk =>
    obtain ⟨b, h0, ents, h1, h2, h3, h4⟩ := r
    have hv : ∀ x v, VR c.im c.w c.loc x v → VR c'.im c'.w c'.loc (renV g x) v := fun x v q =>
      VR_ren hg x v (VR_mono hi (fun o => .inl rfl) (fun b cs e f h => ⟨cs, f, by rw [hw]; exact h, rfl⟩) x v q)
    refine ⟨b, h0, ents, by rw [hw]; exact h1, h2.ren hi hv, by simpa [List.map_map, Function.comp_def] using h3, fun e he => ?_⟩
    obtain ⟨e', he', rfl⟩ := List.mem_map.1 he
    exact h4 e' he'
  | mit m since seen last =>
    obtain ⟨b, h0, q, h1, h2⟩ := r
    exact ⟨b, h0, q, by rw [hw]; exact h1, VR_ren hg m _ (VR_mono hi (fun o => .inl rfl) (fun b cs e f h => ⟨cs, f, by rw [hw]; exact h, rfl⟩) m _ h2)⟩
  | sit s pos =>
    obtain ⟨b, h0, h1⟩ := r
    exact ⟨b, h0, by rw [hw]; exact h1⟩

theorem OR_unren {c c' : Cx} (hw : c'.w = c.w) (hi : c'.im.Le c.im) {g : Nat → Nat} (hg : ∀ o, c'.loc (g o) = c.loc o) {l : Loc} {x : Ob} (r : OR c' l (renO (fun o => some (g o)) x)) : OR c l x := by
  have hcell : ∀ b o, c.im.cell b o = c'.im.cell b o := fun b o => by simp [Cx.im, hw]
  cases x with
  | dead => exact r
  | box cs =>
    obtain ⟨b, bs, h0, arr, e, f, h1, h2, us, rest, hu, h3⟩ := r
    refine ⟨b, bs, h0, arr, e, f, by rw [← hw]; exact h1, h2, us, rest, hu, ?_⟩
    have : VRs c.im c.w c'.loc (renVs (fun o => some (g o)) cs) us := VRs_mono hi (fun o => .inl rfl) (fun b cs e f h => ⟨cs, f, by rw [← hw]; exact h, rfl⟩) _ _ h3
    exact VRs_unren hg cs _ this
  | vec sz cs =>
    obtain ⟨b, bs, h0, h0', arr, e, f, h1, h2, us, hle, hat, h3⟩ := r
    refine ⟨b, bs, h0, h0', arr, e, f, by rw [← hw]; exact h1, h2, us, hle, hat, ?_⟩
    have : VRs c.im c.w c'.loc (renVs (fun o => some (g o)) cs) us := VRs_mono hi (fun o => .inl rfl) (fun b cs e f h => ⟨cs, f, by rw [← hw]; exact h, rfl⟩) _ _ h3
    exact VRs_unren hg cs _ this
  | arr sz mk es =>
    rcases r with r | ⟨b, base, h0, h1, arr, e, f, h2, h3, h4, h5⟩
    · exact .inl r
    · exact .inr ⟨b, base, h0, h1, arr, e, f, by rw [← hw]; exact h2, h3, h4, RowsR_mono hi es b base sz (fun o => hcell b o) h5⟩
  | map es clk =>
    obtain ⟨b, h0, ents, h1, h2, h3, h4⟩ := r
    have hv : ∀ x v, VR c'.im c'.w c'.loc (renV (fun o => some (g o)) x) v → VR c.im c.w c.loc x v := fun x v q =>
      VR_unren hg x v (VR_mono hi (fun o => .inl rfl) (fun b cs e f h => ⟨cs, f, by rw [← hw]; exact h, rfl⟩) _ v q)
    refine ⟨b, h0, ents, by rw [← hw]; exact h1, MapR.unren hi hv h2, by simpa [List.map_map, Function.comp_def] using h3, fun e he => ?_⟩
    exact h4 (e.1, renV (fun o => some (g o)) e.2.1, e.2.2) (List.mem_map.2 ⟨e, he, rfl⟩)
  | mit m since seen last =>
    obtain ⟨b, h0, q, h1, h2⟩ := r
    exact ⟨b, h0, q, by rw [← hw]; exact h1, VR_unren hg m _ (VR_mono hi (fun o => .inl rfl) (fun b cs e f h => ⟨cs, f, by rw [← hw]; exact h, rfl⟩) _ _ h2)⟩
  | sit s pos =>
    obtain ⟨b, h0, h1⟩ := r
    exact ⟨b, h0, by rw [← hw]; exact h1⟩

/-! ### a call that knows a part of the store alone -/

/-- The small store's names in the great one: its i-th object is the great one's ρ[i]; what is new comes behind the N objects that are there. -/
def emb (ρ : List Nat) (N : Nat) (o : Nat) : Nat := match ρ[o]? with | some j => j | none => N + (o - ρ.length)

def backInto (τ : List Ob) : List Nat → List Ob → List Ob
  | i :: ρ, x :: xs => backInto (τ.set i x) ρ xs
  | _, _ => τ

def embV (ρ : List Nat) (N : Nat) : V → V := renV fun o => some (emb ρ N o)
def embVs (ρ : List Nat) (N : Nat) : List V → List V := renVs fun o => some (emb ρ N o)
def embO (ρ : List Nat) (N : Nat) : Ob → Ob := renO fun o => some (emb ρ N o)

/-- The great store behind a call that has turned the small one into σ'. -/
def storeBack (τ : List Ob) (ρ : List Nat) (σ' : List Ob) : List Ob :=
  backInto τ ρ (σ'.map (embO ρ τ.length)) ++ (σ'.drop ρ.length).map (embO ρ τ.length)

theorem backInto_length : ∀ (ρ : List Nat) (xs : List Ob) (τ : List Ob), (backInto τ ρ xs).length = τ.length
  | [], xs, τ => by cases xs <;> rfl
  | i :: ρ, [], τ => rfl
  | i :: ρ, x :: xs, τ => by simp only [backInto]; rw [backInto_length ρ xs]; simp

theorem backInto_out : ∀ (ρ : List Nat) (xs : List Ob) (τ : List Ob) (o : Nat), o ∉ ρ → (backInto τ ρ xs)[o]? = τ[o]?
  | [], xs, τ, o, _ => by cases xs <;> rfl
  | i :: ρ, [], τ, o, _ => rfl
  | i :: ρ, x :: xs, τ, o, h => by
    simp only [List.mem_cons, not_or] at h
    simp only [backInto]
    rw [backInto_out ρ xs _ o h.2, List.getElem?_set_ne (Ne.symm h.1)]

theorem backInto_in : ∀ (ρ : List Nat) (xs : List Ob) (τ : List Ob), ρ.Nodup → (∀ i ∈ ρ, i < τ.length) → ρ.length ≤ xs.length → ∀ (j i : Nat), ρ[j]? = some i → (backInto τ ρ xs)[i]? = xs[j]?
  | [], xs, τ, _, _, _, j, i, h => by simp at h
  | k :: ρ, [], τ, _, _, hl, j, i, h => by simp at hl
  | k :: ρ, x :: xs, τ, hn, hlt, hl, j, i, h => by
    simp only [List.nodup_cons] at hn
    simp only [backInto]
    cases j with
    | zero =>
      simp at h; subst h
      rw [backInto_out ρ xs _ k hn.1, List.getElem?_set_self (hlt k (by simp))]
      simp
    | succ j =>
      simp at h
      rw [backInto_in ρ xs _ hn.2 (fun i hi => by rw [List.length_set]; exact hlt i (by simp [hi])) (by simpa using hl) j i h]
      simp

theorem emb_lt {ρ : List Nat} {N j i : Nat} (h : ρ[j]? = some i) : emb ρ N j = i := by simp [emb, h]
theorem emb_ge {ρ : List Nat} {N j : Nat} (h : ρ.length ≤ j) : emb ρ N j = N + (j - ρ.length) := by simp [emb, List.getElem?_eq_none h]

theorem emb_inj {ρ : List Nat} {N : Nat} (hn : ρ.Nodup) (hlt : ∀ i ∈ ρ, i < N) {a b : Nat} (h : emb ρ N a = emb ρ N b) : a = b := by
  by_cases ha : a < ρ.length <;> by_cases hb : b < ρ.length
  · rw [emb_lt (List.getElem?_eq_getElem ha), emb_lt (List.getElem?_eq_getElem hb)] at h
    exact (List.getElem_inj hn).1 h
  · rw [emb_lt (List.getElem?_eq_getElem ha), emb_ge (by omega)] at h
    have := hlt _ (List.getElem_mem ha)
    omega
  · rw [emb_ge (by omega), emb_lt (List.getElem?_eq_getElem hb)] at h
    have := hlt _ (List.getElem_mem hb)
    omega
  · rw [emb_ge (by omega), emb_ge (by omega)] at h
    omega

/-- The context in which a call sees a part of the store alone. -/
def frameC (c : Cx) (ρ : List Nat) (N : Nat) : Cx := ⟨c.w, fun o => c.loc (emb ρ N o), ⟨fun b => c.hid.blk b ∨ ∃ o base sz, o ∉ ρ ∧ c.loc o = .here b base sz, []⟩⟩

/-- What a call leaves that sees a part of the store alone, said of the whole. -/
theorem frame_post {c : Cx} {σ τ : List Ob} (hs : SR c τ) {ρ : List Nat} (hn : ρ.Nodup) (hlen : ρ.length = σ.length) (hlt : ∀ i ∈ ρ, i < τ.length) (hS0 : SR (frameC c ρ τ.length) σ) {K : V → List Ob → Prop} {e : Ending} {w' : World} (hp : CallPost (frameC c ρ τ.length) K e w') :
    CallPost c (fun r τ' => ∃ r0 σ0, K r0 σ0 ∧ r = embV ρ τ.length r0 ∧ τ' = storeBack τ ρ σ0) e w' := by
  let N := τ.length
  let g := emb ρ N
  let c0 : Cx := frameC c ρ N
  change SR c0 σ at hS0
  change CallPost c0 K e w' at hp
  have hgout : ∀ o, ρ.length ≤ o → c.loc (g o) = .unborn := fun o ho => hs.unborn (by show τ.length ≤ emb ρ N o; rw [emb_ge ho]; omega)
  have hown0 : ∀ b, c0.own b → c.own b := by rintro b ⟨o, base, sz, e⟩; exact ⟨g o, base, sz, e⟩
  have hsplit : ∀ b, c.own b → c0.own b ∨ ∃ o base sz, o ∉ ρ ∧ c.loc o = .here b base sz := by
    rintro b ⟨o, base, sz, e⟩
    by_cases ho : o ∈ ρ
    · obtain ⟨j, hj⟩ := List.getElem?_of_mem ho
      exact .inl ⟨j, base, sz, by show c.loc (emb ρ N j) = _; rw [emb_lt hj]; exact e⟩
    · exact .inr ⟨o, base, sz, ho, e⟩
  have hout0 : ∀ b, (∃ o base sz, o ∉ ρ ∧ c.loc o = .here b base sz) → ¬ c0.own b := by
    rintro b ⟨o, base, sz, ho, e⟩ ⟨o', base', sz', e'⟩
    have := hs.inj e e'
    subst this
    by_cases q : o' < ρ.length
    · exact ho (by show emb ρ N o' ∈ ρ; rw [emb_lt (List.getElem?_eq_getElem q)]; exact List.getElem_mem q)
    · have := hgout o' (by omega)
      change c.loc (g o') = _ at e'
      rw [this] at e'; cases e'
  have him : c.im.Le c0.im := by
    intro b hb
    exact ⟨⟨hb.1, fun q => hb.2.1 (hown0 b q), fun q => q.elim hb.2.2 fun ⟨o, base, sz, _, e⟩ => hb.2.1 ⟨o, base, sz, e⟩⟩, fun o => rfl⟩
  have him' : c0.im.Le c.im := by
    intro b hb
    exact ⟨⟨hb.1, fun q => (hsplit b q).elim hb.2.1 fun q' => hb.2.2 (.inr q'), fun q => hb.2.2 (.inl q)⟩, fun o => rfl⟩
  cases e with
  | outgrown => exact hp
  | panicked _ => exact hp
  | returned v =>
    obtain ⟨loc0, σ0, r0, k1, k2, k3, k4⟩ := hp
    have hge : ρ.length ≤ σ0.length := by
      rcases Nat.lt_or_ge σ0.length ρ.length with q | q
      · exfalso
        have h1 := k1.unborn (o := σ0.length) (Nat.le_refl _)
        have h2 := hS0.not_unborn (o := σ0.length) (by omega)
        rcases k2.loc σ0.length with e | e | e
        · rw [h1] at e; exact h2 e.symm
        · rw [h1] at e; cases e
        · exact h2 e
      · exact q
    -- the great context behind the call
    let inv : Nat → Option Nat := fun o => if o < N then ρ.idxOf? o else some (ρ.length + (o - N))
    let loc' : Nat → Loc := fun o => match inv o with | some j => loc0 j | none => c.loc o
    have hinv : ∀ j, inv (g j) = some j := by
      intro j
      show (if emb ρ N j < N then ρ.idxOf? (emb ρ N j) else some (ρ.length + (emb ρ N j - N))) = some j
      by_cases q : j < ρ.length
      · have hr := List.getElem?_eq_getElem q
        rw [emb_lt hr, if_pos (hlt _ (List.getElem_mem q))]
        rw [List.idxOf?_eq_some_iff]
        refine ⟨q, by simp, fun i hi => ?_⟩
        intro e
        exact Nat.ne_of_lt hi ((List.getElem_inj hn).1 e)
      · rw [emb_ge (by omega), if_neg (by omega)]
        congr 1; omega
    have hlocg : ∀ j, loc' (g j) = loc0 j := fun j => by show (match inv (g j) with | some j => loc0 j | none => c.loc (g j)) = _; rw [hinv]
    have hout : ∀ o, o < N → o ∉ ρ → loc' o = c.loc o := by
      intro o ho hr
      have : inv o = none := by show (if o < N then ρ.idxOf? o else _) = none; rw [if_pos ho, List.idxOf?_eq_none_iff]; exact hr
      show (match inv o with | some j => loc0 j | none => c.loc o) = _
      rw [this]
    have hcase : ∀ o, (∃ j, o = g j) ∨ (o < N ∧ o ∉ ρ) := by
      intro o
      by_cases q : o < N
      · by_cases hr : o ∈ ρ
        · obtain ⟨j, hj⟩ := List.getElem?_of_mem hr
          exact .inl ⟨j, (emb_lt hj).symm⟩
        · exact .inr ⟨q, hr⟩
      · exact .inl ⟨ρ.length + (o - N), by show o = emb ρ N _; rw [emb_ge (by omega)]; omega⟩
    let c1 : Cx := ⟨w', loc0, c0.hid⟩
    let c' : Cx := ⟨w', loc', c.hid⟩
    have hown' : ∀ b, c'.own b → c1.own b ∨ ∃ o base sz, o ∉ ρ ∧ c.loc o = .here b base sz := by
      rintro b ⟨o, base, sz, e⟩
      rcases hcase o with ⟨j, rfl⟩ | ⟨q1, q2⟩
      · exact .inl ⟨j, base, sz, by show loc0 j = _; rw [← hlocg j]; exact e⟩
      · exact .inr ⟨o, base, sz, q2, by rw [← hout o q1 q2]; exact e⟩
    have hownb : ∀ b, c1.own b → c'.own b := by
      rintro b ⟨j, base, sz, e⟩
      exact ⟨g j, base, sz, by show loc' (g j) = _; rw [hlocg]; exact e⟩
    have houtb : ∀ b, (∃ o base sz, o ∉ ρ ∧ c.loc o = .here b base sz) → c'.own b := by
      rintro b ⟨o, base, sz, q, e⟩
      have : o < N := hs.born (by rw [e]; simp)
      exact ⟨o, base, sz, by show loc' o = _; rw [hout o this q]; exact e⟩
    have hstay : ∀ b, (∃ o base sz, o ∉ ρ ∧ c.loc o = .here b base sz) → w'.heap[b]? = c.w.heap[b]? ∧ ¬ c1.own b := by
      intro b hb
      obtain ⟨o, base, sz, _, e⟩ := hb
      exact k2.frame b (hs.lt e) (hout0 b ⟨o, base, sz, by assumption, e⟩)
    have hE : Ext c c' := by
      refine ⟨rfl, k2.size, k2.cells, fun b hb ho => ?_, fun o => ?_, k2.io⟩
      · obtain ⟨h1, h2⟩ := k2.frame b hb fun q => ho (hown0 b q)
        refine ⟨h1, fun q => ?_⟩
        rcases hown' b q with q | ⟨o, base, sz, _, e⟩
        · exact h2 q
        · exact ho ⟨o, base, sz, e⟩
      · rcases hcase o with ⟨j, rfl⟩ | ⟨q1, q2⟩
        · show loc' (g j) = c.loc (g j) ∨ loc' (g j) = .dead ∨ _
          rw [hlocg]
          exact k2.loc j
        · exact .inl (hout o q1 q2)
    have him1 : c1.im.Le c'.im := by
      intro b hb
      refine ⟨⟨hb.1, fun q => ?_, fun q => hb.2.2 (.inl q)⟩, fun o => rfl⟩
      rcases hown' b q with q | q
      · exact hb.2.1 q
      · exact hb.2.2 (.inr q)
    have hS : SR c' (storeBack τ ρ σ0) := by
      have hmaplen : ρ.length ≤ (σ0.map (embO ρ N)).length := by simpa using hge
      refine ⟨fun o => ?_, ?_, hs.hid_ext hE, hE.glob hs.gl⟩
      · show ORo c' (loc' o) (storeBack τ ρ σ0)[o]?
        rcases hcase o with ⟨j, rfl⟩ | ⟨q1, q2⟩
        · rw [hlocg]
          have hget : (storeBack τ ρ σ0)[g j]? = (σ0[j]?).map (embO ρ N) := by
            unfold storeBack
            by_cases q : j < ρ.length
            · have hr := List.getElem?_eq_getElem q
              have hl : g j < τ.length := by show emb ρ N j < _; rw [emb_lt hr]; exact hlt _ (List.getElem_mem q)
              rw [List.getElem?_append_left (by rw [backInto_length]; exact hl)]
              have := backInto_in ρ (σ0.map (embO ρ N)) τ hn hlt hmaplen j _ hr
              show (backInto τ ρ (σ0.map (embO ρ N)))[emb ρ N j]? = _
              rw [emb_lt hr, this, List.getElem?_map]
            · have hg : g j = N + (j - ρ.length) := emb_ge (by omega)
              rw [hg, List.getElem?_append_right (by rw [backInto_length]; show τ.length ≤ N + _; exact Nat.le_add_right _ _), backInto_length, List.getElem?_map, List.getElem?_drop]
              congr 2
              show ρ.length + (τ.length + (j - ρ.length) - τ.length) = j
              omega
          rw [hget]
          have r := k1.obj j
          cases hx : σ0[j]? with
          | none => rw [hx] at r; exact r
          | some x =>
            rw [hx] at r
            exact OR_ren (c := c1) (c' := c') rfl him1 (fun o j' e => by simp at e; subst e; exact hlocg o) r
        · rw [hout o q1 q2]
          have hget : (storeBack τ ρ σ0)[o]? = τ[o]? := by
            unfold storeBack
            rw [List.getElem?_append_left (by rw [backInto_length]; exact q1), backInto_out _ _ _ _ q2]
          rw [hget]
          have r := hs.obj o
          cases hx : τ[o]? with
          | none => rw [hx] at r; exact r
          | some x =>
            rw [hx] at r
            exact OR.keep hE r fun b base sz e => (hstay b ⟨o, base, sz, q2, e⟩).1
      · intro o o' b base sz base' sz' e e'
        change loc' o = _ at e
        change loc' o' = _ at e'
        rcases hcase o with ⟨j, rfl⟩ | ⟨q1, q2⟩ <;> rcases hcase o' with ⟨j', rfl⟩ | ⟨q1', q2'⟩
        · rw [hlocg] at e e'
          rw [k1.inj e e']
        · rw [hlocg] at e
          rw [hout o' q1' q2'] at e'
          exact ((hstay b ⟨o', base', sz', q2', e'⟩).2 ⟨j, base, sz, e⟩).elim
        · rw [hlocg] at e'
          rw [hout o q1 q2] at e
          exact ((hstay b ⟨o, base, sz, q2, e⟩).2 ⟨j', base', sz', e'⟩).elim
        · rw [hout o q1 q2] at e
          rw [hout o' q1' q2'] at e'
          exact hs.inj e e'
    refine ⟨loc', storeBack τ ρ σ0, embV ρ N r0, hS, hE, ?_, r0, σ0, k4, rfl, rfl⟩
    have h1 : VR c'.im c'.w loc0 r0 v := VR_mono him1 (fun o => .inl rfl) (fun b cs e f h => ⟨cs, f, h, rfl⟩) r0 v k3
    exact VR_ren (fun o j e => by simp at e; subst e; exact hlocg o) r0 v h1

/-- A CALL'S CONTRACT OVER A SMALL STORE SERVES OVER EVERY STORE THAT HOLDS IT. -/
theorem callA_frame {P : Program} {f : FuncId} {args : List V} {σ : List Ob} {K : V → List Ob → Prop} (h : callA P f args σ K) (ρ : List Nat) (τ : List Ob) (hn : ρ.Nodup) (hlen : ρ.length = σ.length) (hlt : ∀ i ∈ ρ, i < τ.length)
    (hat : ∀ (j i : Nat), ρ[j]? = some i → τ[i]? = (σ[j]?).map (embO ρ τ.length)) :
    callA P f (embVs ρ τ.length args) τ (fun r τ' => ∃ r0 σ0, K r0 σ0 ∧ r = embV ρ τ.length r0 ∧ τ' = storeBack τ ρ σ0) := by
  refine ⟨h.1, fun c vals hs hv => ?_⟩
  let N := τ.length
  let g := emb ρ N
  let c0 : Cx := frameC c ρ N
  have hgout : ∀ o, ρ.length ≤ o → c.loc (g o) = .unborn := fun o ho => hs.unborn (by show τ.length ≤ emb ρ N o; rw [emb_ge ho]; omega)
  have hown0 : ∀ b, c0.own b → c.own b := by rintro b ⟨o, base, sz, e⟩; exact ⟨g o, base, sz, e⟩
  have hsplit : ∀ b, c.own b → c0.own b ∨ ∃ o base sz, o ∉ ρ ∧ c.loc o = .here b base sz := by
    rintro b ⟨o, base, sz, e⟩
    by_cases ho : o ∈ ρ
    · obtain ⟨j, hj⟩ := List.getElem?_of_mem ho
      exact .inl ⟨j, base, sz, by show c.loc (emb ρ N j) = _; rw [emb_lt hj]; exact e⟩
    · exact .inr ⟨o, base, sz, ho, e⟩
  have hout0 : ∀ b, (∃ o base sz, o ∉ ρ ∧ c.loc o = .here b base sz) → ¬ c0.own b := by
    rintro b ⟨o, base, sz, ho, e⟩ ⟨o', base', sz', e'⟩
    have := hs.inj e e'
    subst this
    by_cases q : o' < ρ.length
    · exact ho (by show emb ρ N o' ∈ ρ; rw [emb_lt (List.getElem?_eq_getElem q)]; exact List.getElem_mem q)
    · have := hgout o' (by omega)
      change c.loc (g o') = _ at e'
      rw [this] at e'; cases e'
  have him : c.im.Le c0.im := by
    intro b hb
    exact ⟨⟨hb.1, fun q => hb.2.1 (hown0 b q), fun q => q.elim hb.2.2 fun ⟨o, base, sz, _, e⟩ => hb.2.1 ⟨o, base, sz, e⟩⟩, fun o => rfl⟩
  have him' : c0.im.Le c.im := by
    intro b hb
    exact ⟨⟨hb.1, fun q => (hsplit b q).elim hb.2.1 fun q' => hb.2.2 (.inr q'), fun q => hb.2.2 (.inl q)⟩, fun o => rfl⟩
  have hS0 : SR c0 σ := by
    refine ⟨fun o => ?_, fun {o o' b base sz base' sz'} e e' => emb_inj hn hlt (hs.inj e e'), fun b hb => ?_, hs.gl.le him⟩
    · show ORo c0 (c.loc (g o)) σ[o]?
      by_cases ho : o < ρ.length
      · have hr := List.getElem?_eq_getElem ho
        have h1 := hat o _ hr
        have hx : σ[o]? = some (σ[o]'(by omega)) := List.getElem?_eq_getElem (by omega)
        rw [hx] at h1 ⊢
        have h2 := hs.get h1
        show OR c0 (c.loc (emb ρ N o)) _
        rw [emb_lt hr]
        exact OR_unren (c := c0) (c' := c) rfl him (g := g) (fun o => rfl) h2
      · rw [List.getElem?_eq_none (by omega)]
        exact hgout o (by omega)
    · rcases hb with hb | hb
      · obtain ⟨h1, h2⟩ := hs.hid b hb
        exact ⟨h1, fun q => h2 (hown0 b q)⟩
      · have hb' := hb
        obtain ⟨o, base, sz, _, e⟩ := hb
        exact ⟨hs.lt e, hout0 b hb'⟩
  have hv0 : c0.vrs args vals := by
    have h1 : VRs c.im c.w c0.loc args vals := VRs_unren (l := c0.loc) (l' := c.loc) (g := g) (fun o => rfl) args vals hv
    exact VRs_mono him (fun o => .inl rfl) (fun b cs e f h => ⟨cs, f, h, rfl⟩) args vals h1
  exact (h.2 c0 vals hS0 hv0).mono fun e w' hp => frame_post hs hn hlen hlt hS0 hp
end Go.Proofs.YteafabpedfgedaaGreatDoor.Am
end
/- The engine's functions and loops. -/
section
set_option linter.unusedSimpArgs false
set_option linter.unusedVariables false
namespace Go.Proofs.YteafabpedfgedaaGreatDoor.Am
open Go

/-! ### to say less of a state -/

/-- Whatever fits the first state fits the second one, under other names of the objects from n on. -/
def Weak (n : Nat) (s : List V) (σ : List Ob) (s' : List V) (σ' : List Ob) : Prop :=
  ∀ (c : Cx) (vs : List Value), SR c σ → c.vrs s vs → ∃ loc', SR ⟨c.w, loc', c.hid⟩ σ' ∧ Cx.vrs ⟨c.w, loc', c.hid⟩ s' vs ∧ ExtN n c ⟨c.w, loc', c.hid⟩

theorem Weak.refl (n : Nat) (s : List V) (σ : List Ob) : Weak n s σ s σ := fun c vs h1 h2 => ⟨c.loc, h1, h2, ExtN.refl n c⟩

theorem Weak.trans {n : Nat} {s s' s'' : List V} {σ σ' σ'' : List Ob} (h : Weak n s σ s' σ') (g : Weak n s' σ' s'' σ'') : Weak n s σ s'' σ'' := fun c vs h1 h2 => by
  obtain ⟨l', a1, a2, a3⟩ := h c vs h1 h2
  obtain ⟨l'', b1, b2, b3⟩ := g ⟨c.w, l', c.hid⟩ vs a1 a2
  exact ⟨l'', b1, b2, a3.trans b3⟩

theorem WP_weak {P : Program} {n : Nat} {code : Code} {s s' : List V} {σ σ' : List Ob} {K : Ex → List V → List Ob → Prop} (h : Weak n s σ s' σ') (g : WP P n code s' σ' K) : WP P n code s σ K := by
  intro c a hr
  obtain ⟨l', a1, a2, a3⟩ := h c a.tmps.toList hr.sr hr.sl
  exact wp_mono (g ⟨c.w, l', c.hid⟩ a ⟨a1, a2, hr.df⟩) fun e a' w' hp => Post.back a3 rfl hp

/-- One value says less than another. -/
def VLe (x y : V) : Prop := ∀ (I : Im) (w : World) (l : Nat → Loc) (v : Value), VR I w l x v → VR I w l y v

def VLes : List V → List V → Prop
  | [], ys => ys = []
  | x :: xs, ys => ∃ y r, ys = y :: r ∧ VLe x y ∧ VLes xs r

theorem VLe.refl (x : V) : VLe x x := fun _ _ _ _ h => h
theorem VLe.undef (x : V) : VLe x .undef := fun _ _ _ _ _ => by simp [VR]
theorem VLe.agg (ds : List D) : VLe (.agg (ds.map .d)) (.d (.agg ds)) := fun I w l v h => by
  simp only [VR, DR] at h ⊢
  obtain ⟨vs, h1, h2⟩ := h
  exact ⟨vs, h1, VRs_map_d.1 h2⟩
theorem VLe.agg' (ds : List D) : VLe (.d (.agg ds)) (.agg (ds.map .d)) := fun I w l v h => by
  simp only [VR, DR] at h ⊢
  obtain ⟨vs, h1, h2⟩ := h
  exact ⟨vs, h1, VRs_map_d.2 h2⟩
theorem VLe.nils (sz : Nat) : VLe (.d .nils) (.d (.lst sz [])) := fun I w l v h => by
  simp only [VR, DR] at h ⊢
  exact ⟨none, 0, by simpa using h, by simp, .inl (by trivial)⟩

theorem VLes.vrs {I : Im} {w : World} {l : Nat → Loc} : ∀ {xs ys : List V} {vs : List Value}, VLes xs ys → VRs I w l xs vs → VRs I w l ys vs
  | [], ys, vs, h, r => by simp only [VLes] at h; subst h; exact r
  | x :: xs, ys, vs, h, r => by
    simp only [VLes] at h
    obtain ⟨y, t, rfl, h1, h2⟩ := h
    simp only [VRs] at r ⊢
    obtain ⟨v, q, rfl, r1, r2⟩ := r
    exact ⟨v, q, rfl, h1 _ _ _ _ r1, VLes.vrs h2 r2⟩

theorem VLes.refl : ∀ xs : List V, VLes xs xs
  | [] => by simp [VLes]
  | x :: xs => by simp only [VLes]; exact ⟨x, xs, rfl, VLe.refl x, VLes.refl xs⟩

theorem Weak.slots {n : Nat} {s s' : List V} {σ : List Ob} (h : VLes s s') : Weak n s σ s' σ := fun c vs h1 h2 => ⟨c.loc, h1, h.vrs h2, ExtN.refl n c⟩

/-- The objects that are kept, in their new order. -/
def keepG (keep : List Nat) : Nat → Option Nat := fun o => keep.idxOf? o
def keepσ (keep : List Nat) (σ : List Ob) : List Ob := keep.map fun o => renO (keepG keep) (σ.getD o .dead)

theorem keepG_some {keep : List Nat} {o j : Nat} (h : keepG keep o = some j) : keep[j]? = some o := by
  unfold keepG at h
  rw [List.idxOf?_eq_some_iff] at h
  obtain ⟨hj, h1, _⟩ := h
  rw [List.getElem?_eq_getElem hj]
  congr 1

theorem keep_sr {n : Nat} {keep : List Nat} {σ : List Ob} (hn : keep.Nodup) (hlt : ∀ o ∈ keep, o < σ.length) (hfix : ∀ i, i < n → keep[i]? = some i) {c : Cx} (h : SR c σ) :
    let loc' : Nat → Loc := fun j => match keep[j]? with | some o => c.loc o | none => .unborn
    SR ⟨c.w, loc', c.hid⟩ (keepσ keep σ) ∧ ExtN n c ⟨c.w, loc', c.hid⟩ ∧ c.im.Le (Cx.im ⟨c.w, loc', c.hid⟩) ∧ ∀ o j, keepG keep o = some j → loc' j = c.loc o := by
  intro loc'
  have hsome : ∀ {j b base sz}, loc' j = .here b base sz → ∃ o, keep[j]? = some o ∧ c.loc o = .here b base sz := by
    intro j b base sz e
    simp only [loc'] at e
    cases hk : keep[j]? with
    | none => rw [hk] at e; cases e
    | some o => rw [hk] at e; exact ⟨o, rfl, e⟩
  have hown : ∀ b, Cx.own ⟨c.w, loc', c.hid⟩ b → c.own b := by
    rintro b ⟨j, base, sz, e⟩
    obtain ⟨o, _, e'⟩ := hsome e
    exact ⟨o, base, sz, e'⟩
  have him : c.im.Le (Cx.im ⟨c.w, loc', c.hid⟩) := fun b hb => ⟨⟨hb.1, fun q => hb.2.1 (hown b q), hb.2.2⟩, fun o => rfl⟩
  have hg : ∀ o j, keepG keep o = some j → loc' j = c.loc o := by
    intro o j e
    simp only [loc', keepG_some e]
  refine ⟨⟨fun j => ?_, ?_, fun b hb => ⟨(h.hid b hb).1, fun q => (h.hid b hb).2 (hown b q)⟩, h.gl.le him⟩, ?_, him, hg⟩
  · show ORo _ (loc' j) (keepσ keep σ)[j]?
    simp only [keepσ, List.getElem?_map, loc']
    cases hk : keep[j]? with
    | none => rfl
    | some o =>
      simp only [Option.map_some]
      have ho := hlt o (List.mem_of_getElem? hk)
      have : σ[o]? = some (σ.getD o .dead) := by rw [List.getD_eq_getElem?_getD, List.getElem?_eq_getElem ho]; rfl
      exact OR_ren (c := c) (c' := ⟨c.w, loc', c.hid⟩) rfl him hg (h.get this)
  · intro j j' b base sz base' sz' e e'
    obtain ⟨o, h1, h2⟩ := hsome e
    obtain ⟨o', h1', h2'⟩ := hsome e'
    have := h.inj h2 h2'
    subst this
    obtain ⟨k1, k2⟩ := List.getElem?_eq_some_iff.1 h1
    obtain ⟨k1', k2'⟩ := List.getElem?_eq_some_iff.1 h1'
    exact (List.getElem_inj hn).1 (k2.trans k2'.symm)
  · refine ⟨rfl, Nat.le_refl _, fun _ cs _ f hb => ⟨cs, f, hb, rfl⟩, fun b hb ho => ⟨rfl, fun q => ho (hown b q)⟩, fun o ho => ?_, rfl, rfl, rfl⟩
    left
    show loc' o = c.loc o
    simp only [loc', hfix o ho]

theorem Weak.keep {n : Nat} {s : List V} {σ : List Ob} (keep : List Nat) (hn : keep.Nodup) (hlt : ∀ o ∈ keep, o < σ.length) (hfix : ∀ i, i < n → keep[i]? = some i) : Weak n s σ (renVs (keepG keep) s) (keepσ keep σ) := fun c vs h1 h2 => by
  obtain ⟨k1, k2, k3, k4⟩ := keep_sr hn hlt hfix h1
  refine ⟨_, k1, ?_, k2⟩
  have : VRs (Cx.im ⟨c.w, _, c.hid⟩) c.w c.loc s vs := VRs_mono k3 (fun o => .inl rfl) (fun b cs e f h => ⟨cs, f, h, rfl⟩) s vs h2
  exact VRs_ren k4 s vs this

/-- A nil slice becomes an object of its own. -/
theorem Weak.nil {n : Nat} {s : List V} {σ : List Ob} (i sz : Nat) (hi : s[i]? = some (.d .nils)) (hn : n ≤ σ.length) : Weak n s σ (s.set i (.sl σ.length 0 0)) (σ ++ [.arr sz false []]) := fun c vs h1 h2 => by
  obtain ⟨k1, k2, k3⟩ := new_nil h1 sz false
  refine ⟨_, k1, ?_, k2.toN n⟩
  obtain ⟨v, q1, q2⟩ := VRs_get h2 i hi
  simp only [VR, DR] at q2; subst q2
  have := vrs_set (k2.vrs h2) i k3
  have e : vs.set i (.slice none 0 0) = vs := by
    apply List.ext_getElem?
    intro j
    rw [List.getElem?_set]
    split
    · rename_i e; subst e
      rw [q1]
      have := (List.getElem?_eq_some_iff.1 q1).1
      simp [this]
    · rfl
  rw [e] at this
  exact this

/-! ### freezing: an owned slice becomes data -/
mutual
def frzV (o sz : Nat) (es : List D) : V → V
  | .ptr o' i k => if o' = o then .undef else .ptr o' i k
  | .sl o' off len => if o' = o then (if off + len ≤ es.length then .d (.lst sz ((es.drop off).take len)) else .undef) else .sl o' off len
  | .mp o' => if o' = o then .undef else .mp o'
  | .fn f caps => .fn f (frzVs o sz es caps)
  | .bm f caps => .bm f (frzVs o sz es caps)
  | .agg cs => .agg (frzVs o sz es cs)
  | .tup cs => .tup (frzVs o sz es cs)
  | x => x
def frzVs (o sz : Nat) (es : List D) : List V → List V
  | [] => []
  | x :: r => frzV o sz es x :: frzVs o sz es r
end

def frzO (o sz : Nat) (es : List D) : Ob → Ob
  | .box cs => .box (frzVs o sz es cs)
  | .vec s' cs => .vec s' (frzVs o sz es cs)
  | .map m clk => .map (m.map fun e => (e.1, frzV o sz es e.2.1, e.2.2)) clk
  | .mit m since seen last => .mit (frzV o sz es m) since seen last
  | x => x

def frzσ (o sz : Nat) (es : List D) (σ : List Ob) : List Ob := (σ.set o .dead).map (frzO o sz es)

@[simp] theorem frzVs_length (o sz : Nat) (es : List D) : ∀ xs : List V, (frzVs o sz es xs).length = xs.length
  | [] => rfl
  | x :: r => by simp [frzVs, frzVs_length o sz es r]

section
variable {c : Cx} {σ : List Ob} {o sz : Nat} {mk : Bool} {es : List D}

theorem frz_sl (h : SR c σ) (hx : σ[o]? = some (.arr sz mk es)) {off len : Nat} (hl : off + len ≤ es.length) {v : Value} (r : c.vr (.sl o off len) v) :
    DR (Cx.im ⟨c.w, upd c.loc o .dead, c.hid⟩) (.lst sz ((es.drop off).take len)) v := by
  have hE := Ext.kill c o
  have hlen : ((es.drop off).take len).length = len := by rw [List.length_take, List.length_drop]; omega
  simp only [DR, hlen]
  rcases vr_sl h hx r with ⟨hl', rfl, rfl, rfl, rfl⟩ | ⟨b, base, a, cap, arr, ty, f, hl', rfl, g1, g2, g3, g4, g5, g6, g7, g8⟩
  · exact ⟨none, 0, rfl, by simp, .inl (by simp)⟩
  · refine ⟨_, cap, rfl, g1, ?_⟩
    by_cases hz : len = 0
    · exact .inl (by simp [hz])
    · refine .inr ⟨b, a, rfl, g3, ⟨(Array.getElem?_eq_some_iff.1 g4).1, ?_, fun q => (h.hid b q).2 ⟨o, base, sz, hl'⟩⟩, ?_⟩
      · rintro ⟨o', ba, s, e⟩
        dsimp only at e
        by_cases g : o' = o
        · subst g; simp at e
        · rw [upd_other _ _ g] at e
          exact g (h.inj e hl')
      · rw [g2 (by omega)]
        exact RowsR_mono hE.im _ b _ sz (fun _ => rfl) (RowsR_take (RowsR_drop g8 off) len)

mutual
theorem frzV_sound (h : SR c σ) (hx : σ[o]? = some (.arr sz mk es)) : ∀ (x : V) (v : Value), c.vr x v → Cx.vr ⟨c.w, upd c.loc o .dead, c.hid⟩ (frzV o sz es x) v
  | .d x, v, r => by simp only [frzV]; exact (Ext.kill c o).vr r
  | .ptr o' i k, v, r => by
    simp only [frzV]
    split
    · simp [Cx.vr, VR]
    · exact (Ext.kill c o).vr r
  | .ipt cs, v, r => by simp only [frzV]; exact (Ext.kill c o).vr r
  | .sl o' off len, v, r => by
    simp only [frzV]
    split
    · rename_i e; subst e
      split
      · rename_i hl
        simp only [Cx.vr, VR]
        exact frz_sl h hx hl r
      · simp [Cx.vr, VR]
    · exact (Ext.kill c o).vr r
  | .mp o', v, r => by
    simp only [frzV]
    split
    · simp [Cx.vr, VR]
    · exact (Ext.kill c o).vr r
  | .fn f caps, v, r => by
    simp only [Cx.vr, frzV, VR] at r ⊢
    obtain ⟨vs, h1, h2⟩ := r
    exact ⟨vs, h1, frzVs_sound h hx caps vs h2⟩
  | .bm f caps, v, r => by
    simp only [Cx.vr, frzV, VR] at r ⊢
    obtain ⟨vs, h1, h2⟩ := r
    exact ⟨vs, h1, frzVs_sound h hx caps vs h2⟩
  | .agg cs, v, r => by
    simp only [Cx.vr, frzV, VR] at r ⊢
    obtain ⟨vs, h1, h2⟩ := r
    exact ⟨vs, h1, frzVs_sound h hx cs vs h2⟩
  | .tup cs, v, r => by
    simp only [Cx.vr, frzV, VR] at r ⊢
    obtain ⟨vs, h1, h2⟩ := r
    exact ⟨vs, h1, frzVs_sound h hx cs vs h2⟩
  | .undef, _, _ => by simp [Cx.vr, frzV, VR]
theorem frzVs_sound (h : SR c σ) (hx : σ[o]? = some (.arr sz mk es)) : ∀ (xs : List V) (vs : List Value), c.vrs xs vs → Cx.vrs ⟨c.w, upd c.loc o .dead, c.hid⟩ (frzVs o sz es xs) vs
  | [], vs, r => by simpa [Cx.vrs, frzVs, VRs] using r
  | x :: xs, vs, r => by
    simp only [Cx.vrs, frzVs, VRs] at r ⊢
    obtain ⟨v, t, h1, h2, h3⟩ := r
    exact ⟨v, t, h1, frzV_sound h hx x v h2, frzVs_sound h hx xs t h3⟩
end

theorem frzσ_sound (h : SR c σ) (hx : σ[o]? = some (.arr sz mk es)) : SR ⟨c.w, upd c.loc o .dead, c.hid⟩ (frzσ o sz es σ) := by
  have hlt := (List.getElem?_eq_some_iff.1 hx).1
  have hS := SR.kill h hlt
  refine ⟨fun o' => ?_, hS.inj, hS.hid, hS.gl⟩
  have r := hS.obj o'
  simp only [frzσ, List.getElem?_map]
  cases hx' : (σ.set o .dead)[o']? with
  | none => rw [hx'] at r; exact r
  | some y =>
    rw [hx'] at r
    simp only [Option.map_some]
    cases y with
    | box cs =>
      by_cases g : o' = o
      · subst g; rw [List.getElem?_set_self hlt] at hx'; cases hx'
      · rw [List.getElem?_set_ne (fun e => g e.symm)] at hx'
        obtain ⟨b, bs, h0, arr, e, f, h1, h2, us, rest, hu, h3⟩ := h.get hx'
        refine ⟨b, bs, ?_, arr, e, f, h1, h2, us, rest, hu, frzVs_sound h hx cs _ h3⟩
        show upd c.loc o .dead o' = _
        rw [upd_other _ _ g, h0]
    | vec s' cs =>
      by_cases g : o' = o
      · subst g; rw [List.getElem?_set_self hlt] at hx'; cases hx'
      · rw [List.getElem?_set_ne (fun e => g e.symm)] at hx'
        obtain ⟨b, bs, h0, h0', arr, e, f, h1, h2, us, hle, hat, h3⟩ := h.get hx'
        refine ⟨b, bs, ?_, h0', arr, e, f, h1, h2, us, hle, hat, frzVs_sound h hx cs _ h3⟩
        show upd c.loc o .dead o' = _
        rw [upd_other _ _ g, h0]
    | map m clk =>
      by_cases g : o' = o
      · subst g; rw [List.getElem?_set_self hlt] at hx'; cases hx'
      · rw [List.getElem?_set_ne (fun e => g e.symm)] at hx'
        obtain ⟨b, h0, ents, h1, h2, h3, h4⟩ := h.get hx'
        refine ⟨b, ?_, ents, h1, ?_, by simpa [List.map_map, Function.comp_def] using h3, fun e he => ?_⟩
        · show upd c.loc o .dead o' = _
          rw [upd_other _ _ g, h0]
        · exact MapR.ren (Ext.kill c o).im (fun x v q => frzV_sound h hx x v q) h2
        · obtain ⟨e', he', rfl⟩ := List.mem_map.1 he
          exact h4 e' he'
    | mit m since seen last =>
      by_cases g : o' = o
      · subst g; rw [List.getElem?_set_self hlt] at hx'; cases hx'
      · rw [List.getElem?_set_ne (fun e => g e.symm)] at hx'
        obtain ⟨b, h0, q, h1, h2⟩ := h.get hx'
        refine ⟨b, ?_, q, h1, frzV_sound h hx m _ h2⟩
        show upd c.loc o .dead o' = _
        rw [upd_other _ _ g, h0]
    | _ => exact r
end

theorem Weak.freeze {n : Nat} {s : List V} {σ : List Ob} {o sz : Nat} {mk : Bool} {es : List D} (hx : σ[o]? = some (.arr sz mk es)) : Weak n s σ (frzVs o sz es s) (frzσ o sz es σ) :=
  fun c vs h1 h2 => ⟨_, frzσ_sound h1 hx, frzVs_sound h1 hx s vs h2, (Ext.kill c o).toN n⟩

/-! ### functions -/
def resOne (P : Program) (s : List V) (σ : List Ob) : ResultVar → Option V
  | .tmp t => some (s.getD t .undef)
  | .cell a t => loadF P t σ (s.getD a .undef)

def resAll (P : Program) (s : List V) (σ : List Ob) : List ResultVar → Option (List V)
  | [] => some []
  | r :: rs => match resOne P s σ r, resAll P s σ rs with | some x, some xs => some (x :: xs) | _, _ => none

def resF (P : Program) (s : List V) (σ : List Ob) (rs : List ResultVar) : Option V :=
  match resAll P s σ rs with
  | some [x] => some x
  | some xs => some (.tup xs)
  | none => none

theorem resOne_sound {P : Program} {c : Cx} {s : List V} {σ : List Ob} {a : Act} (hr : Rel P c s σ a) {r : ResultVar} {x : V} (e : resOne P s σ r = some x) :
    ∃ v, (match r with | .tmp t => pure (a.tmps.getD t undef) | .cell ad t => do loadVar t (← asAddr (a.tmps.getD ad undef)) : Sem Value).run P c.w = .ok v c.w ∧ c.vr x v := by
  cases r with
  | tmp t =>
    simp only [resOne, Option.some.injEq] at e; subst e
    exact ⟨_, rfl, vr_get hr.sr.gl hr.sl (.tmp t)⟩
  | cell ad t =>
    simp only [resOne] at e
    have hv := vr_get hr.sr.gl hr.sl (.tmp ad)
    obtain ⟨v, h1, h2⟩ := loadF_sound hr.sr e hv
    refine ⟨v, ?_, h2⟩
    show ((do loadVar t (← asAddr (a.eval (.tmp ad)))) : Sem Value).run P c.w = _
    have key : ∀ u : Value, (∃ p, u = .pointer (some p)) → (Instr.loadAt t u).run P c.w = .ok v c.w → (do loadVar t (← asAddr u) : Sem Value).run P c.w = .ok v c.w := by
      rintro u ⟨p, rfl⟩ h
      simpa [Instr.loadAt, Instr.sureAddr, asAddr] using h
    refine key _ ?_ h1
    have e' : loadF P t σ (get s (.tmp ad)) = some x := e
    unfold loadF at e'
    split at e'
    · rename_i o i k hg
      rw [hg] at hv
      have hal : alive σ o = true := by
        unfold alive
        split at e'
        · rename_i q; rw [q]
        · rename_i q; rw [q]
        · rename_i q; rw [q]
        · cases e'
      obtain ⟨b, base, sz, _, hp⟩ := vr_ptr hr.sr hal hv
      exact ⟨_, hp⟩
    · rename_i cs hg
      rw [hg] at hv
      simp only [Cx.vr, VR] at hv
      obtain ⟨b, off, vs, hp, _⟩ := hv
      exact ⟨_, hp⟩
    · cases e'

theorem resAll_sound {P : Program} {c : Cx} {s : List V} {σ : List Ob} {a : Act} (hr : Rel P c s σ a) : ∀ (rs : List ResultVar) {xs : List V}, resAll P s σ rs = some xs → ∀ acc : List Value,
    ∃ vs, (rs.foldlM (fun (bs : Array Value) (r : ResultVar) => Functor.map bs.push (match r with | .tmp t => pure (a.tmps.getD t undef) | .cell ad t => do loadVar t (← asAddr (a.tmps.getD ad undef)) : Sem Value)) acc.toArray).run P c.w = .ok (acc ++ vs).toArray c.w ∧ c.vrs xs vs
  | [], xs, e, acc => by simp [resAll] at e; subst e; exact ⟨[], by simp, by simp [Cx.vrs, VRs]⟩
  | r :: rs, xs, e, acc => by
    simp only [resAll] at e
    split at e
    · rename_i x ys h1 h2
      simp only [Option.some.injEq] at e; subst e
      obtain ⟨v, g1, g2⟩ := resOne_sound hr h1
      obtain ⟨vs, k1, k2⟩ := resAll_sound hr rs h2 (acc ++ [v])
      refine ⟨v :: vs, ?_, by simp only [Cx.vrs, VRs]; exact ⟨v, vs, rfl, g2, k2⟩⟩
      rw [List.foldlM_cons]
      simp only [Sem.run_bind, Sem.run_map, g1, Result.andThen_ok, Sem.run_pure]
      simpa using k1
    · cases e

theorem resF_sound {P : Program} {c : Cx} {s : List V} {σ : List Ob} {a : Act} (hr : Rel P c s σ a) {fn : Func} {x : V} (e : resF P s σ fn.results.toList = some x) : ∃ v, (results fn a.tmps).run P c.w = .ok v c.w ∧ c.vr x v := by
  unfold resF at e
  have run : ∀ xs, resAll P s σ fn.results.toList = some xs → ∃ vs : List Value, (results fn a.tmps).run P c.w = .ok (if h : vs.toArray.size = 1 then vs.toArray[0] else .tuple vs.toArray) c.w ∧ c.vrs xs vs := by
    intro xs hx
    obtain ⟨vs, h1, h2⟩ := resAll_sound hr fn.results.toList hx []
    refine ⟨vs, ?_, h2⟩
    unfold results
    rw [Sem.run_bind, Array.mapM_eq_foldlM, ← Array.foldlM_toList]
    have h1' := h1
    simp only [List.nil_append] at h1'
    erw [h1']
    rfl
  split at e
  · rename_i y hy
    simp only [Option.some.injEq] at e; subst e
    obtain ⟨vs, h1, h2⟩ := run _ hy
    simp only [Cx.vrs, VRs] at h2
    obtain ⟨v, r, rfl, h3, rfl⟩ := h2
    exact ⟨v, by simpa using h1, h3⟩
  · rename_i xs hne hxs
    simp only [Option.some.injEq] at e; subst e
    obtain ⟨vs, h1, h2⟩ := run _ hxs
    have hl := VRs_length h2
    have h1' : vs.length ≠ 1 := by
      intro q
      rw [hl] at q
      match xs, q with
      | [y], _ => exact hne y rfl
    refine ⟨.tuple vs.toArray, ?_, by simp only [Cx.vr, VR]; exact ⟨vs, rfl, h2⟩⟩
    rw [h1]
    simp [h1']
  · cases e

/-- What a function hands back may be said in other words. -/
def Fin (n : Nat) (r : V) (σ : List Ob) (r' : V) (σ' : List Ob) : Prop := Weak n [r] σ [r'] σ'

theorem Fin.refl (n : Nat) (r : V) (σ : List Ob) : Fin n r σ r σ := Weak.refl n [r] σ
theorem Fin.keep {n : Nat} {r : V} {σ : List Ob} (keep : List Nat) (hn : keep.Nodup) (hlt : ∀ o ∈ keep, o < σ.length) (hfix : ∀ i, i < n → keep[i]? = some i) : Fin n r σ (renV (keepG keep) r) (keepσ keep σ) := by
  have := Weak.keep (n := n) (s := [r]) (σ := σ) keep hn hlt hfix
  simpa [renVs, Fin] using this
theorem Fin.trans {n : Nat} {r r' r'' : V} {σ σ' σ'' : List Ob} (h : Fin n r σ r' σ') (g : Fin n r' σ' r'' σ'') : Fin n r σ r'' σ'' := Weak.trans h g
theorem Fin.freeze {n : Nat} {r : V} {σ : List Ob} {o sz : Nat} {mk : Bool} {es : List D} (hx : σ[o]? = some (.arr sz mk es)) : Fin n r σ (frzV o sz es r) (frzσ o sz es σ) := by
  have := Weak.freeze (n := n) (s := [r]) hx
  simpa [frzVs, Fin] using this
theorem Fin.le {n : Nat} {r r' : V} {σ : List Ob} (h : VLe r r') : Fin n r σ r' σ := Weak.slots (by simp only [VLes]; exact ⟨r', [], rfl, h, rfl⟩)

/-- The end of a function. -/
def EndK (P : Program) (n : Nat) (rs : List ResultVar) (K : V → List Ob → Prop) : Ex → List V → List Ob → Prop
  | .exit _, _, _ => False
  | _, s, σ => ∃ r, resF P s σ rs = some r ∧ ∃ r' σ', Fin n r σ r' σ' ∧ K r' σ'

theorem callA_intro {P : Program} {f : FuncId} {fn : Func} {code : Code} (hf : P.funcs[f]? = some fn) (hname : (fn.name == "runtime.NumGoroutine") = false) (hb : fn.body = some code) {args : List V} {σ : List Ob} {K : V → List Ob → Prop}
    (h : WP P σ.length code (args ++ List.replicate (fn.ntmps - args.length) .undef) σ (EndK P σ.length fn.results.toList K)) : callA P f args σ K := by
  refine ⟨⟨fn, hf, hname, by rw [hb]; rfl⟩, fun c vals hs hv => ?_⟩
  have hl := VRs_length hv
  let c0 : Cx := ⟨c.w, c.loc, ⟨c.hid.blk, []⟩⟩
  have hs0 : SR c0 σ := SR.re (h := c.hid) (h' := c0.hid) rfl hs
  refine calls_of_wp_defers hf hb (wp_mono (h c0 { tmps := vals.toArray ++ Array.replicate (fn.ntmps - vals.toArray.size) undef, defers := [] } ⟨hs0, ?_, DfOk.refl P []⟩) fun e a' w' hp => ?_)
  · simp only [Array.toList_append, Array.toList_replicate, List.size_toArray]
    rw [hl]
    refine VRs_of_get (by simp [hl]) fun i x v e f' => ?_
    rw [List.getElem?_append] at e f'
    split at e
    · rename_i hi
      rw [if_pos (by omega)] at f'
      obtain ⟨u, q1, q2⟩ := VRs_get hv i e
      have : vals[i]? = some v := by simpa using f'
      rw [q1] at this; simp at this; subst this; exact q2
    · rw [List.getElem?_replicate] at e
      split at e
      · simp at e; subst e; simp [VR]
      · cases e
  · rcases hp with hp | ⟨x, loc', s', σ', h1, h2, h3, h4⟩
    · exact hp.elim
    · cases x with
      | exit id => exact h4.elim
      | normal =>
        obtain ⟨r, h5, r', σ'', h6, h7⟩ := h4
        cases e <;> simp only [exOf] at h1 <;> (try (cases h1; done))
        refine leaves_quiet _ ⟨w', loc', c0.hid⟩ σ' h2.sr (fun w'' hS2 hE2 => ?_) h2.df.quiet
        obtain ⟨v, g1, g2⟩ := resF_sound (h2.ext hE2 hS2) h5
        obtain ⟨l'', k1, k2, k3⟩ := h6 ⟨w'', loc', c0.hid⟩ [v] hS2 (by simp only [Cx.vrs, VRs]; exact ⟨v, [], rfl, g2, rfl⟩)
        have hE := ((h3.trans (hE2.toN _)).trans k3).toExt hs0 (Nat.le_refl _)
        simp only [Cx.vrs, VRs] at k2
        obtain ⟨v', t, e1, k2, e2⟩ := k2
        simp only [List.cons.injEq] at e1
        obtain ⟨rfl, rfl⟩ := e1
        have hR : CallPost c K (.returned v) w'' := ⟨l'', σ'', r', SR.re (h := c0.hid) (h' := c.hid) rfl k1, Ext.re (h := c0.hid) (h' := c.hid) rfl hE, k2, h7⟩
        exact ⟨v, g1, hR⟩
      | ret =>
        obtain ⟨r, h5, r', σ'', h6, h7⟩ := h4
        cases e <;> simp only [exOf] at h1 <;> (try (cases h1; done))
        refine leaves_quiet _ ⟨w', loc', c0.hid⟩ σ' h2.sr (fun w'' hS2 hE2 => ?_) h2.df.quiet
        obtain ⟨v, g1, g2⟩ := resF_sound (h2.ext hE2 hS2) h5
        obtain ⟨l'', k1, k2, k3⟩ := h6 ⟨w'', loc', c0.hid⟩ [v] hS2 (by simp only [Cx.vrs, VRs]; exact ⟨v, [], rfl, g2, rfl⟩)
        have hE := ((h3.trans (hE2.toN _)).trans k3).toExt hs0 (Nat.le_refl _)
        simp only [Cx.vrs, VRs] at k2
        obtain ⟨v', t, e1, k2, e2⟩ := k2
        simp only [List.cons.injEq] at e1
        obtain ⟨rfl, rfl⟩ := e1
        have hR : CallPost c K (.returned v) w'' := ⟨l'', σ'', r', SR.re (h := c0.hid) (h' := c.hid) rfl k1, Ext.re (h := c0.hid) (h' := c.hid) rfl hE, k2, h7⟩
        exact ⟨v, g1, hR⟩

/-! ### loops -/

/-- A loop by its states: from each, one round comes to a later one, or leaves. -/
theorem WP_loop {P : Program} {n : Nat} {body : Code} {α : Type} (S : α → List V) (T : α → List Ob) (I : α → Prop) (μ : α → Nat) {K : Ex → List V → List Ob → Prop}
    (round : ∀ x, I x → WP P n body (S x) (T x) (seqK (fun s' σ' => ∃ y, I y ∧ μ y < μ x ∧ Weak n s' σ' (S y) (T y)) K)) (x : α) (hx : I x) : WP P n (.loop body) (S x) (T x) K := by
  have key : ∀ m x, μ x = m → I x → ∀ (c : Cx) (a : Act), Rel P c (S x) (T x) a → ∀ (b : Frame) (k : List Item) (cs : List Frame),
      ∃ e a' w', Post P n c K e a' w' ∧ Arrives P (lone (b.at a (.code body :: .inLoop body :: k)) cs c.w) b k cs e a' w' := by
    intro m
    induction m using Nat.strongRecOn with
    | _ m ih =>
      intro x hm hI c a hr b k cs
      obtain ⟨e, a₁, w₁, hq, harr⟩ := round x hI c a hr b (.inLoop body :: k) cs
      rcases hq with hq | ⟨ex, loc', s', σ', h1, h2, h3, h4⟩
      · exact hq.elim
      · cases e <;> simp only [exOf] at h1 <;> (try (cases h1; done)) <;> simp only [Option.some.injEq] at h1 <;> subst h1
        · obtain ⟨y, hIy, hlt, hw⟩ := h4
          obtain ⟨l', k1, k2, k3⟩ := hw ⟨w₁, loc', c.hid⟩ a₁.tmps.toList h2.sr h2.sl
          obtain ⟨e₂, a₂, w₂, hq₂, harr₂⟩ := ih (μ y) (hm ▸ hlt) y rfl hIy ⟨w₁, l', c.hid⟩ a₁ ⟨k1, k2, h2.df⟩ b k cs
          exact ⟨e₂, a₂, w₂, Post.back (h3.trans k3) rfl hq₂, .of_steps (Steps.trans harr (.one step_inLoop)) harr₂⟩
        · exact ⟨_, a₁, w₁, .inr ⟨_, loc', s', σ', rfl, h2, h3, h4⟩, .pass (x := .inLoop body) rfl (fun _ _ => .inl (by simp)) harr⟩
        · exact ⟨_, a₁, w₁, .inr ⟨_, loc', s', σ', rfl, h2, h3, h4⟩, .pass (x := .inLoop body) rfl (fun _ _ => .inl (by simp)) harr⟩
  intro c a hr b k cs
  obtain ⟨e, a', w', hq, harr⟩ := key _ x rfl hx c a hr b k cs
  exact ⟨e, a', w', hq, .of_steps (.one step_loop) harr⟩
end Go.Proofs.YteafabpedfgedaaGreatDoor.Am
end
