/- The engine's calls, regions and code. -/
import Derived.Test.YtchgfpehcjomeaaGreatDoorAmJ
import Derived.Recover
import Derived.Maps.RangeRun
set_option linter.unusedSimpArgs false
set_option linter.unusedVariables false
namespace Go.Proofs.YtchgfpehcjomeaaGreatDoor.Am
open Go

/-- Every quiet operation, struct literals among them. -/
def quietG (P : Program) (s : List V) (σ : List Ob) : Op → Option V
  | .build t parts => buildF P t σ s parts.toList
  | op => quietF P s σ op

theorem quietG_sound {P : Program} {o : Oper} {a : Act} {c : Cx} {s : List V} {σ : List Ob} (h : SR c σ) (hs : c.vrs s a.tmps.toList) {r : V} (e : quietG P s σ o.op = some r) :
    ∃ v, (execOp a.eval o).run P c.w = .ok (.value v) c.w ∧ c.vr r v := by
  unfold quietG at e
  split at e
  · rename_i t parts hop
    obtain ⟨v, h1, h2⟩ := buildF_sound h hs e
    exact ⟨v, by simp only [execOp, hop]; exact run_value h1, h2⟩
  · exact quiet_sound h hs e

/-! ### calls -/
def callable (P : Program) (f : FuncId) : Prop := ∃ fn, P.funcs[f]? = some fn ∧ (fn.name == "runtime.NumGoroutine") = false ∧ fn.body.isSome = true

/-- What a call leaves. -/
def CallPost (c : Cx) (K : V → List Ob → Prop) (e : Ending) (w' : World) : Prop :=
  match e with
  | .outgrown => False
  | .panicked _ => False
  | .returned v => ∃ loc' σ' r, SR ⟨w', loc', c.hid⟩ σ' ∧ Ext c ⟨w', loc', c.hid⟩ ∧ Cx.vr ⟨w', loc', c.hid⟩ r v ∧ K r σ'

/-- THE CONTRACT OF A CALL: from every world that fits, it returns, and what it leaves meets K. -/
def callA (P : Program) (f : FuncId) (args : List V) (σ : List Ob) (K : V → List Ob → Prop) : Prop :=
  callable P f ∧ ∀ (c : Cx) (vals : List Value), SR c σ → c.vrs args vals → Calls P f vals.toArray c.w (CallPost c K)

theorem callA_mono {P : Program} {f : FuncId} {args : List V} {σ : List Ob} {K K' : V → List Ob → Prop} (h : callA P f args σ K) (hk : ∀ r σ', K r σ' → K' r σ') : callA P f args σ K' :=
  ⟨h.1, fun c vals hs hv => (h.2 c vals hs hv).mono fun e w' hp => by
    cases e with
    | outgrown => exact hp
    | panicked _ => exact hp
    | returned v =>
      obtain ⟨loc', σ', r, h1, h2, h3, h4⟩ := hp
      exact ⟨loc', σ', r, h1, h2, h3, hk _ _ h4⟩⟩

/-! ### one operation -/
theorem vr_sl_nil {c : Cx} {σ : List Ob} (h : SR c σ) {o off len : Nat} {v : Value} (ha : alive σ o = true) (r : c.vr (.sl o off len) v) : ∃ (ad : Option Addr) (cap : Nat), v = .slice ad len cap ∧ (ad.isNone = true → len = 0) := by
  have hd := h.at_alive ha
  simp only [Cx.vr, VR] at r
  cases e : c.loc o with
  | unborn => exact (hd.2 e).elim
  | dead => exact (hd.1 e).elim
  | nil => rw [e] at r; obtain ⟨rfl, _, rfl⟩ := r; exact ⟨_, _, rfl, fun _ => rfl⟩
  | here b base sz => rw [e] at r; obtain ⟨a, cap, rfl, _⟩ := r; exact ⟨_, _, rfl, fun q => by cases q⟩

def isConstB : Operand → Bool
  | .const _ => true
  | _ => false
def isIfaceT (P : Program) (t : TypeId) : Bool := match P.underlying t with | some (.interface _) => true | _ => false
theorem isIfaceT_some {P : Program} {t : TypeId} (h : isIfaceT P t = true) : ∃ ms, P.underlying t = some (.interface ms) := by
  unfold isIfaceT at h
  split at h
  · exact ⟨_, by assumption⟩
  · cases h
theorem equal_nilI {P : Program} {w : World} {t : TypeId} (h : isIfaceT P t = true) : (Op.equal t .nilIface .nilIface).run P w = .ok true w := by
  obtain ⟨ms, hu⟩ := isIfaceT_some h
  have key : ∀ d, (Op.equalIn (d + 1) t .nilIface .nilIface).run P w = .ok true w := by
    intro d
    simp [Op.equalIn, run_underlying hu]
  exact key 9999

/-- A slice against nil, where nil or not cannot be told. -/
def nilA (P : Program) (s : List V) (σ : List Ob) (op : Op) (K : V → List Ob → Prop) : Prop :=
  match op with
  | .binOp .eql t x y _ => match get s x, get s y with
    | .d (.lst _ es), .d .nils => isSliceT P t = true ∧ ∀ b : Bool, (b = true → es = []) → K (.d (.bool b)) σ
    | .sl o _ len, .d .nils => isSliceT P t = true ∧ alive σ o = true ∧ ∀ b : Bool, (b = true → len = 0) → K (.d (.bool b)) σ
    | .d .nili, .d .nili => isIfaceT P t = true ∧ isConstB y = true ∧ K (.d (.bool true)) σ
    | _, _ => False
  | .binOp .neq t x y _ => match get s x, get s y with
    | .d (.lst _ es), .d .nils => isSliceT P t = true ∧ ∀ b : Bool, (b = true → es = []) → K (.d (.bool (!b))) σ
    | .sl o _ len, .d .nils => isSliceT P t = true ∧ alive σ o = true ∧ ∀ b : Bool, (b = true → len = 0) → K (.d (.bool (!b))) σ
    | .d .nili, .d .nili => isIfaceT P t = true ∧ isConstB y = true ∧ K (.d (.bool false)) σ
    | _, _ => False
  | .next x false => match get s x with
    | .ptr i 0 0 => match σ[i]? with
      | some (.mit (.d .nilm) _ _ _) => K (.tup [.d (.bool false)]) σ
      | some (.mit (.mp o) since seen last) => match σ[o]? with
        | some (.map es clk) => (∀ e ∈ es, e.2.2 < since) ∧ since ≤ last ∧ ((∀ e ∈ es, e.2.2 ∈ seen) → K (.tup [.d (.bool false)]) σ) ∧
            ∀ e ∈ es, e.2.2 ∉ seen → K (.tup [.d (.bool true), .d e.1, e.2.1]) (σ.set i (.mit (.mp o) since (seen ++ [e.2.2]) clk))
        | _ => False
      | _ => False
    | _ => False
  | _ => False

theorem nilA_mono {P : Program} {s : List V} {σ : List Ob} {op : Op} {K K' : V → List Ob → Prop} (hk : ∀ r σ', K r σ' → K' r σ') (h : nilA P s σ op K) : nilA P s σ op K' := by
  unfold nilA at h ⊢
  split at h
  · split at h
    · exact ⟨h.1, fun b q => hk _ _ (h.2 b q)⟩
    · exact ⟨h.1, h.2.1, fun b q => hk _ _ (h.2.2 b q)⟩
    · exact ⟨h.1, h.2.1, hk _ _ h.2.2⟩
    · exact h.elim
  · split at h
    · exact ⟨h.1, fun b q => hk _ _ (h.2 b q)⟩
    · exact ⟨h.1, h.2.1, fun b q => hk _ _ (h.2.2 b q)⟩
    · exact ⟨h.1, h.2.1, hk _ _ h.2.2⟩
    · exact h.elim
  · split at h
    · split at h
      · exact hk _ _ h
      · split at h
        · exact ⟨h.1, h.2.1, fun q => hk _ _ (h.2.2.1 q), fun e he q => hk _ _ (h.2.2.2 e he q)⟩
        · exact h.elim
      · exact h.elim
    · exact h.elim
  · exact h.elim

theorem nilA_congr {P : Program} {s s' : List V} {σ : List Ob} {op : Op} {K : V → List Ob → Prop} (h : ∀ x ∈ op.operands, get s x = get s' x) : nilA P s σ op K = nilA P s' σ op K := by
  unfold nilA
  split
  · rename_i t x y yt
    rw [h x (by simp [Op.operands]), h y (by simp [Op.operands])]
  · rename_i t x y yt
    rw [h x (by simp [Op.operands]), h y (by simp [Op.operands])]
  · rename_i x
    rw [h x (by simp [Op.operands])]
  · rfl

theorem MapR.mem {I : Im} {w : World} {loc : Nat → Loc} {es : List (D × V × Nat)} {l : List MapEntry} (m : MapR I w loc es l) : ∀ e ∈ l, ∃ x ∈ es, DR I x.1 e.key ∧ VR I w loc x.2.1 e.val ∧ e.born = x.2.2 := by
  induction m with
  | nil => intro e he; simp at he
  | @cons k x n e es l a b hn _ ih =>
    intro e' he'
    rcases List.mem_cons.1 he' with rfl | he'
    · exact ⟨_, List.mem_cons_self, a, b, hn⟩
    · obtain ⟨y, h1, h2⟩ := ih e' he'
      exact ⟨y, List.mem_cons_of_mem _ h1, h2⟩
theorem MapR.mem' {I : Im} {w : World} {loc : Nat → Loc} {es : List (D × V × Nat)} {l : List MapEntry} (m : MapR I w loc es l) : ∀ x ∈ es, ∃ e ∈ l, e.born = x.2.2 := by
  induction m with
  | nil => intro e he; simp at he
  | @cons k x n e es l a b hn _ ih =>
    intro y hy
    rcases List.mem_cons.1 hy with rfl | hy
    · exact ⟨e, List.mem_cons_self, hn⟩
    · obtain ⟨e', h1, h2⟩ := ih y hy
      exact ⟨e', List.mem_cons_of_mem _ h1, h2⟩

/-- The next entry of a map that is ranged over. -/
theorem next_sound {P : Program} {ty : TypeId} {c : Cx} {σ : List Ob} (h : SR c σ) {i o : Nat} {since last : Nat} {seen : List Nat} (hi : σ[i]? = some (.mit (.mp o) since seen last)) {es : List (D × V × Nat)} {clk : Nat} (ho : σ[o]? = some (.map es clk))
    (h1 : ∀ e ∈ es, e.2.2 < since) (h2 : since ≤ last) {K : V → List Ob → Prop} (k1 : (∀ e ∈ es, e.2.2 ∈ seen) → K (.tup [.d (.bool false)]) σ) (k2 : ∀ e ∈ es, e.2.2 ∉ seen → K (.tup [.d (.bool true), .d e.1, e.2.1]) (σ.set i (.mit (.mp o) since (seen ++ [e.2.2]) clk))) {v : Value} (r : c.vr (.ptr i 0 0) v) :
    ∃ u w' q σ', (Instr.next v false ty).run P c.w = .ok u w' ∧ SR ⟨w', c.loc, c.hid⟩ σ' ∧ Ext c ⟨w', c.loc, c.hid⟩ ∧ Cx.vr ⟨w', c.loc, c.hid⟩ q u ∧ K q σ' := by
  obtain ⟨b, mb, ents, hl, rfl, g1, g2, g3, g4, g5⟩ := mit_at h hi ho r
  have hold : ∀ x ∈ ents.toList, x.born < since := fun x hx => by
    obtain ⟨y, y1, y2⟩ := g3.mem x hx
    rw [y2.2.2]; exact h1 y y1
  rcases run_next_at (P := P) c.w ty b mb since last seen.toArray ents clk g1 g2 hold h2 with ⟨n1, n2⟩ | ⟨e, n1, w1, n2, n3⟩
  · refine ⟨_, c.w, _, σ, n2, h, Ext.refl c, ?_, k1 fun x hx => ?_⟩
    · simp only [Cx.vr, VR, VRs]; exact ⟨[.bool false], rfl, _, [], rfl, by simp [DR], rfl⟩
    · obtain ⟨e, e1, e2⟩ := g3.mem' x hx
      have : leftOf ents seen.toArray = #[] := Array.eq_empty_of_size_eq_zero n1
      unfold leftOf at this
      rw [Array.filter_eq_empty_iff] at this
      have := this e (by simpa using e1)
      rw [e2] at this
      simpa using this
  · have ⟨m1, m2⟩ : e ∈ ents.toList ∧ e.born ∉ seen := by
      unfold leftOf at n1
      simp at n1
      exact ⟨by simpa using n1.1, n1.2⟩
    obtain ⟨x, x1, x2, x3, x4⟩ := g3.mem e m1
    have hw1 : w1.heap = c.w.heap ∧ IoEq c.w w1 := by rcases n2 with rfl | rfl <;> exact ⟨rfl, rfl, rfl, rfl⟩
    have hlt := (Array.getElem?_eq_some_iff.1 g1).1
    obtain ⟨w', hw'⟩ : ∃ w', w' = ChangeMaps.setBlock w1 b (.mapIter (some mb) since (seen.toArray.push e.born) clk) := ⟨_, rfl⟩
    have hheap : w'.heap = c.w.heap.setIfInBounds b (.mapIter (some mb) since (seen.toArray.push e.born) clk) := by rw [hw', ← hw1.1]; rfl
    have e1 : w'.heap.size = c.w.heap.size := by rw [hheap]; simp
    have e2 : ∀ b', b' ≠ b → w'.heap[b']? = c.w.heap[b']? := fun b' hb' => by rw [hheap, Array.getElem?_setIfInBounds_ne (Ne.symm hb')]
    have e3 : ∀ (cs : Array Value) (e : TypeId) (f : Nat × Nat), c.w.heap[b]? = some (.cells cs e f) → ∃ (cs' : Array Value) (f' : Nat × Nat), w'.heap[b]? = some (.cells cs' e f') ∧ cs'.size = cs.size := by
      intro cs e f q; rw [g1] at q; cases q
    have hio : IoEq c.w w' := by rw [hw']; exact hw1.2
    have hE := Ext.write hl w' e1 e2 e3 hio
    have hm : c.vr (.mp o) (.map (some mb)) := by
      obtain ⟨b', hl', q, q1, q2⟩ := h.get hi
      rw [hl] at hl'; cases hl'
      rw [g1] at q1; cases q1
      exact q2
    have hS := SR.write h hl w' e1 e2 e3 (.mit (.mp o) since (seen ++ [x.2.2]) clk) ⟨b, rfl, some mb, by rw [hheap]; simp [hlt, x4], hE.vr hm⟩ hio
    refine ⟨_, w', .tup [.d (.bool true), .d x.1, x.2.1], _, by rw [hw']; exact n3, hS, hE, ?_, k2 x x1 (by rw [← x4]; exact m2)⟩
    simp only [Cx.vr, VR, VRs]
    exact ⟨[.bool true, e.key, e.val], rfl, _, _, rfl, by simp [DR], e.key, [e.val], rfl, hE.dr x2, e.val, [], rfl, hE.vr x3, rfl⟩

theorem nilA_sound {P : Program} {op : Oper} {a : Act} {c : Cx} {s : List V} {σ : List Ob} {K : V → List Ob → Prop} (h : SR c σ) (hs : c.vrs s a.tmps.toList) (e : nilA P s σ op.op K) :
    ∃ v w' r σ', (execOp a.eval op).run P c.w = .ok (.value v) w' ∧ SR ⟨w', c.loc, c.hid⟩ σ' ∧ Ext c ⟨w', c.loc, c.hid⟩ ∧ Cx.vr ⟨w', c.loc, c.hid⟩ r v ∧ K r σ' := by
  have sl : ∀ {t : TypeId} (ht : isSliceT P t = true) (ad : Option Addr) (n cap : Nat) (ox oy : Operand),
      (do eqGuard .eql t ox oy (.slice ad n cap) (.slice none 0 0); binOp .eql t (.slice ad n cap) (.slice none 0 0) : Sem Value).run P c.w = .ok (.bool ad.isNone) c.w ∧ (do eqGuard .neq t ox oy (.slice ad n cap) (.slice none 0 0); binOp .neq t (.slice ad n cap) (.slice none 0 0) : Sem Value).run P c.w = .ok (.bool (!ad.isNone)) c.w := by
    intro t ht ad n cap ox oy
    obtain ⟨el, hel⟩ := Option.isSome_iff_exists.1 ht
    exact eql_of (fun op => by rw [eqGuard_at_slice]; rfl) (equal_slice (elemOfSlice_some hel) _ _ _) (by simp [binOp]) (by simp [binOp])
  unfold nilA at e
  split at e
  · rename_i t x y yt hop
    have hx := vr_get h.gl hs x
    have hy := vr_get h.gl hs y
    split at e
    · rename_i sz es e1 e2
      rw [e1] at hx; rw [e2] at hy
      simp only [Cx.vr, VR, DR] at hx hy
      obtain ⟨ad, cap, hx, g1, g2⟩ := hx
      refine ⟨.bool ad.isNone, c.w, _, σ, ?_, h, Ext.refl c, by simp [Cx.vr, VR, DR], e.2 ad.isNone fun q => ?_⟩
      · simp only [execOp, hop, hx, hy]
        exact run_value (sl e.1 ad _ cap x y).1
      · rcases g2 with g2 | ⟨b, off, rfl, _⟩
        · exact g2
        · cases q
    · rename_i ob off len e1 e2
      rw [e1] at hx; rw [e2] at hy
      obtain ⟨ht, ha, e⟩ := e
      simp only [Cx.vr, VR, DR] at hy
      obtain ⟨ad, cap, hx', hz⟩ := vr_sl_nil h ha hx
      refine ⟨.bool ad.isNone, c.w, _, σ, ?_, h, Ext.refl c, by simp [Cx.vr, VR, DR], e ad.isNone hz⟩
      simp only [execOp, hop, hx', hy]
      exact run_value (sl ht ad _ cap x y).1
    · rename_i e1 e2
      rw [e1] at hx; rw [e2] at hy
      obtain ⟨ht, hc, e⟩ := e
      simp only [Cx.vr, VR, DR] at hx hy
      obtain ⟨cv, rfl⟩ : ∃ cv, y = .const cv := by cases y <;> simp [isConstB] at hc; exact ⟨_, rfl⟩
      refine ⟨.bool true, c.w, _, σ, ?_, h, Ext.refl c, by simp [Cx.vr, VR, DR], e⟩
      simp only [execOp, hop, hx, hy]
      exact run_value (eql_of (fun op => by rw [eqGuard_nil_constR]; rfl) (equal_nilI ht) (by simp [binOp]) (by simp [binOp])).1
    · exact e.elim
  · rename_i t x y yt hop
    have hx := vr_get h.gl hs x
    have hy := vr_get h.gl hs y
    split at e
    · rename_i sz es e1 e2
      rw [e1] at hx; rw [e2] at hy
      simp only [Cx.vr, VR, DR] at hx hy
      obtain ⟨ad, cap, hx, g1, g2⟩ := hx
      refine ⟨.bool (!ad.isNone), c.w, _, σ, ?_, h, Ext.refl c, by simp [Cx.vr, VR, DR], e.2 ad.isNone fun q => ?_⟩
      · simp only [execOp, hop, hx, hy]
        exact run_value (sl e.1 ad _ cap x y).2
      · rcases g2 with g2 | ⟨b, off, rfl, _⟩
        · exact g2
        · cases q
    · rename_i ob off len e1 e2
      rw [e1] at hx; rw [e2] at hy
      obtain ⟨ht, ha, e⟩ := e
      simp only [Cx.vr, VR, DR] at hy
      obtain ⟨ad, cap, hx', hz⟩ := vr_sl_nil h ha hx
      refine ⟨.bool (!ad.isNone), c.w, _, σ, ?_, h, Ext.refl c, by simp [Cx.vr, VR, DR], e ad.isNone hz⟩
      simp only [execOp, hop, hx', hy]
      exact run_value (sl ht ad _ cap x y).2
    · rename_i e1 e2
      rw [e1] at hx; rw [e2] at hy
      obtain ⟨ht, hc, e⟩ := e
      simp only [Cx.vr, VR, DR] at hx hy
      obtain ⟨cv, rfl⟩ : ∃ cv, y = .const cv := by cases y <;> simp [isConstB] at hc; exact ⟨_, rfl⟩
      refine ⟨.bool false, c.w, _, σ, ?_, h, Ext.refl c, by simp [Cx.vr, VR, DR], e⟩
      simp only [execOp, hop, hx, hy]
      exact run_value (eql_of (fun op => by rw [eqGuard_nil_constR]; rfl) (equal_nilI ht) (by simp [binOp]) (by simp [binOp])).2
    · exact e.elim
  · rename_i x hop
    have hx := vr_get h.gl hs x
    split at e
    · rename_i i e1
      rw [e1] at hx
      split at e
      · rename_i s0 s1 s2 hi
        obtain ⟨b, hl, q, h1, h2⟩ := h.get hi
        have hx' : a.eval x = .pointer (some ⟨b, 0, none⟩) := by simpa [Cx.vr, VR, hl] using hx
        have hq : q = none := by simpa [Cx.vr, VR, DR] using h2
        subst hq
        refine ⟨.tuple #[.bool false], c.w, _, σ, ?_, h, Ext.refl c, ?_, e⟩
        · simp only [execOp, hop, hx']
          refine run_value ?_
          simp only [Instr.next, getObj, Sem.run_bind, Sem.run, h1, Result.andThen]
          rfl
        · simp only [Cx.vr, VR, VRs]; exact ⟨[.bool false], rfl, _, [], rfl, by simp [DR], rfl⟩
      · rename_i o since seen last hi
        split at e
        · rename_i es clk ho
          obtain ⟨u, w', q, σ', g1, g2, g3, g4, g5⟩ := next_sound (P := P) (ty := op.type) h hi ho e.1 e.2.1 e.2.2.1 e.2.2.2 hx
          exact ⟨u, w', q, σ', by simp only [execOp, hop]; exact run_value g1, g2, g3, g4, g5⟩
        · exact e.elim
      · exact e.elim
    · exact e.elim
  · exact e.elim

def stepA (P : Program) (o : Oper) (s : List V) (σ : List Ob) (K : V → List Ob → Prop) : Prop :=
  match o.op with
  | .call { callee := .value f, args, argTypes := _ } => match get s f with
    | .fn g caps => callA P g (argsOf s args ++ caps) σ K
    | .bm g first => callA P g (first ++ argsOf s args) σ K
    | _ => False
  | op => match quietG P s σ op with
    | some r => K r σ
    | none => match effF P s σ op with
      | some (r, σ') => K r σ'
      | none => nilA P s σ op K

/-- A world with new blocks. -/
def Grown (w w' : World) : Prop := w.heap.size ≤ w'.heap.size ∧ (∀ b, b < w.heap.size → w'.heap[b]? = w.heap[b]?) ∧ IoEq w w'

theorem Ext.grow {c : Cx} {w' : World} (g : Grown c.w w') : Ext c ⟨w', c.loc, c.hid⟩ :=
  ⟨rfl, g.1, fun b cs e f hb => ⟨cs, f, by rw [g.2.1 b (Array.getElem?_eq_some_iff.1 hb).1]; exact hb, rfl⟩, fun b hb ho => ⟨g.2.1 b hb, ho⟩, fun o => .inl rfl, g.2.2⟩

theorem SR.grow {c : Cx} {σ : List Ob} (h : SR c σ) {w' : World} (g : Grown c.w w') : SR ⟨w', c.loc, c.hid⟩ σ := by
  have hE := Ext.grow g
  refine ⟨fun o => ?_, h.inj, h.hid_ext hE, hE.glob h.gl⟩
  have r := h.obj o
  cases hx : σ[o]? with
  | none => rw [hx] at r; exact r
  | some x => exact (h.get hx).keep hE fun b base s e => g.2.1 b (h.lt e)

/-- A call put off that does nothing where nothing panics. -/
def QuietD (P : Program) (d : Deferred) : Prop :=
  ∃ fv cap, d.target = .fn fv cap ∧ ∀ c σ, SR c σ → ∃ f args, (invoke d.target d.args).run P c.w = .ok (.enter f args) c.w ∧ CallsD P f args .returning c.w fun e u' w' => u' = .returning ∧ Grown c.w w' ∧ ∃ v, e = .returned v

theorem leaves_quiet {P : Program} {fn : Func} {tmps : Array Value} {R : Ending → World → Prop} : ∀ (ds : List Deferred) (c : Cx) (σ : List Ob), SR c σ → (∀ w', SR ⟨w', c.loc, c.hid⟩ σ → Ext c ⟨w', c.loc, c.hid⟩ → ∃ v, (results fn tmps).run P w' = .ok v w' ∧ R (.returned v) w') → (∀ d ∈ ds, QuietD P d) → Leaves P fn tmps R ds .returning c.w
  | [], c, σ, hs, h, _ => h c.w hs (Ext.refl c)
  | d :: ds, c, σ, hs, h, hq => by
    obtain ⟨fv, cap, ht, hd⟩ := hq d (by simp)
    obtain ⟨f, args, hi, hc⟩ := hd c σ hs
    obtain ⟨t, as⟩ := d
    simp only at ht hi
    subst ht
    refine leaves_cons (by intro q; cases q) hi (hc.mono fun e u' w' ⟨h1, h2, v, h3⟩ => ?_)
    subst h1; subst h3
    exact leaves_quiet ds ⟨w', c.loc, c.hid⟩ σ (hs.grow h2) (fun w'' k1 k2 => h w'' k1 ((Ext.grow h2).trans k2)) fun d hd => hq d (by simp [hd])

/-- Calls put off since. -/
def DfOk (P : Program) (l base : List Deferred) : Prop := ∃ ds, (∀ d ∈ ds, QuietD P d) ∧ l = ds ++ base

theorem DfOk.refl (P : Program) (l : List Deferred) : DfOk P l l := ⟨[], by simp, rfl⟩
theorem DfOk.cons {P : Program} {l base : List Deferred} (h : DfOk P l base) {d : Deferred} (hd : QuietD P d) : DfOk P (d :: l) base := by
  obtain ⟨ds, h1, rfl⟩ := h
  exact ⟨d :: ds, by intro x hx; rcases List.mem_cons.1 hx with rfl | hx; exact hd; exact h1 x hx, rfl⟩
theorem DfOk.trans {P : Program} {l m base : List Deferred} (h : DfOk P l m) (g : DfOk P m base) : DfOk P l base := by
  obtain ⟨ds, h1, rfl⟩ := h
  obtain ⟨es, h2, rfl⟩ := g
  exact ⟨ds ++ es, by intro x hx; rcases List.mem_append.1 hx with hx | hx; exact h1 x hx; exact h2 x hx, by simp⟩
theorem DfOk.quiet {P : Program} {l : List Deferred} (h : DfOk P l []) : ∀ d ∈ l, QuietD P d := by
  obtain ⟨ds, h1, rfl⟩ := h
  simpa using h1

/-- The frame is as the slots say, the world as the store says. -/
structure Rel (P : Program) (c : Cx) (s : List V) (σ : List Ob) (a : Act) : Prop where
  sr : SR c σ
  sl : c.vrs s a.tmps.toList
  df : DfOk P a.defers c.hid.df

def putV (s : List V) (dst : Option Tmp) (v : V) : List V :=
  match dst with
  | some d => s.set d v
  | none => s

theorem vrs_set {c : Cx} {s : List V} {vs : List Value} (h : c.vrs s vs) (d : Nat) {x : V} {v : Value} (r : c.vr x v) : c.vrs (s.set d x) (vs.set d v) := by
  have hl := VRs_length h
  refine VRs_of_get (by simp [hl]) fun i y u e f => ?_
  rw [List.getElem?_set] at e f
  split at e
  · rename_i hd
    rw [if_pos hd] at f
    split at e
    · split at f
      · simp at e f; subst e; subst f; exact r
      · cases f
    · cases e
  · rename_i hd
    rw [if_neg hd] at f
    obtain ⟨z, q1, q2⟩ := VRs_get h i e
    rw [q1] at f; simp at f; subst f; exact q2

theorem Rel.put {P : Program} {c : Cx} {s : List V} {σ : List Ob} {a : Act} (h : Rel P c s σ a) (dst : Option Tmp) {x : V} {v : Value} (r : c.vr x v) : Rel P c (putV s dst x) σ (a.put dst v) := by
  cases dst with
  | none => exact h
  | some d =>
    refine ⟨h.sr, ?_, h.df⟩
    show c.vrs (s.set d x) (a.tmps.setIfInBounds d v).toList
    rw [Array.toList_setIfInBounds]
    exact vrs_set h.sl d r

theorem Rel.ext {P : Program} {c c' : Cx} {s : List V} {σ σ' : List Ob} {a : Act} (h : Rel P c s σ a) (hE : Ext c c') (hS : SR c' σ') : Rel P c' s σ' a := ⟨hS, hE.vrs h.sl, by have q := h.df; rwa [show c.hid.df = c'.hid.df by rw [hE.hid]] at q⟩

/-- The end of a piece of code, as the kit's exits say it. -/
inductive Ex where
  | normal
  | exit (id : Nat)
  | ret
  deriving DecidableEq

def exOf : Exit → Option Ex
  | .normal => some .normal
  | .exit i => some (.exit i)
  | .ret => some .ret
  | _ => none

/-- From one context to a later one, as far as the n objects go that were there when the function began. -/
structure ExtN (n : Nat) (c c' : Cx) : Prop where
  hid : c'.hid = c.hid
  size : c.w.heap.size ≤ c'.w.heap.size
  cells : Cells c.w c'.w
  frame : ∀ b, b < c.w.heap.size → ¬ c.own b → c'.w.heap[b]? = c.w.heap[b]? ∧ ¬ c'.own b
  loc : ∀ o, o < n → c'.loc o = c.loc o ∨ c'.loc o = .dead ∨ c.loc o = .unborn
  io : IoEq c.w c'.w

theorem Ext.toN {c c' : Cx} (h : Ext c c') (n : Nat) : ExtN n c c' := ⟨h.hid, h.size, h.cells, h.frame, fun o _ => h.loc o, h.io⟩
theorem ExtN.refl (n : Nat) (c : Cx) : ExtN n c c := (Ext.refl c).toN n

theorem ExtN.trans {n : Nat} {c c' c'' : Cx} (h : ExtN n c c') (g : ExtN n c' c'') : ExtN n c c'' := by
  refine ⟨g.hid.trans h.hid, Nat.le_trans h.size g.size, ?_, ?_, ?_, h.io.trans g.io⟩
  · intro b cs e f hb
    obtain ⟨cs', f', h1, h2⟩ := h.cells b cs e f hb
    obtain ⟨cs'', f'', g1, g2⟩ := g.cells b cs' e f' h1
    exact ⟨cs'', f'', g1, g2.trans h2⟩
  · intro b hb ho
    obtain ⟨h1, h2⟩ := h.frame b hb ho
    obtain ⟨g1, g2⟩ := g.frame b (Nat.lt_of_lt_of_le hb h.size) h2
    exact ⟨g1.trans h1, g2⟩
  · intro o hn
    rcases g.loc o hn with e | e | e
    · rw [e]; exact h.loc o hn
    · exact .inr (.inl e)
    · rcases h.loc o hn with e' | e' | e'
      · exact .inr (.inr (e' ▸ e))
      · rw [e] at e'; cases e'
      · exact .inr (.inr e')

theorem ExtN.toExt {n : Nat} {c c' : Cx} {σ : List Ob} (h : ExtN n c c') (hs : SR c σ) (hn : σ.length ≤ n) : Ext c c' :=
  ⟨h.hid, h.size, h.cells, h.frame, fun o => by
    rcases Nat.lt_or_ge o n with q | q
    · exact h.loc o q
    · exact .inr (.inr (hs.unborn (by omega))), h.io⟩

def Post (P : Program) (n : Nat) (c : Cx) (K : Ex → List V → List Ob → Prop) (e : Exit) (a' : Act) (w' : World) : Prop :=
  False ∨ ∃ x loc' s' σ', exOf e = some x ∧ Rel P ⟨w', loc', c.hid⟩ s' σ' a' ∧ ExtN n c ⟨w', loc', c.hid⟩ ∧ K x s' σ'


theorem Post.back {P : Program} {n : Nat} {c c' : Cx} (hE : ExtN n c c') (hh : c'.hid = c.hid) {K : Ex → List V → List Ob → Prop} {e : Exit} {a' : Act} {w' : World} (h : Post P n c' K e a' w') : Post P n c K e a' w' := by
  rcases h with h | ⟨x, loc', s', σ', h1, h2, h3, h4⟩
  · exact h.elim
  · rw [hh] at h2 h3
    exact .inr ⟨x, loc', s', σ', h1, h2, hE.trans h3, h4⟩

theorem resolve_call {P : Program} {c : Cx} {s : List V} {a : Act} (hG : Glob c) (hs : c.vrs s a.tmps.toList) {o : Oper} {f : Operand} {args : Array Operand} {ts : Array TypeId} (ho : o.op = .call { callee := .value f, args, argTypes := ts }) {g : FuncId} {caps : List V} (hf : get s f = .fn g caps)
    (hg : callable P g) : ∃ vals : List Value, (execOp a.eval o).run P c.w = .ok (.enter g vals.toArray) c.w ∧ c.vrs (argsOf s args ++ caps) vals := by
  have hv := vr_get hG hs f
  rw [hf] at hv
  simp only [Cx.vr, VR] at hv
  obtain ⟨vs, hv1, hv2⟩ := hv
  obtain ⟨fn, h1, h2, h3⟩ := hg
  have hn : fn.body.isNone = false := by cases hb : fn.body <;> simp_all
  refine ⟨args.toList.map a.eval ++ vs, ?_, ?_⟩
  · simp only [execOp, ho, resolve, hv1, Deferred.ofValue, Sem.run_bind, Sem.run_pure, Result.andThen_ok, invoke, callFunc, run_program, h1, h2, hn, Bool.false_eq_true, if_false]
    congr 2
    apply Array.ext'
    simp
  · have := vrs_args hG hs args.toList
    refine VRs_of_get (by simp [VRs_length this, VRs_length hv2, argsOf]) fun i x v e f' => ?_
    rw [List.getElem?_append] at e f'
    simp only [argsOf, List.length_map] at e f'
    split at e
    · rename_i hi
      rw [if_pos hi] at f'
      obtain ⟨z, q1, q2⟩ := VRs_get this i e
      rw [q1] at f'; simp at f'; subst f'; exact q2
    · rename_i hi
      rw [if_neg hi] at f'
      obtain ⟨z, q1, q2⟩ := VRs_get hv2 _ e
      rw [q1] at f'; simp at f'; subst f'; exact q2

theorem resolve_bm {P : Program} {c : Cx} {s : List V} {a : Act} (hG : Glob c) (hs : c.vrs s a.tmps.toList) {o : Oper} {f : Operand} {args : Array Operand} {ts : Array TypeId} (ho : o.op = .call { callee := .value f, args, argTypes := ts }) {g : FuncId} {first : List V} (hf : get s f = .bm g first)
    (hg : callable P g) : ∃ vals : List Value, (execOp a.eval o).run P c.w = .ok (.enter g vals.toArray) c.w ∧ c.vrs (first ++ argsOf s args) vals := by
  have hv := vr_get hG hs f
  rw [hf] at hv
  simp only [Cx.vr, VR] at hv
  obtain ⟨vs, hv1, hv2⟩ := hv
  obtain ⟨fn, h1, h2, h3⟩ := hg
  have hn : fn.body.isNone = false := by cases hb : fn.body <;> simp_all
  refine ⟨vs ++ args.toList.map a.eval, ?_, ?_⟩
  · simp only [execOp, ho, resolve, hv1, Deferred.ofValue, Sem.run_bind, Sem.run_pure, Result.andThen_ok, invoke, callFunc, run_program, h1, h2, hn, Bool.false_eq_true, if_false]
    congr 2
    apply Array.ext'
    simp
  · have := vrs_args hG hs args.toList
    refine VRs_of_get (by simp [VRs_length this, VRs_length hv2, argsOf]) fun i x v e f' => ?_
    rw [List.getElem?_append] at e f'
    rw [VRs_length hv2] at f'
    split at e
    · rename_i hi
      rw [if_pos hi] at f'
      obtain ⟨z, q1, q2⟩ := VRs_get hv2 i e
      rw [q1] at f'; simp at f'; subst f'; exact q2
    · rename_i hi
      rw [if_neg hi] at f'
      obtain ⟨z, q1, q2⟩ := VRs_get this _ e
      rw [q1] at f'; simp at f'; subst f'; exact q2

/-- ONE OPERATION, CARRIED OUT. -/
theorem step_sound' {P : Program} {o : Oper} {s : List V} {σ : List Ob} {K : V → List Ob → Prop} (h : stepA P o s σ K) {c : Cx} {a a' : Act} (hr : Rel P c s σ a') (hae : execOp a.eval o = execOp a'.eval o) {next : Act → World → Prop} {Q : Exit → Act → World → Prop}
    (hn : ∀ r σ' loc' v w', K r σ' → SR ⟨w', loc', c.hid⟩ σ' → Ext c ⟨w', loc', c.hid⟩ → Cx.vr ⟨w', loc', c.hid⟩ r v → next (a.put o.dst v) w') :
    o.wp P a c.w next Q := by
  unfold stepA at h
  split at h
  · rename_i f args ts ho
    split at h
    · rename_i g caps hf
      obtain ⟨vals, h1, h2⟩ := resolve_call hr.sr.gl hr.sl ho hf h.1
      unfold Oper.wp
      rw [hae, h1, Oper.upon_enter]
      refine (h.2 c vals hr.sr h2).mono fun e w' hp => ?_
      cases e with
      | outgrown => exact hp.elim
      | panicked _ => exact hp.elim
      | returned v =>
        obtain ⟨loc', σ', r, g1, g2, g3, g4⟩ := hp
        exact hn r σ' loc' v w' g4 g1 g2 g3
    · rename_i g first hf
      obtain ⟨vals, h1, h2⟩ := resolve_bm hr.sr.gl hr.sl ho hf h.1
      unfold Oper.wp
      rw [hae, h1, Oper.upon_enter]
      refine (h.2 c vals hr.sr h2).mono fun e w' hp => ?_
      cases e with
      | outgrown => exact hp.elim
      | panicked _ => exact hp.elim
      | returned v =>
        obtain ⟨loc', σ', r, g1, g2, g3, g4⟩ := hp
        exact hn r σ' loc' v w' g4 g1 g2 g3
    · exact h.elim
  · rename_i op hop
    split at h
    · rename_i r hq
      obtain ⟨v, h1, h2⟩ := quietG_sound hr.sr hr.sl hq
      unfold Oper.wp
      rw [hae, h1, Oper.upon_value]
      exact hn r σ c.loc v c.w h hr.sr (Ext.refl c) h2
    · split at h
      · rename_i r σ' he
        obtain ⟨nx, w', loc', v, g1, g2, g3, g4, g5⟩ := eff_sound hr.sr hr.sl he
        · unfold Oper.wp
          rw [hae, g1]
          rcases g2 with rfl | ⟨rfl, rfl⟩
          · rw [Oper.upon_value]; exact hn r σ' loc' v w' h g3 g4 g5
          · rw [Oper.upon_skip]; exact hn r σ' loc' undef w' h g3 g4 g5
      · obtain ⟨v, w', r, σ', h1, h2, h3, h4, h5⟩ := nilA_sound hr.sr hr.sl h
        unfold Oper.wp
        rw [hae, h1, Oper.upon_value]
        exact hn r σ' c.loc v w' h5 h2 h3 h4

theorem step_sound {P : Program} {o : Oper} {s : List V} {σ : List Ob} {K : V → List Ob → Prop} (h : stepA P o s σ K) {c : Cx} {a : Act} (hr : Rel P c s σ a) {next : Act → World → Prop} {Q : Exit → Act → World → Prop}
    (hn : ∀ r σ' loc' v w', K r σ' → SR ⟨w', loc', c.hid⟩ σ' → Ext c ⟨w', loc', c.hid⟩ → Cx.vr ⟨w', loc', c.hid⟩ r v → next (a.put o.dst v) w') :
    o.wp P a c.w next Q := step_sound' h hr rfl hn

def buildSliceD (P : Program) (t : TypeId) (len : Nat) (σ : List Ob) (s : List V) (parts : List (Nat × Operand)) : Option V :=
  match elemOfSlice P t with
  | some e => if elemOk P e = true ∧ len * szOf P e ≤ 16777216 then
      match inOrder 0 parts with
      | some xs => if xs.length = len then match toDs σ s (szOf P e) xs with
          | some ds => some (.d (.lst (szOf P e) ds))
          | none => none
        else none
      | none => none
    else none
  | none => none

theorem buildSliceD_F {P : Program} {t : TypeId} {len : Nat} {σ : List Ob} {s : List V} {parts : List (Nat × Operand)} {x : V} (e : buildSliceD P t len σ s parts = some x) :
    ∃ sz ds, x = .d (.lst sz ds) ∧ buildSliceF P t len σ s parts = some (.sl σ.length 0 len, σ ++ [.arr sz false ds]) := by
  unfold buildSliceD at e
  unfold buildSliceF
  split at e
  · rename_i el hel
    rw [hel]
    simp only []
    split at e
    · rename_i hk
      rw [if_pos hk]
      split at e
      · rename_i xs hxs
        simp only [hxs]
        split at e
        · rename_i hlen
          rw [if_pos hlen]
          split at e
          · rename_i ds hds
            simp only [Option.some.injEq] at e
            exact ⟨_, ds, e.symm, by simp only [hds]⟩
          · cases e
        · cases e
      · cases e
    · cases e
  · cases e

/-- A literal slice that is data from the start. -/
def litA (P : Program) (o : Oper) (s : List V) (σ : List Ob) : Option V :=
  match o.op with
  | .buildSlice t len parts => buildSliceD P t len σ s parts.toList
  | _ => none

/-- A closure that does nothing where nothing panics. -/
def QuietG (P : Program) (g : FuncId) (n : Nat) : Prop := ∀ caps : Array Value, caps.size = n → QuietD P ⟨.fn (.func g) caps, #[]⟩

/-- What is put off is such a closure. -/
def dferC (P : Program) (cl : Call) (s : List V) : Prop :=
  match cl with
  | { callee := .value f, args, argTypes := _ } => match get s f with
    | .fn g caps => args = #[] ∧ QuietG P g caps.length
    | _ => False
  | _ => False

/-- An operation, or a literal slice as data, or a call put off. -/
def stepL (P : Program) (o : Oper) (s : List V) (σ : List Ob) (K : V → List Ob → Prop) : Prop := stepA P o s σ K ∨ (∃ r, litA P o s σ = some r ∧ K r σ) ∨ ∃ cl, o.op = .defer cl ∧ dferC P cl s ∧ K .undef σ

theorem stepL_sound {P : Program} {o : Oper} {s : List V} {σ : List Ob} {K : V → List Ob → Prop} (h : stepL P o s σ K) {c : Cx} {a : Act} (hr : Rel P c s σ a) {next : Act → World → Prop} {Q : Exit → Act → World → Prop}
    (hn : ∀ r σ' loc' v w' (a1 : Act), K r σ' → SR ⟨w', loc', c.hid⟩ σ' → Ext c ⟨w', loc', c.hid⟩ → Cx.vr ⟨w', loc', c.hid⟩ r v → a1.tmps = a.tmps → DfOk P a1.defers a.defers → next (a1.put o.dst v) w') :
    o.wp P a c.w next Q := by
  rcases h with h | ⟨r, h, hk⟩ | ⟨cl, ho, hd, hk⟩
  · exact step_sound h hr fun r σ' loc' v w' h1 h2 h3 h4 => hn r σ' loc' v w' a h1 h2 h3 h4 rfl (DfOk.refl P _)
  · unfold litA at h
    split at h
    · rename_i t len parts ho
      obtain ⟨sz, ds, rfl, h1⟩ := buildSliceD_F h
      obtain ⟨v, w', g1, g2, g3, g4⟩ := buildSlice_data (σ' := σ) hr.sr hr.sl h1
      have hx : (execOp a.eval o).run P c.w = .ok (.value v) w' := by
        simp only [execOp, ho]
        exact run_value g1
      unfold Oper.wp
      rw [hx, Oper.upon_value]
      exact hn _ σ c.loc v w' a hk g2 g3 g4 rfl (DfOk.refl P _)
    · cases h
  · unfold dferC at hd
    split at hd
    · rename_i f args ts
      split at hd
      · rename_i g caps hf
        obtain ⟨rfl, hq⟩ := hd
        have hv := vr_get hr.sr.gl hr.sl f
        rw [hf] at hv
        simp only [Cx.vr, VR] at hv
        obtain ⟨vs, hv1, hv2⟩ := hv
        have hx : (execOp a.eval o).run P c.w = .ok (.defer ⟨.fn (.func g) vs.toArray, #[]⟩) c.w := by
          simp only [execOp, ho, resolve, hv1, Deferred.ofValue, Sem.run_bind, Sem.run_pure, Result.andThen_ok, Array.map_empty, Array.append_empty]
        unfold Oper.wp
        rw [hx, Oper.upon_defer]
        exact hn .undef σ c.loc undef c.w _ hk hr.sr (Ext.refl c) (by simp [Cx.vr, VR]) rfl ((DfOk.refl P _).cons (hq _ (by simpa using VRs_length hv2)))
      · exact hd.elim
    · exact hd.elim

/-! ### regions in the order of the text -/
def opsA (P : Program) (all : List Oper) : List Oper → List V → List Ob → (List V → List Ob → Prop) → Prop
  | [], s, σ, K => K s σ
  | o :: r, s, σ, K => match o.guard with
    | none => stepL P o s σ fun v σ' => opsA P all r (putV s o.dst v) σ' K
    | some (j, want) => match (all[j]?).bind (·.dst) with
      | some d => match s.getD d .undef with
        | .d (.bool b) => (b = want → stepL P o (s.set d (.d (.bool want))) σ fun v σ' => opsA P all r (putV (s.set d (.d (.bool want))) o.dst v) σ' K) ∧
            (b = (!want) → opsA P all r (putV (s.set d (.d (.bool (!want)))) o.dst (.tup [])) σ K)
        | .tup [] => opsA P all r (putV s o.dst (.tup [])) σ K
        | _ => False
      | none => False

theorem yielded_of {ops : Array Oper} {c : Cx} {s : List V} {a : Act} (hs : c.vrs s a.tmps.toList) {j d : Nat} {b : Bool} (hd : (ops.toList[j]?).bind (·.dst) = some d) (hb : s.getD d .undef = .d (.bool b)) : yielded ops a.tmps j = some b := by
  have h1 : (ops[j]?).bind (·.dst) = some d := by rw [← hd]; simp
  unfold yielded
  rw [h1]
  rw [List.getD_eq_getElem?_getD] at hb
  cases e : s[d]? with
  | none => rw [e] at hb; cases hb
  | some x =>
    rw [e] at hb; simp at hb; subst hb
    obtain ⟨v, q1, q2⟩ := VRs_get hs d e
    simp only [VR, DR] at q2; subst q2
    rw [Array.getElem?_toList] at q1
    simp [q1]

theorem VR_none {c : Cx} : c.vr (.tup []) undef := ⟨[], rfl, rfl⟩
/-- A guard whose own operation was left out. -/
theorem yielded_none {ops : Array Oper} {c : Cx} {s : List V} {a : Act} (hs : c.vrs s a.tmps.toList) {j d : Nat} (hd : (ops.toList[j]?).bind (·.dst) = some d) (hb : s.getD d .undef = .tup []) : yielded ops a.tmps j = none := by
  have h1 : (ops[j]?).bind (·.dst) = some d := by rw [← hd]; simp
  unfold yielded
  rw [h1]
  rw [List.getD_eq_getElem?_getD] at hb
  cases e : s[d]? with
  | none => rw [e] at hb; cases hb
  | some x =>
    rw [e] at hb; simp at hb; subst hb
    obtain ⟨v, q1, q2⟩ := VRs_get hs d e
    simp only [VR, VRs] at q2
    obtain ⟨vs, rfl, rfl⟩ := q2
    rw [Array.getElem?_toList] at q1
    simp [q1]

theorem vrs_set_same {c : Cx} {s : List V} {a : Act} (hs : c.vrs s a.tmps.toList) {d : Nat} {b : Bool} (hb : s.getD d .undef = .d (.bool b)) : s.set d (.d (.bool b)) = s := by
  rw [List.getD_eq_getElem?_getD] at hb
  cases e : s[d]? with
  | none => rw [e] at hb; cases hb
  | some x =>
    rw [e] at hb; simp at hb; subst hb
    apply List.ext_getElem?
    intro i
    rw [List.getElem?_set]
    split
    · rename_i q; subst q
      rw [e]
      have := (List.getElem?_eq_some_iff.1 e).1
      simp [this]
    · rfl

theorem ops_sound {P : Program} {ops : Array Oper} : ∀ (todo : List Oper) (i : Nat) (s : List V) (σ : List Ob) (K : List V → List Ob → Prop), ops.toList.drop i = todo → opsA P ops.toList todo s σ K →
    ∀ (c : Cx) (a : Act), Rel P c s σ a → ∀ (Q : Exit → Act → World → Prop),
      (∀ s' σ' loc' a' w', K s' σ' → Rel P ⟨w', loc', c.hid⟩ s' σ' a' → Ext c ⟨w', loc', c.hid⟩ → Q .normal a' w') → wpOps P ops Q (List.range' i todo.length) a c.w
  | [], i, s, σ, K, _, h, c, a, hr, Q, hq => by
    simp only [List.length_nil, List.range'_zero, wpOps]
    exact hq s σ c.loc a c.w h hr (Ext.refl c)
  | o :: r, i, s, σ, K, hd, h, c, a, hr, Q, hq => by
    have hi : ops[i]? = some o := by
      have := congrArg (·[0]?) hd
      simp at this
      exact this
    have hd' : ops.toList.drop (i + 1) = r := by
      have := congrArg (List.drop 1) hd
      rw [List.drop_drop] at this
      simpa [Nat.add_comm] using this
    simp only [List.length_cons, List.range'_succ, wpOps, hi]
    have step : ∀ (s0 : List V), Rel P c s0 σ a → (stepL P o s0 σ fun v σ' => opsA P ops.toList r (putV s0 o.dst v) σ' K) →
        o.wp P a c.w (wpOps P ops Q (List.range' (i + 1) r.length)) Q := by
      intro s0 hr0 hst
      refine stepL_sound hst hr0 fun v σ' loc' u w' a1 hk g1 g2 g3 g4 g5 => ?_
      have hrel : Rel P ⟨w', loc', c.hid⟩ (putV s0 o.dst v) σ' (a1.put o.dst u) := Rel.put ⟨g1, by rw [g4]; exact g2.vrs hr0.sl, g5.trans hr0.df⟩ o.dst g3
      exact ops_sound r (i + 1) _ σ' K hd' hk ⟨w', loc', c.hid⟩ _ hrel Q fun s'' σ'' loc'' a'' w'' k1 k2 k3 => hq s'' σ'' loc'' a'' w'' k1 k2 (g2.trans k3)
    unfold opsA at h
    split at h
    · rename_i hg
      have hw : Region.wanted o (yielded ops a.tmps) = true := by simp [Region.wanted, hg]
      rw [if_pos hw]
      exact .inl (step s hr h)
    · rename_i j want hg
      split at h
      · rename_i d hjd
        split at h
        · rename_i b hb
          have hy := yielded_of hr.sl hjd hb
          by_cases hbw : b = want
          · subst hbw
            have hw : Region.wanted o (yielded ops a.tmps) = true := by simp [Region.wanted, hg, hy]
            rw [if_pos hw]
            have h1 := h.1 rfl
            rw [vrs_set_same hr.sl hb] at h1
            exact .inl (step s hr h1)
          · have hw : Region.wanted o (yielded ops a.tmps) = false := by simp [Region.wanted, hg, hy, hbw]
            rw [if_neg (by rw [hw]; simp)]
            have hbn : b = !want := by cases b <;> cases want <;> simp_all
            subst hbn
            have h2 := h.2 rfl
            rw [vrs_set_same hr.sl hb] at h2
            have hrel := hr.put o.dst (x := .tup []) (v := undef) VR_none
            exact ops_sound r (i + 1) _ σ K hd' h2 c _ hrel Q hq
        · rename_i hb
          have hy := yielded_none hr.sl hjd hb
          have hw : Region.wanted o (yielded ops a.tmps) = false := by simp [Region.wanted, hg, hy]
          rw [if_neg (by rw [hw]; simp)]
          have hrel := hr.put o.dst (x := .tup []) (v := undef) VR_none
          exact ops_sound r (i + 1) _ σ K hd' h c _ hrel Q hq
        · exact h.elim
      · exact h.elim

/-! ### closures that are put off -/
/-- Operations without guards, none of them a call. -/
def opsE (P : Program) : List Oper → List V → List Ob → Option (List V × List Ob)
  | [], s, σ => some (s, σ)
  | o :: r, s, σ => match o.guard with
    | none => match quietG P s σ o.op with
      | some v => opsE P r (putV s o.dst v) σ
      | none => match effF P s σ o.op with
        | some (v, σ') => opsE P r (putV s o.dst v) σ'
        | none => none
    | some _ => none

theorem put_defers (a : Act) (dst : Option Tmp) (u : Value) : (a.put dst u).defers = a.defers := by cases dst <;> rfl

theorem opsE_sound {P : Program} {ops : Array Oper} {Q : Exit → Act → List Frame → World → Prop} {cs : List Frame} : ∀ (todo : List Oper) (i : Nat) (s : List V) (σ : List Ob) {s' : List V} {σ' : List Ob}, ops.toList.drop i = todo → opsE P todo s σ = some (s', σ') →
    ∀ (c : Cx) (a : Act), Rel P c s σ a → (∀ loc' a' w', Rel P ⟨w', loc', c.hid⟩ s' σ' a' → Ext c ⟨w', loc', c.hid⟩ → a'.defers = a.defers → Q .normal a' cs w') → wpOpsS P ops Q (List.range' i todo.length) a cs c.w
  | [], i, s, σ, s', σ', _, h, c, a, hr, hq => by
    simp only [opsE, Option.some.injEq, Prod.mk.injEq] at h
    obtain ⟨rfl, rfl⟩ := h
    simp only [List.length_nil, List.range'_zero, wpOpsS]
    exact hq c.loc a c.w hr (Ext.refl c) rfl
  | o :: r, i, s, σ, s', σ', hd, h, c, a, hr, hq => by
    have hi : ops[i]? = some o := by
      have := congrArg (·[0]?) hd
      simp at this
      exact this
    have hd' : ops.toList.drop (i + 1) = r := by
      have := congrArg (List.drop 1) hd
      rw [List.drop_drop] at this
      simpa [Nat.add_comm] using this
    simp only [List.length_cons, List.range'_succ, wpOpsS, hi]
    simp only [opsE] at h
    split at h
    · rename_i hg
      have hw : Region.wanted o (yielded ops a.tmps) = true := by simp [Region.wanted, hg]
      rw [if_pos hw]
      split at h
      · rename_i v hv
        obtain ⟨u, h1, h2⟩ := quietG_sound hr.sr hr.sl hv
        simp only [h1]
        rw [Oper.upon_value]
        exact opsE_sound r (i + 1) _ σ hd' h c _ (hr.put o.dst h2) fun loc' a' w' k1 k2 k3 => hq loc' a' w' k1 k2 (k3.trans (put_defers _ _ _))
      · split at h
        · rename_i v σ1 he
          obtain ⟨nx, w', loc', u, g1, g2, g3, g4, g5⟩ := eff_sound hr.sr hr.sl he
          have hrel : Rel P ⟨w', loc', c.hid⟩ (putV s o.dst v) σ1 (a.put o.dst u) := (hr.ext g4 g3).put o.dst g5
          have next := opsE_sound r (i + 1) _ σ1 hd' h ⟨w', loc', c.hid⟩ (a.put o.dst u) hrel (Q := Q) (cs := cs) fun loc'' a' w'' k1 k2 k3 => hq loc'' a' w'' k1 (g4.trans k2) (k3.trans (put_defers _ _ _))
          simp only [g1]
          rcases g2 with rfl | ⟨rfl, rfl⟩
          · exact next
          · exact next
        · cases h
    · cases h

def recOp : Op → Bool
  | .call { callee := .builtin .recover, args, argTypes := _ } => args.isEmpty
  | _ => false

/-- A closure that recovers, finds nothing, and ends. -/
def quietB (P : Program) (g n : Nat) : Bool :=
  match P.funcs[g]? with
  | none => false
  | some fn => match fn.body with
    | some (.seq (.region _ ops false) (.seq (.region _ ops1 false) (.cond (.tmp t) _ .skip))) => match ops.toList with
      | o :: l => match o.dst with
        | some d => recOp o.op && o.guard.isNone && fn.results.toList.isEmpty && decide (n ≤ fn.ntmps) && !(fn.name == "runtime.NumGoroutine") &&
          (match opsE P l ((List.replicate fn.ntmps .undef).set d (.d .nili)) [] with
          | some (s, σ) => match opsE P ops1.toList s σ with
            | some (s', _) => match s'.getD t .undef with
              | .d (.bool false) => true
              | _ => false
            | none => false
          | none => false)
        | none => false
      | [] => false
    | _ => false

theorem quietB_ok {P : Program} {g n : Nat} (h : quietB P g n = true) : QuietG P g n := by
  intro caps hcaps
  refine ⟨.func g, caps, rfl, fun c σ hs => ⟨g, caps, ?_⟩⟩
  unfold quietB at h
  split at h
  · cases h
  rename_i fn hf
  split at h
  rotate_left
  · cases h
  rename_i id ops id1 ops1 t x hb
  split at h
  rotate_left
  · cases h
  rename_i o l hl
  split at h
  rotate_left
  · cases h
  rename_i d hd
  simp only [Bool.and_eq_true, decide_eq_true_eq, Bool.not_eq_true'] at h
  obtain ⟨⟨⟨⟨⟨h1, h2⟩, h3⟩, h4⟩, h5⟩, h6⟩ := h
  split at h6
  rotate_left
  · cases h6
  rename_i s σ1 hs1
  split at h6
  rotate_left
  · cases h6
  rename_i s' σ2 hs2
  split at h6
  rotate_left
  · cases h6
  rename_i hst
  constructor
  · have hn : fn.body.isNone = false := by rw [hb]; rfl
    simp only [invoke, callFunc, Sem.run_bind, Sem.run_pure, Result.andThen_ok, run_program, hf, h5, hn, Bool.false_eq_true, if_false]
    congr 2
    simp
  refine callsD_of_wpS hf hb fun c₀ cs hm => ?_
  let c0 : Cx := ⟨c.w, fun _ => .unborn, ⟨fun b => c.own b ∨ c.hid.blk b, []⟩⟩
  have own0 : ∀ b, ¬ c0.own b := by
    rintro b ⟨o, base, sz, q⟩
    cases q
  have hS0 : SR c0 [] := by
    refine ⟨fun o => ?_, (fun q => by cases q), fun b hb => ⟨?_, own0 b⟩, ?_⟩
    · show ORo c0 .unborn ([] : List Ob)[o]?
      rw [List.getElem?_nil]; rfl
    · rcases hb with hb | hb
      · obtain ⟨o, base, sz, q⟩ := hb
        exact hs.lt q
      · exact (hs.hid b hb).1
    · refine Glob.le (c := c) (c' := c0) (fun b hb => ⟨⟨hb.1, own0 b, fun q => ?_⟩, fun _ => rfl⟩) hs.gl
      rcases q with q | q
      · exact hb.2.1 q
      · exact hb.2.2 q
  let a0 : Act := { tmps := caps ++ Array.replicate (fn.ntmps - caps.size) undef, defers := [] }
  have hsz : a0.tmps.size = fn.ntmps := by simp [a0]; omega
  have hrel0 : Rel P c0 (List.replicate fn.ntmps .undef) [] a0 := by
    refine ⟨hS0, ?_, DfOk.refl P []⟩
    refine VRs_of_get (by simp [hsz]) fun i x v e f => ?_
    rw [List.getElem?_replicate] at e
    split at e
    · simp only [Option.some.injEq] at e; subst e; simp [VR]
    · cases e
  have hrel1 : Rel P c0 ((List.replicate fn.ntmps .undef).set d (.d .nili)) [] (a0.put (some d) .nilIface) := hrel0.put (some d) (x := .d .nili) (by simp [Cx.vr, VR, DR])
  refine wpS_seq (wpS_region ?_)
  have hlen : ops.size = l.length + 1 := by
    have := congrArg List.length hl
    simpa using this
  have h0 : ops[0]? = some o := by
    have := congrArg (·[0]?) hl
    simpa using this
  rw [hlen, List.range_eq_range', List.range'_succ]
  simp only [wpOpsS, h0]
  have hw : Region.wanted o (yielded ops a0.tmps) = true := by
    have : o.guard = none := by simpa using h2
    simp [Region.wanted, this]
  have hrun : (execOp a0.eval o).run P c.w = .ok .recover c.w := by
    unfold recOp at h1
    split at h1
    · rename_i args ts ho
      have ha : args = #[] := by simpa using h1
      subst ha
      simp [execOp, ho, resolve, invoke, builtin]
    · cases h1
  rw [if_pos hw]
  simp only [a0] at hrun hrel1
  simp only [hrun]
  have hrec : recoverD (c₀ :: cs) = none := by simp [recoverD, hm]
  simp only [hrec, hd]
  refine opsE_sound (P := P) l 1 _ [] (by rw [hl]; rfl) hs1 c0 _ hrel1 fun loc' a' w' k1 k2 k3 => ?_
  show Code.wpS _ _ _ _ _ _
  refine wpS_seq (wpS_region ?_)
  have e1 : List.range ops1.size = List.range' 0 ops1.toList.length := by rw [List.range_eq_range']; simp
  rw [e1]
  refine opsE_sound (P := P) ops1.toList 0 _ σ1 rfl hs2 ⟨w', loc', c0.hid⟩ _ k1 fun loc'' a'' w'' k4 k5 k6 => ?_
  show Code.wpS _ _ _ _ _ _
  have hev : a''.eval (.tmp t) = .bool false := by
    have := vr_get k4.sr.gl k4.sl (.tmp t)
    simp only [get] at this
    rw [hst] at this
    simpa [Cx.vr, VR, DR] using this
  refine wpS_cond (t := false) hev (wpS_of_wp (wp_skip ?_))
  have hE := k2.trans k5
  refine ⟨k6.trans (k3.trans (put_defers _ _ _)), .returning, ?_, .tuple #[], ?_, rfl, ⟨hE.size, fun b hb => (hE.frame b hb (own0 b)).1, hE.io⟩, _, rfl⟩
  · cases c₀
    simp only at hm
    subst hm
    rfl
  · have : fn.results = #[] := by
      have := h3
      simpa using this
    simp [results, this]

end Go.Proofs.YtchgfpehcjomeaaGreatDoor.Am
