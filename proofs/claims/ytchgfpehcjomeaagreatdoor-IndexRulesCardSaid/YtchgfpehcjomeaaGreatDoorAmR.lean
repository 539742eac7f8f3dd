/- The engine's quiet operations, second part: tests, reads of memory, indexes, cuts. -/
import Derived.Test.YtchgfpehcjomeaaGreatDoorAmQ
set_option linter.unusedSimpArgs false
set_option linter.unusedVariables false
namespace Go.Proofs.YtchgfpehcjomeaaGreatDoor.Am
open Go

theorem SR.at_alive {c : Cx} {σ : List Ob} (h : SR c σ) {o : Nat} (ha : alive σ o = true) : c.loc o ≠ .dead ∧ c.loc o ≠ .unborn := by
  unfold alive at ha
  cases hx : σ[o]? with
  | none => simp [hx] at ha
  | some x =>
    have r := h.get hx
    constructor
    · intro e
      rw [e] at r
      cases x with
      | dead => simp [hx] at ha
      | box cs => obtain ⟨b, _, e, _⟩ := r; cases e
      | vec sz cs => obtain ⟨b, _, e, _⟩ := r; cases e
      | arr s mk es => rcases r with ⟨e, _⟩ | ⟨b, base, e, _⟩ <;> cases e
      | map es clk => obtain ⟨b, e, _⟩ := r; cases e
      | mit m since seen last => obtain ⟨b, e, _⟩ := r; cases e
      | sit s p => obtain ⟨b, e, _⟩ := r; cases e
    · intro e
      rw [e] at r
      exact OR.not_unborn r

theorem vr_ptr {c : Cx} {σ : List Ob} (h : SR c σ) {o i k : Nat} {v : Value} (ha : alive σ o = true) (r : c.vr (.ptr o i k) v) :
    ∃ b base sz, c.loc o = .here b base sz ∧ v = .pointer (some ⟨b, base + i * sz + k, none⟩) := by
  have hd := h.at_alive ha
  simp only [Cx.vr, VR] at r
  cases e : c.loc o with
  | unborn => exact (hd.2 e).elim
  | dead => exact (hd.1 e).elim
  | nil => rw [e] at r; exact r.elim
  | here b base sz => rw [e] at r; exact ⟨b, base, sz, rfl, r⟩

theorem vr_mp {c : Cx} {σ : List Ob} (h : SR c σ) {o : Nat} {v : Value} (ha : alive σ o = true) (r : c.vr (.mp o) v) :
    ∃ b base sz, c.loc o = .here b base sz ∧ v = .map (some b) := by
  have hd := h.at_alive ha
  simp only [Cx.vr, VR] at r
  cases e : c.loc o with
  | unborn => exact (hd.2 e).elim
  | dead => exact (hd.1 e).elim
  | nil => rw [e] at r; exact r.elim
  | here b base sz => rw [e] at r; exact ⟨b, base, sz, rfl, r⟩

theorem isPtrT_some {P : Program} {t : TypeId} (h : isPtrT P t = true) : ∃ e, P.underlying t = some (.pointer e) := by
  unfold isPtrT at h
  split at h
  · exact ⟨_, by assumption⟩
  · cases h
theorem isMapT_some {P : Program} {t : TypeId} (h : isMapT P t = true) : ∃ k e, P.underlying t = some (.map k e) := by
  unfold isMapT at h
  split at h
  · exact ⟨_, _, by assumption⟩
  · cases h
theorem isBoolT_some {P : Program} {t : TypeId} (h : isBoolT P t = true) : P.underlying t = some .bool := by
  unfold isBoolT at h
  split at h
  · assumption
  · cases h
theorem isStrT_some {P : Program} {t : TypeId} (h : isStrT P t = true) : P.underlying t = some .string := by
  unfold isStrT at h
  split at h
  · assumption
  · cases h

theorem equal_ptr {P : Program} {w : World} {t el : TypeId} (h : P.underlying t = some (.pointer el)) (a : Option Addr) : (Op.equal t (.pointer a) (.pointer none)).run P w = .ok a.isNone w := by
  have key : ∀ d, (Op.equalIn (d + 1) t (.pointer a) (.pointer none)).run P w = .ok a.isNone w := by
    intro d
    cases a <;> simp [Op.equalIn, run_underlying h]
  exact key 9999
theorem equal_map {P : Program} {w : World} {t k el : TypeId} (h : P.underlying t = some (.map k el)) (a : Option Nat) : (Op.equal t (.map a) (.map none)).run P w = .ok a.isNone w := by
  have key : ∀ d, (Op.equalIn (d + 1) t (.map a) (.map none)).run P w = .ok a.isNone w := by
    intro d
    cases a <;> simp [Op.equalIn, run_underlying h]
  exact key 9999

theorem equal_slice {P : Program} {w : World} {t el : TypeId} (h : P.underlying t = some (.slice el)) (a : Option Addr) (n cap : Nat) : (Op.equal t (.slice a n cap) (.slice none 0 0)).run P w = .ok a.isNone w := by
  have key : ∀ d, (Op.equalIn (d + 1) t (.slice a n cap) (.slice none 0 0)).run P w = .ok a.isNone w := by
    intro d
    cases a <;> simp [Op.equalIn, run_underlying h]
  exact key 9999
theorem isSlice_some {P : Program} {t : TypeId} (h : (elemOfSlice P t).isSome = true) : ∃ e, P.underlying t = some (.slice e) := by
  unfold elemOfSlice at h
  split at h
  · exact ⟨_, by assumption⟩
  · cases h

/-- What '==' comes to where 'Op.equal' and the guard are known. -/
theorem eql_of {P : Program} {w : World} {t : TypeId} {ox oy : Operand} {x y : Value} {r : Bool} (hg : ∀ op, (eqGuard op t ox oy x y).run P w = .ok () w) (he : (Op.equal t x y).run P w = .ok r w)
    (h1 : binOp .eql t x y = (do pure (.bool (← Op.equal t x y)))) (h2 : binOp .neq t x y = (do pure (.bool (!(← Op.equal t x y))))) :
    (do eqGuard .eql t ox oy x y; binOp .eql t x y : Sem Value).run P w = .ok (.bool r) w ∧ (do eqGuard .neq t ox oy x y; binOp .neq t x y : Sem Value).run P w = .ok (.bool (!r)) w := by
  constructor
  · rw [h1, Sem.run_bind, hg]; simp [he]
  · rw [h2, Sem.run_bind, hg]; simp [he]

theorem eqv_sound {P : Program} {t : TypeId} {c : Cx} {σ : List Ob} (h : SR c σ) {x y : V} {vx vy : Value} {r : Bool} (e : eqv P t σ x y = some r) (hx : c.vr x vx) (hy : c.vr y vy) (ox oy : Operand) :
    (do eqGuard .eql t ox oy vx vy; binOp .eql t vx vy : Sem Value).run P c.w = .ok (.bool r) c.w ∧ (do eqGuard .neq t ox oy vx vy; binOp .neq t vx vy : Sem Value).run P c.w = .ok (.bool (!r)) c.w := by
  unfold eqv at e
  split at e
  · rename_i a b
    split at e
    · rename_i ht
      simp only [Option.some.injEq] at e; subst e
      simp only [Cx.vr, VR, DR] at hx hy; subst hx; subst hy
      exact eql_of (fun op => by rw [eqGuard_at_bool]; rfl) (run_equalIn_bool' c.w 9999 t a b (isBoolT_some ht)) (by simp [binOp]) (by simp [binOp])
    · cases e
  · rename_i o i k
    split at e
    · rename_i ht
      simp only [Bool.and_eq_true] at ht
      simp only [Option.some.injEq] at e; subst e
      obtain ⟨b, base, sz, _, rfl⟩ := vr_ptr h ht.2 hx
      simp only [Cx.vr, VR, DR] at hy; subst hy
      obtain ⟨el, hel⟩ := isPtrT_some ht.1
      exact eql_of (fun op => by rw [eqGuard_at_pointer]; rfl) (equal_ptr hel _) (by simp [binOp]) (by simp [binOp])
    · cases e
  · split at e
    · rename_i ht
      simp only [Option.some.injEq] at e; subst e
      simp only [Cx.vr, VR, DR] at hx hy; subst hx; subst hy
      obtain ⟨el, hel⟩ := isPtrT_some ht
      exact eql_of (fun op => by rw [eqGuard_at_pointer]; rfl) (equal_ptr hel _) (by simp [binOp]) (by simp [binOp])
    · cases e
  · split at e
    · rename_i ht
      simp only [Option.some.injEq] at e; subst e
      simp only [Cx.vr, VR, DR] at hx hy; subst hy
      obtain ⟨b, off, vs, rfl, _⟩ := hx
      obtain ⟨el, hel⟩ := isPtrT_some ht
      exact eql_of (fun op => by rw [eqGuard_at_pointer]; rfl) (equal_ptr hel _) (by simp [binOp]) (by simp [binOp])
    · cases e
  · rename_i o
    split at e
    · rename_i ht
      simp only [Bool.and_eq_true] at ht
      simp only [Option.some.injEq] at e; subst e
      obtain ⟨b, base, sz, _, rfl⟩ := vr_mp h ht.2 hx
      simp only [Cx.vr, VR, DR] at hy; subst hy
      obtain ⟨k, el, hel⟩ := isMapT_some ht.1
      exact eql_of (fun op => by rw [eqGuard_at_map]; rfl) (equal_map hel _) (by simp [binOp]) (by simp [binOp])
    · cases e
  · split at e
    · rename_i ht
      simp only [Option.some.injEq] at e; subst e
      simp only [Cx.vr, VR, DR] at hx hy; subst hx; subst hy
      obtain ⟨k, el, hel⟩ := isMapT_some ht
      exact eql_of (fun op => by rw [eqGuard_at_map]; rfl) (equal_map hel _) (by simp [binOp]) (by simp [binOp])
    · cases e
  · split at e
    · rename_i ht
      simp only [Option.some.injEq] at e; subst e
      simp only [Cx.vr, VR, DR] at hx hy; subst hx; subst hy
      obtain ⟨el, hel⟩ := isSlice_some ht
      exact eql_of (fun op => by rw [eqGuard_at_slice]; rfl) (equal_slice hel _ _ _) (by simp [binOp]) (by simp [binOp])
    · cases e
  · cases e

theorem mapM_d : ∀ (cs : List V) (ds : List D), (cs.mapM fun | .d x => some x | _ => none) = some ds → cs = ds.map .d
  | [], ds, h => by simp at h; simp [h]
  | x :: cs, ds, h => by
    cases x <;> simp only [List.mapM_cons, Option.bind_eq_bind, Option.bind_some, Option.bind_none] at h <;> try (cases h; done)
    rename_i d
    cases hm : (cs.mapM fun | .d x => some x | _ => none) with
    | none => rw [hm] at h; simp at h
    | some es => rw [hm] at h; simp at h; subst h; simp [mapM_d cs es hm]

theorem vr_ds {c : Cx} {x : V} {ds : List D} (h : x.ds = some ds) {v : Value} (r : c.vr x v) : ∃ vs : List Value, v = .agg vs.toArray ∧ DRs c.im ds vs := by
  unfold V.ds at h
  split at h
  · simp only [Option.some.injEq] at h; subst h
    simpa [Cx.vr, VR, DR] using r
  · have := mapM_d _ _ h
    subst this
    simp only [Cx.vr, VR] at r
    obtain ⟨vs, h1, h2⟩ := r
    exact ⟨vs, h1, VRs_map_d.1 h2⟩
  · cases h

theorem aggEq_sound {P : Program} {t : TypeId} {c : Cx} {x y : V} {vx vy : Value} {r : Bool} (e : aggEq P t x y = some r) (hx : c.vr x vx) (hy : c.vr y vy) (ox oy : Operand) :
    (do eqGuard .eql t ox oy vx vy; binOp .eql t vx vy : Sem Value).run P c.w = .ok (.bool r) c.w ∧ (do eqGuard .neq t ox oy vx vy; binOp .neq t vx vy : Sem Value).run P c.w = .ok (.bool (!r)) c.w := by
  unfold aggEq at e
  split at e
  · rename_i a b ks ha hb hk
    split at e
    · rename_i hg
      obtain ⟨xs, rfl, gx⟩ := vr_ds ha hx
      obtain ⟨ys, rfl, gy⟩ := vr_ds hb hy
      have := (flat_eq P c.w c.im 8 t ks hk 10000 (by omega) a b xs ys r e gx gy).2
      simp only [valOf, hg.2, if_true] at this
      constructor
      · rw [Sem.run_bind, run_eqGuard_agg _ _ _ _ _ _ _ hg.1, Result.andThen_ok, run_eql_struct, this, Result.andThen_ok]
      · rw [Sem.run_bind, run_eqGuard_agg _ _ _ _ _ _ _ hg.1, Result.andThen_ok, run_neq_struct, this, Result.andThen_ok]
    · cases e
  · cases e

theorem binF_sound {P : Program} {op : BinOp} {t : TypeId} {c : Cx} {σ : List Ob} (h : SR c σ) {x y r : V} {vx vy : Value} (e : binF P op t σ x y = some r) (hx : c.vr x vx) (hy : c.vr y vy) (ox oy : Operand) :
    ∃ v, (do eqGuard op t ox oy vx vy; binOp op t vx vy : Sem Value).run P c.w = .ok v c.w ∧ c.vr r v := by
  unfold binF at e
  split at e
  · rename_i k a k' b
    simp only [Cx.vr, VR, DR] at hx hy; subst hx; subst hy
    have sh : (intShift op k a b).map V.d = some r → ∃ v, (do eqGuard op t ox oy (.int k a) (.int k' b); binOp op t (.int k a) (.int k' b) : Sem Value).run P c.w = .ok v c.w ∧ c.vr r v := by
      intro e
      cases hr : intShift op k a b with
      | none => rw [hr] at e; cases e
      | some d =>
        rw [hr] at e; simp at e; subst e
        obtain ⟨v, h1, h2⟩ := intShift_sound (k' := k') hr P t c.im c.w ox oy
        exact ⟨v, h1, by simpa [Cx.vr, VR] using h2⟩
    split at e
    · exact sh e
    · exact sh e
    · split at e
      · rename_i hk
        subst hk
        cases hr : intBin op k a b with
        | none => rw [hr] at e; cases e
        | some d =>
          rw [hr] at e; simp at e; subst e
          obtain ⟨v, h1, h2⟩ := intBin_sound hr P t c.im c.w ox oy
          exact ⟨v, h1, by simpa [Cx.vr, VR] using h2⟩
      · cases e
  · rename_i a b
    simp only [Cx.vr, VR, DR] at hx hy; subst hx; subst hy
    cases hr : strBin op a b with
    | none => rw [hr] at e; cases e
    | some d =>
      rw [hr] at e; simp at e; subst e
      obtain ⟨v, h1, h2⟩ := strBin_sound hr P t c.im c.w ox oy
      exact ⟨v, h1, by simpa [Cx.vr, VR] using h2⟩
  · split at e
    · split at e
      · rename_i q hq
        simp only [Option.some.injEq] at e; subst e
        exact ⟨_, (eqv_sound h hq hx hy ox oy).1, by simp [Cx.vr, VR, DR]⟩
      · cases hq : aggEq P t x y with
        | none => rw [hq] at e; cases e
        | some q =>
          rw [hq] at e; simp at e; subst e
          exact ⟨_, (aggEq_sound hq hx hy ox oy).1, by simp [Cx.vr, VR, DR]⟩
    · split at e
      · rename_i q hq
        simp only [Option.some.injEq] at e; subst e
        exact ⟨_, (eqv_sound h hq hx hy ox oy).2, by simp [Cx.vr, VR, DR]⟩
      · cases hq : aggEq P t x y with
        | none => rw [hq] at e; cases e
        | some q =>
          rw [hq] at e; simp at e; subst e
          exact ⟨_, (aggEq_sound hq hx hy ox oy).2, by simp [Cx.vr, VR, DR]⟩
    · cases e

theorem unF_sound {P : Program} {op : UnOp} {c : Cx} {x r : V} {vx : Value} (e : unF op x = some r) (hx : c.vr x vx) : ∃ v, (Op.unary op vx).run P c.w = .ok v c.w ∧ c.vr r v := by
  unfold unF at e
  split at e
  · simp only [Cx.vr, VR, DR] at hx; subst hx
    split at e
    · simp only [Option.some.injEq] at e; subst e; exact ⟨_, rfl, by simp [Cx.vr, VR, DR]⟩
    · cases e
  · simp only [Cx.vr, VR, DR] at hx; subst hx
    split at e
    · simp only [Option.some.injEq] at e; subst e; exact ⟨_, rfl, by simp [Cx.vr, VR, DR]⟩
    · simp only [intBin, Option.map_some, Option.some.injEq] at e; subst e
      exact ⟨_, rfl, by simp [Cx.vr, VR, DR]⟩
    · cases e
  · cases e

/-! ### memory that is read -/

/-- How many cells a datum that is known takes. -/
def D.csz : D → Option Nat
  | .any => none
  | .agg cs => some cs.length
  | _ => some 1

theorem DR_csz {I : Im} {d : D} {v : Value} {n : Nat} (h : DR I d v) (hc : d.csz = some n) : v.cells.size = n ∧ d.cells.length = n ∧ DRs I d.cells v.cells.toList := by
  cases d with
  | any => simp [D.csz] at hc
  | agg cs =>
    simp only [DR] at h
    obtain ⟨vs, rfl, h⟩ := h
    simp only [D.csz, Option.some.injEq] at hc
    refine ⟨by simp [Value.cells, DRs_length h, hc], by simp [D.cells, hc], by simpa [D.cells, Value.cells] using h⟩
  | lst sz es =>
    have h' := h
    simp only [DR] at h'
    obtain ⟨a, cap, rfl, _⟩ := h'
    simp only [D.csz, Option.some.injEq] at hc
    subst hc
    exact ⟨rfl, rfl, by simpa [D.cells, Value.cells, DRs] using h⟩
  | ifc t x =>
    have h' := h
    simp only [DR] at h'
    obtain ⟨a, rfl, _⟩ := h'
    simp only [D.csz, Option.some.injEq] at hc
    subst hc
    exact ⟨rfl, rfl, by simpa [D.cells, Value.cells, DRs] using h⟩
  | _ =>
    simp only [D.csz, Option.some.injEq] at hc
    subst hc
    have h' := h
    simp only [DR] at h'
    subst h'
    exact ⟨rfl, rfl, by simp [D.cells, Value.cells, DRs, DR]⟩

def okT (P : Program) (t : TypeId) : Bool := (P.underlying t).isSome

def takeD (P : Program) (t : TypeId) (cs : List D) : Option V :=
  if aggT P t then (if 0 < szOf P t ∧ szOf P t ≤ cs.length then some (.d (.agg (cs.take (szOf P t)))) else none)
  else match cs with
    | x :: _ => if okT P t then some (.d x) else none
    | [] => none

def takeV (P : Program) (t : TypeId) (cs : List V) : Option V :=
  if aggT P t then (if 0 < szOf P t ∧ szOf P t ≤ cs.length then some (.agg (cs.take (szOf P t))) else none)
  else match cs with
    | x :: _ => if okT P t then some x else none
    | [] => none

def loadF (P : Program) (t : TypeId) (σ : List Ob) : V → Option V
  | .ptr o i k => match σ[o]? with
    | some (.box cs) => if i = 0 then takeV P t (cs.drop k) else none
    | some (.vec sz cs) => takeV P t (cs.drop (i * sz + k))
    | some (.arr sz _ es) => match es[i]? with
      | some e => if e.csz = some sz then takeD P t (e.cells.drop k) else none
      | none => none
    | _ => none
  | .ipt cs => takeD P t cs
  | _ => none

theorem okT_some {P : Program} {t : TypeId} (h : okT P t = true) : ∃ d, P.underlying t = some d := Option.isSome_iff_exists.1 h
theorem aggT_ok {P : Program} {t : TypeId} (h : aggT P t = true) : ∃ d, P.underlying t = some d := by
  unfold aggT at h
  split at h
  · exact ⟨_, by assumption⟩
  · exact ⟨_, by assumption⟩
  · cases h

theorem run_loadVar' {P : Program} {w : World} {t : TypeId} {b off : Nat} {vs : List Value} (hr : ∀ j, j < vs.length → w.cell? ⟨b, off + j, none⟩ = vs[j]?) :
    (aggT P t = true → 0 < szOf P t → szOf P t ≤ vs.length → (loadVar t ⟨b, off, none⟩).run P w = .ok (.agg (vs.take (szOf P t)).toArray) w) ∧
    (aggT P t = false → okT P t = true → ∀ v, vs.head? = some v → (loadVar t ⟨b, off, none⟩).run P w = .ok v w) := by
  constructor
  · intro ha h0 hl
    obtain ⟨d, hd⟩ := aggT_ok ha
    have hc := run_loadCells_list (P := P) w ⟨b, off, none⟩ (vs.take (szOf P t)) (by
      intro j v hj
      rw [Addr.add_lit]
      have hlt : j < szOf P t := by
        have := List.getElem?_eq_some_iff.1 hj
        have := this.1
        simp at this; omega
      rw [hr j (by omega)]
      rw [List.getElem?_take] at hj
      simpa [hlt] using hj)
    rw [List.length_take_of_le hl] at hc
    simp only [loadVar, Sem.run_bind, run_isAgg' hd, ha, Result.andThen_ok, if_true, run_sizeOf' h0, hc, Sem.run_pure]
  · intro ha ho v hv
    obtain ⟨d, hd⟩ := okT_some ho
    cases vs with
    | nil => cases hv
    | cons x vs =>
      simp at hv; subst hv
      have := hr 0 (by simp)
      simp only [Nat.add_zero, List.getElem?_cons_zero] at this
      simp only [loadVar, Sem.run_bind, run_isAgg' hd, ha, Result.andThen_ok, Bool.false_eq_true, if_false, run_load, this]

theorem takeD_sound {P : Program} {t : TypeId} {c : Cx} {cs : List D} {r : V} (e : takeD P t cs = some r) {b off : Nat} {vs : List Value} (hv : DRs c.im cs vs) (hr : ∀ j, j < vs.length → c.w.cell? ⟨b, off + j, none⟩ = vs[j]?) :
    ∃ v, (loadVar t ⟨b, off, none⟩).run P c.w = .ok v c.w ∧ c.vr r v := by
  obtain ⟨h1, h2⟩ := run_loadVar' (P := P) (t := t) hr
  have hl := DRs_length hv
  unfold takeD at e
  split at e
  · rename_i ha
    split at e
    · rename_i hs
      simp only [Option.some.injEq] at e; subst e
      exact ⟨_, h1 ha hs.1 (by omega), by simp only [Cx.vr, VR, DR]; exact ⟨_, rfl, DRs_take hv _⟩⟩
    · cases e
  · rename_i ha
    split at e
    · split at e
      · rename_i ho
        simp only [Option.some.injEq] at e; subst e
        simp only [DRs] at hv
        obtain ⟨v, t', rfl, hv, _⟩ := hv
        exact ⟨v, h2 (by simpa using ha) ho v rfl, by simpa [Cx.vr, VR] using hv⟩
      · cases e
    · cases e

theorem takeV_sound {P : Program} {t : TypeId} {c : Cx} {cs : List V} {r : V} (e : takeV P t cs = some r) {b off : Nat} {vs : List Value} (hv : c.vrs cs vs) (hr : ∀ j, j < vs.length → c.w.cell? ⟨b, off + j, none⟩ = vs[j]?) :
    ∃ v, (loadVar t ⟨b, off, none⟩).run P c.w = .ok v c.w ∧ c.vr r v := by
  obtain ⟨h1, h2⟩ := run_loadVar' (P := P) (t := t) hr
  have hl := VRs_length hv
  unfold takeV at e
  split at e
  · rename_i ha
    split at e
    · rename_i hs
      simp only [Option.some.injEq] at e; subst e
      exact ⟨_, h1 ha hs.1 (by omega), by simp only [Cx.vr, VR]; exact ⟨_, rfl, VRs_take hv _⟩⟩
    · cases e
  · rename_i ha
    split at e
    · split at e
      · rename_i ho
        simp only [Option.some.injEq] at e; subst e
        simp only [Cx.vrs, VRs] at hv
        obtain ⟨v, t', rfl, hv, _⟩ := hv
        exact ⟨v, h2 (by simpa using ha) ho v rfl, hv⟩
      · cases e
    · cases e

theorem cell?_cells {w : World} {b : Nat} {arr : Array Value} {e : TypeId} {f : Nat × Nat} (h : w.heap[b]? = some (.cells arr e f)) (off : Nat) : w.cell? ⟨b, off, none⟩ = arr[off]? := by
  simp [World.cell?, h]

/-- What lies where an owned pointer points to. -/
theorem box_at {c : Cx} {σ : List Ob} (h : SR c σ) {o k : Nat} {cs : List V} (hx : σ[o]? = some (.box cs)) {v : Value} (r : c.vr (.ptr o 0 k) v) :
    ∃ b sz arr e f, c.loc o = .here b 0 sz ∧ v = .pointer (some ⟨b, k, none⟩) ∧ c.w.heap[b]? = some (.cells arr e f) ∧ Unfrozen f arr.size ∧ ∃ vs rest, arr.toList = vs ++ rest ∧ c.vrs cs vs := by
  obtain ⟨b, sz, hl, arr, e, f, h1, h2, h3⟩ := h.get hx
  simp only [Cx.vr, VR, hl] at r
  exact ⟨b, sz, arr, e, f, hl, by simpa using r, h1, h2, h3⟩

theorem vec_at {c : Cx} {σ : List Ob} (h : SR c σ) {o i k sz : Nat} {cs : List V} (hx : σ[o]? = some (.vec sz cs)) {v : Value} (r : c.vr (.ptr o i k) v) :
    ∃ b base arr e f, c.loc o = .here b base sz ∧ v = .pointer (some ⟨b, base + (i * sz + k), none⟩) ∧ 0 < sz ∧ c.w.heap[b]? = some (.cells arr e f) ∧ Unfrozen f arr.size ∧ ∃ us : List Value, base + us.length ≤ arr.size ∧ (∀ j, j < us.length → arr[base + j]? = us[j]?) ∧ c.vrs cs us := by
  obtain ⟨b, base, hl, h0, arr, e, f, h1, h2, h3⟩ := h.get hx
  simp only [Cx.vr, VR, hl] at r
  exact ⟨b, base, arr, e, f, hl, by rw [r, Nat.add_assoc], h0, h1, h2, h3⟩

theorem arr_at {c : Cx} {σ : List Ob} (h : SR c σ) {o i k sz : Nat} {mk : Bool} {es : List D} (hx : σ[o]? = some (.arr sz mk es)) {v : Value} (r : c.vr (.ptr o i k) v) :
    ∃ b base arr e f, c.loc o = .here b base sz ∧ v = .pointer (some ⟨b, base + i * sz + k, none⟩) ∧ 0 < sz ∧ c.w.heap[b]? = some (.cells arr e f) ∧ Unfrozen f (arr.size + (if mk then 0 else 1)) ∧ base + es.length * sz ≤ arr.size ∧ RowsR c.im es b base sz := by
  rcases h.get hx with ⟨hl, _⟩ | ⟨b, base, hl, h0, arr, e, f, h1, h2, h3, h4⟩
  · simp only [Cx.vr, VR, hl] at r
  · simp only [Cx.vr, VR, hl] at r
    exact ⟨b, base, arr, e, f, hl, r, h0, h1, h2, h3, h4⟩

theorem loadF_sound {P : Program} {t : TypeId} {c : Cx} {σ : List Ob} (h : SR c σ) {x r : V} {vx : Value} (e : loadF P t σ x = some r) (hx : c.vr x vx) : ∃ v, (Instr.loadAt t vx).run P c.w = .ok v c.w ∧ c.vr r v := by
  unfold loadF at e
  split at e
  · rename_i o i k
    split at e
    · rename_i cs hcs
      split at e
      · rename_i hi
        subst hi
        obtain ⟨b, bs, arr, ty, f, hl, rfl, h1, h2, us, rest, hu, h3⟩ := box_at h hcs hx
        obtain ⟨v, hr, hv⟩ := takeV_sound (b := b) (off := k) e (VRs_drop h3 k) (fun j hj => by
          rw [List.length_drop] at hj
          rw [cell?_cells h1, ← Array.getElem?_toList, hu, List.getElem?_append_left (by omega), List.getElem?_drop])
        exact ⟨v, by simpa [Instr.loadAt, Instr.sureAddr] using hr, hv⟩
      · cases e
    · rename_i sz cs hcs
      obtain ⟨b, base, arr, ty, f, hl, rfl, h0, h1, h2, us, hle, hat, h3⟩ := vec_at h hcs hx
      obtain ⟨v, hr, hv⟩ := takeV_sound (b := b) (off := base + (i * sz + k)) e (VRs_drop h3 (i * sz + k)) (fun j hj => by
        rw [List.length_drop] at hj
        rw [cell?_cells h1, Nat.add_assoc base, hat _ (by omega), List.getElem?_drop])
      exact ⟨v, by simpa [Instr.loadAt, Instr.sureAddr] using hr, hv⟩
    · rename_i sz mk es hes
      split at e
      · rename_i d hd
        split at e
        · rename_i hc
          obtain ⟨b, base, arr, ty, f, hl, rfl, h0, h1, h2, h3, h4⟩ := arr_at h hes hx
          obtain ⟨u, g1, g2, g3⟩ := RowsR_get h4 i hd
          obtain ⟨q1, q2, q3⟩ := DR_csz g1 hc
          obtain ⟨v, hr, hv⟩ := takeD_sound (c := c) (b := b) (off := base + i * sz + k) e (DRs_drop q3 k) (fun j hj => by
            simp at hj
            have := g3 (k + j) (by omega)
            simp only [Cx.im] at this
            rw [Nat.add_assoc, this]; simp)
          exact ⟨v, by simpa [Instr.loadAt, Instr.sureAddr] using hr, hv⟩
        · cases e
      · cases e
    · cases e
  · rename_i cs
    simp only [Cx.vr, VR] at hx
    obtain ⟨b, off, vs, rfl, h1, h2, h3⟩ := hx
    obtain ⟨v, hr, hv⟩ := takeD_sound (c := c) (b := b) (off := off) e h2 (fun j hj => h3 j (by rw [← DRs_length h2]; exact hj))
    exact ⟨v, by simpa [Instr.loadAt, Instr.sureAddr] using hr, hv⟩
  · cases e
end Go.Proofs.YtchgfpehcjomeaaGreatDoor.Am
