/- The engine's maps, text turned into bytes, and every operation that makes or writes memory in one function. -/
import Derived.Test.YtchgfpehcjomeaaGreatDoorAmP
set_option linter.unusedSimpArgs false
set_option linter.unusedVariables false
namespace Go.Proofs.YtchgfpehcjomeaaGreatDoor.Am
open Go

/-! ### maps -/
def putD (k : D) (x : V) (clk : Nat) : List (D × V × Nat) → Option (List (D × V × Nat) × Nat)
  | [] => some ([(k, x, clk)], clk + 1)
  | (k', y, n) :: r => match keyEq k k' with
    | some true => some ((k, x, n) :: r, clk)
    | some false => (putD k x clk r).map fun p => ((k', y, n) :: p.1, p.2)
    | none => none

def delD (k : D) : List (D × V × Nat) → Option (List (D × V × Nat))
  | [] => some []
  | (k', x, n) :: r => match keyEq k k' with
    | some true => some r
    | some false => (delD k r).map ((k', x, n) :: ·)
    | none => none

theorem keyEq0_same {k k' : D} (h : keyEq0 k k' = some true) {I : Im} {v v' : Value} (r : DR I k v) (r' : DR I k' v') (n : Nat) : v = v' ∧ Instr.sameBits (n + 1) v' v = true := by
  cases k <;> cases k' <;> simp only [keyEq0] at h <;> (try (cases h; done)) <;> simp only [DR] at r r' <;> subst r <;> subst r'
  · split at h
    · rename_i q; subst q
      simp at h; subst h
      simp [Instr.sameBits]
    · cases h
  · simp at h; subst h
    simp [Instr.sameBits]
  · simp at h; subst h
    simp [Instr.sameBits, beq_toListBytes]

theorem keysEq_same (I : Im) (n : Nat) : ∀ (as bs : List D), keysEq as bs = some true → ∀ xs ys : List Value, DRs I as xs → DRs I bs ys → xs = ys ∧ ((ys.zip xs).all fun p => Instr.sameBits (n + 1) p.1 p.2) = true
  | [], [], h, xs, ys, hx, hy => by
    simp only [DRs] at hx hy; subst hx; subst hy; exact ⟨rfl, rfl⟩
  | [], _ :: _, h, xs, ys, hx, hy => by simp [keysEq] at h
  | _ :: _, [], h, xs, ys, hx, hy => by simp [keysEq] at h
  | a :: as, b :: bs, h, xs, ys, hx, hy => by
    simp only [keysEq] at h
    cases h0 : keyEq0 a b with
    | none => rw [h0] at h; cases h
    | some x =>
      cases h1 : keysEq as bs with
      | none => rw [h0, h1] at h; cases h
      | some y =>
        rw [h0, h1] at h
        simp only [Option.some.injEq, Bool.and_eq_true] at h
        obtain ⟨rfl, rfl⟩ := h
        simp only [DRs] at hx hy
        obtain ⟨v, vs, rfl, g1, g2⟩ := hx
        obtain ⟨v', vs', rfl, g3, g4⟩ := hy
        obtain ⟨rfl, e1⟩ := keyEq0_same h0 g1 g3 n
        obtain ⟨rfl, e2⟩ := keysEq_same I n as bs h1 vs vs' g2 g4
        exact ⟨rfl, by simp only [List.zip_cons_cons, List.all_cons, e1, e2, Bool.and_self]⟩

theorem keyEq_same {k k' : D} (h : keyEq k k' = some true) {I : Im} {v v' : Value} (r : DR I k v) (r' : DR I k' v') : v = v' ∧ Instr.sameBits 10000 v' v = true := by
  cases k with
  | agg as =>
    cases k' with
    | agg bs =>
      simp only [keyEq] at h
      simp only [DR] at r r'
      obtain ⟨xs, rfl, hx⟩ := r
      obtain ⟨ys, rfl, hy⟩ := r'
      obtain ⟨rfl, e⟩ := keysEq_same I 9998 as bs h xs ys hx hy
      refine ⟨rfl, ?_⟩
      show Instr.sameBits (9999 + 1) _ _ = true
      simp only [Instr.sameBits, beq_self_eq_true, Bool.true_and]
      exact e
    | _ => simp only [keyEq] at h; cases h
  | _ => cases k' <;> first | exact keyEq0_same (by simpa only [keyEq, keyEq0] using h) r r' 9999 | (exfalso; revert h; simp [keyEq])

theorem put_Fd {P : Program} {kt : TypeId} {I : Im} {w : World} {loc : Nat → Loc} {k : D} {x : V} {clk : Nat} {v vx : Value} (h : keyOk P kt k = true) (hk : DR I k v) (hx : VR I w loc x vx) :
    ∀ {es : List (D × V × Nat)} {l : List MapEntry} (m : MapR I w loc es l) (i : Nat) {es' : List (D × V × Nat)} {clk' : Nat}, putD k x clk es = some (es', clk') →
      (∃ j e, Fd P kt v l i (some (i + j, e.val)) ∧ l[j]? = some e ∧ e.key = v ∧ Instr.sameBits 10000 e.key v = true ∧ MapR I w loc es' (l.set j { e with key := v, val := vx }) ∧ clk' = clk ∧ es'.map (·.2.2) = es.map (·.2.2)) ∨
      (Fd P kt v l i none ∧ MapR I w loc es' (l ++ [⟨v, vx, clk⟩]) ∧ clk' = clk + 1 ∧ es'.map (·.2.2) = es.map (·.2.2) ++ [clk]) := by
  intro es l m
  induction m with
  | nil => intro i es' clk' e; simp [putD] at e; obtain ⟨rfl, rfl⟩ := e; exact .inr ⟨.nil _, .cons hk hx rfl .nil, rfl, rfl⟩
  | @cons k0 x0 n0 ent es l h1 h2 h3 m ih =>
    intro i es' clk' e
    simp only [putD] at e
    split at e
    · rename_i hq
      simp only [Option.some.injEq, Prod.mk.injEq] at e; obtain ⟨rfl, rfl⟩ := e
      obtain ⟨s1, s2⟩ := keyEq_same hq hk h1
      refine .inl ⟨0, ent, .hit (keyCmp h hk h1 hq), by simp, s1.symm, s2, ?_, rfl, rfl⟩
      exact .cons hk hx h3 m
    · rename_i hq
      have kc := keyCmp (P := P) h hk h1 hq
      cases hr : putD k x clk es with
      | none => rw [hr] at e; cases e
      | some r =>
        rw [hr] at e; simp at e; obtain ⟨rfl, rfl⟩ := e
        rcases ih (i + 1) hr with ⟨j, e', g1, g2, g3, g4, g5, g6, g7⟩ | ⟨g1, g2, g6, g7⟩
        · refine .inl ⟨j + 1, e', ?_, by simpa using g2, g3, g4, ?_, g6, by simp [g7]⟩
          · rw [show i + (j + 1) = i + 1 + j by omega]; exact .miss kc g1
          · simpa using MapR.cons h1 h2 h3 g5
        · refine .inr ⟨.miss kc g1, by simpa using MapR.cons h1 h2 h3 g2, g6, by simp [g7]⟩
    · cases e

theorem del_Fd {P : Program} {kt : TypeId} {I : Im} {w : World} {loc : Nat → Loc} {k : D} {v : Value} (h : keyOk P kt k = true) (hk : DR I k v) :
    ∀ {es : List (D × V × Nat)} {l : List MapEntry} (m : MapR I w loc es l) (i : Nat) {es' : List (D × V × Nat)}, delD k es = some es' →
      (∃ j u, Fd P kt v l i (some (i + j, u)) ∧ j < l.length ∧ MapR I w loc es' (l.eraseIdx j) ∧ es' = es.eraseIdx j) ∨
      (Fd P kt v l i none ∧ es' = es) := by
  intro es l m
  induction m with
  | nil => intro i es' e; simp [delD] at e; subst e; exact .inr ⟨.nil _, rfl⟩
  | @cons k0 x0 n0 ent es l h1 h2 h3 m ih =>
    intro i es' e
    simp only [delD] at e
    split at e
    · rename_i hq
      simp only [Option.some.injEq] at e; subst e
      exact .inl ⟨0, ent.val, .hit (keyCmp h hk h1 hq), by simp, by simpa using m, rfl⟩
    · rename_i hq
      have kc := keyCmp (P := P) h hk h1 hq
      cases hr : delD k es with
      | none => rw [hr] at e; cases e
      | some r =>
        rw [hr] at e; simp at e; subst e
        rcases ih (i + 1) hr with ⟨j, u, g1, g2, g3, g4⟩ | ⟨g1, g2⟩
        · refine .inl ⟨j + 1, u, ?_, by simpa using g2, by simpa using MapR.cons h1 h2 h3 g3, by simp [g4]⟩
          rw [show i + (j + 1) = i + 1 + j by omega]; exact .miss kc g1
        · subst g2
          exact .inr ⟨.miss kc g1, rfl⟩
    · cases e

theorem run_setObj_map {P : Program} {w : World} {b : Nat} {ents : Array MapEntry} {clock : Nat} (h : w.heap[b]? = some (.map ents clock)) (x : Obj) : (setObj b x).run P w = .ok () { w with heap := w.heap.setIfInBounds b x } := by
  simp only [setObj, Sem.run, h]

/-- A map written anew where it lies. -/
theorem write_map {c : Cx} {σ : List Ob} (h : SR c σ) {o b : Nat} (hl : c.loc o = .here b 0 1) {ents : Array MapEntry} {clock : Nat} (hb : c.w.heap[b]? = some (.map ents clock)) {es' : List (D × V × Nat)} {ents' : Array MapEntry} {clock' d : Nat}
    (hm : c.mapR es' ents'.toList) (hn : (es'.map (·.2.2)).Nodup) (hc : ∀ e ∈ es', e.2.2 < clock') :
    SR ⟨{ c.w with heap := c.w.heap.setIfInBounds b (.map ents' clock'), drawn := d }, c.loc, c.hid⟩ (σ.set o (.map es' clock')) ∧ Ext c ⟨{ c.w with heap := c.w.heap.setIfInBounds b (.map ents' clock'), drawn := d }, c.loc, c.hid⟩ := by
  have hlt := (Array.getElem?_eq_some_iff.1 hb).1
  have e1 : ({ c.w with heap := c.w.heap.setIfInBounds b (.map ents' clock'), drawn := d } : World).heap.size = c.w.heap.size := by simp
  have e2 : ∀ b', b' ≠ b → ({ c.w with heap := c.w.heap.setIfInBounds b (.map ents' clock'), drawn := d } : World).heap[b']? = c.w.heap[b']? := fun b' hb' => by
    show (c.w.heap.setIfInBounds b _)[b']? = _
    rw [Array.getElem?_setIfInBounds_ne (Ne.symm hb')]
  have e3 : ∀ (cs : Array Value) (e : TypeId) (f : Nat × Nat), c.w.heap[b]? = some (.cells cs e f) → ∃ (cs' : Array Value) (f' : Nat × Nat), ({ c.w with heap := c.w.heap.setIfInBounds b (.map ents' clock'), drawn := d } : World).heap[b]? = some (.cells cs' e f') ∧ cs'.size = cs.size := by
    intro cs e f q; rw [hb] at q; cases q
  have hE := Ext.write hl _ e1 e2 e3
  refine ⟨SR.write h hl _ e1 e2 e3 (.map es' clock') ⟨b, rfl, ents', ?_, hE.mapR hm, hn, hc⟩, hE⟩
  show (c.w.heap.setIfInBounds b _)[b]? = _
  simp [hlt]

def mapUpdateF (P : Program) (t : TypeId) (σ : List Ob) (m k x : V) : Option (List Ob) :=
  match mapT P t, m, keyV k with
  | some (kt, _), .mp o, some k => if keyOk P kt k then
      match σ[o]? with
      | some (.map es clk) => (putD k x clk es).map fun p => σ.set o (.map p.1 p.2)
      | _ => none
    else none
  | _, _, _ => none

theorem mapUpdateF_sound {P : Program} {t : TypeId} {c : Cx} {σ σ' : List Ob} (h : SR c σ) {m k x : V} {vm vk vx : Value} (e : mapUpdateF P t σ m k x = some σ') (hm : c.vr m vm) (hk : c.vr k vk) (hx : c.vr x vx) : SemOkU P (Instr.mapUpdate t vm vk vx) c σ' := by
  unfold mapUpdateF at e
  split at e
  · rename_i kt et o k ht hkv
    have hu := mapT_some ht
    have hk := keyV_dr hkv hk
    split at e
    · rename_i hko
      obtain ⟨td, htd⟩ := keyOk_some hko
      split at e
      · rename_i es clk hes
        cases hp : putD k x clk es with
        | none => rw [hp] at e; cases e
        | some pq =>
          obtain ⟨es', clk'⟩ := pq
          rw [hp] at e; simp at e; subst e
          obtain ⟨b, ents, hl, rfl, h1, h2, h3, h4⟩ := map_at h hes hm
          have hstamp : ∀ (l : List (D × V × Nat)) (n : Nat), (∀ q ∈ l.map (·.2.2), q < n) → ∀ e ∈ l, e.2.2 < n := fun l n hq e he => hq _ (List.mem_map.2 ⟨e, he, rfl⟩)
          have h4' : ∀ q ∈ es.map (·.2.2), q < clk := fun q hq => by
            obtain ⟨e, he, rfl⟩ := List.mem_map.1 hq
            exact h4 e he
          rcases put_Fd (P := P) hko hk hx h2 0 hp with ⟨j, ent, g1, g2, g3, g4, g5, g6, g7⟩ | ⟨g1, g2, g6, g7⟩
          · have hj := (List.getElem?_eq_some_iff.1 g2).1
            have ej : ents[j]? = some ent := by simpa using g2
            have hmod : (ents.modify j fun e => { e with key := vk, val := vx }).toList = ents.toList.set j { ent with key := vk, val := vx } := by
              apply List.ext_getElem?
              intro q
              rw [Array.getElem?_toList, Array.getElem?_modify, List.getElem?_set]
              by_cases hq : j = q
              · subst hq
                simp [ej]
                have := (Array.getElem?_eq_some_iff.1 ej).1
                exact this
              · simp [hq]
            subst g6
            obtain ⟨k1, k2⟩ := write_map h hl h1 (es' := es') (ents' := ents.modify j fun e => { e with key := vk, val := vx }) (clock' := clk') (d := c.w.drawn) (by rw [hmod]; exact g5) (by rw [g7]; exact h3) (hstamp _ _ (by rw [g7]; exact h4'))
            refine ⟨_, c.loc, ?_, k1, k2⟩
            simp only [Nat.zero_add] at g1
            simp only [Instr.mapUpdate, Sem.run_bind, run_underlying hu, Result.andThen_ok, run_getObj_map h1, keyOk_checks hko hk, g1.run htd, ej, Option.map_some, Option.getD_some, Instr.keyThatStays, g4, if_true, Sem.run_pure]
            exact run_setObj_map h1 _
          · subst g6
            obtain ⟨k1, k2⟩ := write_map h hl h1 (es' := es') (ents' := ents.push { key := vk, val := vx, born := clk }) (clock' := clk + 1) (d := c.w.drawn) (by simpa using g2)
              (by
                rw [g7]
                refine List.nodup_append.2 ⟨h3, by simp, ?_⟩
                intro a ha b' hb' hab
                simp at hb'; subst hb'; subst hab
                have := h4' _ ha
                omega)
              (hstamp _ _ (by
                rw [g7]
                intro q hq
                rcases List.mem_append.1 hq with hq | hq
                · have := h4' q hq; omega
                · simp at hq; omega))
            refine ⟨_, c.loc, ?_, k1, k2⟩
            simp only [Instr.mapUpdate, Sem.run_bind, run_underlying hu, Result.andThen_ok, run_getObj_map h1, keyOk_checks hko hk, g1.run htd]
            exact run_setObj_map h1 _
      · cases e
    · cases e
  · cases e

/-- The entry of a key, which is made where there is none: its value and its stamp. -/
def mapEntryF (P : Program) (t : TypeId) (σ : List Ob) (m k : V) : Option (V × List Ob) :=
  match mapT P t, m, keyV k with
  | some (kt, et), .mp o, some k => if keyOk P kt k then
      match σ[o]? with
      | some (.map es clk) => match findD k es 0 with
        | some (some (i, x)) => match es[i]? with
          | some (_, _, n) => some (.tup [x, .d (.int .i64 (n : Nat))], σ.set o (.map es clk))
          | none => none
        | some none => match zeroV P et with
          | some z => some (.tup [z, .d (.int .i64 (clk : Nat))], σ.set o (.map (es ++ [(k, z, clk)]) (clk + 1)))
          | none => none
        | none => none
      | _ => none
    else none
  | _, _, _ => none

theorem MapR.get {I : Im} {w : World} {loc : Nat → Loc} {es : List (D × V × Nat)} {l : List MapEntry} (m : MapR I w loc es l) : ∀ {j : Nat} {k : D} {x : V} {n : Nat}, es[j]? = some (k, x, n) → ∃ e, l[j]? = some e ∧ DR I k e.key ∧ VR I w loc x e.val ∧ e.born = n := by
  induction m with
  | nil => intro j k x n h; simp at h
  | @cons k0 x0 n0 ent es l h1 h2 h3 m ih =>
    intro j k x n h
    cases j with
    | zero => simp at h; obtain ⟨rfl, rfl, rfl⟩ := h; exact ⟨ent, rfl, h1, h2, h3⟩
    | succ j => simpa using ih (by simpa using h)

theorem MapR.snoc {I : Im} {w : World} {loc : Nat → Loc} {es : List (D × V × Nat)} {l : List MapEntry} (m : MapR I w loc es l) {k : D} {x : V} {n : Nat} {v u : Value} (hk : DR I k v) (hx : VR I w loc x u) : MapR I w loc (es ++ [(k, x, n)]) (l ++ [⟨v, u, n⟩]) := by
  induction m with
  | nil => exact .cons hk hx rfl .nil
  | cons h1 h2 h3 m ih => exact .cons h1 h2 h3 ih

theorem mapEntryF_sound {P : Program} {t : TypeId} {c : Cx} {σ σ' : List Ob} (h : SR c σ) {m k r : V} {vm vk : Value} (e : mapEntryF P t σ m k = some (r, σ')) (hm : c.vr m vm) (hk : c.vr k vk) : SemOk P (Instr.mapEntry t vm vk) c r σ' := by
  unfold mapEntryF at e
  split at e
  · rename_i kt et o k ht hkv
    have hu := mapT_some ht
    have hk := keyV_dr hkv hk
    split at e
    · rename_i hko
      obtain ⟨td, htd⟩ := keyOk_some hko
      split at e
      · rename_i es clk hes
        obtain ⟨b, ents, hl, rfl, h1, h2, h3, h4⟩ := map_at h hes hm
        split at e
        · rename_i i x hf
          split at e
          · rename_i kx x' n hi
            simp only [Option.some.injEq, Prod.mk.injEq] at e
            obtain ⟨rfl, rfl⟩ := e
            obtain ⟨r', g1, g2⟩ := Fd_findD (P := P) hko hk h2 0 hf
            cases r' with
            | none => exact g2.elim
            | some q =>
              obtain ⟨j', u⟩ := q
              obtain ⟨rfl, g3, _, k', n', g5, g6⟩ := g2
              rw [Nat.sub_zero, hi] at g5
              simp only [Option.some.injEq, Prod.mk.injEq] at g5
              obtain ⟨rfl, rfl, rfl⟩ := g5
              obtain ⟨ent, e1, e2, e3, e4⟩ := h2.get hi
              obtain ⟨s1, s2⟩ := keyEq_same g6 hk e2
              have ej : ents[i]? = some ent := by simpa using e1
              have hmod : (ents.modify i fun e => { e with key := vk }) = ents := by
                apply Array.ext'
                apply List.ext_getElem?
                intro q
                rw [Array.getElem?_toList, Array.getElem?_toList, Array.getElem?_modify]
                by_cases hq : i = q
                · subst hq
                  simp only [if_true, ej, Option.map_some, Option.some.injEq]
                  rw [s1]
                · simp [hq]
              obtain ⟨k1, k2⟩ := write_map h hl h1 (es' := es) (ents' := ents) (clock' := clk) (d := c.w.drawn) h2 h3 h4
              refine ⟨.tuple #[u, goInt (n : Nat)], _, c.loc, ?_, k1, k2, ?_⟩
              · simp only [Instr.mapEntry, Sem.run_bind, run_underlying hu, Result.andThen_ok, run_getObj_map h1, keyOk_checks hko hk, g1.run htd, ej, Option.map_some, Option.getD_some, Instr.keyThatStays, s2, if_true, Sem.run_pure, hmod, run_setObj_map h1, e4]
              · simp only [Cx.vr, VR, VRs]
                exact ⟨[u, goInt (n : Nat)], rfl, u, _, rfl, k2.vr g3, _, [], rfl, by simp [DR, goInt], rfl⟩
          · cases e
        · rename_i hf
          split at e
          · rename_i z hz
            simp only [Option.some.injEq, Prod.mk.injEq] at e
            obtain ⟨rfl, rfl⟩ := e
            obtain ⟨r', g1, g2⟩ := Fd_findD (P := P) hko hk h2 0 hf
            obtain ⟨zv, z1, rfl, _⟩ := zeroV_some hz c.w
            cases r' with
            | some q => exact g2.elim
            | none =>
              obtain ⟨k1, k2⟩ := write_map h hl h1 (es' := es ++ [(k, ofConst zv, clk)]) (ents' := ents.push { key := vk, val := zv, born := clk }) (clock' := clk + 1) (d := c.w.drawn)
                (by simpa using h2.snoc hk (VR_ofConst _ _ _ _))
                (by
                  rw [List.map_append]
                  refine List.nodup_append.2 ⟨h3, by simp, ?_⟩
                  intro a ha b' hb' hab
                  simp at hb'; subst hb'; subst hab
                  obtain ⟨e, he, rfl⟩ := List.mem_map.1 ha
                  have := h4 e he
                  omega)
                (by
                  intro e he
                  rcases List.mem_append.1 he with he | he
                  · have := h4 e he; omega
                  · simp at he; subst he; simp)
              refine ⟨.tuple #[zv, goInt (clk : Nat)], _, c.loc, ?_, k1, k2, ?_⟩
              · simp only [Instr.mapEntry, Sem.run_bind, run_underlying hu, Result.andThen_ok, run_getObj_map h1, keyOk_checks hko hk, g1.run htd, z1, run_setObj_map h1, Sem.run_pure]
              · simp only [Cx.vr, VR, VRs]
                exact ⟨[zv, goInt (clk : Nat)], rfl, zv, _, rfl, VR_ofConst _ _ _ _, _, [], rfl, by simp [DR, goInt], rfl⟩
          · cases e
        · cases e
      · cases e
    · cases e
  · cases e

def stampD (n : Int) (x : V) : List (D × V × Nat) → Option (List (D × V × Nat))
  | [] => none
  | (k, y, m) :: r => if (m : Int) = n then some ((k, x, m) :: r) else (stampD n x r).map ((k, y, m) :: ·)

def entryStoreF (P : Program) (σ : List Ob) (m s x : V) : Option (List Ob) :=
  match m, s with
  | .mp o, .d (.int .i64 n) => match σ[o]? with
    | some (.map es clk) => (stampD n x es).map fun es' => σ.set o (.map es' clk)
    | _ => none
  | _, _ => none

theorem stamp_find {I : Im} {w : World} {loc : Nat → Loc} {x : V} {vx : Value} (hx : VR I w loc x vx) {n : Int} {es : List (D × V × Nat)} {l : List MapEntry} (m : MapR I w loc es l) : ∀ {es' : List (D × V × Nat)}, stampD n x es = some es' →
    ∃ j e, l.findIdx? (fun e => (e.born : Int) == n) = some j ∧ l[j]? = some e ∧ MapR I w loc es' (l.set j { e with val := vx }) ∧ es'.map (·.2.2) = es.map (·.2.2) := by
  induction m with
  | nil => intro es' h; simp [stampD] at h
  | @cons k0 x0 n0 ent es l h1 h2 h3 m ih =>
    intro es' h
    simp only [stampD] at h
    split at h
    · rename_i q
      simp only [Option.some.injEq] at h; subst h
      refine ⟨0, ent, ?_, rfl, .cons h1 hx h3 m, rfl⟩
      simp [List.findIdx?_cons, h3, q]
    · rename_i q
      cases hr : stampD n x es with
      | none => rw [hr] at h; cases h
      | some r =>
        rw [hr] at h; simp at h; subst h
        obtain ⟨j, e, g1, g2, g3, g4⟩ := ih hr
        refine ⟨j + 1, e, ?_, by simpa using g2, by simpa using MapR.cons h1 h2 h3 g3, by simp [g4]⟩
        simp [List.findIdx?_cons, h3, q, g1]

theorem entryStoreF_sound {P : Program} (t : TypeId) {c : Cx} {σ σ' : List Ob} (h : SR c σ) {m s x : V} {vm vs vx : Value} (e : entryStoreF P σ m s x = some σ') (hm : c.vr m vm) (hs : c.vr s vs) (hx : c.vr x vx) : SemOkU P (Instr.entryStore t vm vs vx) c σ' := by
  unfold entryStoreF at e
  split at e
  · rename_i o n
    split at e
    · rename_i es clk hes
      cases hp : stampD n x es with
      | none => rw [hp] at e; cases e
      | some es' =>
        rw [hp] at e; simp at e; subst e
        obtain ⟨b, ents, hl, rfl, h1, h2, h3, h4⟩ := map_at h hes hm
        simp only [Cx.vr, VR, DR] at hs; subst hs
        obtain ⟨j, ent, g1, g2, g3, g4⟩ := stamp_find hx h2 hp
        have ej : ents[j]? = some ent := by simpa using g2
        have hmod : (ents.modify j fun e => { e with val := vx }).toList = ents.toList.set j { ent with val := vx } := by
          apply List.ext_getElem?
          intro q
          rw [Array.getElem?_toList, Array.getElem?_modify, List.getElem?_set]
          by_cases hq : j = q
          · subst hq
            simp [ej]
            have := (Array.getElem?_eq_some_iff.1 ej).1
            exact this
          · simp [hq]
        have hfi : ents.findIdx? (fun e => (e.born : Int) == n) = some j := by
          have q := List.findIdx?_toArray (fun e : MapEntry => (e.born : Int) == n) ents.toList
          rw [Array.toArray_toList] at q
          rw [q, g1]
        obtain ⟨k1, k2⟩ := write_map h hl h1 (es' := es') (ents' := ents.modify j fun e => { e with val := vx }) (clock' := clk) (d := c.w.drawn) (by rw [hmod]; exact g3) (by rw [g4]; exact h3)
          (by
            intro e he
            have hq : e.2.2 ∈ es'.map (·.2.2) := List.mem_map.2 ⟨e, he, rfl⟩
            rw [g4] at hq
            obtain ⟨e', he', hq⟩ := List.mem_map.1 hq
            rw [← hq]; exact h4 e' he')
        refine ⟨_, c.loc, ?_, k1, k2⟩
        have hn : (asInt (.int .i64 n)).run P c.w = .ok n c.w := by simp [asInt, asIntOf]
        simp only [Instr.entryStore, Sem.run_bind, Result.andThen_ok, run_getObj_map h1, hn, hfi]
        exact run_setObj_map h1 _
    · cases e
  · cases e

def deleteF (P : Program) (t : TypeId) (σ : List Ob) (m k : V) : Option (List Ob) :=
  match mapT P t, keyV k with
  | some (kt, _), some k => if keyOk P kt k then
      match m with
      | .mp o => match σ[o]? with
        | some (.map es clk) => (delD k es).map fun es' => σ.set o (.map es' clk)
        | _ => none
      | .d .nilm => some σ
      | _ => none
    else none
  | _, _ => none

theorem deleteF_sound {P : Program} {t ty : TypeId} {c : Cx} {σ σ' : List Ob} (h : SR c σ) {m k : V} {vm vk : Value} (e : deleteF P t σ m k = some σ') (hm : c.vr m vm) (hk : c.vr k vk) : SemOk P (Builtin.delete_ #[t] ty #[vm, vk]) c (.tup []) σ' := by
  have htup : ∀ c' : Cx, c'.vr (.tup []) (.tuple #[]) := fun c' => by simp only [Cx.vr, VR, VRs]; exact ⟨[], rfl, rfl⟩
  unfold deleteF at e
  split at e
  · rename_i kt et k ht hkv
    have hu := mapT_some ht
    have hk := keyV_dr hkv hk
    split at e
    · rename_i hko
      obtain ⟨td, htd⟩ := keyOk_some hko
      split at e
      · rename_i o
        split at e
        · rename_i es clk hes
          cases hp : delD k es with
          | none => rw [hp] at e; cases e
          | some es' =>
            rw [hp] at e; simp at e; subst e
            obtain ⟨b, ents, hl, rfl, h1, h2, h3, h4⟩ := map_at h hes hm
            rcases del_Fd (P := P) hko hk h2 0 hp with ⟨j, u, g1, g2, g3, g4⟩ | ⟨g1, rfl⟩
            · have hj : j < ents.size := by simpa using g2
              have her : (ents.eraseIdxIfInBounds j).toList = ents.toList.eraseIdx j := by simp [Array.eraseIdxIfInBounds, hj]
              obtain ⟨k1, k2⟩ := write_map h hl h1 (es' := es') (ents' := ents.eraseIdxIfInBounds j) (clock' := clk) (d := c.w.drawn) (by rw [her]; exact g3)
                (by rw [g4]; exact h3.sublist (List.Sublist.map _ (List.eraseIdx_sublist _ _)))
                (by rw [g4]; intro e he; exact h4 e (List.mem_of_mem_eraseIdx he))
              refine ⟨.tuple #[], _, c.loc, ?_, k1, k2, htup _⟩
              simp only [Nat.zero_add] at g1
              simp only [Builtin.delete_, List.getElem?_toArray, List.getElem?_cons_zero, List.getElem?_cons_succ, Sem.run_bind, run_underlying hu, Result.andThen_ok, run_getObj_map h1, keyOk_checks hko hk, g1.run htd, run_setObj_map h1, Sem.run_pure]
            · obtain ⟨k1, k2⟩ := write_map h hl h1 (es' := es') (ents' := ents) (clock' := clk) (d := c.w.drawn) h2 h3 h4
              refine ⟨.tuple #[], _, c.loc, ?_, k1, k2, htup _⟩
              simp only [Builtin.delete_, List.getElem?_toArray, List.getElem?_cons_zero, List.getElem?_cons_succ, Sem.run_bind, run_underlying hu, Result.andThen_ok, run_getObj_map h1, keyOk_checks hko hk, g1.run htd, run_setObj_map h1, Sem.run_pure]
        · cases e
      · simp only [Option.some.injEq] at e; subst e
        simp only [Cx.vr, VR, DR] at hm; subst hm
        refine ⟨.tuple #[], c.w, c.loc, ?_, h, Ext.refl c, htup _⟩
        simp only [Builtin.delete_, List.getElem?_toArray, List.getElem?_cons_zero, List.getElem?_cons_succ, Sem.run_bind, run_underlying hu, Result.andThen_ok, keyOk_checks hko hk, Sem.run_pure]
      · cases e
    · cases e
  · cases e

theorem makeMap_sound {P : Program} {t : TypeId} {c : Cx} {σ : List Ob} (h : SR c σ) : SemOk P (Instr.makeMap t none) c (.mp σ.length) (σ ++ [.map [] 0]) := by
  have e1 : ({ c.w with heap := c.w.heap.push (.map #[] 0) } : World).heap.size = c.w.heap.size + 1 := by simp
  have e2 : ∀ b, b < c.w.heap.size → ({ c.w with heap := c.w.heap.push (.map #[] 0) } : World).heap[b]? = c.w.heap[b]? := fun b hb => heap_push_lt hb
  refine ⟨.map (some c.w.heap.size), _, upd c.loc σ.length (.here c.w.heap.size 0 1), ?_, SR.new h _ e1 e2 1 (.map [] 0) ⟨c.w.heap.size, rfl, #[], heap_push_at, .nil, by simp, by simp⟩, Ext.new h _ e1 e2 1, ?_⟩
  · simp only [Instr.makeMap, Sem.run_bind, Sem.run_pure, Result.andThen_ok, run_newObj]
  · simp [Cx.vr, VR]

/-! ### text turned into bytes -/
def strBytesF (P : Program) (src dst : TypeId) (σ : List Ob) : V → Option (V × List Ob)
  | .d (.str s) => match elemOfSlice P dst with
    | some e => if isStrT P src = true ∧ intT P e = some .u8 ∧ szOf P e = 1 then some (.sl σ.length 0 s.length, σ ++ [.arr 1 true (s.map u8D)]) else none
    | none => none
  | _ => none

theorem freeze_push {w : World} {cs : Array Value} {e : TypeId} {d : Nat} : ({ w with heap := w.heap.push (.cells cs e), drawn := d } : World).freeze { block := w.heap.size, off := cs.size } 1 = { w with heap := w.heap.push (.cells cs e (cs.size, cs.size + 1)), drawn := d } := by
  unfold World.freeze
  simp only [Nat.one_ne_zero, if_false]
  congr 1
  apply Array.ext'
  apply List.ext_getElem?
  intro j
  simp only [Array.getElem?_toList]
  rw [Array.getElem?_modify, Array.getElem?_push, Array.getElem?_push]
  by_cases h : w.heap.size = j
  · subst h; simp
  · simp [h, Ne.symm h]

theorem strBytesF_sound {P : Program} {src dst : TypeId} {c : Cx} {σ σ' : List Ob} (h : SR c σ) {x r : V} {vx : Value} (e : strBytesF P src dst σ x = some (r, σ')) (hx : c.vr x vx) : SemOk P (convert src dst vx) c r σ' := by
  unfold strBytesF at e
  split at e
  · rename_i s
    split at e
    · rename_i el hel
      split at e
      · rename_i hq
        simp only [Option.some.injEq, Prod.mk.injEq] at e
        obtain ⟨rfl, rfl⟩ := e
        have hu := elemOfSlice_some hel
        simp only [Cx.vr, VR, DR] at hx; subst hx
        have hdr : DRs c.im (s.map u8D) (s.map fun b => Value.int .u8 b.toNat) := by
          clear hel
          induction s with
          | nil => simp [DRs]
          | cons b s ih => simp only [List.map_cons, DRs, u8D, DR]; exact ⟨_, _, rfl, rfl, ih⟩
        have hfl : ∀ u ∈ s.map (fun b => Value.int .u8 b.toNat), Flat u 1 := by
          intro u hu
          obtain ⟨b, _, rfl⟩ := List.mem_map.1 hu
          exact ⟨rfl, by simp [Value.cells, Value.oneCell']⟩
        let cap := (Question.appendCap s.length 0 el).cut (c.w.tape c.w.drawn (.appendCap s.length 0 el))
        have hcap : s.length ≤ cap := by simp [cap, Question.cut]
        have hflat : (flat (s.map fun b => Value.int .u8 b.toNat)) = s.map fun b => Value.int .u8 b.toNat := by
          unfold flat
          clear hcap hel hdr hfl
          induction s with
          | nil => rfl
          | cons b s ih => simp only [List.map_cons, List.flatMap_cons, ih]; rfl
        have hlen : ((flat (s.map fun b => Value.int .u8 b.toNat)) ++ List.replicate (cap - s.length) (Value.int .u8 0)).length = cap := by
          rw [hflat]; simp; omega
        obtain ⟨k1, k2, k3⟩ := new_arr h (by omega) hdr hfl (List.replicate (cap - s.length) (Value.int .u8 0)) el cap (c.w.drawn + 1) true (by simp; omega) (by simpa using hcap) (cap, cap + 1)
          (by rw [hlen]; exact ⟨by simp, fun i hi hh => by simp only at hh; omega⟩) (by intro q; cases q)
        rw [List.length_map] at k3
        refine ⟨_, _, _, ?_, k1, k2, k3⟩
        have hqf : (Question.appendCap s.length 0 el).forced = false := rfl
        have harr : (s.map fun b => Value.int .u8 (b.toNat : Int)).toArray ++ Array.replicate (cap - s.length) (Value.int .u8 0) = ((flat (s.map fun b => Value.int .u8 b.toNat)) ++ List.replicate (cap - s.length) (Value.int .u8 0)).toArray := by
          rw [hflat]; apply Array.ext'; simp
        have hsz : ((flat (s.map fun b => Value.int .u8 b.toNat)) ++ List.replicate (cap - s.length) (Value.int .u8 0)).toArray.size = cap := by rw [List.size_toArray, hlen]
        have hfz := freeze_push (w := c.w) (cs := ((flat (s.map fun b => Value.int .u8 b.toNat)) ++ List.replicate (cap - s.length) (Value.int .u8 0)).toArray) (e := el) (d := c.w.drawn + 1)
        rw [hsz] at hfz
        have hshape : ({ c.w with heap := c.w.heap.push (.cells ((flat (s.map fun b => Value.int .u8 b.toNat)) ++ List.replicate (cap - s.length) (Value.int .u8 0)).toArray el), drawn := c.w.drawn + 1 } : World).shape? c.w.heap.size = some (el, cap) := by
          simp only [World.shape?, Array.getElem?_push_size, hsz]
        simp only [convert, Sem.run_bind, run_underlying (isStrT_some hq.1), run_underlying hu, run_underlying (intT_some hq.2.1), Result.andThen_ok, Conv.stringToBytes, size_mk, run_choose, hqf, Bool.false_eq_true, if_false]
        show ((newRow el _).run P _).andThen _ = _
        have hmap : (⟨s.toArray⟩ : ByteArray).data.map (fun b => Value.int .u8 (b.toNat : Int)) = (s.map fun b => Value.int .u8 (b.toNat : Int)).toArray := by simp
        rw [hmap, harr]
        simp only [newRow, Sem.run_bind, run_newObj, Result.andThen_ok, Sem.run_pure, markStringish, run_shape, hshape, run_freeze]
        rw [hfz]
      · cases e
    · cases e
  · cases e

/-! ### append of elements that hold references -/
def srcV (P : Program) (e : TypeId) (σ : List Ob) (tx : TypeId) : V → Option (List V × Nat)
  | .sl o off len => match σ[o]? with
    | some (.vec sz cs) => if isSliceT P tx = true ∧ sz = szOf P e ∧ (off + len) * sz ≤ cs.length ∧ ((cs.drop (off * sz)).take (len * sz)).all (one σ) = true then some ((cs.drop (off * sz)).take (len * sz), len) else none
    | _ => none
  | _ => none

theorem srcV_sound {P : Program} {e tx : TypeId} {c : Cx} {σ : List Ob} (h : SR c σ) {x : V} {xs : List V} {m : Nat} (hx : srcV P e σ tx x = some (xs, m)) {vx : Value} (r : c.vr x vx) : ∃ fs, c.vrs xs fs ∧ Src P (szOf P e) tx vx m fs c.w := by
  unfold srcV at hx
  split at hx
  · rename_i o off len
    split at hx
    · rename_i sz cs hes
      split at hx
      · rename_i hq
        obtain ⟨ht, rfl, hle, hone⟩ := hq
        simp only [Option.some.injEq, Prod.mk.injEq] at hx
        obtain ⟨rfl, rfl⟩ := hx
        obtain ⟨el, hu⟩ := isSliceT_some ht
        obtain ⟨b, base, hl, h0, arr, ty, f, h1, h2, us, hule, hat, h3⟩ := h.get hes
        simp only [Cx.vr, VR, hl] at r
        obtain ⟨a, cap, rfl, g1, g2, _⟩ := r
        have hv := VRs_take (VRs_drop h3 (off * szOf P e)) (len * szOf P e)
        have hul := VRs_length h3
        rw [Nat.add_mul] at hle
        have hfl : ((us.drop (off * szOf P e)).take (len * szOf P e)).length = len * szOf P e := by
          rw [List.length_take, List.length_drop]; omega
        refine ⟨_, hv, Src.ofSlice c.w hu ⟨b, a, none⟩ len cap _ hfl (fun j u hj => ?_) (vrs_one h hv hone)⟩
        have hjl : j < len * szOf P e := by have := (List.getElem?_eq_some_iff.1 hj).1; omega
        have hlp : 0 < len := by
          rcases Nat.eq_zero_or_pos len with q | q
          · subst q; rw [Nat.zero_mul] at hjl; omega
          · exact q
        have ha := g2 (by omega)
        rw [Addr.add_lit, ha, cell?_cells h1, Nat.add_assoc, hat _ (by omega)]
        rw [List.getElem?_take, if_pos hjl, List.getElem?_drop] at hj
        exact hj
      · cases hx
    · cases hx
  · cases hx

def appendVecF (P : Program) (t tx : TypeId) (σ : List Ob) (dst src : V) : Option (V × List Ob) :=
  match elemOfSlice P t with
  | some e => if elemOk P e = true then
      match srcV P e σ tx src with
      | some (xs, m) => match dst with
        | .d .nils => if 0 < m ∧ m * bytesT P e ≤ 70368744177664 ∧ bytesT P e ≤ 16384 then some (.sl σ.length 0 m, σ ++ [.vec (szOf P e) xs]) else none
        | .sl o off len => match σ[o]? with
          | some (.vec sz cs) => if sz = szOf P e ∧ m = 0 then some (.sl o off len, σ)
            else if sz = szOf P e ∧ (off + len + m) * sz ≤ cs.length then some (.sl o off (len + m), σ.set o (.vec sz (setAt cs ((off + len) * sz) xs)))
            else if off = 0 ∧ sz = szOf P e ∧ len * sz ≤ cs.length ∧ (len + m) * bytesT P e ≤ 70368744177664 ∧ bytesT P e ≤ 16384 then
              some (.sl σ.length 0 (len + m), σ.set o .dead ++ [.vec sz (cs.take (len * sz) ++ xs)]) else none
          | _ => none
        | _ => none
      | none => none
    else none
  | none => none

/-- The part of such an append where a new row is made. -/
theorem append_growV {P : Program} {t tx ty e : TypeId} {c : Cx} {σ : List Ob} (h : SR c σ) {i : TypeInfo} {z : Value} (ht : P.underlying t = some (.slice e)) (hi : P.info? e = some i) (hz : i.zero = some z) (hzs : z.cells.size = i.size) (h0 : 0 < i.size) (hb : 0 < i.bytes)
    {vx : Value} {xs : List V} {m : Nat} {fs : List Value} (hx : c.vrs xs fs) (s : Src P i.size tx vx m fs c.w) {base : Option Addr} {sLen sCap : Nat} {olds : List V} {ofs : List Value} (ho : c.vrs olds ofs) (hol : ofs.length = sLen * i.size)
    (hold : (Builtin.firstCells i.size sLen (.slice base sLen sCap)).run P c.w.drew = .ok ofs.toArray c.w.drew) (hg : sCap < sLen + m)
    (hfit : Builtin.nextslicecap (sLen + m) sCap * i.bytes ≤ 281474976710656) :
    SemOk P (Builtin.append_ #[t, tx] ty #[.slice base sLen sCap, vx]) c (.sl σ.length 0 (sLen + m)) (σ ++ [.vec i.size (olds ++ xs)]) := by
  have hneed := le_nextslicecap hg
  have h63 : ((sLen + m : Nat) : Int) ≤ 9223372036854775807 := by
    have : sLen + m ≤ Builtin.nextslicecap (sLen + m) sCap * i.bytes := Nat.le_trans hneed (Nat.le_mul_of_pos_right _ hb)
    omega
  have hrun := run_append_grow_src (P := P) c.w t tx ty e i z ht hi hz base sLen sCap ofs hold vx m fs s hg h63 hfit
  have hge := grownCap_ge c.w (sLen + m) sCap e
  have hzl : (Builtin.zeroCells z.cells (grownCap c.w (sLen + m) sCap e - (sLen + m))).toList.length = (grownCap c.w (sLen + m) sCap e - (sLen + m)) * i.size := by simp [zeroCells_size, hzs]
  have hfl := s.newsLen
  have l1 := VRs_length ho
  have l2 := VRs_length hx
  obtain ⟨k1, k2, k3⟩ := new_vec h (vrs_append ho hx) e (c.w.drawn + 1) i.size h0 (Builtin.zeroCells z.cells (grownCap c.w (sLen + m) sCap e - (sLen + m))).toList (sLen + m) (grownCap c.w (sLen + m) sCap e)
    (by rw [List.length_append, Nat.add_mul]; omega) (by rw [hzl, List.length_append, hol, hfl, ← Nat.add_mul, ← Nat.add_mul]; congr 1; omega) hge
  refine ⟨_, _, _, ?_, k1, k2, k3⟩
  rw [hrun]
  congr 1
  show World.alloc _ _ = _
  unfold World.alloc World.drew
  congr 2
  congr 1
  apply Array.ext'
  simp

theorem appendVecF_sound {P : Program} {t tx ty : TypeId} {c : Cx} {σ σ' : List Ob} (h : SR c σ) {dst src r : V} {vd vx : Value} (e : appendVecF P t tx σ dst src = some (r, σ')) (hd : c.vr dst vd) (hx : c.vr src vx) :
    SemOk P (Builtin.append_ #[t, tx] ty #[vd, vx]) c r σ' := by
  unfold appendVecF at e
  split at e
  · rename_i el hel
    have hu := elemOfSlice_some hel
    split at e
    · rename_i hk
      obtain ⟨i, z, hi, hz, hzs, h0, hb, hsz⟩ := elemOk_some hk
      split at e
      · rename_i xs m hxs
        obtain ⟨fs, hfs, s⟩ := srcV_sound h hxs hx
        rw [hsz] at s
        split at e
        · split at e
          case isFalse => cases e
          rename_i hcap
          have hm := hcap.1
          simp only [Option.some.injEq, Prod.mk.injEq] at e
          obtain ⟨rfl, rfl⟩ := e
          simp only [Cx.vr, VR, DR] at hd; subst hd
          rw [hsz]
          have hp : Builtin.nextslicecap (0 + m) 0 * i.bytes ≤ 281474976710656 := cap_fits (by omega) (by rw [Nat.zero_add]; simpa [bytesT, hi] using hcap.2.1) (by simpa [bytesT, hi] using hcap.2.2)
          have := append_growV h (ty := ty) hu hi hz hzs h0 hb hfs s (base := none) (sLen := 0) (sCap := 0) (olds := []) (ofs := []) (by simp [Cx.vrs, VRs]) (by simp) (by simp [Builtin.firstCells]) (by omega) hp
          simpa using this
        · rename_i o off len
          split at e
          · rename_i sz cs hes
            split at e
            · rename_i hq
              obtain ⟨rfl, rfl⟩ := hq
              simp only [Option.some.injEq, Prod.mk.injEq] at e
              obtain ⟨rfl, rfl⟩ := e
              have hfs0 : fs = [] := List.eq_nil_of_length_eq_zero (by have := s.newsLen; simpa using this)
              subst hfs0
              obtain ⟨b, base, hl, _, _⟩ := h.get hes
              have hd' := hd
              simp only [Cx.vr, VR, hl] at hd
              obtain ⟨a, cap, rfl, g1, g2, _⟩ := hd
              have hrun := run_append_room_src (P := P) c.w t tx ty el i hu hi b a len cap vx 0 [] s (by omega) (fun j hj => by simp at hj) (fun j hj => by simp at hj)
              exact ⟨_, c.w, c.loc, hrun, h, Ext.refl c, hd'⟩
            rename_i hm0
            split at e
            · rename_i hq
              obtain ⟨rfl, hfit⟩ := hq
              have hm : 0 < m := by
                rcases Nat.eq_zero_or_pos m with q | q
                · exact absurd ⟨rfl, q⟩ hm0
                · exact q
              simp only [Option.some.injEq, Prod.mk.injEq] at e
              obtain ⟨rfl, rfl⟩ := e
              rw [hsz] at hes hfit ⊢
              obtain ⟨b, base, hl, _, arr, ty', f, h1, h2, us, hule, hat, h3⟩ := h.get hes
              have hul := VRs_length h3
              have hd' := hd
              simp only [Cx.vr, VR, hl] at hd
              obtain ⟨a, cap, rfl, g1, g2, cs', e', f', hh, g3, g4⟩ := hd
              rw [h1] at hh
              simp only [Option.some.injEq, Obj.cells.injEq] at hh
              obtain ⟨rfl, rfl, rfl⟩ := hh
              have hroom : len + m ≤ cap := by
                have : (off + len + m) * i.size ≤ (off + cap) * i.size := by omega
                have := Nat.le_of_mul_le_mul_right this h0
                omega
              have ha := g2 (by omega)
              subst ha
              have hfl := s.newsLen
              have hxl := VRs_length hfs
              have hpos : base + off * i.size + len * i.size = base + (off + len) * i.size := by rw [Nat.add_mul]; omega
              have hfit' : (off + len) * i.size + m * i.size ≤ cs.length := by rw [← Nat.add_mul]; exact hfit
              have hrun := run_append_room_src (P := P) c.w t tx ty el i hu hi b (base + off * i.size) len cap vx m fs s hroom
                (fun j hj => by rw [cell?_cells h1, Array.getElem?_eq_getElem (by omega)]; rfl) (fun j hj => frozen_no h1 h2 (by omega))
              rw [hpos] at hrun
              obtain ⟨k1, k2, k3⟩ := vec_write h hl h0 h1 h2 hule hat h3 hfs (kk := (off + len) * i.size) (by omega)
              refine ⟨_, _, c.loc, hrun, k1, k2, ?_⟩
              simp only [Cx.vr, VR, hl]
              exact ⟨_, cap, rfl, hroom, fun _ => rfl, _, ty', f, k3, by rw [putL_size]; exact g3, by rw [putL_size]; exact g4⟩
            split at e
            · rename_i hq
              obtain ⟨rfl, rfl, hle, hcond⟩ := hq
              have hm : 0 < m := by
                rcases Nat.eq_zero_or_pos m with q | q
                · exact absurd ⟨rfl, q⟩ hm0
                · exact q
              simp only [Option.some.injEq, Prod.mk.injEq] at e
              obtain ⟨rfl, rfl⟩ := e
              rw [hsz] at hes hle ⊢
              have hlt : o < σ.length := (List.getElem?_eq_some_iff.1 hes).1
              obtain ⟨b, base, hl, _, arr, ty', f, h1, h2, us, hule, hat, h3⟩ := h.get hes
              have hul := VRs_length h3
              have hold := VRs_take h3 (len * i.size)
              have hd' := hd
              simp only [Cx.vr, VR, hl] at hd
              obtain ⟨a, cap, rfl, g1, g2, cs', e', f', hh, g3, g4⟩ := hd
              rw [h1] at hh
              simp only [Option.some.injEq, Obj.cells.injEq] at hh
              obtain ⟨rfl, rfl, rfl⟩ := hh
              simp only [Nat.zero_mul, Nat.add_zero, Nat.zero_add] at g2 g4
              have hutl : (us.take (len * i.size)).length = len * i.size := by rw [List.length_take]; omega
              have hfl := s.newsLen
              by_cases hroom : len + m ≤ cap
              · -- there is room
                have ha := (g2 (by omega)).symm
                subst ha
                have hfit : base + (len + m) * i.size ≤ arr.size := by
                  have : (len + m) * i.size ≤ cap * i.size := Nat.mul_le_mul_right _ hroom
                  omega
                rw [Nat.add_mul] at hfit
                have hrun := run_append_room_src (P := P) c.w t tx ty el i hu hi b base len cap vx m fs s hroom
                  (fun j hj => by rw [cell?_cells h1, Array.getElem?_eq_getElem (by omega)]; rfl) (fun j hj => frozen_no h1 h2 (by omega))
                obtain ⟨q1, q2, q3⟩ := heap_setCells fs (base + len * i.size) c.w arr h1
                have hcl : ∀ (cs' : Array Value) (e' : TypeId) (f' : Nat × Nat), c.w.heap[b]? = some (.cells cs' e' f') → ∃ (cs'' : Array Value) (f'' : Nat × Nat), (c.w.setCells b (base + len * i.size) fs).heap[b]? = some (.cells cs'' e' f'') ∧ cs''.size = cs'.size := by
                  intro cs' e' f' hc
                  rw [h1] at hc
                  simp only [Option.some.injEq, Obj.cells.injEq] at hc
                  obtain ⟨rfl, rfl, rfl⟩ := hc
                  exact ⟨_, _, q3, putL_size _ _ _⟩
                have hE := Ext.move h hl _ q1 q2 hcl base i.size
                have hnew : (us.take (len * i.size) ++ fs).length = len * i.size + m * i.size := by rw [List.length_append, hutl, hfl]
                refine ⟨_, _, _, hrun, SR.move h hl _ q1 q2 hcl base i.size (.vec i.size (cs.take (len * i.size) ++ xs)) ⟨b, base, rfl, h0, _, ty', f, q3, by rw [putL_size]; exact h2, us.take (len * i.size) ++ fs, by rw [putL_size, hnew]; omega, fun j hj => ?_, vrs_append (hE.vrs hold) (hE.vrs hfs)⟩, hE, ?_⟩
                · rw [hnew] at hj
                  rw [putL_get]
                  by_cases hj2 : j < len * i.size
                  · rw [if_neg (by omega), hat _ (by omega), List.getElem?_append_left (by omega), List.getElem?_take, if_pos hj2]
                  · rw [if_pos ⟨by omega, by omega, by omega⟩, List.getElem?_append_right (by omega), hutl]
                    congr 1; omega
                · simp only [Cx.vr, VR, upd_same]
                  exact ⟨_, cap, rfl, hroom, fun _ => by omega, _, ty', f, q3, by rw [putL_size]; omega, by rw [putL_size]; simpa using g4⟩
              · -- there is none
                have hgr : cap < len + m := by omega
                have hE := Ext.kill c o
                have hS := SR.kill h hlt
                have hold' : (Builtin.firstCells i.size len (.slice (some ⟨b, a, none⟩) len cap)).run P c.w.drew = .ok (us.take (len * i.size)).toArray c.w.drew := by
                  refine run_firstCells_some c.w.drew i.size len ⟨b, a, none⟩ len cap _ hutl (fun j u hj => ?_)
                  have hjl := (List.getElem?_eq_some_iff.1 hj).1
                  have hlp : 0 < len := by
                    rcases Nat.eq_zero_or_pos len with q | q
                    · subst q; rw [hutl, Nat.zero_mul] at hjl; omega
                    · exact q
                  rw [Addr.add_lit, g2 (by omega)]
                  show c.w.cell? ⟨b, base + j, none⟩ = _
                  rw [cell?_cells h1, hat _ (by omega)]
                  rw [List.getElem?_take, if_pos (by omega)] at hj
                  exact hj
                have hp : Builtin.nextslicecap (len + m) cap * i.bytes ≤ 281474976710656 := cap_fits hgr (by simpa [bytesT, hi] using hcond.1) (by simpa [bytesT, hi] using hcond.2)
                obtain ⟨v, w', loc', q1, q2, q3, q4⟩ := append_growV hS (ty := ty) hu hi hz hzs h0 hb (hE.vrs hfs) (vx := vx) (by exact s) (hE.vrs hold) hutl hold' hgr hp
                rw [List.length_set] at q4
                exact ⟨v, w', loc', q1, q2, hE.trans q3, q4⟩
            · cases e
          · cases e
        · cases e
      · cases e
    · cases e
  · cases e

/-! ### a row of bytes marked as text's -/
def markF (P : Program) (src dst : TypeId) (σ : List Ob) : V → Option (V × List Ob)
  | .sl o off len => match elemOfSlice P src with
    | some e => if src = dst ∧ intT P e = some .u8 then match σ[o]? with
        | some (.arr 1 mk es) => if 0 < len then some (.sl o off len, σ.set o (.arr 1 true es)) else none
        | _ => none
      else none
    | none => none
  | _ => none

theorem run_mark {P : Program} {w : World} {b : Nat} {arr : Array Value} {e : TypeId} {lo hi : Nat} (h : w.heap[b]? = some (.cells arr e (lo, hi))) (a : Nat) :
    (markStringish ⟨b, a, none⟩).run P w = .ok () { w with heap := w.heap.setIfInBounds b (.cells arr e (if lo == hi then (arr.size, arr.size + 1) else (min lo arr.size, max hi (arr.size + 1)))) } := by
  have hs : w.shape? b = some (e, arr.size) := by simp only [World.shape?, h]
  have hm : w.heap.modify b (fun | .cells c elem (lo, hi) => Obj.cells c elem (if lo == hi then (arr.size, arr.size + 1) else (min lo arr.size, max hi (arr.size + 1))) | o => o) = w.heap.setIfInBounds b (.cells arr e (if lo == hi then (arr.size, arr.size + 1) else (min lo arr.size, max hi (arr.size + 1)))) := by
    apply Array.ext'
    apply List.ext_getElem?
    intro j
    rw [Array.getElem?_toList, Array.getElem?_toList, Array.getElem?_modify, Array.getElem?_setIfInBounds]
    by_cases hj : b = j
    · subst hj
      obtain ⟨hlt, hv⟩ := Array.getElem?_eq_some_iff.1 h
      simp [hlt, hv]
    · simp [hj]
  simp only [markStringish, Sem.run_bind, run_shape, hs, Result.andThen_ok, run_freeze, World.freeze, Nat.one_ne_zero, if_false]
  rw [← hm]
  rfl

theorem markF_sound {P : Program} {src dst : TypeId} {c : Cx} {σ σ' : List Ob} (h : SR c σ) {x r : V} {vx : Value} (e : markF P src dst σ x = some (r, σ')) (hx : c.vr x vx) : SemOk P (convert src dst vx) c r σ' := by
  unfold markF at e
  split at e
  · rename_i o off len
    split at e
    · rename_i el hel
      split at e
      · rename_i hq
        obtain ⟨rfl, he⟩ := hq
        split at e
        · rename_i mk es hes
          split at e
          · rename_i hlen
            simp only [Option.some.injEq, Prod.mk.injEq] at e
            obtain ⟨rfl, rfl⟩ := e
            have hu := elemOfSlice_some hel
            rcases vr_sl h hes hx with ⟨_, _, _, h0, _⟩ | ⟨b, base, a, cap, arr, ty, f, hl, rfl, hle, ha, h0, h1, h2, h4, h5, h6⟩
            · omega
            obtain ⟨lo, hi⟩ := f
            have hlt := (Array.getElem?_eq_some_iff.1 h1).1
            generalize hf' : (if lo == hi then (arr.size, arr.size + 1) else (min lo arr.size, max hi (arr.size + 1))) = f'
            have huf : Unfrozen f' arr.size := by
              obtain ⟨k1, k2⟩ := h4
              simp only at k1 k2
              rw [← hf']
              by_cases q : lo = hi
              · subst q
                simp only [beq_self_eq_true, if_true]
                exact ⟨by simp, fun i hi hh => by simp only at hh; omega⟩
              · have q' : (lo == hi) = false := by simpa using q
                simp only [q', Bool.false_eq_true, if_false]
                have : arr.size ≤ lo := by
                  rcases Nat.lt_or_ge lo arr.size with g | g
                  · exact (k2 lo (by omega) ⟨Nat.le_refl _, by omega⟩).elim
                  · exact g
                exact ⟨by simp only; omega, fun i hi hh => by simp only at hh; omega⟩
            let w' : World := { c.w with heap := c.w.heap.setIfInBounds b (.cells arr ty f') }
            have hb' : w'.heap[b]? = some (.cells arr ty f') := by
              show (c.w.heap.setIfInBounds b _)[b]? = _
              simp [hlt]
            have e1 : w'.heap.size = c.w.heap.size := by simp [w']
            have e2 : ∀ b'', b'' ≠ b → w'.heap[b'']? = c.w.heap[b'']? := fun b'' hb => by
              show (c.w.heap.setIfInBounds b _)[b'']? = _
              rw [Array.getElem?_setIfInBounds_ne (Ne.symm hb)]
            have e3 : ∀ (cs : Array Value) (e : TypeId) (f : Nat × Nat), c.w.heap[b]? = some (.cells cs e f) → ∃ (cs' : Array Value) (f' : Nat × Nat), w'.heap[b]? = some (.cells cs' e f') ∧ cs'.size = cs.size := by
              intro cs e f q
              rw [h1] at q
              cases q
              exact ⟨_, _, hb', rfl⟩
            have hE := Ext.write hl w' e1 e2 e3 ⟨rfl, rfl, rfl⟩
            have hcell : ∀ j, w'.cell? ⟨b, j, none⟩ = c.w.cell? ⟨b, j, none⟩ := fun j => by simp only [World.cell?, hb', h1]
            refine ⟨.slice (some ⟨b, a, none⟩) len cap, w', c.loc, ?_, SR.write h hl w' e1 e2 e3 (.arr 1 true es) (.inr ⟨b, base, rfl, h0, arr, ty, f', hb', by simpa using huf, h5, RowsR_mono hE.im es b base 1 hcell h6⟩) ⟨rfl, rfl, rfl⟩, hE, hE.vr hx⟩
            have hm := run_mark (P := P) h1 a
            rw [hf'] at hm
            simp only [convert, Sem.run_bind, run_underlying hu, Result.andThen_ok, beq_self_eq_true, run_underlying (intT_some he), hm, Sem.run_pure]
            rfl
          · cases e
        · cases e
      · cases e
    · cases e
  · cases e

/-! ### all of them -/
/-! ### ranges over maps and strings -/
def rangeF (P : Program) (t : TypeId) (σ : List Ob) (x : V) : Option (V × List Ob) :=
  match x with
  | .d (.str s) => if isStrT P t then some (.ptr σ.length 0 0, σ ++ [.sit s 0]) else none
  | .d .nilm => if isMapT P t then some (.ptr σ.length 0 0, σ ++ [.mit (.d .nilm) 0 [] 0]) else none
  | .mp o => if isMapT P t then match σ[o]? with
      | some (.map _ clk) => some (.ptr σ.length 0 0, σ ++ [.mit (.mp o) clk [] clk])
      | _ => none
    else none
  | _ => none

theorem rangeF_sound {P : Program} {t : TypeId} {c : Cx} {σ σ' : List Ob} (h : SR c σ) {x r : V} {vx : Value} (e : rangeF P t σ x = some (r, σ')) (hx : c.vr x vx) : SemOk P (Instr.range t vx) c r σ' := by
  have mk : ∀ (ob : Obj) (y : Ob), (∀ (c' : Cx), Ext c c' → c'.w = { c.w with heap := c.w.heap.push ob } → OR c' (.here c.w.heap.size 0 1) y) →
      ∃ loc', SR ⟨{ c.w with heap := c.w.heap.push ob }, loc', c.hid⟩ (σ ++ [y]) ∧ Ext c ⟨{ c.w with heap := c.w.heap.push ob }, loc', c.hid⟩ ∧ Cx.vr ⟨{ c.w with heap := c.w.heap.push ob }, loc', c.hid⟩ (.ptr σ.length 0 0) (.pointer (some ⟨c.w.heap.size, 0, none⟩)) := by
    intro ob y hy
    have e1 : ({ c.w with heap := c.w.heap.push ob } : World).heap.size = c.w.heap.size + 1 := by simp
    have e2 : ∀ b, b < c.w.heap.size → ({ c.w with heap := c.w.heap.push ob } : World).heap[b]? = c.w.heap[b]? := fun b hb => heap_push_lt hb
    have hE := Ext.new h { c.w with heap := c.w.heap.push ob } e1 e2 1
    exact ⟨upd c.loc σ.length (.here c.w.heap.size 0 1), SR.new h _ e1 e2 1 y (hy _ hE rfl), hE, by simp [Cx.vr, VR]⟩
  unfold rangeF at e
  split at e
  · rename_i s
    split at e
    · rename_i ht
      simp only [Option.some.injEq, Prod.mk.injEq] at e
      obtain ⟨rfl, rfl⟩ := e
      simp only [Cx.vr, VR, DR] at hx; subst hx
      obtain ⟨loc', g1, g2, g3⟩ := mk (.stringIter ⟨s.toArray⟩ 0) (.sit s 0) (fun c' hE hw => ⟨_, rfl, by rw [hw]; exact heap_push_at⟩)
      exact ⟨_, _, loc', by simp only [Instr.range, Sem.run_bind, run_underlying (isStrT_some ht), Result.andThen_ok, Sem.run_pure, run_newObj], g1, g2, g3⟩
    · cases e
  · split at e
    · rename_i ht
      simp only [Option.some.injEq, Prod.mk.injEq] at e
      obtain ⟨rfl, rfl⟩ := e
      simp only [Cx.vr, VR, DR] at hx; subst hx
      obtain ⟨k, el, hu⟩ := isMapT_some ht
      obtain ⟨loc', g1, g2, g3⟩ := mk (.mapIter none 0 #[] 0) (.mit (.d .nilm) 0 [] 0) (fun c' hE hw => ⟨_, rfl, none, by rw [hw]; exact heap_push_at, by simp [Cx.vr, VR, DR]⟩)
      exact ⟨_, _, loc', by simp only [Instr.range, Sem.run_bind, run_underlying hu, Result.andThen_ok, Sem.run_pure, run_newObj], g1, g2, g3⟩
    · cases e
  · rename_i o
    split at e
    · rename_i ht
      split at e
      · rename_i es clk hes
        simp only [Option.some.injEq, Prod.mk.injEq] at e
        obtain ⟨rfl, rfl⟩ := e
        obtain ⟨k, el, hu⟩ := isMapT_some ht
        obtain ⟨b, ents, hl, rfl, h1, h2, h3, h4⟩ := map_at h hes hx
        obtain ⟨loc', g1, g2, g3⟩ := mk (.mapIter (some b) clk #[] clk) (.mit (.mp o) clk [] clk) (fun c' hE hw => ⟨_, rfl, some b, by rw [hw]; exact heap_push_at, hE.vr hx⟩)
        exact ⟨_, _, loc', by simp only [Instr.range, Sem.run_bind, run_underlying hu, Result.andThen_ok, Sem.run_pure, run_getObj_map h1, run_newObj], g1, g2, g3⟩
      · cases e
    · cases e
  · cases e

def entryF (σ : List Ob) (x : V) : Option V :=
  match x with
  | .ptr i 0 0 => match σ[i]? with
    | some (.mit (.mp o) _ seen last) => match σ[o]? with
      | some (.map es clk) => if clk = last then match seen.getLast? with
          | some st => (es.find? fun e => e.2.2 == st).map fun e => .tup [.d e.1, e.2.1]
          | none => none
        else none
      | _ => none
    | _ => none
  | _ => none

theorem MapR.find {I : Im} {w : World} {loc : Nat → Loc} (st : Nat) {es : List (D × V × Nat)} {l : List MapEntry} (m : MapR I w loc es l) : match es.find? (fun e => e.2.2 == st), l.find? (fun e => e.born == st) with
    | some x, some e => DR I x.1 e.key ∧ VR I w loc x.2.1 e.val
    | none, none => True
    | _, _ => False := by
  induction m with
  | nil => simp
  | @cons k x n e es l a b hn _ ih =>
    simp only [List.find?_cons, hn]
    cases hq : n == st with
    | true => exact ⟨a, b⟩
    | false => exact ih

/-- An iterator that lies where the store says. -/
theorem mit_at {c : Cx} {σ : List Ob} (h : SR c σ) {i o : Nat} {since last : Nat} {seen : List Nat} (hx : σ[i]? = some (.mit (.mp o) since seen last)) {es : List (D × V × Nat)} {clk : Nat} (ho : σ[o]? = some (.map es clk)) {v : Value} (r : c.vr (.ptr i 0 0) v) :
    ∃ b mb ents, c.loc i = .here b 0 1 ∧ v = .pointer (some ⟨b, 0, none⟩) ∧ c.w.heap[b]? = some (.mapIter (some mb) since seen.toArray last) ∧ c.w.heap[mb]? = some (.map ents clk) ∧ c.mapR es ents.toList ∧ (es.map (·.2.2)).Nodup ∧ ∀ e ∈ es, e.2.2 < clk := by
  obtain ⟨b, hl, q, h1, h2⟩ := h.get hx
  obtain ⟨mb, ents, hl', e1, h3, h4, h5, h6⟩ := map_at h ho h2
  simp only [Value.map.injEq] at e1
  subst e1
  simp only [Cx.vr, VR, hl] at r
  exact ⟨b, mb, ents, hl, by simpa using r, h1, h3, h4, h5, h6⟩

theorem entryF_sound {P : Program} {c : Cx} {σ : List Ob} (h : SR c σ) {x r : V} {vx : Value} (e : entryF σ x = some r) (hx : c.vr x vx) : ∃ v, (Instr.entry vx).run P c.w = .ok v c.w ∧ c.vr r v := by
  unfold entryF at e
  split at e
  · rename_i i
    split at e
    · rename_i o since seen last hi
      split at e
      · rename_i es clk ho
        split at e
        · rename_i hcl
          subst hcl
          split at e
          · rename_i st hst
            obtain ⟨b, mb, ents, hl, rfl, h1, h2, h3, h4, h5⟩ := mit_at h hi ho hx
            have hf := h3.find st
            cases hq : es.find? (fun e => e.2.2 == st) with
            | none => rw [hq] at e; cases e
            | some x =>
              rw [hq] at e hf
              simp only [Option.map_some, Option.some.injEq] at e; subst e
              cases hq' : ents.toList.find? (fun e => e.born == st) with
              | none => rw [hq'] at hf; exact hf.elim
              | some en =>
                rw [hq'] at hf
                have hback : seen.toArray.back? = some st := by simpa using hst
                have hfind : ents.find? (fun e => e.born == st) = some en := by rw [← Array.find?_toList]; exact hq'
                refine ⟨.tuple #[en.key, en.val], ?_, ?_⟩
                · simp only [Instr.entry, getObj, Sem.run_bind, Sem.run, h1, h2, Result.andThen, hback, bne_self_eq_false, Bool.false_eq_true, if_false, hfind]
                  rfl
                · simp only [Cx.vr, VR, VRs]
                  exact ⟨[en.key, en.val], rfl, en.key, [en.val], rfl, by simpa [VR] using hf.1, en.val, [], rfl, hf.2, rfl⟩
          · cases e
        · cases e
      · cases e
    · cases e
  · cases e

/-- A string's letter at a place: what it is, and how many bytes it takes. -/
def runeAt (s : List UInt8) (i : Nat) : Nat × Nat :=
  match s[i]? with
  | some b => match Nat.blt b.toNat 128 with
    | true => (b.toNat, 1)
    | false => Utf8.decode ⟨s.toArray⟩ i
  | none => Utf8.decode ⟨s.toArray⟩ i
theorem runeAt_eq (s : List UInt8) (i : Nat) : runeAt s i = Utf8.decode ⟨s.toArray⟩ i := by
  unfold runeAt
  split
  · rename_i b hb
    split
    · rename_i h
      have hlt : b.toNat < 128 := by simp [Nat.blt] at h; omega
      have hi := (List.getElem?_eq_some_iff.1 hb).1
      have hg : (⟨s.toArray⟩ : ByteArray).get! (i + 0) = b := by
        show s.toArray[i + 0]! = b
        have h2 := (List.getElem?_eq_some_iff.1 hb).2
        rw [getElem!_pos s.toArray (i + 0) (by simpa using hi)]
        simpa using h2
      simp only [Utf8.decode, hg]
      rw [if_pos hlt]
    · rfl
  · rfl

/-- The next letter of a string that is ranged over. -/
def nextS (σ : List Ob) : V → Option (V × List Ob)
  | .ptr o 0 0 => match σ[o]? with
    | some (.sit s pos) => match Nat.blt pos s.length with
      | true => some (.tup [.d (.bool true), .d (.int .i64 (pos : Nat)), .d (.int .i32 ((runeAt s pos).1 : Nat))], σ.set o (.sit s (pos + (runeAt s pos).2)))
      | false => some (.tup [.d (.bool false)], σ)
    | _ => none
  | _ => none

theorem nextS_sound {P : Program} {ty : TypeId} {c : Cx} {σ σ' : List Ob} (h : SR c σ) {x r : V} {vx : Value} (e : nextS σ x = some (r, σ')) (hx : c.vr x vx) : SemOk P (Instr.next vx true ty) c r σ' := by
  unfold nextS at e
  split at e
  · rename_i o
    split at e
    · rename_i s pos hs
      obtain ⟨b, hl, h1⟩ := h.get hs
      simp only [Cx.vr, VR, hl, Nat.zero_mul, Nat.add_zero] at hx
      subst hx
      have hlen : (⟨s.toArray⟩ : ByteArray).size = s.length := size_mk s
      split at e
      · rename_i hp
        have hp' : pos < s.length := by simp [Nat.blt] at hp; omega
        simp only [Option.some.injEq, Prod.mk.injEq] at e
        obtain ⟨rfl, rfl⟩ := e
        have hb := (Array.getElem?_eq_some_iff.1 h1).1
        let w' : World := { c.w with heap := c.w.heap.setIfInBounds b (.stringIter ⟨s.toArray⟩ (pos + (runeAt s pos).2)) }
        have e1 : w'.heap.size = c.w.heap.size := by simp [w']
        have e2 : ∀ b', b' ≠ b → w'.heap[b']? = c.w.heap[b']? := fun b' hne => by
          simp only [w', Array.getElem?_setIfInBounds]
          rw [if_neg (fun q => hne q.symm)]
        have e3 : w'.heap[b]? = some (.stringIter ⟨s.toArray⟩ (pos + (runeAt s pos).2)) := by simp [w', hb]
        have hc : ∀ (cs : Array Value) (t : TypeId) (f : Nat × Nat), c.w.heap[b]? = some (.cells cs t f) → ∃ (cs' : Array Value) (f' : Nat × Nat), w'.heap[b]? = some (.cells cs' t f') ∧ cs'.size = cs.size := fun cs t f q => by rw [h1] at q; cases q
        refine ⟨.tuple #[.bool true, goInt pos, .int .i32 (runeAt s pos).1], w', c.loc, ?_, SR.write h hl w' e1 e2 hc (.sit s (pos + (runeAt s pos).2)) ⟨b, rfl, e3⟩, Ext.write hl w' e1 e2 hc, ?_⟩
        · simp only [Instr.next, getObj, Sem.run_bind, Sem.run, h1, Result.andThen, hlen, if_pos hp', ← runeAt_eq, setObj]
          rfl
        · simp only [Cx.vr, VR, VRs, DR]
          exact ⟨_, rfl, _, _, rfl, rfl, _, _, rfl, rfl, _, _, rfl, rfl, rfl⟩
      · rename_i hp
        have hp' : ¬ pos < s.length := fun q => by
          rw [show Nat.blt pos s.length = true from Nat.ble_eq_true_of_le q] at hp
          cases hp
        simp only [Option.some.injEq, Prod.mk.injEq] at e
        obtain ⟨rfl, rfl⟩ := e
        refine ⟨.tuple #[.bool false], c.w, c.loc, ?_, h, Ext.refl c, ?_⟩
        · simp only [Instr.next, getObj, Sem.run_bind, Sem.run, h1, Result.andThen, hlen, if_neg hp']
          rfl
        · simp only [Cx.vr, VR, VRs, DR]
          exact ⟨_, rfl, _, _, rfl, rfl, rfl⟩
    · cases e
  · cases e

def effF (P : Program) (s : List V) (σ : List Ob) : Op → Option (V × List Ob)
  | .next x true => nextS σ (get s x)
  | .alloc t => (zeroCs P t).map fun cs => (.ptr σ.length 0 0, σ ++ [.box cs])
  | .box _ x => (cellsV σ (get s x)).map fun cs => (.ptr σ.length 0 0, σ ++ [.box cs])
  | .buildSlice t len parts => buildE P t len σ s parts.toList
  | .store t a x => (storeF P t σ (get s a) (get s x)).map fun σ' => (.undef, σ')
  | .makeSlice t l c => match makeSliceF P t σ (get s l) (get s c) with
    | some r => some r
    | none => makeVecF P t σ (get s l) (get s c)
  | .makeMap _ none => some (.mp σ.length, σ ++ [.map [] 0])
  | .mapUpdate t m k x => (mapUpdateF P t σ (get s m) (get s k) (get s x)).map fun σ' => (.undef, σ')
  | .insert t m k x => (mapUpdateF P t σ (get s m) (get s k) (get s x)).map fun σ' => (.undef, σ')
  | .mapEntry t m k => mapEntryF P t σ (get s m) (get s k)
  | .entryStore _ m st x => (entryStoreF P σ (get s m) (get s st) (get s x)).map fun σ' => (.undef, σ')
  | .convert src dst x => match strBytesF P src dst σ (get s x) with
    | some r => some r
    | none => markF P src dst σ (get s x)
  | .range t x => rangeF P t σ (get s x)
  | .entry x => (entryF σ (get s x)).map fun r => (r, σ)
  | .call { callee := .builtin .append, args, argTypes } => match args.toList, argTypes.toList with
    | [d, x], [t, tx] => match appendInF P t tx σ (get s d) (get s x) with
      | some r => some r
      | none => match appendF P t tx σ (get s d) (get s x) with
        | some r => some r
        | none => appendVecF P t tx σ (get s d) (get s x)
    | _, _ => none
  | .call { callee := .builtin .delete, args, argTypes } => match args.toList, argTypes.toList with
    | [m, k], t :: _ => (deleteF P t σ (get s m) (get s k)).map fun σ' => (.tup [], σ')
    | _, _ => none
  | .call { callee := .builtin .clear, args, argTypes } => match args.toList, argTypes.toList with
    | [x], [t] => (clearF P t σ (get s x)).map fun σ' => (.tup [], σ')
    | _, _ => none
  | _ => none

/-- What an operation that acts comes to. -/
def EffOk (P : Program) (o : Oper) (a : Act) (c : Cx) (r : V) (σ' : List Ob) : Prop :=
  (∃ nx w' loc' v, (execOp a.eval o).run P c.w = .ok nx w' ∧ (nx = .value v ∨ (nx = .skip ∧ v = undef)) ∧ SR ⟨w', loc', c.hid⟩ σ' ∧ Ext c ⟨w', loc', c.hid⟩ ∧ Cx.vr ⟨w', loc', c.hid⟩ r v)

theorem EffOk.of_sem {P : Program} {o : Oper} {a : Act} {c : Cx} {r : V} {σ' : List Ob} {x : Sem Value} (h : SemOk P x c r σ') (he : execOp a.eval o = (do pure (.value (← x)))) : EffOk P o a c r σ' := by
  obtain ⟨v, w', loc', h1, h2, h3, h4⟩ := h
  exact ⟨.value v, w', loc', v, by rw [he]; exact run_value h1, .inl rfl, h2, h3, h4⟩

theorem EffOk.of_semU {P : Program} {o : Oper} {a : Act} {c : Cx} {σ' : List Ob} {x : Sem Unit} (h : SemOkU P x c σ') (he : execOp a.eval o = (do x; pure .skip)) : EffOk P o a c .undef σ' := by
  obtain ⟨w', loc', h1, h2, h3⟩ := h
  exact ⟨.skip, w', loc', undef, by rw [he]; simp [h1], .inr ⟨rfl, rfl⟩, h2, h3, by simp [Cx.vr, VR]⟩

theorem eff_sound {P : Program} {o : Oper} {a : Act} {c : Cx} {s : List V} {σ σ' : List Ob} (h : SR c σ) (hs : c.vrs s a.tmps.toList) {r : V} (e : effF P s σ o.op = some (r, σ')) : EffOk P o a c r σ' := by
  cases hop : o.op with
  | alloc t =>
    rw [hop] at e
    simp only [effF] at e
    cases hz : zeroCs P t with
    | none => rw [hz] at e; cases e
    | some cs =>
      rw [hz] at e; simp at e; obtain ⟨rfl, rfl⟩ := e
      exact .of_sem (alloc_sound h hz) (by simp only [execOp, hop])
  | box t x =>
    rw [hop] at e
    simp only [effF] at e
    cases hz : cellsV σ (get s x) with
    | none => rw [hz] at e; cases e
    | some cs =>
      rw [hz] at e; simp at e; obtain ⟨rfl, rfl⟩ := e
      exact .of_sem (box_sound (t := t) h hz (vr_get h.gl hs x)) (by simp only [execOp, hop])
  | buildSlice t len parts =>
    rw [hop] at e
    simp only [effF, buildE] at e
    split at e
    · rename_i p hp
      cases e
      exact .of_sem (buildSliceF_sound h hs hp) (by simp only [execOp, hop])
    · exact .of_sem (buildVecF_sound h hs e) (by simp only [execOp, hop])
  | store t x y =>
    rw [hop] at e
    simp only [effF] at e
    cases hz : storeF P t σ (get s x) (get s y) with
    | none => rw [hz] at e; cases e
    | some cs =>
      rw [hz] at e; simp at e; obtain ⟨rfl, rfl⟩ := e
      exact .of_semU (storeF_sound h hz (vr_get h.gl hs x) (vr_get h.gl hs y)) (by simp only [execOp, hop])
  | makeSlice t l c' =>
    rw [hop] at e
    simp only [effF] at e
    split at e
    · rename_i x hx
      simp only [Option.some.injEq] at e; subst e
      exact .of_sem (makeSliceF_sound h hx (vr_get h.gl hs l) (vr_get h.gl hs c')) (by simp only [execOp, hop])
    · exact .of_sem (makeVecF_sound h e (vr_get h.gl hs l) (vr_get h.gl hs c')) (by simp only [execOp, hop])
  | makeMap t r' =>
    rw [hop] at e
    cases r' with
    | none =>
      simp only [effF, Option.some.injEq, Prod.mk.injEq] at e
      obtain ⟨rfl, rfl⟩ := e
      exact .of_sem (makeMap_sound (t := t) h) (by simp only [execOp, hop, Option.map_none])
    | some x => simp [effF] at e
  | range t x =>
    rw [hop] at e
    exact .of_sem (rangeF_sound h e (vr_get h.gl hs x)) (by simp only [execOp, hop])
  | entry x =>
    rw [hop] at e
    simp only [effF] at e
    cases hz : entryF σ (get s x) with
    | none => rw [hz] at e; cases e
    | some r' =>
      rw [hz] at e; simp at e; obtain ⟨rfl, rfl⟩ := e
      obtain ⟨v, g1, g2⟩ := entryF_sound (P := P) h hz (vr_get h.gl hs x)
      exact .of_sem ⟨v, c.w, c.loc, g1, h, Ext.refl c, g2⟩ (by simp only [execOp, hop])
  | mapUpdate t m k x =>
    rw [hop] at e
    simp only [effF] at e
    cases hz : mapUpdateF P t σ (get s m) (get s k) (get s x) with
    | none => rw [hz] at e; cases e
    | some cs =>
      rw [hz] at e; simp at e; obtain ⟨rfl, rfl⟩ := e
      exact .of_semU (mapUpdateF_sound h hz (vr_get h.gl hs m) (vr_get h.gl hs k) (vr_get h.gl hs x)) (by simp only [execOp, hop])
  | insert t m k x =>
    rw [hop] at e
    simp only [effF] at e
    cases hz : mapUpdateF P t σ (get s m) (get s k) (get s x) with
    | none => rw [hz] at e; cases e
    | some cs =>
      rw [hz] at e; simp at e; obtain ⟨rfl, rfl⟩ := e
      exact .of_semU (mapUpdateF_sound h hz (vr_get h.gl hs m) (vr_get h.gl hs k) (vr_get h.gl hs x)) (by simp only [execOp, hop])
  | mapEntry t m k =>
    rw [hop] at e
    exact .of_sem (mapEntryF_sound h e (vr_get h.gl hs m) (vr_get h.gl hs k)) (by simp only [execOp, hop])
  | entryStore t m st x =>
    rw [hop] at e
    simp only [effF] at e
    cases hz : entryStoreF P σ (get s m) (get s st) (get s x) with
    | none => rw [hz] at e; cases e
    | some cs =>
      rw [hz] at e; simp at e; obtain ⟨rfl, rfl⟩ := e
      exact .of_semU (entryStoreF_sound t h hz (vr_get h.gl hs m) (vr_get h.gl hs st) (vr_get h.gl hs x)) (by simp only [execOp, hop])
  | convert src dst x =>
    rw [hop] at e
    simp only [effF] at e
    split at e
    · rename_i p hp
      cases e
      exact .of_sem (strBytesF_sound h hp (vr_get h.gl hs x)) (by simp only [execOp, hop])
    · exact .of_sem (markF_sound h e (vr_get h.gl hs x)) (by simp only [execOp, hop])
  | next x b =>
    rw [hop] at e
    cases b with
    | true => exact .of_sem (nextS_sound (ty := o.type) h e (vr_get h.gl hs x)) (by simp only [execOp, hop])
    | false => simp [effF] at e
  | call cl =>
    rw [hop] at e
    obtain ⟨callee, args, ts⟩ := cl
    unfold effF at e
    split at e <;> try (cases e; done)
    all_goals rename_i heq
    all_goals try (cases heq; done)
    · simp only [Op.call.injEq, Call.mk.injEq] at heq
      obtain ⟨rfl, rfl, rfl⟩ := heq
      split at e
      · rename_i d x t tx ha ht
        have ea : args = #[d, x] := by apply Array.ext'; simp [ha]
        have et : ts = #[t, tx] := by apply Array.ext'; simp [ht]
        subst ea; subst et
        have hexec : execOp a.eval o = (do pure (.value (← Builtin.append_ #[t, tx] o.type #[a.eval d, a.eval x]))) := by
          simp only [execOp, hop, resolve, List.map_toArray, List.map_cons, List.map_nil, pure_bind, invoke, builtin]
        split at e
        · rename_i y hy
          simp only [Option.some.injEq] at e; subst e
          exact .of_sem (appendInF_sound (ty := o.type) h hy (vr_get h.gl hs d) (vr_get h.gl hs x)) hexec
        · split at e
          · rename_i y hy
            simp only [Option.some.injEq] at e; subst e
            exact .of_sem (appendF_sound (ty := o.type) h hy (vr_get h.gl hs d) (vr_get h.gl hs x)) hexec
          · exact .of_sem (appendVecF_sound (ty := o.type) h e (vr_get h.gl hs d) (vr_get h.gl hs x)) hexec
      · cases e
    · simp only [Op.call.injEq, Call.mk.injEq] at heq
      obtain ⟨rfl, rfl, rfl⟩ := heq
      split at e
      · rename_i m k t tr ha ht
        cases hz : deleteF P t σ (get s m) (get s k) with
        | none => rw [hz] at e; cases e
        | some cs =>
          rw [hz] at e; simp at e; obtain ⟨rfl, rfl⟩ := e
          have ea : args = #[m, k] := by apply Array.ext'; simp [ha]
          subst ea
          have hexec : execOp a.eval o = (do pure (.value (← Builtin.delete_ ts o.type #[a.eval m, a.eval k]))) := by
            simp only [execOp, hop, resolve, List.map_toArray, List.map_cons, List.map_nil, pure_bind, invoke, builtin]
          have h0 : ts[0]? = some t := by rw [← Array.getElem?_toList, ht]; rfl
          have hdel : Builtin.delete_ ts o.type #[a.eval m, a.eval k] = Builtin.delete_ #[t] o.type #[a.eval m, a.eval k] := by
            simp only [Builtin.delete_, h0]; rfl
          rw [hdel] at hexec
          exact .of_sem (deleteF_sound (ty := o.type) h hz (vr_get h.gl hs m) (vr_get h.gl hs k)) hexec
      · cases e
    · simp only [Op.call.injEq, Call.mk.injEq] at heq
      obtain ⟨rfl, rfl, rfl⟩ := heq
      split at e
      · rename_i x t ha ht
        cases hz : clearF P t σ (get s x) with
        | none => rw [hz] at e; cases e
        | some cs =>
          rw [hz] at e; simp at e; obtain ⟨rfl, rfl⟩ := e
          have ea : args = #[x] := by apply Array.ext'; simp [ha]
          have et : ts = #[t] := by apply Array.ext'; simp [ht]
          subst ea; subst et
          exact .of_sem (clearF_sound (ty := o.type) h hz (vr_get h.gl hs x)) (by
            simp only [execOp, hop, resolve, List.map_toArray, List.map_cons, List.map_nil, pure_bind, invoke, builtin])
      · cases e
  | _ => rw [hop] at e; simp [effF] at e
end Go.Proofs.YtchgfpehcjomeaaGreatDoor.Am
