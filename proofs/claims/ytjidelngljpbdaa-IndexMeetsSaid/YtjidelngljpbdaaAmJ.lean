/- The engine's maps, text turned into bytes, and every operation that makes or writes memory in one function. -/
import Derived.Test.YtjidelngljpbdaaAmP
set_option linter.unusedSimpArgs false
set_option linter.unusedVariables false
namespace Go.Proofs.Ytjidelngljpbdaa.Am
open Go

/-! ### maps -/
def putD (k : D) (x : V) (clk : Nat) : List (D × V × Nat) → Option (List (D × V × Nat) × Nat)
  | [] => some ([(k, x, clk)], clk + 1)
  | (k', y, n) :: r => match keyEq k k' with
    | some true => some ((k, x, n) :: r, clk)
    | some false => (putD k x clk r).map fun p => ((k', y, n) :: p.1, p.2)
    | none => none

def delD (k : D) : List (D × V × Nat) → Option (List (D × V × Nat))
  | [] => some []
  | (k', x, n) :: r => match keyEq k k' with
    | some true => some r
    | some false => (delD k r).map ((k', x, n) :: ·)
    | none => none

theorem keyEq_same {k k' : D} (h : keyEq k k' = some true) {I : Im} {v v' : Value} (r : DR I k v) (r' : DR I k' v') : v = v' ∧ Instr.sameBits 10000 v' v = true := by
  have key : ∀ n, v = v' ∧ Instr.sameBits (n + 1) v' v = true := by
    intro n
    cases k <;> cases k' <;> simp only [keyEq] at h <;> (try (cases h; done)) <;> simp only [DR] at r r' <;> subst r <;> subst r'
    · split at h
      · rename_i q; subst q
        simp at h; subst h
        simp [Instr.sameBits]
      · cases h
    · simp at h; subst h
      simp [Instr.sameBits]
    · simp at h; subst h
      simp [Instr.sameBits, beq_toListBytes]
  exact key 9999

theorem put_findNow {P : Program} {kt : TypeId} {t : TypeDesc} {I : Im} {w : World} {loc : Nat → Loc} {k : D} {x : V} {clk : Nat} {v vx : Value} (h : keyOk P kt k = true) (ht : P.underlying kt = some t) (hk : DR I k v) (hx : VR I w loc x vx) :
    ∀ {es : List (D × V × Nat)} {l : List MapEntry} (m : MapR I w loc es l) (i : Nat) {es' : List (D × V × Nat)} {clk' : Nat}, putD k x clk es = some (es', clk') →
      (∃ j e, Instr.findNow t v l i = some (some (i + j, e.val)) ∧ l[j]? = some e ∧ e.key = v ∧ Instr.sameBits 10000 e.key v = true ∧ MapR I w loc es' (l.set j { e with key := v, val := vx }) ∧ clk' = clk ∧ es'.map (·.2.2) = es.map (·.2.2)) ∨
      (Instr.findNow t v l i = some none ∧ MapR I w loc es' (l ++ [⟨v, vx, clk⟩]) ∧ clk' = clk + 1 ∧ es'.map (·.2.2) = es.map (·.2.2) ++ [clk]) := by
  intro es l m
  induction m with
  | nil => intro i es' clk' e; simp [putD] at e; obtain ⟨rfl, rfl⟩ := e; exact .inr ⟨rfl, .cons hk hx rfl .nil, rfl, rfl⟩
  | @cons k0 x0 n0 ent es l h1 h2 h3 m ih =>
    intro i es' clk' e
    simp only [putD] at e
    split at e
    · rename_i hq
      simp only [Option.some.injEq, Prod.mk.injEq] at e; obtain ⟨rfl, rfl⟩ := e
      obtain ⟨s1, s2⟩ := keyEq_same hq hk h1
      refine .inl ⟨0, ent, by simp [Instr.findNow, sameNow_keyEq h ht hk h1 hq], by simp, s1.symm, s2, ?_, rfl, rfl⟩
      exact .cons hk hx h3 m
    · rename_i hq
      cases hr : putD k x clk es with
      | none => rw [hr] at e; cases e
      | some r =>
        rw [hr] at e; simp at e; obtain ⟨rfl, rfl⟩ := e
        rcases ih (i + 1) hr with ⟨j, e', g1, g2, g3, g4, g5, g6, g7⟩ | ⟨g1, g2, g6, g7⟩
        · refine .inl ⟨j + 1, e', ?_, by simpa using g2, g3, g4, ?_, g6, by simp [g7]⟩
          · simp [Instr.findNow, sameNow_keyEq h ht hk h1 hq, g1]; omega
          · simpa using MapR.cons h1 h2 h3 g5
        · refine .inr ⟨by simp [Instr.findNow, sameNow_keyEq h ht hk h1 hq, g1], by simpa using MapR.cons h1 h2 h3 g2, g6, by simp [g7]⟩
    · cases e

theorem del_findNow {P : Program} {kt : TypeId} {t : TypeDesc} {I : Im} {w : World} {loc : Nat → Loc} {k : D} {v : Value} (h : keyOk P kt k = true) (ht : P.underlying kt = some t) (hk : DR I k v) :
    ∀ {es : List (D × V × Nat)} {l : List MapEntry} (m : MapR I w loc es l) (i : Nat) {es' : List (D × V × Nat)}, delD k es = some es' →
      (∃ j u, Instr.findNow t v l i = some (some (i + j, u)) ∧ j < l.length ∧ MapR I w loc es' (l.eraseIdx j) ∧ es' = es.eraseIdx j) ∨
      (Instr.findNow t v l i = some none ∧ es' = es) := by
  intro es l m
  induction m with
  | nil => intro i es' e; simp [delD] at e; subst e; exact .inr ⟨rfl, rfl⟩
  | @cons k0 x0 n0 ent es l h1 h2 h3 m ih =>
    intro i es' e
    simp only [delD] at e
    split at e
    · rename_i hq
      simp only [Option.some.injEq] at e; subst e
      exact .inl ⟨0, ent.val, by simp [Instr.findNow, sameNow_keyEq h ht hk h1 hq], by simp, by simpa using m, rfl⟩
    · rename_i hq
      cases hr : delD k es with
      | none => rw [hr] at e; cases e
      | some r =>
        rw [hr] at e; simp at e; subst e
        rcases ih (i + 1) hr with ⟨j, u, g1, g2, g3, g4⟩ | ⟨g1, g2⟩
        · refine .inl ⟨j + 1, u, ?_, by simpa using g2, by simpa using MapR.cons h1 h2 h3 g3, by simp [g4]⟩
          simp [Instr.findNow, sameNow_keyEq h ht hk h1 hq, g1]; omega
        · subst g2
          exact .inr ⟨by simp [Instr.findNow, sameNow_keyEq h ht hk h1 hq, g1], rfl⟩
    · cases e

theorem keyOk_some {P : Program} {kt : TypeId} {k : D} (h : keyOk P kt k = true) : ∃ d, P.underlying kt = some d := by
  cases k <;> simp only [keyOk] at h <;> (try (cases h; done))
  · obtain ⟨q, hq⟩ := Option.isSome_iff_exists.1 h
    exact ⟨_, intT_some hq⟩
  · exact ⟨_, isBoolT_some h⟩
  · exact ⟨_, isStrT_some h⟩

theorem run_setObj_map {P : Program} {w : World} {b : Nat} {ents : Array MapEntry} {clock : Nat} (h : w.heap[b]? = some (.map ents clock)) (x : Obj) : (setObj b x).run P w = .ok () { w with heap := w.heap.setIfInBounds b x } := by
  simp only [setObj, Sem.run, h]

/-- A map written anew where it lies. -/
theorem write_map {c : Cx} {σ : List Ob} (h : SR c σ) {o b : Nat} (hl : c.loc o = .here b 0 1) {ents : Array MapEntry} {clock : Nat} (hb : c.w.heap[b]? = some (.map ents clock)) {es' : List (D × V × Nat)} {ents' : Array MapEntry} {clock' d : Nat}
    (hm : c.mapR es' ents'.toList) (hn : (es'.map (·.2.2)).Nodup) (hc : ∀ e ∈ es', e.2.2 < clock') :
    SR ⟨{ c.w with heap := c.w.heap.setIfInBounds b (.map ents' clock'), drawn := d }, c.loc, c.hid⟩ (σ.set o (.map es' clock')) ∧ Ext c ⟨{ c.w with heap := c.w.heap.setIfInBounds b (.map ents' clock'), drawn := d }, c.loc, c.hid⟩ := by
  have hlt := (Array.getElem?_eq_some_iff.1 hb).1
  have e1 : ({ c.w with heap := c.w.heap.setIfInBounds b (.map ents' clock'), drawn := d } : World).heap.size = c.w.heap.size := by simp
  have e2 : ∀ b', b' ≠ b → ({ c.w with heap := c.w.heap.setIfInBounds b (.map ents' clock'), drawn := d } : World).heap[b']? = c.w.heap[b']? := fun b' hb' => by
    show (c.w.heap.setIfInBounds b _)[b']? = _
    rw [Array.getElem?_setIfInBounds_ne (Ne.symm hb')]
  have e3 : ∀ (cs : Array Value) (e : TypeId) (f : Nat × Nat), c.w.heap[b]? = some (.cells cs e f) → ∃ (cs' : Array Value) (f' : Nat × Nat), ({ c.w with heap := c.w.heap.setIfInBounds b (.map ents' clock'), drawn := d } : World).heap[b]? = some (.cells cs' e f') ∧ cs'.size = cs.size := by
    intro cs e f q; rw [hb] at q; cases q
  have hE := Ext.write hl _ e1 e2 e3
  refine ⟨SR.write h hl _ e1 e2 e3 (.map es' clock') ⟨b, rfl, ents', ?_, hE.mapR hm, hn, hc⟩, hE⟩
  show (c.w.heap.setIfInBounds b _)[b]? = _
  simp [hlt]

def mapUpdateF (P : Program) (t : TypeId) (σ : List Ob) (m k x : V) : Option (List Ob) :=
  match mapT P t, m, k with
  | some (kt, _), .mp o, .d k => if keyOk P kt k then
      match σ[o]? with
      | some (.map es clk) => (putD k x clk es).map fun p => σ.set o (.map p.1 p.2)
      | _ => none
    else none
  | _, _, _ => none

theorem mapUpdateF_sound {P : Program} {t : TypeId} {c : Cx} {σ σ' : List Ob} (h : SR c σ) {m k x : V} {vm vk vx : Value} (e : mapUpdateF P t σ m k x = some σ') (hm : c.vr m vm) (hk : c.vr k vk) (hx : c.vr x vx) : SemOkU P (Instr.mapUpdate t vm vk vx) c σ' := by
  unfold mapUpdateF at e
  split at e
  · rename_i kt et o k ht
    have hu := mapT_some ht
    split at e
    · rename_i hko
      obtain ⟨td, htd⟩ := keyOk_some hko
      simp only [Cx.vr, VR] at hk
      split at e
      · rename_i es clk hes
        cases hp : putD k x clk es with
        | none => rw [hp] at e; cases e
        | some pq =>
          obtain ⟨es', clk'⟩ := pq
          rw [hp] at e; simp at e; subst e
          obtain ⟨b, ents, hl, rfl, h1, h2, h3, h4⟩ := map_at h hes hm
          have hstamp : ∀ (l : List (D × V × Nat)) (n : Nat), (∀ q ∈ l.map (·.2.2), q < n) → ∀ e ∈ l, e.2.2 < n := fun l n hq e he => hq _ (List.mem_map.2 ⟨e, he, rfl⟩)
          have h4' : ∀ q ∈ es.map (·.2.2), q < clk := fun q hq => by
            obtain ⟨e, he, rfl⟩ := List.mem_map.1 hq
            exact h4 e he
          rcases put_findNow hko htd hk hx h2 0 hp with ⟨j, ent, g1, g2, g3, g4, g5, g6, g7⟩ | ⟨g1, g2, g6, g7⟩
          · have hj := (List.getElem?_eq_some_iff.1 g2).1
            have ej : ents[j]? = some ent := by simpa using g2
            have hmod : (ents.modify j fun e => { e with key := vk, val := vx }).toList = ents.toList.set j { ent with key := vk, val := vx } := by
              apply List.ext_getElem?
              intro q
              rw [Array.getElem?_toList, Array.getElem?_modify, List.getElem?_set]
              by_cases hq : j = q
              · subst hq
                simp [ej]
                have := (Array.getElem?_eq_some_iff.1 ej).1
                exact this
              · simp [hq]
            subst g6
            obtain ⟨k1, k2⟩ := write_map h hl h1 (es' := es') (ents' := ents.modify j fun e => { e with key := vk, val := vx }) (clock' := clk') (d := c.w.drawn) (by rw [hmod]; exact g5) (by rw [g7]; exact h3) (hstamp _ _ (by rw [g7]; exact h4'))
            refine ⟨_, c.loc, ?_, k1, k2⟩
            simp only [Nat.zero_add] at g1
            simp only [Instr.mapUpdate, Sem.run_bind, run_underlying hu, Result.andThen_ok, run_getObj_map h1, keyOk_checks hko hk, run_findKey htd g1, ej, Option.map_some, Option.getD_some, Instr.keyThatStays, g4, if_true, Sem.run_pure]
            exact run_setObj_map h1 _
          · subst g6
            obtain ⟨k1, k2⟩ := write_map h hl h1 (es' := es') (ents' := ents.push { key := vk, val := vx, born := clk }) (clock' := clk + 1) (d := c.w.drawn) (by simpa using g2)
              (by
                rw [g7]
                refine List.nodup_append.2 ⟨h3, by simp, ?_⟩
                intro a ha b' hb' hab
                simp at hb'; subst hb'; subst hab
                have := h4' _ ha
                omega)
              (hstamp _ _ (by
                rw [g7]
                intro q hq
                rcases List.mem_append.1 hq with hq | hq
                · have := h4' q hq; omega
                · simp at hq; omega))
            refine ⟨_, c.loc, ?_, k1, k2⟩
            simp only [Instr.mapUpdate, Sem.run_bind, run_underlying hu, Result.andThen_ok, run_getObj_map h1, keyOk_checks hko hk, run_findKey htd g1]
            exact run_setObj_map h1 _
      · cases e
    · cases e
  · cases e

def deleteF (P : Program) (t : TypeId) (σ : List Ob) (m k : V) : Option (List Ob) :=
  match mapT P t, k with
  | some (kt, _), .d k => if keyOk P kt k then
      match m with
      | .mp o => match σ[o]? with
        | some (.map es clk) => (delD k es).map fun es' => σ.set o (.map es' clk)
        | _ => none
      | .d .nilm => some σ
      | _ => none
    else none
  | _, _ => none

theorem deleteF_sound {P : Program} {t ty : TypeId} {c : Cx} {σ σ' : List Ob} (h : SR c σ) {m k : V} {vm vk : Value} (e : deleteF P t σ m k = some σ') (hm : c.vr m vm) (hk : c.vr k vk) : SemOk P (Builtin.delete_ #[t] ty #[vm, vk]) c (.tup []) σ' := by
  have htup : ∀ c' : Cx, c'.vr (.tup []) (.tuple #[]) := fun c' => by simp only [Cx.vr, VR, VRs]; exact ⟨[], rfl, rfl⟩
  unfold deleteF at e
  split at e
  · rename_i kt et k ht
    have hu := mapT_some ht
    split at e
    · rename_i hko
      obtain ⟨td, htd⟩ := keyOk_some hko
      simp only [Cx.vr, VR] at hk
      split at e
      · rename_i o
        split at e
        · rename_i es clk hes
          cases hp : delD k es with
          | none => rw [hp] at e; cases e
          | some es' =>
            rw [hp] at e; simp at e; subst e
            obtain ⟨b, ents, hl, rfl, h1, h2, h3, h4⟩ := map_at h hes hm
            rcases del_findNow hko htd hk h2 0 hp with ⟨j, u, g1, g2, g3, g4⟩ | ⟨g1, rfl⟩
            · have hj : j < ents.size := by simpa using g2
              have her : (ents.eraseIdxIfInBounds j).toList = ents.toList.eraseIdx j := by simp [Array.eraseIdxIfInBounds, hj]
              obtain ⟨k1, k2⟩ := write_map h hl h1 (es' := es') (ents' := ents.eraseIdxIfInBounds j) (clock' := clk) (d := c.w.drawn) (by rw [her]; exact g3)
                (by rw [g4]; exact h3.sublist (List.Sublist.map _ (List.eraseIdx_sublist _ _)))
                (by rw [g4]; intro e he; exact h4 e (List.mem_of_mem_eraseIdx he))
              refine ⟨.tuple #[], _, c.loc, ?_, k1, k2, htup _⟩
              simp only [Nat.zero_add] at g1
              simp only [Builtin.delete_, List.getElem?_toArray, List.getElem?_cons_zero, List.getElem?_cons_succ, Sem.run_bind, run_underlying hu, Result.andThen_ok, run_getObj_map h1, keyOk_checks hko hk, run_findKey htd g1, run_setObj_map h1, Sem.run_pure]
            · obtain ⟨k1, k2⟩ := write_map h hl h1 (es' := es') (ents' := ents) (clock' := clk) (d := c.w.drawn) h2 h3 h4
              refine ⟨.tuple #[], _, c.loc, ?_, k1, k2, htup _⟩
              simp only [Builtin.delete_, List.getElem?_toArray, List.getElem?_cons_zero, List.getElem?_cons_succ, Sem.run_bind, run_underlying hu, Result.andThen_ok, run_getObj_map h1, keyOk_checks hko hk, run_findKey htd g1, run_setObj_map h1, Sem.run_pure]
        · cases e
      · simp only [Option.some.injEq] at e; subst e
        simp only [Cx.vr, VR, DR] at hm; subst hm
        refine ⟨.tuple #[], c.w, c.loc, ?_, h, Ext.refl c, htup _⟩
        simp only [Builtin.delete_, List.getElem?_toArray, List.getElem?_cons_zero, List.getElem?_cons_succ, Sem.run_bind, run_underlying hu, Result.andThen_ok, keyOk_checks hko hk, Sem.run_pure]
      · cases e
    · cases e
  · cases e

theorem makeMap_sound {P : Program} {t : TypeId} {c : Cx} {σ : List Ob} (h : SR c σ) : SemOk P (Instr.makeMap t none) c (.mp σ.length) (σ ++ [.map [] 0]) := by
  have e1 : ({ c.w with heap := c.w.heap.push (.map #[] 0) } : World).heap.size = c.w.heap.size + 1 := by simp
  have e2 : ∀ b, b < c.w.heap.size → ({ c.w with heap := c.w.heap.push (.map #[] 0) } : World).heap[b]? = c.w.heap[b]? := fun b hb => heap_push_lt hb
  refine ⟨.map (some c.w.heap.size), _, upd c.loc σ.length (.here c.w.heap.size 0 1), ?_, SR.new h _ e1 e2 1 (.map [] 0) ⟨c.w.heap.size, rfl, #[], heap_push_at, .nil, by simp, by simp⟩, Ext.new h _ e1 e2 1, ?_⟩
  · simp only [Instr.makeMap, Sem.run_bind, Sem.run_pure, Result.andThen_ok, run_newObj]
  · simp [Cx.vr, VR]

/-! ### text turned into bytes -/
def strBytesF (P : Program) (src dst : TypeId) (σ : List Ob) : V → Option (V × List Ob)
  | .d (.str s) => match elemOfSlice P dst with
    | some e => if isStrT P src = true ∧ intT P e = some .u8 ∧ szOf P e = 1 then some (.sl σ.length 0 s.length, σ ++ [.arr 1 true (s.map u8D)]) else none
    | none => none
  | _ => none

theorem freeze_push {w : World} {cs : Array Value} {e : TypeId} {d : Nat} : ({ w with heap := w.heap.push (.cells cs e), drawn := d } : World).freeze { block := w.heap.size, off := cs.size } 1 = { w with heap := w.heap.push (.cells cs e (cs.size, cs.size + 1)), drawn := d } := by
  unfold World.freeze
  simp only [Nat.one_ne_zero, if_false]
  congr 1
  apply Array.ext'
  apply List.ext_getElem?
  intro j
  simp only [Array.getElem?_toList]
  rw [Array.getElem?_modify, Array.getElem?_push, Array.getElem?_push]
  by_cases h : w.heap.size = j
  · subst h; simp
  · simp [h, Ne.symm h]

theorem strBytesF_sound {P : Program} {src dst : TypeId} {c : Cx} {σ σ' : List Ob} (h : SR c σ) {x r : V} {vx : Value} (e : strBytesF P src dst σ x = some (r, σ')) (hx : c.vr x vx) : SemOk P (convert src dst vx) c r σ' := by
  unfold strBytesF at e
  split at e
  · rename_i s
    split at e
    · rename_i el hel
      split at e
      · rename_i hq
        simp only [Option.some.injEq, Prod.mk.injEq] at e
        obtain ⟨rfl, rfl⟩ := e
        have hu := elemOfSlice_some hel
        simp only [Cx.vr, VR, DR] at hx; subst hx
        have hdr : DRs c.im (s.map u8D) (s.map fun b => Value.int .u8 b.toNat) := by
          clear hel
          induction s with
          | nil => simp [DRs]
          | cons b s ih => simp only [List.map_cons, DRs, u8D, DR]; exact ⟨_, _, rfl, rfl, ih⟩
        have hfl : ∀ u ∈ s.map (fun b => Value.int .u8 b.toNat), Flat u 1 := by
          intro u hu
          obtain ⟨b, _, rfl⟩ := List.mem_map.1 hu
          exact ⟨rfl, by simp [Value.cells, Value.oneCell']⟩
        let cap := (Question.appendCap s.length 0 el).cut (c.w.tape c.w.drawn (.appendCap s.length 0 el))
        have hcap : s.length ≤ cap := by simp [cap, Question.cut]
        have hflat : (flat (s.map fun b => Value.int .u8 b.toNat)) = s.map fun b => Value.int .u8 b.toNat := by
          unfold flat
          clear hcap hel hdr hfl
          induction s with
          | nil => rfl
          | cons b s ih => simp only [List.map_cons, List.flatMap_cons, ih]; rfl
        have hlen : ((flat (s.map fun b => Value.int .u8 b.toNat)) ++ List.replicate (cap - s.length) (Value.int .u8 0)).length = cap := by
          rw [hflat]; simp; omega
        obtain ⟨k1, k2, k3⟩ := new_arr h (by omega) hdr hfl (List.replicate (cap - s.length) (Value.int .u8 0)) el cap (c.w.drawn + 1) true (by simp; omega) (by simpa using hcap) (cap, cap + 1)
          (by rw [hlen]; intro i hi hh; omega) (by intro q; cases q)
        rw [List.length_map] at k3
        refine ⟨_, _, _, ?_, k1, k2, k3⟩
        have hqf : (Question.appendCap s.length 0 el).forced = false := rfl
        have harr : (s.map fun b => Value.int .u8 (b.toNat : Int)).toArray ++ Array.replicate (cap - s.length) (Value.int .u8 0) = ((flat (s.map fun b => Value.int .u8 b.toNat)) ++ List.replicate (cap - s.length) (Value.int .u8 0)).toArray := by
          rw [hflat]; apply Array.ext'; simp
        have hsz : ((flat (s.map fun b => Value.int .u8 b.toNat)) ++ List.replicate (cap - s.length) (Value.int .u8 0)).toArray.size = cap := by rw [List.size_toArray, hlen]
        have hfz := freeze_push (w := c.w) (cs := ((flat (s.map fun b => Value.int .u8 b.toNat)) ++ List.replicate (cap - s.length) (Value.int .u8 0)).toArray) (e := el) (d := c.w.drawn + 1)
        rw [hsz] at hfz
        have hshape : ({ c.w with heap := c.w.heap.push (.cells ((flat (s.map fun b => Value.int .u8 b.toNat)) ++ List.replicate (cap - s.length) (Value.int .u8 0)).toArray el), drawn := c.w.drawn + 1 } : World).shape? c.w.heap.size = some (el, cap) := by
          simp only [World.shape?, Array.getElem?_push_size, hsz]
        simp only [convert, Sem.run_bind, run_underlying (isStrT_some hq.1), run_underlying hu, run_underlying (intT_some hq.2.1), Result.andThen_ok, Conv.stringToBytes, size_mk, run_choose, hqf, Bool.false_eq_true, if_false]
        show ((newRow el _).run P _).andThen _ = _
        have hmap : (⟨s.toArray⟩ : ByteArray).data.map (fun b => Value.int .u8 (b.toNat : Int)) = (s.map fun b => Value.int .u8 (b.toNat : Int)).toArray := by simp
        rw [hmap, harr]
        simp only [newRow, Sem.run_bind, run_newObj, Result.andThen_ok, Sem.run_pure, markStringish, run_shape, hshape, run_freeze]
        rw [hfz]
      · cases e
    · cases e
  · cases e

/-! ### all of them -/
/-! ### ranges over maps and strings -/
def rangeF (P : Program) (t : TypeId) (σ : List Ob) (x : V) : Option (V × List Ob) :=
  match x with
  | .d (.str s) => if isStrT P t then some (.ptr σ.length 0 0, σ ++ [.sit s 0]) else none
  | .d .nilm => if isMapT P t then some (.ptr σ.length 0 0, σ ++ [.mit (.d .nilm) 0 [] 0]) else none
  | .mp o => if isMapT P t then match σ[o]? with
      | some (.map _ clk) => some (.ptr σ.length 0 0, σ ++ [.mit (.mp o) clk [] clk])
      | _ => none
    else none
  | _ => none

theorem rangeF_sound {P : Program} {t : TypeId} {c : Cx} {σ σ' : List Ob} (h : SR c σ) {x r : V} {vx : Value} (e : rangeF P t σ x = some (r, σ')) (hx : c.vr x vx) : SemOk P (Instr.range t vx) c r σ' := by
  have mk : ∀ (ob : Obj) (y : Ob), (∀ (c' : Cx), Ext c c' → c'.w = { c.w with heap := c.w.heap.push ob } → OR c' (.here c.w.heap.size 0 1) y) →
      ∃ loc', SR ⟨{ c.w with heap := c.w.heap.push ob }, loc', c.hid⟩ (σ ++ [y]) ∧ Ext c ⟨{ c.w with heap := c.w.heap.push ob }, loc', c.hid⟩ ∧ Cx.vr ⟨{ c.w with heap := c.w.heap.push ob }, loc', c.hid⟩ (.ptr σ.length 0 0) (.pointer (some ⟨c.w.heap.size, 0, none⟩)) := by
    intro ob y hy
    have e1 : ({ c.w with heap := c.w.heap.push ob } : World).heap.size = c.w.heap.size + 1 := by simp
    have e2 : ∀ b, b < c.w.heap.size → ({ c.w with heap := c.w.heap.push ob } : World).heap[b]? = c.w.heap[b]? := fun b hb => heap_push_lt hb
    have hE := Ext.new h { c.w with heap := c.w.heap.push ob } e1 e2 1
    exact ⟨upd c.loc σ.length (.here c.w.heap.size 0 1), SR.new h _ e1 e2 1 y (hy _ hE rfl), hE, by simp [Cx.vr, VR]⟩
  unfold rangeF at e
  split at e
  · rename_i s
    split at e
    · rename_i ht
      simp only [Option.some.injEq, Prod.mk.injEq] at e
      obtain ⟨rfl, rfl⟩ := e
      simp only [Cx.vr, VR, DR] at hx; subst hx
      obtain ⟨loc', g1, g2, g3⟩ := mk (.stringIter ⟨s.toArray⟩ 0) (.sit s 0) (fun c' hE hw => ⟨_, rfl, by rw [hw]; exact heap_push_at⟩)
      exact ⟨_, _, loc', by simp only [Instr.range, Sem.run_bind, run_underlying (isStrT_some ht), Result.andThen_ok, Sem.run_pure, run_newObj], g1, g2, g3⟩
    · cases e
  · split at e
    · rename_i ht
      simp only [Option.some.injEq, Prod.mk.injEq] at e
      obtain ⟨rfl, rfl⟩ := e
      simp only [Cx.vr, VR, DR] at hx; subst hx
      obtain ⟨k, el, hu⟩ := isMapT_some ht
      obtain ⟨loc', g1, g2, g3⟩ := mk (.mapIter none 0 #[] 0) (.mit (.d .nilm) 0 [] 0) (fun c' hE hw => ⟨_, rfl, none, by rw [hw]; exact heap_push_at, by simp [Cx.vr, VR, DR]⟩)
      exact ⟨_, _, loc', by simp only [Instr.range, Sem.run_bind, run_underlying hu, Result.andThen_ok, Sem.run_pure, run_newObj], g1, g2, g3⟩
    · cases e
  · rename_i o
    split at e
    · rename_i ht
      split at e
      · rename_i es clk hes
        simp only [Option.some.injEq, Prod.mk.injEq] at e
        obtain ⟨rfl, rfl⟩ := e
        obtain ⟨k, el, hu⟩ := isMapT_some ht
        obtain ⟨b, ents, hl, rfl, h1, h2, h3, h4⟩ := map_at h hes hx
        obtain ⟨loc', g1, g2, g3⟩ := mk (.mapIter (some b) clk #[] clk) (.mit (.mp o) clk [] clk) (fun c' hE hw => ⟨_, rfl, some b, by rw [hw]; exact heap_push_at, hE.vr hx⟩)
        exact ⟨_, _, loc', by simp only [Instr.range, Sem.run_bind, run_underlying hu, Result.andThen_ok, Sem.run_pure, run_getObj_map h1, run_newObj], g1, g2, g3⟩
      · cases e
    · cases e
  · cases e

def entryF (σ : List Ob) (x : V) : Option V :=
  match x with
  | .ptr i 0 0 => match σ[i]? with
    | some (.mit (.mp o) _ seen last) => match σ[o]? with
      | some (.map es clk) => if clk = last then match seen.getLast? with
          | some st => (es.find? fun e => e.2.2 == st).map fun e => .tup [.d e.1, e.2.1]
          | none => none
        else none
      | _ => none
    | _ => none
  | _ => none

theorem MapR.find {I : Im} {w : World} {loc : Nat → Loc} (st : Nat) {es : List (D × V × Nat)} {l : List MapEntry} (m : MapR I w loc es l) : match es.find? (fun e => e.2.2 == st), l.find? (fun e => e.born == st) with
    | some x, some e => DR I x.1 e.key ∧ VR I w loc x.2.1 e.val
    | none, none => True
    | _, _ => False := by
  induction m with
  | nil => simp
  | @cons k x n e es l a b hn _ ih =>
    simp only [List.find?_cons, hn]
    cases hq : n == st with
    | true => exact ⟨a, b⟩
    | false => exact ih

/-- An iterator that lies where the store says. -/
theorem mit_at {c : Cx} {σ : List Ob} (h : SR c σ) {i o : Nat} {since last : Nat} {seen : List Nat} (hx : σ[i]? = some (.mit (.mp o) since seen last)) {es : List (D × V × Nat)} {clk : Nat} (ho : σ[o]? = some (.map es clk)) {v : Value} (r : c.vr (.ptr i 0 0) v) :
    ∃ b mb ents, c.loc i = .here b 0 1 ∧ v = .pointer (some ⟨b, 0, none⟩) ∧ c.w.heap[b]? = some (.mapIter (some mb) since seen.toArray last) ∧ c.w.heap[mb]? = some (.map ents clk) ∧ c.mapR es ents.toList ∧ (es.map (·.2.2)).Nodup ∧ ∀ e ∈ es, e.2.2 < clk := by
  obtain ⟨b, hl, q, h1, h2⟩ := h.get hx
  obtain ⟨mb, ents, hl', e1, h3, h4, h5, h6⟩ := map_at h ho h2
  simp only [Value.map.injEq] at e1
  subst e1
  simp only [Cx.vr, VR, hl] at r
  exact ⟨b, mb, ents, hl, by simpa using r, h1, h3, h4, h5, h6⟩

theorem entryF_sound {P : Program} {c : Cx} {σ : List Ob} (h : SR c σ) {x r : V} {vx : Value} (e : entryF σ x = some r) (hx : c.vr x vx) : ∃ v, (Instr.entry vx).run P c.w = .ok v c.w ∧ c.vr r v := by
  unfold entryF at e
  split at e
  · rename_i i
    split at e
    · rename_i o since seen last hi
      split at e
      · rename_i es clk ho
        split at e
        · rename_i hcl
          subst hcl
          split at e
          · rename_i st hst
            obtain ⟨b, mb, ents, hl, rfl, h1, h2, h3, h4, h5⟩ := mit_at h hi ho hx
            have hf := h3.find st
            cases hq : es.find? (fun e => e.2.2 == st) with
            | none => rw [hq] at e; cases e
            | some x =>
              rw [hq] at e hf
              simp only [Option.map_some, Option.some.injEq] at e; subst e
              cases hq' : ents.toList.find? (fun e => e.born == st) with
              | none => rw [hq'] at hf; exact hf.elim
              | some en =>
                rw [hq'] at hf
                have hback : seen.toArray.back? = some st := by simpa using hst
                have hfind : ents.find? (fun e => e.born == st) = some en := by rw [← Array.find?_toList]; exact hq'
                refine ⟨.tuple #[en.key, en.val], ?_, ?_⟩
                · simp only [Instr.entry, getObj, Sem.run_bind, Sem.run, h1, h2, Result.andThen, hback, bne_self_eq_false, Bool.false_eq_true, if_false, hfind]
                  rfl
                · simp only [Cx.vr, VR, VRs]
                  exact ⟨[en.key, en.val], rfl, en.key, [en.val], rfl, by simpa [VR] using hf.1, en.val, [], rfl, hf.2, rfl⟩
          · cases e
        · cases e
      · cases e
    · cases e
  · cases e

def effF (P : Program) (s : List V) (σ : List Ob) : Op → Option (V × List Ob)
  | .alloc t => (zeroCs P t).map fun cs => (.ptr σ.length 0 0, σ ++ [.box cs])
  | .box _ x => (cellsV σ (get s x)).map fun cs => (.ptr σ.length 0 0, σ ++ [.box cs])
  | .buildSlice t len parts => buildSliceF P t len σ s parts.toList
  | .store t a x => (storeF P t σ (get s a) (get s x)).map fun σ' => (.undef, σ')
  | .makeSlice t l c => match makeSliceF P t σ (get s l) (get s c) with
    | some r => some r
    | none => makeVecF P t σ (get s l) (get s c)
  | .makeMap _ none => some (.mp σ.length, σ ++ [.map [] 0])
  | .mapUpdate t m k x => (mapUpdateF P t σ (get s m) (get s k) (get s x)).map fun σ' => (.undef, σ')
  | .insert t m k x => (mapUpdateF P t σ (get s m) (get s k) (get s x)).map fun σ' => (.undef, σ')
  | .convert src dst x => strBytesF P src dst σ (get s x)
  | .range t x => rangeF P t σ (get s x)
  | .entry x => (entryF σ (get s x)).map fun r => (r, σ)
  | .call { callee := .builtin .append, args, argTypes } => match args.toList, argTypes.toList with
    | [d, x], [t, tx] => match appendInF P t tx σ (get s d) (get s x) with
      | some r => some r
      | none => appendF P t tx σ (get s d) (get s x)
    | _, _ => none
  | .call { callee := .builtin .delete, args, argTypes } => match args.toList, argTypes.toList with
    | [m, k], t :: _ => (deleteF P t σ (get s m) (get s k)).map fun σ' => (.tup [], σ')
    | _, _ => none
  | .call { callee := .builtin .clear, args, argTypes } => match args.toList, argTypes.toList with
    | [x], [t] => (clearF P t σ (get s x)).map fun σ' => (.tup [], σ')
    | _, _ => none
  | _ => none

/-- What an operation that acts comes to. -/
def EffOk (P : Program) (o : Oper) (a : Act) (c : Cx) (r : V) (σ' : List Ob) : Prop :=
  (∃ nx w' loc' v, (execOp a.eval o).run P c.w = .ok nx w' ∧ (nx = .value v ∨ (nx = .skip ∧ v = undef)) ∧ SR ⟨w', loc', c.hid⟩ σ' ∧ Ext c ⟨w', loc', c.hid⟩ ∧ Cx.vr ⟨w', loc', c.hid⟩ r v)

theorem EffOk.of_sem {P : Program} {o : Oper} {a : Act} {c : Cx} {r : V} {σ' : List Ob} {x : Sem Value} (h : SemOk P x c r σ') (he : execOp a.eval o = (do pure (.value (← x)))) : EffOk P o a c r σ' := by
  obtain ⟨v, w', loc', h1, h2, h3, h4⟩ := h
  exact ⟨.value v, w', loc', v, by rw [he]; exact run_value h1, .inl rfl, h2, h3, h4⟩

theorem EffOk.of_semU {P : Program} {o : Oper} {a : Act} {c : Cx} {σ' : List Ob} {x : Sem Unit} (h : SemOkU P x c σ') (he : execOp a.eval o = (do x; pure .skip)) : EffOk P o a c .undef σ' := by
  obtain ⟨w', loc', h1, h2, h3⟩ := h
  exact ⟨.skip, w', loc', undef, by rw [he]; simp [h1], .inr ⟨rfl, rfl⟩, h2, h3, by simp [Cx.vr, VR]⟩

theorem eff_sound {P : Program} {o : Oper} {a : Act} {c : Cx} {s : List V} {σ σ' : List Ob} (h : SR c σ) (hs : c.vrs s a.tmps.toList) {r : V} (e : effF P s σ o.op = some (r, σ')) : EffOk P o a c r σ' := by
  cases hop : o.op with
  | alloc t =>
    rw [hop] at e
    simp only [effF] at e
    cases hz : zeroCs P t with
    | none => rw [hz] at e; cases e
    | some cs =>
      rw [hz] at e; simp at e; obtain ⟨rfl, rfl⟩ := e
      exact .of_sem (alloc_sound h hz) (by simp only [execOp, hop])
  | box t x =>
    rw [hop] at e
    simp only [effF] at e
    cases hz : cellsV σ (get s x) with
    | none => rw [hz] at e; cases e
    | some cs =>
      rw [hz] at e; simp at e; obtain ⟨rfl, rfl⟩ := e
      exact .of_sem (box_sound (t := t) h hz (vr_get hs x)) (by simp only [execOp, hop])
  | buildSlice t len parts =>
    rw [hop] at e
    exact .of_sem (buildSliceF_sound h hs e) (by simp only [execOp, hop])
  | store t x y =>
    rw [hop] at e
    simp only [effF] at e
    cases hz : storeF P t σ (get s x) (get s y) with
    | none => rw [hz] at e; cases e
    | some cs =>
      rw [hz] at e; simp at e; obtain ⟨rfl, rfl⟩ := e
      exact .of_semU (storeF_sound h hz (vr_get hs x) (vr_get hs y)) (by simp only [execOp, hop])
  | makeSlice t l c' =>
    rw [hop] at e
    simp only [effF] at e
    split at e
    · rename_i x hx
      simp only [Option.some.injEq] at e; subst e
      exact .of_sem (makeSliceF_sound h hx (vr_get hs l) (vr_get hs c')) (by simp only [execOp, hop])
    · exact .of_sem (makeVecF_sound h e (vr_get hs l) (vr_get hs c')) (by simp only [execOp, hop])
  | makeMap t r' =>
    rw [hop] at e
    cases r' with
    | none =>
      simp only [effF, Option.some.injEq, Prod.mk.injEq] at e
      obtain ⟨rfl, rfl⟩ := e
      exact .of_sem (makeMap_sound (t := t) h) (by simp only [execOp, hop, Option.map_none])
    | some x => simp [effF] at e
  | range t x =>
    rw [hop] at e
    exact .of_sem (rangeF_sound h e (vr_get hs x)) (by simp only [execOp, hop])
  | entry x =>
    rw [hop] at e
    simp only [effF] at e
    cases hz : entryF σ (get s x) with
    | none => rw [hz] at e; cases e
    | some r' =>
      rw [hz] at e; simp at e; obtain ⟨rfl, rfl⟩ := e
      obtain ⟨v, g1, g2⟩ := entryF_sound (P := P) h hz (vr_get hs x)
      exact .of_sem ⟨v, c.w, c.loc, g1, h, Ext.refl c, g2⟩ (by simp only [execOp, hop])
  | mapUpdate t m k x =>
    rw [hop] at e
    simp only [effF] at e
    cases hz : mapUpdateF P t σ (get s m) (get s k) (get s x) with
    | none => rw [hz] at e; cases e
    | some cs =>
      rw [hz] at e; simp at e; obtain ⟨rfl, rfl⟩ := e
      exact .of_semU (mapUpdateF_sound h hz (vr_get hs m) (vr_get hs k) (vr_get hs x)) (by simp only [execOp, hop])
  | insert t m k x =>
    rw [hop] at e
    simp only [effF] at e
    cases hz : mapUpdateF P t σ (get s m) (get s k) (get s x) with
    | none => rw [hz] at e; cases e
    | some cs =>
      rw [hz] at e; simp at e; obtain ⟨rfl, rfl⟩ := e
      exact .of_semU (mapUpdateF_sound h hz (vr_get hs m) (vr_get hs k) (vr_get hs x)) (by simp only [execOp, hop])
  | convert src dst x =>
    rw [hop] at e
    exact .of_sem (strBytesF_sound h e (vr_get hs x)) (by simp only [execOp, hop])
  | call cl =>
    rw [hop] at e
    obtain ⟨callee, args, ts⟩ := cl
    unfold effF at e
    split at e <;> try (cases e; done)
    all_goals rename_i heq
    all_goals try (cases heq; done)
    · simp only [Op.call.injEq, Call.mk.injEq] at heq
      obtain ⟨rfl, rfl, rfl⟩ := heq
      split at e
      · rename_i d x t tx ha ht
        have ea : args = #[d, x] := by apply Array.ext'; simp [ha]
        have et : ts = #[t, tx] := by apply Array.ext'; simp [ht]
        subst ea; subst et
        have hexec : execOp a.eval o = (do pure (.value (← Builtin.append_ #[t, tx] o.type #[a.eval d, a.eval x]))) := by
          simp only [execOp, hop, resolve, List.map_toArray, List.map_cons, List.map_nil, pure_bind, invoke, builtin]
        split at e
        · rename_i y hy
          simp only [Option.some.injEq] at e; subst e
          exact .of_sem (appendInF_sound (ty := o.type) h hy (vr_get hs d) (vr_get hs x)) hexec
        · exact .of_sem (appendF_sound (ty := o.type) h e (vr_get hs d) (vr_get hs x)) hexec
      · cases e
    · simp only [Op.call.injEq, Call.mk.injEq] at heq
      obtain ⟨rfl, rfl, rfl⟩ := heq
      split at e
      · rename_i m k t tr ha ht
        cases hz : deleteF P t σ (get s m) (get s k) with
        | none => rw [hz] at e; cases e
        | some cs =>
          rw [hz] at e; simp at e; obtain ⟨rfl, rfl⟩ := e
          have ea : args = #[m, k] := by apply Array.ext'; simp [ha]
          subst ea
          have hexec : execOp a.eval o = (do pure (.value (← Builtin.delete_ ts o.type #[a.eval m, a.eval k]))) := by
            simp only [execOp, hop, resolve, List.map_toArray, List.map_cons, List.map_nil, pure_bind, invoke, builtin]
          have h0 : ts[0]? = some t := by rw [← Array.getElem?_toList, ht]; rfl
          have hdel : Builtin.delete_ ts o.type #[a.eval m, a.eval k] = Builtin.delete_ #[t] o.type #[a.eval m, a.eval k] := by
            simp only [Builtin.delete_, h0]; rfl
          rw [hdel] at hexec
          exact .of_sem (deleteF_sound (ty := o.type) h hz (vr_get hs m) (vr_get hs k)) hexec
      · cases e
    · simp only [Op.call.injEq, Call.mk.injEq] at heq
      obtain ⟨rfl, rfl, rfl⟩ := heq
      split at e
      · rename_i x t ha ht
        cases hz : clearF P t σ (get s x) with
        | none => rw [hz] at e; cases e
        | some cs =>
          rw [hz] at e; simp at e; obtain ⟨rfl, rfl⟩ := e
          have ea : args = #[x] := by apply Array.ext'; simp [ha]
          have et : ts = #[t] := by apply Array.ext'; simp [ht]
          subst ea; subst et
          exact .of_sem (clearF_sound (ty := o.type) h hz (vr_get hs x)) (by
            simp only [execOp, hop, resolve, List.map_toArray, List.map_cons, List.map_nil, pure_bind, invoke, builtin])
      · cases e
  | _ => rw [hop] at e; simp [effF] at e
end Go.Proofs.Ytjidelngljpbdaa.Am
