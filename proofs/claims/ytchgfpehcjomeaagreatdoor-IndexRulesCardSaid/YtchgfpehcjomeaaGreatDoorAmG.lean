/- The engine's operations that make or write memory, third part: stores, make. -/
import Derived.Test.YtchgfpehcjomeaaGreatDoorAmF
set_option linter.unusedSimpArgs false
set_option linter.unusedVariables false
namespace Go.Proofs.YtchgfpehcjomeaaGreatDoor.Am
open Go

def putL (arr : Array Value) : Nat → List Value → Array Value
  | _, [] => arr
  | o, v :: r => putL (arr.setIfInBounds o v) (o + 1) r

theorem putL_size : ∀ (vs : List Value) (arr : Array Value) (o : Nat), (putL arr o vs).size = arr.size
  | [], _, _ => rfl
  | v :: r, arr, o => by simp only [putL]; rw [putL_size r]; simp

theorem putL_get : ∀ (vs : List Value) (arr : Array Value) (o j : Nat), (putL arr o vs)[j]? = if o ≤ j ∧ j < o + vs.length ∧ j < arr.size then vs[j - o]? else arr[j]?
  | [], arr, o, j => by
    have : ¬ (o ≤ j ∧ j < o + ([] : List Value).length ∧ j < arr.size) := by simp; omega
    rw [if_neg this]; rfl
  | v :: r, arr, o, j => by
    simp only [putL]
    rw [putL_get r]
    simp only [Array.size_setIfInBounds, List.length_cons]
    by_cases h1 : o + 1 ≤ j ∧ j < o + 1 + r.length ∧ j < arr.size
    · have h2 : o ≤ j ∧ j < o + (r.length + 1) ∧ j < arr.size := by omega
      rw [if_pos h1, if_pos h2]
      obtain ⟨k, hk⟩ : ∃ k, j - o = k + 1 := ⟨j - o - 1, by omega⟩
      rw [hk, List.getElem?_cons_succ]
      congr 1; omega
    · rw [if_neg h1]
      by_cases h2 : o ≤ j ∧ j < o + (r.length + 1) ∧ j < arr.size
      · have : j = o := by omega
        subst this
        rw [if_pos h2]
        simp [h2.2.2]
      · rw [if_neg h2]
        rw [Array.getElem?_setIfInBounds]
        split
        · rename_i e
          subst e
          split
          · omega
          · rw [Array.getElem?_eq_none (by omega)]
        · rfl

theorem heap_setCells {b : Nat} {e : TypeId} {f : Nat × Nat} : ∀ (vs : List Value) (o : Nat) (w : World) (arr : Array Value), w.heap[b]? = some (.cells arr e f) →
    (w.setCells b o vs).heap.size = w.heap.size ∧ (∀ b', b' ≠ b → (w.setCells b o vs).heap[b']? = w.heap[b']?) ∧ (w.setCells b o vs).heap[b]? = some (.cells (putL arr o vs) e f)
  | [], o, w, arr, h => ⟨rfl, fun _ _ => rfl, h⟩
  | v :: r, o, w, arr, h => by
    have hlt := (Array.getElem?_eq_some_iff.1 h).1
    have h1 : (w.setCell ⟨b, o, none⟩ v).heap[b]? = some (.cells (arr.setIfInBounds o v) e f) := by
      show (w.heap.modify b _)[b]? = _
      rw [Array.getElem?_modify]
      simp [h]
    have h2 : ∀ b', b' ≠ b → (w.setCell ⟨b, o, none⟩ v).heap[b']? = w.heap[b']? := by
      intro b' hb
      show (w.heap.modify b _)[b']? = _
      rw [Array.getElem?_modify]
      simp [Ne.symm hb]
    have h3 : (w.setCell ⟨b, o, none⟩ v).heap.size = w.heap.size := by show (w.heap.modify b _).size = _; simp
    obtain ⟨g1, g2, g3⟩ := heap_setCells r (o + 1) (w.setCell ⟨b, o, none⟩ v) _ h1
    refine ⟨by simp only [World.setCells]; rw [g1, h3], fun b' hb => by simp only [World.setCells]; rw [g2 b' hb, h2 b' hb], by simp only [World.setCells, putL]; exact g3⟩

theorem frozen_no {w : World} {b : Nat} {arr : Array Value} {e : TypeId} {f : Nat × Nat} {n : Nat} (h : w.heap[b]? = some (.cells arr e f)) (hf : Unfrozen f n) {j : Nat} (hj : j < n) : w.frozen? ⟨b, j, none⟩ = false := by
  simp only [World.frozen?, h]
  have := hf.2 j hj
  simp only [Bool.and_eq_false_iff, decide_eq_false_iff_not]
  by_cases q : f.1 ≤ j
  · exact .inr fun z => this ⟨q, z⟩
  · exact .inl q

/-- A run of stores into a row that is there. -/
theorem run_stores {P : Program} {w : World} {b o : Nat} {arr : Array Value} {e : TypeId} {f : Nat × Nat} (h : w.heap[b]? = some (.cells arr e f)) (hf : Unfrozen f arr.size) {vs : List Value} (hl : o + vs.length ≤ arr.size) (h1 : ∀ v ∈ vs, v.oneCell' = true) :
    (storeCells ⟨b, o, none⟩ vs).run P w = .ok () (w.setCells b o vs) := by
  have := run_storeCells_cells (P := P) b o vs 0 w (fun j hj => by rw [cell?_cells h, Array.getElem?_eq_getElem (by omega)]; rfl) (fun j hj => frozen_no h hf (by omega)) h1
  simpa using this

theorem run_storeVar {P : Program} {w : World} {t : TypeId} {b o : Nat} {arr : Array Value} {e : TypeId} {f : Nat × Nat} (h : w.heap[b]? = some (.cells arr e f)) (hf : Unfrozen f arr.size) {v : Value} (h0 : 0 < szOf P t) (hs : v.cells.size = szOf P t)
    (hl : o + v.cells.size ≤ arr.size) (h1 : ∀ u ∈ v.cells.toList, u.oneCell' = true) : (Instr.storeAt t (.pointer (some ⟨b, o, none⟩)) v).run P w = .ok () (w.setCells b o v.cells.toList) := by
  simp only [Instr.storeAt, Instr.sureAddr, Sem.run_bind, Sem.run_pure, Result.andThen_ok, storeVar, run_sizeOf' h0, hs, ne_eq, not_true_eq_false, if_false]
  exact run_stores h hf (by simpa using hl) h1

/-- The store behind a store. -/
def storeF (P : Program) (t : TypeId) (σ : List Ob) (a x : V) : Option (List Ob) :=
  match a with
  | .ptr o i k => match σ[o]? with
    | some (.box cs) => match cellsV σ x with
      | some xs => if i = 0 ∧ xs.length = szOf P t ∧ 0 < szOf P t ∧ k + xs.length ≤ cs.length ∧ xs.all (one σ) = true then some (σ.set o (.box (setAt cs k xs))) else none
      | none => none
    | some (.vec sz cs) => match cellsV σ x with
      | some xs => if xs.length = szOf P t ∧ 0 < szOf P t ∧ i * sz + k + xs.length ≤ cs.length ∧ xs.all (one σ) = true then some (σ.set o (.vec sz (setAt cs (i * sz + k) xs))) else none
      | none => none
    | some (.arr sz mk es) => match es[i]?, toD σ x with
      | some e, some d => if flatOk d (szOf P t) = true ∧ 0 < szOf P t then
          (if szOf P t = sz ∧ k = 0 then some (σ.set o (.arr sz mk (es.set i d)))
          else if e.csz = some sz ∧ k + szOf P t ≤ sz then some (σ.set o (.arr sz mk (es.set i (.agg (setAt e.cells k d.cells))))) else none)
        else none
      | _, _ => none
    | _ => none
  | _ => none

theorem vrs_one {c : Cx} {σ : List Ob} (h : SR c σ) : ∀ {xs : List V} {vs : List Value}, c.vrs xs vs → xs.all (one σ) = true → ∀ u ∈ vs, u.oneCell' = true
  | [], vs, r, _, u, hu => by simp [Cx.vrs, VRs] at r; subst r; simp at hu
  | x :: xs, vs, r, ha, u, hu => by
    simp only [Cx.vrs, VRs] at r
    obtain ⟨v, r', rfl, h1, h2⟩ := r
    simp only [List.all_cons, Bool.and_eq_true] at ha
    rcases List.mem_cons.1 hu with rfl | hu
    · exact vr_one h ha.1 h1
    · exact vrs_one h h2 ha.2 u hu

/-- Rows where one element is written anew. -/
theorem rows_set {c c' : Cx} (hE : Ext c c') {b base sz : Nat} {es : List D} {arr : Array Value} {e : TypeId} {f : Nat × Nat} (hr : RowsR c.im es b base sz) (hb : c.w.heap[b]? = some (.cells arr e f)) (hle : base + es.length * sz ≤ arr.size)
    {i k : Nat} (hi : i < es.length) {vs : List Value} (hk : k + vs.length ≤ sz) (hb' : c'.w.heap[b]? = some (.cells (putL arr (base + i * sz + k) vs) e f)) {d : D}
    (hd : ∃ v, DR c'.im d v ∧ Flat v sz ∧ ∀ j, j < sz → (putL arr (base + i * sz + k) vs)[base + i * sz + j]? = v.cells[j]?) : RowsR c'.im (es.set i d) b base sz := by
  refine RowsR_of_get fun j x hx => ?_
  by_cases hj : j = i
  · subst hj
    rw [List.getElem?_set_self hi] at hx
    simp at hx; subst hx
    obtain ⟨v, h1, h2, h3⟩ := hd
    refine ⟨v, h1, h2, fun q hq => ?_⟩
    show c'.w.cell? ⟨b, _, none⟩ = _
    rw [cell?_cells hb']
    exact h3 q hq
  · rw [List.getElem?_set_ne (fun e => hj e.symm)] at hx
    obtain ⟨v, h1, h2, h3⟩ := RowsR_get hr j hx
    refine ⟨v, hE.dr h1, h2, fun q hq => ?_⟩
    rw [← h3 q hq]
    show c'.w.cell? ⟨b, _, none⟩ = c.w.cell? ⟨b, _, none⟩
    rw [cell?_cells hb', cell?_cells hb, putL_get]
    have hne : ¬ (base + i * sz + k ≤ base + j * sz + q ∧ base + j * sz + q < base + i * sz + k + vs.length ∧ base + j * sz + q < arr.size) := by
      rintro ⟨q1, q2, _⟩
      rcases Nat.lt_or_gt_of_ne hj with g | g
      · have : (j + 1) * sz ≤ i * sz := Nat.mul_le_mul_right _ g
        rw [Nat.add_mul] at this
        omega
      · have : (i + 1) * sz ≤ j * sz := Nat.mul_le_mul_right _ g
        rw [Nat.add_mul] at this
        omega
    rw [if_neg hne]

theorem setAt_append {α : Type} (us rest xs : List α) (k : Nat) (h : k + xs.length ≤ us.length) : setAt (us ++ rest) k xs = setAt us k xs ++ rest := by
  unfold setAt
  rw [List.take_append_of_le_length (by omega), List.drop_append_of_le_length (by omega)]
  simp
theorem setAt_list_get {cs : List Value} {k : Nat} {xs : List Value} (h : k + xs.length ≤ cs.length) (j : Nat) : (setAt cs k xs)[j]? = if k ≤ j ∧ j < k + xs.length then xs[j - k]? else cs[j]? := setAt_get cs k xs h j

theorem DRs_setAt {I : Im} {cs xs : List D} {vs us : List Value} (h : DRs I cs vs) (g : DRs I xs us) (k : Nat) : DRs I (setAt cs k xs) (setAt vs k us) := by
  unfold setAt
  rw [DRs_length g]
  exact DRs_append (DRs_append (DRs_take h k) g) (DRs_drop h _)

/-- Cells written over a part of a row of cells. -/
theorem vec_write {c : Cx} {σ : List Ob} (h : SR c σ) {o b base sz : Nat} (hl : c.loc o = .here b base sz) (h0 : 0 < sz) {arr : Array Value} {ty : TypeId} {f : Nat × Nat} (h1 : c.w.heap[b]? = some (.cells arr ty f)) (h2 : Unfrozen f arr.size)
    {cs : List V} {us : List Value} (hle : base + us.length ≤ arr.size) (hat : ∀ j, j < us.length → arr[base + j]? = us[j]?) (h3 : c.vrs cs us) {xs : List V} {vs : List Value} (hv : c.vrs xs vs) {kk : Nat} (hk : kk + xs.length ≤ cs.length) :
    SR ⟨c.w.setCells b (base + kk) vs, c.loc, c.hid⟩ (σ.set o (.vec sz (setAt cs kk xs))) ∧ Ext c ⟨c.w.setCells b (base + kk) vs, c.loc, c.hid⟩ ∧ (c.w.setCells b (base + kk) vs).heap[b]? = some (.cells (putL arr (base + kk) vs) ty f) := by
  have l1 := VRs_length hv
  have l3 := VRs_length h3
  obtain ⟨g1, g2, g3⟩ := heap_setCells vs (base + kk) c.w arr h1
  have hcells : ∀ (cs' : Array Value) (e' : TypeId) (f' : Nat × Nat), c.w.heap[b]? = some (.cells cs' e' f') → ∃ (cs'' : Array Value) (f'' : Nat × Nat), (c.w.setCells b (base + kk) vs).heap[b]? = some (.cells cs'' e' f'') ∧ cs''.size = cs'.size := by
    intro cs' e' f' hc
    rw [h1] at hc
    simp only [Option.some.injEq, Obj.cells.injEq] at hc
    obtain ⟨rfl, rfl, rfl⟩ := hc
    exact ⟨_, _, g3, putL_size _ _ _⟩
  have hE := Ext.write hl (c.w.setCells b (base + kk) vs) g1 g2 hcells
  refine ⟨SR.write h hl _ g1 g2 hcells (.vec sz (setAt cs kk xs)) ⟨b, base, rfl, h0, _, ty, f, g3, by rw [putL_size]; exact h2, setAt us kk vs, ?_, fun j hj => ?_, vrs_setAt (hE.vrs h3) (hE.vrs hv) kk hk⟩, hE, g3⟩
  · rw [putL_size, setAt_length _ _ _ (by omega)]; exact hle
  · rw [setAt_length _ _ _ (by omega)] at hj
    rw [putL_get, setAt_get _ _ _ (by omega)]
    by_cases hj' : kk ≤ j ∧ j < kk + vs.length
    · rw [if_pos ⟨by omega, by omega, by omega⟩, if_pos hj']
      congr 1; omega
    · rw [if_neg (by omega), if_neg hj', hat j hj]

theorem storeF_sound {P : Program} {t : TypeId} {c : Cx} {σ σ' : List Ob} (h : SR c σ) {a x : V} {va vx : Value} (e : storeF P t σ a x = some σ') (ha : c.vr a va) (hx : c.vr x vx) : SemOkU P (Instr.storeAt t va vx) c σ' := by
  unfold storeF at e
  split at e
  · rename_i o i k
    split at e
    · rename_i cs hcs
      split at e
      · rename_i xs hxs
        split at e
        · rename_i hq
          obtain ⟨rfl, q1, q2, q3, q4⟩ := hq
          simp only [Option.some.injEq] at e; subst e
          obtain ⟨b, bs, arr, ty, f, hl, rfl, h1, h2, us, rest, hu, h3⟩ := box_at h hcs ha
          have hcv := cellsV_sound h hxs hx
          have l1 := VRs_length hcv
          have l3 := VRs_length h3
          have l4 := congrArg List.length hu
          simp only [Array.length_toList, List.length_append] at l1 l3 l4
          have hone := vrs_one h hcv q4
          obtain ⟨g1, g2, g3⟩ := heap_setCells vx.cells.toList k c.w arr h1
          have hcells : ∀ (cs' : Array Value) (e' : TypeId) (f' : Nat × Nat), c.w.heap[b]? = some (.cells cs' e' f') → ∃ (cs'' : Array Value) (f'' : Nat × Nat), (c.w.setCells b k vx.cells.toList).heap[b]? = some (.cells cs'' e' f'') ∧ cs''.size = cs'.size := by
            intro cs' e' f' hc
            rw [h1] at hc
            simp only [Option.some.injEq, Obj.cells.injEq] at hc
            obtain ⟨rfl, rfl, rfl⟩ := hc
            exact ⟨_, _, g3, putL_size _ _ _⟩
          have hE := Ext.write hl (c.w.setCells b k vx.cells.toList) g1 g2 hcells
          refine ⟨c.w.setCells b k vx.cells.toList, c.loc, run_storeVar h1 h2 q2 (by omega) (by omega) hone, ?_, hE⟩
          refine SR.write h hl _ g1 g2 hcells (.box (setAt cs k xs)) ⟨b, bs, rfl, _, ty, f, g3, by rw [putL_size]; exact h2, ?_⟩
          have hset := vrs_setAt (hE.vrs h3) (hE.vrs hcv) k q3
          have : (putL arr k vx.cells.toList).toList = setAt arr.toList k vx.cells.toList := by
            apply List.ext_getElem?
            intro j
            rw [Array.getElem?_toList, putL_get, setAt_get _ _ _ (by simp; omega)]
            simp only [Array.length_toList, Array.getElem?_toList]
            by_cases hj : k ≤ j ∧ j < k + vx.cells.size
            · rw [if_pos ⟨hj.1, hj.2, by omega⟩, if_pos hj]
            · rw [if_neg (fun z => hj ⟨z.1, z.2.1⟩), if_neg hj]
          have hsp := setAt_append us rest vx.cells.toList k (by simp; omega)
          exact ⟨_, rest, by rw [this, hu, hsp], hset⟩
        · cases e
      · cases e
    · rename_i sz cs hcs
      split at e
      · rename_i xs hxs
        split at e
        · rename_i hq
          obtain ⟨q1, q2, q3, q4⟩ := hq
          simp only [Option.some.injEq] at e; subst e
          obtain ⟨b, base, arr, ty, f, hl, rfl, h0, h1, h2, us, hle, hat, h3⟩ := vec_at h hcs ha
          generalize i * sz + k = kk at *
          have hcv := cellsV_sound h hxs hx
          have l1 := VRs_length hcv
          have l3 := VRs_length h3
          simp only [Array.length_toList] at l1
          obtain ⟨k1, k2, _⟩ := vec_write h hl h0 h1 h2 hle hat h3 hcv (kk := kk) q3
          exact ⟨c.w.setCells b (base + kk) vx.cells.toList, c.loc, run_storeVar h1 h2 q2 (by omega) (by omega) (vrs_one h hcv q4), k1, k2⟩
        · cases e
      · cases e
    · rename_i sz mk es hes
      split at e
      · rename_i e0 d he0 hd
        have hi := (List.getElem?_eq_some_iff.1 he0).1
        split at e
        · rename_i hq
          obtain ⟨b, base, arr, ty, f, hl, rfl, h0, h1, h2, h3, h4⟩ := arr_at h hes ha
          have dr := toD_sound hd hx
          have hfl := flatOk_Flat hq.1 dr
          have hele : base + i * sz + sz ≤ arr.size := by
            have : (i + 1) * sz ≤ es.length * sz := Nat.mul_le_mul_right _ hi
            rw [Nat.add_mul] at this; omega
          have huf : Unfrozen f arr.size := ⟨h2.1, fun j hj => h2.2 j (by split <;> omega)⟩
          obtain ⟨g1, g2, g3⟩ := heap_setCells vx.cells.toList (base + i * sz + k) c.w arr h1
          have hcells : ∀ (cs' : Array Value) (e' : TypeId) (f' : Nat × Nat), c.w.heap[b]? = some (.cells cs' e' f') → ∃ (cs'' : Array Value) (f'' : Nat × Nat), (c.w.setCells b (base + i * sz + k) vx.cells.toList).heap[b]? = some (.cells cs'' e' f'') ∧ cs''.size = cs'.size := by
            intro cs' e' f' hc
            rw [h1] at hc
            simp only [Option.some.injEq, Obj.cells.injEq] at hc
            obtain ⟨rfl, rfl, rfl⟩ := hc
            exact ⟨_, _, g3, putL_size _ _ _⟩
          have hE := Ext.write hl (c.w.setCells b (base + i * sz + k) vx.cells.toList) g1 g2 hcells
          have fin : ∀ d', k + szOf P t ≤ sz → (∃ v, DR (⟨c.w.setCells b (base + i * sz + k) vx.cells.toList, c.loc, c.hid⟩ : Cx).im d' v ∧ Flat v sz ∧ ∀ j, j < sz → (putL arr (base + i * sz + k) vx.cells.toList)[base + i * sz + j]? = v.cells[j]?) →
              SemOkU P (Instr.storeAt t (.pointer (some ⟨b, base + i * sz + k, none⟩)) vx) c (σ.set o (.arr sz mk (es.set i d'))) := by
            intro d' hk hd'
            refine ⟨_, c.loc, run_storeVar h1 huf hq.2 hfl.1 (by rw [hfl.1]; omega) hfl.2, ?_, hE⟩
            refine SR.write h hl _ g1 g2 hcells (.arr sz mk (es.set i d')) (.inr ⟨b, base, rfl, h0, _, ty, f, g3, by rw [putL_size]; exact h2, by rw [putL_size, List.length_set]; exact h3, ?_⟩)
            refine rows_set hE h4 h1 h3 hi (by simp [hfl.1]; omega) g3 hd'
          split at e
          · rename_i hk
            obtain ⟨k1, rfl⟩ := hk
            simp only [Option.some.injEq] at e; subst e
            refine fin d (by omega) ⟨vx, hE.dr dr, by rw [← k1]; exact hfl, fun j hj => ?_⟩
            rw [putL_get, if_pos ⟨by omega, by simp [hfl.1]; omega, by omega⟩]
            simp only [Nat.add_zero, Array.getElem?_toList]
            congr 1; omega
          · split at e
            · rename_i hk
              simp only [Option.some.injEq] at e; subst e
              obtain ⟨u, p1, p2, p3⟩ := RowsR_get h4 i he0
              obtain ⟨q1, q2, q3⟩ := DR_csz p1 hk.1
              simp only [flatOk, Bool.and_eq_true, beq_iff_eq] at hq
              obtain ⟨s1, s2, s3⟩ := DR_csz dr hq.1.1
              have hul : u.cells.toList.length = sz := by simpa using q1
              have hvl : vx.cells.toList.length = szOf P t := by simpa using s1
              refine fin _ hk.2 ⟨.agg (setAt u.cells.toList k vx.cells.toList).toArray, ?_, ⟨?_, ?_⟩, fun j hj => ?_⟩
              · simp only [DR]
                exact ⟨_, rfl, DRs_setAt (DRs_mono hE.im _ _ q3) (DRs_mono hE.im _ _ s3) k⟩
              · show (setAt u.cells.toList k vx.cells.toList).toArray.size = sz
                simp only [List.size_toArray]
                rw [setAt_length _ _ _ (by omega), hul]
              · intro y hy
                simp only [Value.cells] at hy
                simp only [setAt, List.mem_append] at hy
                rcases hy with (hy | hy) | hy
                · exact p2.2 y (List.mem_of_mem_take hy)
                · exact hfl.2 y hy
                · exact p2.2 y (List.mem_of_mem_drop hy)
              · have e1 : (Value.agg (setAt u.cells.toList k vx.cells.toList).toArray).cells[j]? = (setAt u.cells.toList k vx.cells.toList)[j]? := by simp [Value.cells]
                rw [e1, setAt_get _ _ _ (by omega), putL_get]
                by_cases hj' : k ≤ j ∧ j < k + vx.cells.toList.length
                · rw [if_pos ⟨by omega, by omega, by omega⟩, if_pos hj']
                  congr 1; omega
                · rw [if_neg (by omega), if_neg hj', Array.getElem?_toList, ← p3 j hj]
                  show _ = c.w.cell? ⟨b, _, none⟩
                  rw [cell?_cells h1]
            · cases e
        · cases e
      · cases e
    · cases e
  · cases e

/-! ### make -/
def zeroD (P : Program) (t : TypeId) : Option D := match P.info? t with | some i => (match i.zero with | some (.agg cs) => some (.agg (cs.toList.map sc)) | some (.tuple _) => none | some z => some (sc z) | none => none) | none => none

/-- Does the zero value hold anything that is no scalar? -/
def zeroRef (P : Program) (t : TypeId) : Bool :=
  match zeroCs P t with
  | some cs => cs.any fun | .d (.int _ _) => false | .d (.bool _) => false | .d (.str _) => false | _ => true
  | none => true

def makeSliceF (P : Program) (t : TypeId) (σ : List Ob) (len cap : V) : Option (V × List Ob) :=
  match elemOfSlice P t, natOf len, natOf cap with
  | some e, some n, some m => match P.info? e, zeroD P e with
    | some i, some z => if (zeroRef P e = false ∨ (n = 0 ∧ 0 < m)) ∧ elemOk P e = true ∧ flatOk z (szOf P e) = true ∧ n ≤ m ∧ i.bytes * m ≤ 281474976710656 then some (.sl σ.length 0 n, σ ++ [.arr (szOf P e) false (List.replicate n z)]) else none
    | _, _ => none
  | _, _, _ => none

theorem zeroD_some {P : Program} {t : TypeId} {d : D} (h : zeroD P t = some d) {i : TypeInfo} (hi : P.info? t = some i) (I : Im) : ∃ z, i.zero = some z ∧ DR I d z := by
  unfold zeroD at h
  rw [hi] at h
  simp only at h
  split at h
  · rename_i cs hz
    simp only [Option.some.injEq] at h; subst h
    refine ⟨_, hz, ?_⟩
    simp only [DR]
    exact ⟨cs.toList, by simp, DRs_map_sc I _⟩
  · cases h
  · rename_i z _ _ hz
    simp only [Option.some.injEq] at h; subst h
    exact ⟨_, hz, DR_sc I _⟩
  · cases h

theorem cells_replicate (z : Value) (sz : Nat) (h0 : 0 < sz) (hz : z.cells.size = sz) : ∀ n, ((Array.range (n * sz)).map (z.cells[· % z.cells.size]!)).toList = (List.replicate n z).flatMap fun u => u.cells.toList := by
  intro n
  apply List.ext_getElem?
  intro j
  have hl : ((List.replicate n z).flatMap fun u => u.cells.toList).length = n * sz := by
    rw [flat_length (sz := sz) (fun u hu => by rw [(List.mem_replicate.1 hu).2]; exact hz)]; simp
  by_cases hj : j < n * sz
  · have key : ∀ n j, j < n * sz → ((List.replicate n z).flatMap fun u => u.cells.toList)[j]? = some (z.cells[j % sz]!) := by
      intro n
      induction n with
      | zero => intro j hj; simp at hj
      | succ n ih =>
        intro j hj
        rw [List.replicate_succ, List.flatMap_cons]
        by_cases h : j < sz
        · rw [List.getElem?_append_left (by simp; omega), Nat.mod_eq_of_lt h]
          rw [Array.getElem?_toList, Array.getElem?_eq_getElem (by omega), getElem!_pos z.cells j (by omega)]
        · rw [List.getElem?_append_right (by simp; omega), Array.length_toList, hz, ih _ (by rw [Nat.add_mul] at hj; omega)]
          rw [← Nat.mod_eq_sub_mod (by omega)]
    rw [key n j hj]
    simp [hj, hz]
  · rw [List.getElem?_eq_none (by simp; omega), List.getElem?_eq_none (by omega)]

theorem makeSliceF_sound {P : Program} {t : TypeId} {c : Cx} {σ σ' : List Ob} (h : SR c σ) {len cap r : V} {vl vc : Value} (e : makeSliceF P t σ len cap = some (r, σ')) (hl : c.vr len vl) (hc : c.vr cap vc) :
    SemOk P (Instr.makeSlice t vl vc) c r σ' := by
  unfold makeSliceF at e
  split at e
  · rename_i el n m hel hn hm
    have hu := elemOfSlice_some hel
    obtain ⟨kn, rfl⟩ := natOf_some hn hl
    obtain ⟨km, rfl⟩ := natOf_some hm hc
    split at e
    · rename_i i z hi hz
      split at e
      · rename_i hq
        simp only [Option.some.injEq, Prod.mk.injEq] at e
        obtain ⟨rfl, rfl⟩ := e
        obtain ⟨hzr, he, hfz, hnm, hby⟩ := hq
        clear hzr
        obtain ⟨i', z', hi', hz', hzs, h0, hb, hsz⟩ := elemOk_some he
        rw [hi] at hi'; simp at hi'; subst hi'
        obtain ⟨zv, hzv, dz⟩ := zeroD_some hz hi c.im
        rw [hzv] at hz'; simp at hz'; subst hz'
        have hfl := flatOk_Flat hfz dz
        have hsz0 : 0 < szOf P el := by omega
        have hdr : DRs c.im (List.replicate n z) (List.replicate n zv) := by
          clear hl hn
          induction n with
          | zero => simp [DRs]
          | succ n ih => simp only [List.replicate_succ, DRs]; exact ⟨zv, _, rfl, dz, ih (by omega)⟩
        have hflat : ∀ u ∈ List.replicate n zv, Flat u (szOf P el) := fun u hu => by rw [(List.mem_replicate.1 hu).2]; exact hfl
        have hrep := cells_replicate zv (szOf P el) hsz0 hfl.1 m
        have hsplit : ((List.replicate m zv).flatMap fun u => u.cells.toList) = ((List.replicate n zv).flatMap fun u => u.cells.toList) ++ ((List.replicate (m - n) zv).flatMap fun u => u.cells.toList) := by
          rw [← List.flatMap_append, List.replicate_append_replicate]
          congr 2; omega
        have hmore : ((List.replicate (m - n) zv).flatMap fun u => u.cells.toList).length = (m - n) * szOf P el := by
          rw [flat_length (sz := szOf P el) (fun u hu => by rw [(List.mem_replicate.1 hu).2]; exact hfl.1)]; simp
        obtain ⟨k1, k2, k3⟩ := new_arr h hsz0 hdr hflat ((List.replicate (m - n) zv).flatMap fun u => u.cells.toList) el m c.w.drawn false (by
          rw [hmore, List.length_replicate, ← Nat.add_mul]; congr 1; omega) (by simpa using hnm) (0, 0) (unfrozen0 _) (fun _ => unfrozen0 _)
        rw [List.length_replicate] at k3
        refine ⟨_, _, _, ?_, k1, k2, k3⟩
        have hb1 : (i.bytes : Int) * (m : Int) ≤ 281474976710656 := by have := Int.ofNat_le.2 hby; simpa using this
        have hmb : m ≤ 281474976710656 := by
          have : m ≤ i.bytes * m := Nat.le_mul_of_pos_left _ hb
          omega
        have w1 : IntKind.i64.wrap (m : Int) = m := IntWalk.i64_in _ (by omega)
        have w2 : IntKind.i64.wrap (n : Int) = n := IntWalk.i64_in _ (by omega)
        have c1 : ¬ ((m : Int) < 0) := by omega
        have c2 : ¬ ((n : Int) < 0) := by omega
        have c3 : ¬ ((n : Int) > (m : Int)) := by omega
        have c4 : ¬ ((i.bytes : Int) * (m : Int) > 281474976710656) := by omega
        have e48 : (2 : Int) ^ 48 = 281474976710656 := rfl
        have hcond : (decide ((m : Int) < 0) || decide ((i.bytes : Int) * (m : Int) > 281474976710656) || decide ((n : Int) < 0) || decide ((n : Int) > (m : Int))) = false := by simp [c1, c2, c3, c4]
        simp [Instr.makeSlice, run_underlying hu, asInt, asIntOf, typeInfo, hi, w1, w2, c1, c2, c3, c4, run_sizeOf' hsz0, zeroValue, newRow, hzv]
        rw [← hsplit, ← hrep]
        have hm0 : m * szOf P el = 0 ↔ m = 0 := by
          constructor
          · intro q; rcases Nat.mul_eq_zero.1 q with q | q <;> omega
          · rintro rfl; simp
        by_cases hm : m = 0
        · subst hm; simp [Array.range_zero']
        · rw [if_neg (by rw [hm0]; exact hm)]
      · cases e
    · cases e
  · cases e

/-- A slice of references: an object of cells. -/
def makeVecF (P : Program) (t : TypeId) (σ : List Ob) (len cap : V) : Option (V × List Ob) :=
  match elemOfSlice P t, natOf len, natOf cap with
  | some e, some n, some m => match P.info? e, zeroCs P e with
    | some i, some z => if zeroRef P e = true ∧ elemOk P e = true ∧ n = m ∧ i.bytes * m ≤ 281474976710656 then some (.sl σ.length 0 n, σ ++ [.box (List.replicate n z).flatten]) else none
    | _, _ => none
  | _, _, _ => none

theorem vec_zero (I : Im) (w : World) (l : Nat → Loc) (z : Value) : ∀ n, VRs I w l (List.replicate n (z.cells.toList.map fun v => V.d (sc v))).flatten ((List.replicate n z).flatMap fun u => u.cells.toList)
  | 0 => by simp [VRs]
  | n + 1 => by
    simp only [List.replicate_succ, List.flatten_cons, List.flatMap_cons]
    have h1 := VRs_map_sc I w l z.cells.toList
    have h2 := vec_zero I w l z n
    have e1 := VRs_length h1
    have e2 := VRs_length h2
    refine VRs_of_get (by simp only [List.length_append]; omega) fun i x v e f => ?_
    rw [List.getElem?_append] at e f
    split at e
    · rename_i hi
      rw [if_pos (by rw [e1]; exact hi)] at f
      obtain ⟨u, q1, q2⟩ := VRs_get h1 i e
      rw [q1] at f; simp at f; subst f; exact q2
    · rename_i hi
      rw [if_neg (by rw [e1]; exact hi)] at f
      rw [e1] at f
      obtain ⟨u, q1, q2⟩ := VRs_get h2 _ e
      rw [q1] at f; simp at f; subst f; exact q2

theorem makeVecF_sound {P : Program} {t : TypeId} {c : Cx} {σ σ' : List Ob} (h : SR c σ) {len cap r : V} {vl vc : Value} (e : makeVecF P t σ len cap = some (r, σ')) (hl : c.vr len vl) (hc : c.vr cap vc) :
    SemOk P (Instr.makeSlice t vl vc) c r σ' := by
  unfold makeVecF at e
  split at e
  · rename_i el n m hel hn hm
    have hu := elemOfSlice_some hel
    obtain ⟨kn, rfl⟩ := natOf_some hn hl
    obtain ⟨km, rfl⟩ := natOf_some hm hc
    split at e
    · rename_i i z hi hz
      split at e
      · rename_i hq
        simp only [Option.some.injEq, Prod.mk.injEq] at e
        obtain ⟨rfl, rfl⟩ := e
        obtain ⟨_, he, rfl, hby⟩ := hq
        obtain ⟨i', zv, hi', hzv, hzs, h0, hb, hsz⟩ := elemOk_some he
        rw [hi] at hi'; simp at hi'; subst hi'
        unfold zeroCs at hz
        rw [hi] at hz
        simp only [hzv, Option.map_some, Option.some.injEq] at hz
        subst hz
        have hsz0 : 0 < szOf P el := by omega
        have hrep := cells_replicate zv (szOf P el) hsz0 (by omega) n
        have hv := vec_zero c.im c.w c.loc zv n
        obtain ⟨k1, k2, _, k3⟩ := new_box h hv el c.w.drawn (szOf P el)
        have hlen : ((List.replicate n (zv.cells.toList.map fun v => V.d (sc v))).flatten).length = n * szOf P el := by
          have e1 := VRs_length hv
          rw [flat_length (sz := szOf P el) (fun u hu => by rw [(List.mem_replicate.1 hu).2]; omega)] at e1
          rw [← e1]; simp
        refine ⟨_, _, _, ?_, k1, k2, k3 n (by rw [hlen])⟩
        have hb1 : (i.bytes : Int) * (n : Int) ≤ 281474976710656 := by have := Int.ofNat_le.2 hby; simpa using this
        have hmb : n ≤ 281474976710656 := by
          have : n ≤ i.bytes * n := Nat.le_mul_of_pos_left _ hb
          omega
        have w1 : IntKind.i64.wrap (n : Int) = n := IntWalk.i64_in _ (by omega)
        have c1 : ¬ ((n : Int) < 0) := by omega
        have c3 : ¬ ((n : Int) > (n : Int)) := by omega
        have c4 : ¬ ((i.bytes : Int) * (n : Int) > 281474976710656) := by omega
        have e48 : (2 : Int) ^ 48 = 281474976710656 := rfl
        simp [Instr.makeSlice, run_underlying hu, asInt, asIntOf, typeInfo, hi, w1, c1, c3, c4, run_sizeOf' hsz0, zeroValue, newRow, hzv]
        rw [← hrep]
        have hm0 : n * szOf P el = 0 ↔ n = 0 := by
          constructor
          · intro q; rcases Nat.mul_eq_zero.1 q with q | q <;> omega
          · rintro rfl; simp
        by_cases hm : n = 0
        · subst hm; simp [Array.range_zero']
        · rw [if_neg (by rw [hm0]; exact hm)]
      · cases e
    · cases e
  · cases e
end Go.Proofs.YtchgfpehcjomeaaGreatDoor.Am
