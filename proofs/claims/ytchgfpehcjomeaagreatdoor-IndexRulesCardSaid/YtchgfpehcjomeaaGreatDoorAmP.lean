/- The engine's append within what an object is known to hold. -/
import Derived.Test.YtchgfpehcjomeaaGreatDoorAmI
set_option linter.unusedSimpArgs false
set_option linter.unusedVariables false
namespace Go.Proofs.YtchgfpehcjomeaaGreatDoor.Am
open Go

/-- Rows written over a part of an object. -/
def over (es : List D) (k : Nat) (ds : List D) : List D := es.take k ++ ds ++ es.drop (k + ds.length)

theorem over_length {es : List D} {k : Nat} {ds : List D} (h : k + ds.length ≤ es.length) : (over es k ds).length = es.length := by
  simp only [over, List.length_append, List.length_take, List.length_drop]; omega

theorem over_get {es : List D} {k : Nat} {ds : List D} (h : k + ds.length ≤ es.length) (j : Nat) : (over es k ds)[j]? = if k ≤ j ∧ j < k + ds.length then ds[j - k]? else es[j]? := by
  have hl : (es.take k).length = k := by rw [List.length_take]; omega
  unfold over
  by_cases h1 : j < k
  · rw [List.append_assoc, List.getElem?_append_left (by omega), List.getElem?_take, if_pos h1, if_neg (by omega)]
  · by_cases h2 : j < k + ds.length
    · rw [List.append_assoc, List.getElem?_append_right (by omega), hl, List.getElem?_append_left (by omega), if_pos (by omega)]
    · rw [List.getElem?_append_right (by simp only [List.length_append, hl]; omega), List.length_append, hl, List.getElem?_drop, if_neg (by omega)]
      congr 1; omega

/-- A write of whole rows into the block of an object. -/
theorem rows_over {c c' : Cx} (hE : Ext c c') {b base sz : Nat} {es ds : List D} {us : List Value} {arr : Array Value} {e : TypeId} {f : Nat × Nat} (hr : RowsR c.im es b base sz) (hb : c.w.heap[b]? = some (.cells arr e f)) (hle : base + es.length * sz ≤ arr.size)
    (hd : DRs c.im ds us) (hf : ∀ u ∈ us, Flat u sz) {k : Nat} (hk : k + ds.length ≤ es.length) {f' : Nat × Nat} (hb' : c'.w.heap[b]? = some (.cells (putL arr (base + k * sz) (us.flatMap fun u => u.cells.toList)) e f')) : RowsR c'.im (over es k ds) b base sz := by
  have hul : us.length = ds.length := DRs_length hd
  have hfl : (us.flatMap fun u => u.cells.toList).length = ds.length * sz := by rw [flat_length fun u hu => (hf u hu).1, hul]
  refine RowsR_of_get fun j d hj => ?_
  rw [over_get hk] at hj
  have hjl : j < es.length := by
    split at hj
    · omega
    · exact (List.getElem?_eq_some_iff.1 hj).1
  have hjs : (j + 1) * sz ≤ es.length * sz := Nat.mul_le_mul_right _ hjl
  rw [Nat.add_mul] at hjs
  split at hj
  · rename_i hin
    obtain ⟨v, q1, q2⟩ := DRs_get hd _ hj
    have hv := hf v (List.mem_of_getElem? q1)
    have hrows : RowsR c'.im ds b (base + k * sz) sz := by
      refine rows_flat hE.im _ hd hf (fun i hi => ?_)
      show c'.w.cell? ⟨b, _, none⟩ = _
      have : (k + ds.length) * sz ≤ es.length * sz := Nat.mul_le_mul_right _ hk
      rw [Nat.add_mul] at this
      rw [cell?_cells hb', putL_get, if_pos ⟨by omega, by omega, by omega⟩]
      congr 1; omega
    obtain ⟨u, p1, p2, p3⟩ := RowsR_get hrows (j - k) hj
    refine ⟨u, p1, p2, fun i hi => ?_⟩
    rw [← p3 i hi]
    have : (k + (j - k)) * sz = k * sz + (j - k) * sz := Nat.add_mul _ _ _
    have e : k + (j - k) = j := by omega
    rw [e] at this
    congr 1; omega
  · rename_i hout
    obtain ⟨v, p1, p2, p3⟩ := RowsR_get hr j hj
    refine ⟨v, hE.dr p1, p2, fun i hi => ?_⟩
    rw [← p3 i hi]
    show c'.w.cell? ⟨b, _, none⟩ = c.w.cell? ⟨b, _, none⟩
    rw [cell?_cells hb', cell?_cells hb, putL_get, if_neg]
    rintro ⟨z1, z2, _⟩
    rcases Nat.lt_or_ge j k with q | q
    · have : (j + 1) * sz ≤ k * sz := Nat.mul_le_mul_right _ q
      rw [Nat.add_mul] at this
      omega
    · have q' : k + ds.length ≤ j := by omega
      have : (k + ds.length) * sz ≤ j * sz := Nat.mul_le_mul_right _ q'
      rw [Nat.add_mul] at this
      omega

theorem set_self {σ : List Ob} {o : Nat} {x : Ob} (h : σ[o]? = some x) : σ.set o x = σ := by
  obtain ⟨hlt, e⟩ := List.getElem?_eq_some_iff.1 h
  subst e
  exact List.set_getElem_self hlt

/-- 'append' into what the object holds already. -/
def appendInF (P : Program) (t tx : TypeId) (σ : List Ob) (dst src : V) : Option (V × List Ob) :=
  match elemOfSlice P t with
  | some e => if elemOk P e = true then
      match srcD P e σ tx src with
      | some ds => match dst with
        | .sl o off len => match σ[o]? with
          | some (.arr sz mk es) => if sz = szOf P e ∧ off + len + ds.length ≤ es.length then
              some (.sl o off (len + ds.length), σ.set o (.arr sz mk (over es (off + len) ds))) else none
          | _ => none
        | _ => none
      | none => none
    else none
  | none => none

theorem appendInF_sound {P : Program} {t tx ty : TypeId} {c : Cx} {σ σ' : List Ob} (h : SR c σ) {dst src r : V} {vd vx : Value} (e : appendInF P t tx σ dst src = some (r, σ')) (hd : c.vr dst vd) (hx : c.vr src vx) :
    SemOk P (Builtin.append_ #[t, tx] ty #[vd, vx]) c r σ' := by
  unfold appendInF at e
  split at e
  · rename_i el hel
    have hu := elemOfSlice_some hel
    split at e
    · rename_i hk
      obtain ⟨i, z, hi, hz, hzs, h0, hb, hsz⟩ := elemOk_some hk
      split at e
      · rename_i ds hds
        obtain ⟨⟨us, s⟩, hblk⟩ := srcD_sound h (by omega) hds hx
        rw [hsz] at s
        split at e
        · rename_i o off len
          split at e
          · rename_i sz mk es hes
            split at e
            · rename_i hq
              obtain ⟨rfl, hfit⟩ := hq
              simp only [Option.some.injEq, Prod.mk.injEq] at e
              obtain ⟨rfl, rfl⟩ := e
              rw [hsz] at hes ⊢
              have hlt : o < σ.length := (List.getElem?_eq_some_iff.1 hes).1
              rcases vr_sl h hes hd with ⟨hl, rfl, rfl, rfl, rfl⟩ | ⟨b, base, a, cap, arr, ty', f, hl, rfl, g1, g2, g3, g4, g5, g6, g7, g8⟩
              · have hn : ds = [] := List.eq_nil_of_length_eq_zero (by simpa using hfit)
                subst hn
                have hus : us = [] := by have := DRs_length s.dr; exact List.eq_nil_of_length_eq_zero (by simpa using this)
                subst hus
                have hcz : (Builtin.firstCells i.size 0 vx).run P c.w = .ok #[] c.w := by simpa using s.src.cells
                have hset : σ.set o (.arr i.size mk (over [] (0 + 0) [])) = σ := by
                  have : over [] (0 + 0) [] = ([] : List D) := rfl
                  rw [this]
                  exact set_self hes
                rw [hset]
                refine ⟨.slice none 0 0, c.w, c.loc, ?_, h, Ext.refl c, by simp [Cx.vr, VR, hl]⟩
                rcases s.src.kind with ⟨e', hk'⟩ | hk' <;>
                  simp [Builtin.append_, run_underlying hu, run_underlying hk', sizeOf, typeInfo, hi, s.src.len, hcz]
              · have hcap : es.length ≤ off + cap := by
                  have : base + es.length * i.size ≤ base + (off + cap) * i.size := by rw [g5.2]; exact g7
                  exact Nat.le_of_mul_le_mul_right (by omega : es.length * i.size ≤ (off + cap) * i.size) h0
                have hroom : len + ds.length ≤ cap := by omega
                by_cases hc0 : cap = 0
                · have hl0 : len = 0 := by omega
                  have hd0 : ds = [] := List.eq_nil_of_length_eq_zero (by omega)
                  subst hl0; subst hd0; subst hc0
                  have hus : us = [] := by have := DRs_length s.dr; exact List.eq_nil_of_length_eq_zero (by simpa using this)
                  subst hus
                  have hcz : (Builtin.firstCells i.size 0 vx).run P c.w = .ok #[] c.w := by simpa using s.src.cells
                  have hset : σ.set o (.arr i.size mk (over es (off + 0) [])) = σ := by
                    have : over es (off + 0) [] = es := by simp [over]
                    rw [this]
                    exact set_self hes
                  rw [hset]
                  refine ⟨.slice (some ⟨b, a, none⟩) 0 0, c.w, c.loc, ?_, h, Ext.refl c, ?_⟩
                  · rcases s.src.kind with ⟨e', hk'⟩ | hk' <;>
                      simp [Builtin.append_, run_underlying hu, run_underlying hk', sizeOf, typeInfo, hi, s.src.len, hcz, storeCells]
                  · exact hd
                · have ha := g2 (by omega)
                  subst ha
                  have hfl : (flat us).length = ds.length * i.size := by rw [flat_length fun u hu => (s.fl u hu).1, DRs_length s.dr]
                  have hfit' : base + off * i.size + (len + ds.length) * i.size ≤ arr.size := by
                    have : (off + (len + ds.length)) * i.size ≤ (off + cap) * i.size := Nat.mul_le_mul_right _ (by omega)
                    rw [Nat.add_mul] at this
                    have := g5.2
                    omega
                  rw [Nat.add_mul] at hfit'
                  have hrun := run_append_room_src (P := P) c.w t tx ty el i hu hi b (base + off * i.size) len cap vx ds.length (flat us) s.src hroom
                    (fun j hj => by rw [cell?_cells g4, Array.getElem?_eq_getElem (by omega)]; rfl) (fun j hj => frozen_no g4 g6 (by omega))
                  have hpos : base + off * i.size + len * i.size = base + (off + len) * i.size := by rw [Nat.add_mul]; omega
                  rw [hpos] at hrun
                  obtain ⟨q1, q2, q3⟩ := heap_setCells (flat us) (base + (off + len) * i.size) c.w arr g4
                  have hcl : ∀ (cs' : Array Value) (e' : TypeId) (f' : Nat × Nat), c.w.heap[b]? = some (.cells cs' e' f') → ∃ (cs'' : Array Value) (f'' : Nat × Nat), (c.w.setCells b (base + (off + len) * i.size) (flat us)).heap[b]? = some (.cells cs'' e' f'') ∧ cs''.size = cs'.size := by
                    intro cs' e' f' hc
                    rw [g4] at hc
                    simp only [Option.some.injEq, Obj.cells.injEq] at hc
                    obtain ⟨rfl, rfl, rfl⟩ := hc
                    exact ⟨_, _, q3, putL_size _ _ _⟩
                  have hE := Ext.write hl _ q1 q2 hcl
                  have hov := over_length hfit
                  refine ⟨_, _, c.loc, hrun, SR.write h hl _ q1 q2 hcl (.arr i.size mk (over es (off + len) ds)) (.inr ⟨b, base, rfl, h0, _, ty', f, q3, by rw [putL_size]; exact g6, by rw [putL_size, hov]; exact g7, ?_⟩), hE, ?_⟩
                  · exact rows_over hE g8 g4 g7 s.dr s.fl hfit q3
                  · simp only [Cx.vr, VR, hl]
                    exact ⟨_, cap, rfl, hroom, fun _ => rfl, _, ty', f, q3, by rw [putL_size]; exact g5.1, by rw [putL_size]; exact g5.2⟩
            · cases e
          · cases e
        · cases e
      · cases e
    · cases e
  · cases e

/-- 'clear' of a slice. -/
def clearF (P : Program) (t : TypeId) (σ : List Ob) (x : V) : Option (List Ob) :=
  match x with
  | .d .nils => if isSliceT P t = true then some σ else none
  | .sl o off len => match elemOfSlice P t with
    | some e => match zeroD P e, σ[o]? with
      | some _, some (.vec sz cs) => match zeroCs P e with
        | some z => if elemOk P e = true ∧ z.length = sz ∧ sz = szOf P e ∧ (off + len) * sz ≤ cs.length ∧ z.all (one σ) = true then some (σ.set o (.vec sz (setAt cs (off * sz) (List.replicate len z).flatten))) else none
        | none => none
      | some z, some (.arr sz mk es) => if elemOk P e = true ∧ flatOk z (szOf P e) = true ∧ sz = szOf P e ∧ off + len ≤ es.length then some (σ.set o (.arr sz mk (over es off (List.replicate len z)))) else none
      | _, _ => none
    | none => none
  | _ => none

theorem clearF_sound {P : Program} {t ty : TypeId} {c : Cx} {σ σ' : List Ob} (h : SR c σ) {x : V} {vx : Value} (e : clearF P t σ x = some σ') (hx : c.vr x vx) :
    SemOk P (Builtin.clear_ #[t] ty #[vx]) c (.tup []) σ' := by
  have tup : ∀ c' : Cx, c'.vr (.tup []) (.tuple #[]) := fun c' => by simp [Cx.vr, VR, VRs]
  unfold clearF at e
  split at e
  · split at e
    · rename_i ht
      simp only [Option.some.injEq] at e; subst e
      obtain ⟨el, hel⟩ := Option.isSome_iff_exists.1 ht
      have hu := elemOfSlice_some hel
      simp only [Cx.vr, VR, DR] at hx; subst hx
      exact ⟨.tuple #[], c.w, c.loc, by simp [Builtin.clear_, run_underlying hu], h, Ext.refl c, tup _⟩
    · cases e
  · rename_i o off len
    split at e
    · rename_i el hel
      have hu := elemOfSlice_some hel
      split at e
      · rename_i z0 sz cs hz0 hes
        split at e
        rotate_left
        · cases e
        rename_i z hz
        split at e
        rotate_left
        · cases e
        rename_i hq
        obtain ⟨hk, hzl, rfl, hfit, hzone⟩ := hq
        simp only [Option.some.injEq] at e; subst e
        obtain ⟨i, zv, hi, hzv, hzs, h0, hb, hsz⟩ := elemOk_some hk
        unfold zeroCs at hz
        rw [hi] at hz
        simp only [hzv, Option.map_some, Option.some.injEq] at hz
        subst hz
        have hlt : o < σ.length := (List.getElem?_eq_some_iff.1 hes).1
        obtain ⟨b, base, hl, h00, arr, ty', f, h1, h2, us, hule, hat, h3⟩ := h.get hes
        have hul := VRs_length h3
        simp only [Cx.vr, VR, hl] at hx
        obtain ⟨a, cap, rfl, g1, g2, _⟩ := hx
        by_cases hl0 : len = 0
        · subst hl0
          have hset : σ.set o (.vec (szOf P el) (setAt cs (off * szOf P el) (List.replicate 0 (zv.cells.toList.map fun v => V.d (sc v))).flatten)) = σ := by
            have : setAt cs (off * szOf P el) ([] : List V) = cs := by simp [setAt]
            simp only [List.replicate_zero, List.flatten_nil, this]; exact set_self hes
          rw [hset]
          exact ⟨.tuple #[], c.w, c.loc, by simp [Builtin.clear_, run_underlying hu], h, Ext.refl c, tup _⟩
        · have ha := g2 (by omega)
          subst ha
          have hv := vec_zero c.im c.w c.loc zv len
          have hzc : zv.cells.size = szOf P el := by simpa using hzl
          have hcz : (Builtin.zeroCells zv.cells len).toList = (List.replicate len zv).flatMap fun u => u.cells.toList := by
            have := cells_replicate zv (szOf P el) h00 hzc len
            rw [← this]
            simp only [Builtin.zeroCells, hzc]
          have hlen : ((List.replicate len zv).flatMap fun u => u.cells.toList).length = len * szOf P el := by
            rw [flat_length (sz := szOf P el) (fun u hu => by rw [(List.mem_replicate.1 hu).2]; exact hzc)]; simp
          have hxl := VRs_length hv
          rw [Nat.add_mul] at hfit
          have hone : ∀ v ∈ (List.replicate len zv).flatMap (fun u => u.cells.toList), v.oneCell' = true := by
            refine vrs_one h hv ?_
            simp only [List.all_eq_true] at hzone ⊢
            intro x hx
            obtain ⟨l, hl', hx⟩ := List.mem_flatten.1 hx
            rw [(List.mem_replicate.1 hl').2] at hx
            exact hzone x hx
          have hst := run_stores (P := P) (o := base + off * szOf P el) h1 h2 (by omega) hone
          obtain ⟨k1, k2, k3⟩ := vec_write h hl h00 h1 h2 hule hat h3 hv (kk := off * szOf P el) (by omega)
          refine ⟨.tuple #[], _, c.loc, ?_, k1, k2, tup _⟩
          have hn0 : ∃ m, len = m + 1 := ⟨len - 1, by omega⟩
          obtain ⟨m, rfl⟩ := hn0
          simp [Builtin.clear_, run_underlying hu, zeroValue, typeInfo, hi, hzv, hcz, hst]
      · rename_i z sz mk es hz hes
        split at e
        · rename_i hq
          obtain ⟨hk, hfz, rfl, hfit⟩ := hq
          simp only [Option.some.injEq] at e; subst e
          obtain ⟨i, z', hi, hz', hzs, h0, hb, hsz⟩ := elemOk_some hk
          obtain ⟨zv, hzv, dz⟩ := zeroD_some hz hi c.im
          rw [hzv] at hz'; simp at hz'; subst hz'
          have hfl := flatOk_Flat hfz dz
          have hlt : o < σ.length := (List.getElem?_eq_some_iff.1 hes).1
          by_cases hl0 : len = 0
          · subst hl0
            have hset : σ.set o (.arr (szOf P el) mk (over es off (List.replicate 0 z))) = σ := by
              have : over es off (List.replicate 0 z) = es := by simp [over]
              rw [this]; exact set_self hes
            rw [hset]
            have ha : alive σ o = true := by unfold alive; rw [hes]
            obtain ⟨a, cap, rfl⟩ := vr_sl_len h ha hx
            exact ⟨.tuple #[], c.w, c.loc, by cases a <;> simp [Builtin.clear_, run_underlying hu], h, Ext.refl c, tup _⟩
          · rcases vr_sl h hes hx with ⟨_, _, _, q, _⟩ | ⟨b, base, a, cap, arr, ty', f, hl, rfl, g1, g2, g3, g4, g5, g6, g7, g8⟩
            · exact absurd q hl0
            · have ha := g2 (by omega)
              subst ha
              have hdr : DRs c.im (List.replicate len z) (List.replicate len zv) := by
                clear hl0 hfit hx g1 g2
                induction len with
                | zero => simp [DRs]
                | succ n ih => simp only [List.replicate_succ, DRs]; exact ⟨zv, _, rfl, dz, ih⟩
              have hflat : ∀ u ∈ List.replicate len zv, Flat u (szOf P el) := fun u hu => by rw [(List.mem_replicate.1 hu).2]; exact hfl
              have hcz : (Builtin.zeroCells zv.cells len).toList = (List.replicate len zv).flatMap fun u => u.cells.toList := by
                have := cells_replicate zv (szOf P el) g3 hfl.1 len
                rw [← this]
                simp only [Builtin.zeroCells, hfl.1]
              have hlen : ((List.replicate len zv).flatMap fun u => u.cells.toList).length = len * szOf P el := by rw [flat_length fun u hu => (hflat u hu).1]; simp
              have hmul : (off + len) * szOf P el ≤ es.length * szOf P el := Nat.mul_le_mul_right _ hfit
              rw [Nat.add_mul] at hmul
              have hone : ∀ v ∈ (List.replicate len zv).flatMap (fun u => u.cells.toList), v.oneCell' = true := by
                intro v hv
                obtain ⟨u, hu, hv⟩ := List.mem_flatMap.1 hv
                exact (hflat u hu).2 v hv
              have hst := run_stores (P := P) (o := base + off * szOf P el) g4 (f := f) ⟨g6.1, fun j hj => g6.2 j (by omega)⟩ (by omega) hone
              obtain ⟨q1, q2, q3⟩ := heap_setCells ((List.replicate len zv).flatMap fun u => u.cells.toList) (base + off * szOf P el) c.w arr g4
              have hcl : ∀ (cs' : Array Value) (e' : TypeId) (f' : Nat × Nat), c.w.heap[b]? = some (.cells cs' e' f') → ∃ (cs'' : Array Value) (f'' : Nat × Nat), (c.w.setCells b (base + off * szOf P el) ((List.replicate len zv).flatMap fun u => u.cells.toList)).heap[b]? = some (.cells cs'' e' f'') ∧ cs''.size = cs'.size := by
                intro cs' e' f' hc
                rw [g4] at hc
                simp only [Option.some.injEq, Obj.cells.injEq] at hc
                obtain ⟨rfl, rfl, rfl⟩ := hc
                exact ⟨_, _, q3, putL_size _ _ _⟩
              have hE := Ext.write hl _ q1 q2 hcl
              have hfit' : off + (List.replicate len z).length ≤ es.length := by simpa using hfit
              have hov := over_length hfit'
              refine ⟨.tuple #[], _, c.loc, ?_, SR.write h hl _ q1 q2 hcl (.arr (szOf P el) mk (over es off (List.replicate len z))) (.inr ⟨b, base, rfl, g3, _, ty', f, q3, by rw [putL_size]; exact g6, by rw [putL_size, hov]; exact g7, ?_⟩), hE, tup _⟩
              · have hn0 : ∃ m, len = m + 1 := ⟨len - 1, by omega⟩
                obtain ⟨m, rfl⟩ := hn0
                simp [Builtin.clear_, run_underlying hu, zeroValue, typeInfo, hi, hzv, hcz, hst]
              · exact rows_over hE g8 g4 g7 hdr hflat hfit' q3
        · cases e
      · cases e
    · cases e
  · cases e
end Go.Proofs.YtchgfpehcjomeaaGreatDoor.Am
