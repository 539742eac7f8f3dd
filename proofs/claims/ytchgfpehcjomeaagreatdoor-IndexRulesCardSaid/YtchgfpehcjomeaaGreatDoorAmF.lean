/- The engine's operations that make or write memory, second part: literals, make, stores. -/
import Derived.Test.YtchgfpehcjomeaaGreatDoorAmE
set_option linter.unusedSimpArgs false
set_option linter.unusedVariables false
namespace Go.Proofs.YtchgfpehcjomeaaGreatDoor.Am
open Go

def one1 : D → Bool
  | .any => false
  | .agg _ => false
  | _ => true

/-- A datum of n cells that can lie in memory. -/
def flatOk (d : D) (n : Nat) : Bool := d.csz == some n && d.cells.all one1

theorem DR_one {I : Im} {d : D} {v : Value} (h : one1 d = true) (r : DR I d v) : v.oneCell' = true := by
  cases d with
  | any => simp [one1] at h
  | agg cs => simp [one1] at h
  | lst sz es => simp only [DR] at r; obtain ⟨a, cap, rfl, _⟩ := r; rfl
  | ifc t d => simp only [DR] at r; obtain ⟨a, rfl, _⟩ := r; rfl
  | _ => simp only [DR] at r; subst r; rfl

theorem DRs_one {I : Im} : ∀ {ds : List D} {vs : List Value}, DRs I ds vs → ds.all one1 = true → ∀ u ∈ vs, u.oneCell' = true
  | [], vs, h, _, u, hu => by simp [DRs] at h; subst h; simp at hu
  | d :: ds, vs, h, ha, u, hu => by
    simp only [DRs] at h
    obtain ⟨v, r, rfl, h1, h2⟩ := h
    simp only [List.all_cons, Bool.and_eq_true] at ha
    rcases List.mem_cons.1 hu with rfl | hu
    · exact DR_one ha.1 h1
    · exact DRs_one h2 ha.2 u hu

theorem flatOk_Flat {I : Im} {d : D} {n : Nat} {v : Value} (h : flatOk d n = true) (r : DR I d v) : Flat v n := by
  simp only [flatOk, Bool.and_eq_true, beq_iff_eq] at h
  obtain ⟨h1, h2, h3⟩ := DR_csz r h.1
  exact ⟨h1, DRs_one h3 h.2⟩

/-! ### struct and array literals -/
def setAt {α : Type} (cs : List α) (k : Nat) (xs : List α) : List α := cs.take k ++ xs ++ cs.drop (k + xs.length)

theorem setAt_length {α : Type} (cs : List α) (k : Nat) (xs : List α) (h : k + xs.length ≤ cs.length) : (setAt cs k xs).length = cs.length := by
  simp [setAt]; omega

theorem setAt_get {α : Type} (cs : List α) (k : Nat) (xs : List α) (h : k + xs.length ≤ cs.length) (j : Nat) : (setAt cs k xs)[j]? = if k ≤ j ∧ j < k + xs.length then xs[j - k]? else cs[j]? := by
  unfold setAt
  have hl : (cs.take k).length = k := by rw [List.length_take]; omega
  by_cases h1 : j < k
  · rw [List.append_assoc, List.getElem?_append_left (by omega), List.getElem?_take]
    have : ¬ (k ≤ j ∧ j < k + xs.length) := by omega
    simp [h1, this]
  · by_cases h2 : j < k + xs.length
    · rw [List.getElem?_append_left (by rw [List.length_append]; omega), List.getElem?_append_right (by omega), hl]
      have : k ≤ j ∧ j < k + xs.length := by omega
      simp [this]
    · rw [List.getElem?_append_right (by rw [List.length_append]; omega), List.length_append, hl, List.getElem?_drop]
      have : ¬ (k ≤ j ∧ j < k + xs.length) := by omega
      rw [if_neg this]
      congr 1; omega

theorem fold_set {off : Nat} : ∀ (cs : List Value) (k : Nat) (p q : List Value), p.length = off + k → cs.length ≤ q.length →
    (cs.zipIdx k).foldl (fun (a : Array Value) (x : Value × Nat) => a.setIfInBounds (off + x.2) x.1) (p ++ q).toArray = (p ++ cs ++ q.drop cs.length).toArray := by
  intro cs
  induction cs with
  | nil => intro k p q _ _; simp
  | cons v cs ih =>
    intro k p q h1 h2
    cases q with
    | nil => simp at h2
    | cons y q =>
      simp only [List.zipIdx_cons, List.foldl_cons]
      have : (p ++ y :: q).toArray.setIfInBounds (off + k) v = ((p ++ [v]) ++ q).toArray := by
        apply Array.ext'
        simp only [Array.toList_setIfInBounds]
        rw [List.set_append_right _ _ (by omega)]
        simp [show off + k - p.length = 0 by omega]
      rw [this, ih (k + 1) (p ++ [v]) q (by simp; omega) (by simpa using h2)]
      simp

theorem fill_step {place : Nat → Option (Nat × Nat)} {i off size : Nat} (hp : place i = some (off, size)) {v : Value} (hs : v.cells.size = size) {cells : List Value} (hf : off + size ≤ cells.length) (rest : List (Nat × Value)) :
    Instr.fill place cells.toArray ((i, v) :: rest) = Instr.fill place (setAt cells off v.cells.toList).toArray rest := by
  have h1 : ¬ (off + v.cells.size > cells.toArray.size) := by simp; omega
  have e : (List.foldl (fun (a : Array Value) (x : Value × Nat) => a.setIfInBounds (off + x.2) x.1) cells.toArray (v.cells.toList.zipIdx 0)) = (setAt cells off v.cells.toList).toArray := by
    have := fold_set (off := off) v.cells.toList 0 (cells.take off) (cells.drop off) (by rw [List.length_take]; omega) (by simp [hs]; omega)
    rw [List.take_append_drop] at this
    rw [this]
    simp [setAt]
  rw [Instr.fill, hp]
  simp only [hs, h1, ne_eq, not_true_eq_false, decide_false, Bool.or_self, Bool.false_eq_true, if_false]
  have h2 : ¬ (off + size > cells.toArray.size) := by simp; omega
  simp only [h2, decide_false, Bool.or_self, Bool.false_eq_true, if_false]
  congr 1
  rw [← e, ← Array.foldl_toList]
  simp

/-- The places of a struct's fields: offset, size. -/
def flds (P : Program) (t : TypeId) : Option (List (Nat × Nat)) :=
  match P.underlying t with
  | some (.struct fs) => if fs.toList.all (fun f => decide (0 < szOf P f.type)) then some (fs.toList.map fun f => (f.offset, szOf P f.type)) else none
  | _ => none

def fillV (place : Nat → Option (Nat × Nat)) (σ : List Ob) (s : List V) : List V → List (Nat × Operand) → Option (List V)
  | cs, [] => some cs
  | cs, (i, x) :: r => match place i, cellsV σ (get s x) with
    | some (off, size), some xs => if xs.length = size ∧ off + size ≤ cs.length then fillV place σ s (setAt cs off xs) r else none
    | _, _ => none

theorem vrs_setAt {c : Cx} {cs xs : List V} {vs us : List Value} (h : c.vrs cs vs) (g : c.vrs xs us) (k : Nat) (hk : k + xs.length ≤ cs.length) : c.vrs (setAt cs k xs) (setAt vs k us) := by
  have l1 := VRs_length h
  have l2 := VRs_length g
  refine VRs_of_get (by rw [setAt_length _ _ _ hk, setAt_length _ _ _ (by omega), l1]) fun i x v e f => ?_
  rw [setAt_get _ _ _ hk] at e
  rw [setAt_get _ _ _ (by omega), l2] at f
  split at e
  · rename_i hi
    rw [if_pos hi] at f
    obtain ⟨u, q1, q2⟩ := VRs_get g _ e
    rw [q1] at f; simp at f; subst f; exact q2
  · rename_i hi
    rw [if_neg hi] at f
    obtain ⟨u, q1, q2⟩ := VRs_get h _ e
    rw [q1] at f; simp at f; subst f; exact q2

theorem fillV_sound {place : Nat → Option (Nat × Nat)} {c : Cx} {σ : List Ob} (h : SR c σ) {s : List V} {a : Act} (hs : c.vrs s a.tmps.toList) : ∀ (ps : List (Nat × Operand)) {cs r : List V} {vs : List Value}, fillV place σ s cs ps = some r → c.vrs cs vs →
    ∃ us, Instr.fill place vs.toArray (ps.map fun p => (p.1, a.eval p.2)) = some us.toArray ∧ c.vrs r us
  | [], cs, r, vs, e, hv => by simp [fillV] at e; subst e; exact ⟨vs, by simp [Instr.fill], hv⟩
  | (i, x) :: ps, cs, r, vs, e, hv => by
    simp only [fillV] at e
    split at e
    · rename_i off size xs hp hx
      split at e
      · rename_i hq
        have hc := cellsV_sound h hx (vr_get h.gl hs x)
        have l1 := VRs_length hc
        have l2 := VRs_length hv
        obtain ⟨us, g1, g2⟩ := fillV_sound h hs ps e (vrs_setAt hv hc off (by omega))
        refine ⟨us, ?_, g2⟩
        simp only [List.map_cons]
        rw [fill_step hp (by simp at l1; omega) (by simp at l1; omega)]
        exact g1
      · cases e
    · cases e

def buildF (P : Program) (t : TypeId) (σ : List Ob) (s : List V) (parts : List (Nat × Operand)) : Option V :=
  match zeroCs P t with
  | some z => match flds P t with
    | some l => (fillV (l[·]?) σ s z parts).map .agg
    | none => match arrT P t with
      | some (_, e) => if 0 < szOf P e then (fillV (fun i => some (i * szOf P e, szOf P e)) σ s z parts).map .agg else none
      | none => none
  | none => none

theorem flds_some {P : Program} {t : TypeId} {l : List (Nat × Nat)} (h : flds P t = some l) : ∃ fs, P.underlying t = some (.struct fs) ∧ (∀ f ∈ fs.toList, 0 < szOf P f.type) ∧ l = fs.toList.map fun f => (f.offset, szOf P f.type) := by
  unfold flds at h
  split at h
  · rename_i fs hu
    split at h
    · rename_i hall
      simp at h; subst h
      exact ⟨fs, hu, fun f hf => of_decide_eq_true (List.all_eq_true.1 hall f hf), by simp⟩
    · cases h
  · cases h

theorem zeroCs_some {P : Program} {t : TypeId} {cs : List V} (h : zeroCs P t = some cs) : ∃ i z, P.info? t = some i ∧ i.zero = some z ∧ cs = z.cells.toList.map fun v => .d (sc v) := by
  unfold zeroCs at h
  split at h
  · rename_i i hi
    cases hz : i.zero with
    | none => rw [hz] at h; cases h
    | some z => rw [hz] at h; simp only [Option.map_some, Option.some.injEq] at h; exact ⟨i, z, hi, hz, h.symm⟩
  · cases h

theorem run_places {P : Program} (w : World) : ∀ (l : List Field), (∀ f ∈ l, 0 < szOf P f.type) → ∀ acc : List (Nat × Nat),
    (l.foldlM (fun (bs : Array (Nat × Nat)) (f : Field) => do let b ← (do pure (f.offset, ← sizeOf f.type) : Sem (Nat × Nat)); pure (bs.push b)) acc.toArray).run P w = .ok (acc ++ l.map fun f => (f.offset, szOf P f.type)).toArray w
  | [], _, acc => by simp
  | f :: l, h, acc => by
    simp only [List.foldlM_cons, Sem.run_bind, run_sizeOf' (h f (by simp)), Result.andThen_ok, Sem.run_pure]
    have := run_places w l (fun g hg => h g (by simp [hg])) (acc ++ [(f.offset, szOf P f.type)])
    simp only [List.append_assoc, List.singleton_append] at this
    simpa using this

theorem buildF_sound {P : Program} {t : TypeId} {c : Cx} {σ : List Ob} (h : SR c σ) {s : List V} {a : Act} (hs : c.vrs s a.tmps.toList) {parts : Array (Nat × Operand)} {r : V} (e : buildF P t σ s parts.toList = some r) :
    ∃ v, (Instr.build t (parts.map fun (i, x) => (i, a.eval x))).run P c.w = .ok v c.w ∧ c.vr r v := by
  unfold buildF at e
  split at e
  · rename_i z hz
    obtain ⟨i, zv, hi, hzz, rfl⟩ := zeroCs_some hz
    have hparts : (parts.map fun (i, x) => (i, a.eval x)).toList = parts.toList.map fun p => (p.1, a.eval p.2) := by simp
    have hz0 : (zeroValue t).run P c.w = .ok zv c.w := by simp [zeroValue, typeInfo, hi, hzz]
    have zr := VRs_map_sc c.im c.w c.loc zv.cells.toList
    split at e
    · rename_i l hl
      obtain ⟨fs, hu, hall, rfl⟩ := flds_some hl
      cases hf : fillV ((fs.toList.map fun f => (f.offset, szOf P f.type))[·]?) σ s (zv.cells.toList.map fun v => .d (sc v)) parts.toList with
      | none => rw [hf] at e; cases e
      | some cs =>
        rw [hf] at e; simp at e; subst e
        obtain ⟨us, g1, g2⟩ := fillV_sound h hs parts.toList hf zr
        refine ⟨.agg us.toArray, ?_, by simp only [Cx.vr, VR]; exact ⟨us, rfl, g2⟩⟩
        have hpl : (fs.mapM fun f => do pure (f.offset, ← sizeOf f.type) : Sem (Array (Nat × Nat))).run P c.w = .ok (fs.toList.map fun f => (f.offset, szOf P f.type)).toArray c.w := by
          rw [Array.mapM_eq_foldlM, ← Array.foldlM_toList]
          have := run_places (P := P) c.w fs.toList hall []
          simpa using this
        simp only [Instr.build, Sem.run_bind, hz0, Result.andThen_ok, run_underlying hu, hpl, hparts]
        have : (fun (x : Nat) => (fs.toList.map fun f => (f.offset, szOf P f.type)).toArray[x]?) = fun (x : Nat) => (fs.toList.map fun f => (f.offset, szOf P f.type))[x]? := by funext x; simp
        rw [this]
        have g1' : Instr.fill (fun (x : Nat) => (fs.toList.map fun f => (f.offset, szOf P f.type))[x]?) zv.cells (parts.toList.map fun p => (p.1, a.eval p.2)) = some us.toArray := by simpa using g1
        simp only [g1', Sem.run_pure]
    · split at e
      · rename_i n el hel
        have hu := arrT_some hel
        split at e
        · rename_i h0
          cases hf : fillV (fun i => some (i * szOf P el, szOf P el)) σ s (zv.cells.toList.map fun v => .d (sc v)) parts.toList with
          | none => rw [hf] at e; cases e
          | some cs =>
            rw [hf] at e; simp at e; subst e
            obtain ⟨us, g1, g2⟩ := fillV_sound h hs parts.toList hf zr
            refine ⟨.agg us.toArray, ?_, by simp only [Cx.vr, VR]; exact ⟨us, rfl, g2⟩⟩
            have g1' : Instr.fill (fun i => some (i * szOf P el, szOf P el)) zv.cells (parts.toList.map fun p => (p.1, a.eval p.2)) = some us.toArray := by simpa using g1
            simp only [Instr.build, Sem.run_bind, hz0, Result.andThen_ok, run_underlying hu, run_sizeOf' h0, hparts, g1', Sem.run_pure]
        · cases e
      · cases e
  · cases e

/-! ### slice literals, make -/
def toDs (σ : List Ob) (s : List V) (sz : Nat) : List Operand → Option (List D)
  | [] => some []
  | x :: r => match toD σ (get s x), toDs σ s sz r with
    | some d, some ds => if flatOk d sz then some (d :: ds) else none
    | _, _ => none

theorem toDs_sound {c : Cx} {σ : List Ob} {s : List V} {a : Act} (hG : Glob c) (hs : c.vrs s a.tmps.toList) {sz : Nat} : ∀ {xs : List Operand} {ds : List D}, toDs σ s sz xs = some ds → DRs c.im ds (xs.map a.eval) ∧ (∀ u ∈ xs.map a.eval, Flat u sz) ∧ ds.length = xs.length
  | [], ds, e => by simp [toDs] at e; subst e; simp [DRs]
  | x :: xs, ds, e => by
    simp only [toDs] at e
    split at e
    · rename_i d ds' h1 h2
      split at e
      · rename_i hf
        simp only [Option.some.injEq] at e; subst e
        obtain ⟨g1, g2, g3⟩ := toDs_sound hG hs h2
        have r := toD_sound h1 (vr_get hG hs x)
        refine ⟨by simp only [List.map_cons, DRs]; exact ⟨_, _, rfl, r, g1⟩, ?_, by simp [g3]⟩
        intro u hu
        rcases List.mem_cons.1 hu with rfl | hu
        · exact flatOk_Flat hf r
        · exact g2 u hu
      · cases e
    · cases e

def elemOk (P : Program) (e : TypeId) : Bool := match P.info? e with
  | some i => (match i.zero with | some z => z.cells.size == i.size | none => false) && decide (0 < i.size) && decide (0 < i.bytes)
  | none => false

theorem elemOk_some {P : Program} {e : TypeId} (h : elemOk P e = true) : ∃ i z, P.info? e = some i ∧ i.zero = some z ∧ z.cells.size = i.size ∧ 0 < i.size ∧ 0 < i.bytes ∧ szOf P e = i.size := by
  unfold elemOk at h
  split at h
  · rename_i i hi
    simp only [Bool.and_eq_true, decide_eq_true_eq] at h
    obtain ⟨⟨h1, h2⟩, h3⟩ := h
    split at h1
    · rename_i z hz
      exact ⟨i, z, hi, hz, by simpa using h1, h2, h3, by simp [szOf, hi]⟩
    · cases h1
  · cases h

def buildSliceF (P : Program) (t : TypeId) (len : Nat) (σ : List Ob) (s : List V) (parts : List (Nat × Operand)) : Option (V × List Ob) :=
  match elemOfSlice P t with
  | some e => if elemOk P e = true ∧ len * szOf P e ≤ 16777216 then
      match inOrder 0 parts with
      | some xs => if xs.length = len then match toDs σ s (szOf P e) xs with
          | some ds => some (.sl σ.length 0 len, σ ++ [.arr (szOf P e) false ds])
          | none => none
        else none
      | none => none
    else none
  | none => none

/-- How a literal slice is made, whatever its elements are. -/
theorem buildSlice_exec {P : Program} {t el : TypeId} {len : Nat} {c : Cx} {a : Act} {parts : Array (Nat × Operand)} {xs : List Operand} (hu : P.underlying t = some (.slice el)) (hk : elemOk P el = true) (hle : len * szOf P el ≤ 16777216) (hxs : inOrder 0 parts.toList = some xs) (hlen : xs.length = len) (g2 : ∀ u ∈ xs.map a.eval, u.cells.size = szOf P el) :
    (Instr.buildSlice t len (parts.map fun (i, x) => (i, a.eval x))).run P c.w = .ok (.slice (some ⟨c.w.heap.size, 0, none⟩) len len) { c.w with heap := c.w.heap.push (.cells ((xs.map a.eval).flatMap fun (u : Value) => u.cells.toList).toArray el (0, 0)), drawn := c.w.drawn } := by
  obtain ⟨i, z, hi, hz, hzs, h0, hb, hsz⟩ := elemOk_some hk
  have h0' : 0 < szOf P el := by omega
  obtain ⟨z1, z2⟩ := inOrder_zip 0 _ _ hxs
  have hparts : (parts.map fun (i, x) => (i, a.eval x)).toList = (List.range' 0 (xs.map a.eval).length).zip (xs.map a.eval) := by
    apply List.ext_getElem?
    intro k
    simp only [Array.toList_map, List.getElem?_map]
    by_cases hk' : k < xs.length
    · have hr : (List.range' 0 xs.length)[k]? = some k := by simp [List.getElem?_range', hk']
      have hzip : ((List.range' 0 xs.length).zip (xs.map a.eval))[k]? = some (k, a.eval xs[k]) := List.getElem?_zip_eq_some.2 ⟨hr, by rw [List.getElem?_map, List.getElem?_eq_getElem hk']; rfl⟩
      rw [z2 k hk']
      simp only [List.length_map]
      rw [hzip]
      simp [List.getElem?_eq_getElem hk']
    · rw [List.getElem?_eq_none (by omega), List.getElem?_eq_none (by simp; omega)]
      rfl
  have hfill := fill_all (sz := szOf P el) (xs.map a.eval) 0 [] ((Array.range (len * szOf P el)).map (z.cells[· % z.cells.size]!)).toList g2 (by simp) (by simp [hlen])
  have hnot : ¬ (len * szOf P el > 16777216) := by omega
  simp only [Instr.buildSlice, Sem.run_bind, run_underlying hu, Result.andThen_ok, run_sizeOf' h0', Sem.run_ite]
  have e24 : (2 : Nat) ^ 24 = 16777216 := rfl
  simp only [e24, hnot, if_false, Sem.run_pure, Result.andThen_ok]
  simp only [List.nil_append, Array.toArray_toList] at hfill
  by_cases hz0 : len * szOf P el = 0
  · have hl0 : len = 0 := by rcases Nat.mul_eq_zero.1 hz0 with q | q <;> omega
    subst hl0
    have : xs = [] := List.eq_nil_of_length_eq_zero hlen
    subst this
    have hp0 : parts = #[] := by apply Array.ext'; exact List.eq_nil_of_length_eq_zero z1
    subst hp0
    simp [Instr.fill, newRow, Array.range_zero']
  · simp only [hz0, if_false, Sem.run_bind, zeroValue, typeInfo, run_program, hi, Result.andThen_ok, Sem.run_pure, hz, hparts, hfill, newRow, run_newObj]

def toCs (σ : List Ob) (s : List V) (sz : Nat) : List Operand → Option (List V)
  | [] => some []
  | x :: r => match cellsV σ (get s x), toCs σ s sz r with
    | some cs, some ds => if cs.length = sz then some (cs ++ ds) else none
    | _, _ => none

theorem vrs_append {c : Cx} {xs ys : List V} {vs us : List Value} (h : c.vrs xs vs) (g : c.vrs ys us) : c.vrs (xs ++ ys) (vs ++ us) := by
  have e1 := VRs_length h
  have e2 := VRs_length g
  refine VRs_of_get (by simp only [List.length_append]; omega) fun i x v e f => ?_
  rw [List.getElem?_append] at e f
  split at e
  · rename_i hi
    rw [if_pos (by rw [e1]; exact hi)] at f
    obtain ⟨u, q1, q2⟩ := VRs_get h i e
    rw [q1] at f; simp at f; subst f; exact q2
  · rename_i hi
    rw [if_neg (by rw [e1]; exact hi)] at f
    rw [e1] at f
    obtain ⟨u, q1, q2⟩ := VRs_get g _ e
    rw [q1] at f; simp at f; subst f; exact q2

theorem toCs_sound {c : Cx} {σ : List Ob} (h : SR c σ) {s : List V} {a : Act} (hs : c.vrs s a.tmps.toList) {sz : Nat} : ∀ {xs : List Operand} {cs : List V}, toCs σ s sz xs = some cs → c.vrs cs ((xs.map a.eval).flatMap fun u => u.cells.toList) ∧ (∀ u ∈ xs.map a.eval, u.cells.size = sz) ∧ cs.length = xs.length * sz
  | [], cs, e => by simp [toCs] at e; subst e; simp [Cx.vrs, VRs]
  | x :: xs, cs, e => by
    simp only [toCs] at e
    cases h1 : cellsV σ (get s x) with
    | none => rw [h1] at e; cases e
    | some c1 =>
      cases h2 : toCs σ s sz xs with
      | none => rw [h1, h2] at e; cases e
      | some c2 =>
        rw [h1, h2] at e
        simp only at e
        split at e
        · rename_i hl
          simp only [Option.some.injEq] at e; subst e
          have k1 := cellsV_sound h h1 (vr_get h.gl hs x)
          obtain ⟨k2, k3, k4⟩ := toCs_sound h hs h2
          have kl := VRs_length k1
          refine ⟨by simpa using vrs_append k1 k2, ?_, by simp only [List.length_append, List.length_cons, k4, hl, Nat.add_mul]; omega⟩
          intro u hu
          rcases List.mem_cons.1 hu with rfl | hu
          · have : (a.eval x).cells.toList.length = (a.eval x).cells.size := by simp
            omega
          · exact k3 u hu
        · cases e

/-- A literal slice of elements that hold references: an object of cells. -/
def buildVecF (P : Program) (t : TypeId) (len : Nat) (σ : List Ob) (s : List V) (parts : List (Nat × Operand)) : Option (V × List Ob) :=
  match elemOfSlice P t with
  | some e => if elemOk P e = true ∧ len * szOf P e ≤ 16777216 then
      match inOrder 0 parts with
      | some xs => if xs.length = len then match toCs σ s (szOf P e) xs with
          | some cs => some (.sl σ.length 0 len, σ ++ [.vec (szOf P e) cs])
          | none => none
        else none
      | none => none
    else none
  | none => none

theorem buildVecF_sound {P : Program} {t : TypeId} {len : Nat} {c : Cx} {σ σ' : List Ob} (h : SR c σ) {s : List V} {a : Act} (hs : c.vrs s a.tmps.toList) {parts : Array (Nat × Operand)} {r : V} (e : buildVecF P t len σ s parts.toList = some (r, σ')) :
    SemOk P (Instr.buildSlice t len (parts.map fun (i, x) => (i, a.eval x))) c r σ' := by
  unfold buildVecF at e
  split at e
  · rename_i el hel
    have hu := elemOfSlice_some hel
    split at e
    · rename_i hk
      split at e
      · rename_i xs hxs
        split at e
        · rename_i hlen
          split at e
          · rename_i cs hcs
            simp only [Option.some.injEq, Prod.mk.injEq] at e
            obtain ⟨rfl, rfl⟩ := e
            obtain ⟨g1, g2, g3⟩ := toCs_sound h hs hcs
            have hrun := buildSlice_exec (c := c) (a := a) hu hk.1 hk.2 hxs hlen g2
            obtain ⟨k1, k2, k3⟩ := new_vec h g1 el c.w.drawn (szOf P el) (by obtain ⟨i, z, hi, hz, hzs, h0, hb, hsz⟩ := elemOk_some hk.1; omega) [] len len (by rw [g3, hlen]) (by have := VRs_length g1; simp only [List.length_nil, Nat.add_zero]; rw [this, g3, hlen]) (Nat.le_refl _)
            rw [List.append_nil] at k1 k2 k3
            exact ⟨_, _, _, hrun, k1, k2, k3⟩
          · cases e
        · cases e
      · cases e
    · cases e
  · cases e

def buildE (P : Program) (t : TypeId) (len : Nat) (σ : List Ob) (s : List V) (parts : List (Nat × Operand)) : Option (V × List Ob) :=
  match buildSliceF P t len σ s parts with
  | some r => some r
  | none => buildVecF P t len σ s parts
theorem buildE_def (P : Program) (t : TypeId) (len : Nat) (σ : List Ob) (s : List V) (parts : List (Nat × Operand)) : buildE P t len σ s parts = match buildSliceF P t len σ s parts with | some r => some r | none => buildVecF P t len σ s parts := rfl

theorem buildSlice_run {P : Program} {t : TypeId} {len : Nat} {c : Cx} {σ σ' : List Ob} {s : List V} {a : Act} (hG : Glob c) (hs : c.vrs s a.tmps.toList) {parts : Array (Nat × Operand)} {r : V} (e : buildSliceF P t len σ s parts.toList = some (r, σ')) :
    ∃ (el : TypeId) (ds : List D) (us : List Value), r = .sl σ.length 0 len ∧ σ' = σ ++ [.arr (szOf P el) false ds] ∧ 0 < szOf P el ∧ ds.length = len ∧ DRs c.im ds us ∧ (∀ u ∈ us, Flat u (szOf P el)) ∧
      (Instr.buildSlice t len (parts.map fun (i, x) => (i, a.eval x))).run P c.w = .ok (.slice (some ⟨c.w.heap.size, 0, none⟩) len len) { c.w with heap := c.w.heap.push (.cells ((us.flatMap fun (u : Value) => u.cells.toList) ++ []).toArray el (0, 0)), drawn := c.w.drawn } := by
  unfold buildSliceF at e
  split at e
  · rename_i el hel
    have hu := elemOfSlice_some hel
    split at e
    · rename_i hk
      obtain ⟨i, z, hi, hz, hzs, h0, hb, hsz⟩ := elemOk_some hk.1
      split at e
      · rename_i xs hxs
        split at e
        · rename_i hlen
          split at e
          · rename_i ds hds
            simp only [Option.some.injEq, Prod.mk.injEq] at e
            obtain ⟨rfl, rfl⟩ := e
            obtain ⟨g1, g2, g3⟩ := toDs_sound hG hs hds
            have h0' : 0 < szOf P el := by omega
            obtain ⟨z1, z2⟩ := inOrder_zip 0 _ _ hxs
            have hparts : (parts.map fun (i, x) => (i, a.eval x)).toList = (List.range' 0 (xs.map a.eval).length).zip (xs.map a.eval) := by
              apply List.ext_getElem?
              intro k
              simp only [Array.toList_map, List.getElem?_map]
              by_cases hk' : k < xs.length
              · have hr : (List.range' 0 xs.length)[k]? = some k := by simp [List.getElem?_range', hk']
                have hzip : ((List.range' 0 xs.length).zip (xs.map a.eval))[k]? = some (k, a.eval xs[k]) := List.getElem?_zip_eq_some.2 ⟨hr, by rw [List.getElem?_map, List.getElem?_eq_getElem hk']; rfl⟩
                rw [z2 k hk']
                simp only [List.length_map]
                rw [hzip]
                simp [List.getElem?_eq_getElem hk']
              · rw [List.getElem?_eq_none (by omega), List.getElem?_eq_none (by simp; omega)]
                rfl
            have hfill := fill_all (sz := szOf P el) (xs.map a.eval) 0 [] ((Array.range (len * szOf P el)).map (z.cells[· % z.cells.size]!)).toList (fun u hu => (g2 u hu).1) (by simp) (by simp [hlen])
            have k4 : ds.length = len := by rw [g3, hlen]
            refine ⟨el, ds, _, rfl, rfl, h0', k4, g1, g2, ?_⟩
            · have hnot : ¬ (len * szOf P el > 16777216) := by omega
              simp only [Instr.buildSlice, Sem.run_bind, run_underlying hu, Result.andThen_ok, run_sizeOf' h0', Sem.run_ite]
              have e24 : (2 : Nat) ^ 24 = 16777216 := rfl
              simp only [e24, hnot, if_false, Sem.run_pure, Result.andThen_ok]
              simp only [List.nil_append, List.append_nil, Array.toArray_toList] at hfill
              by_cases hz0 : len * szOf P el = 0
              · have hl0 : len = 0 := by rcases Nat.mul_eq_zero.1 hz0 with q | q <;> omega
                subst hl0
                have : xs = [] := List.eq_nil_of_length_eq_zero hlen
                subst this
                have hp0 : parts = #[] := by apply Array.ext'; exact List.eq_nil_of_length_eq_zero z1
                subst hp0
                simp [Instr.fill, newRow, Array.range_zero']
              · simp only [hz0, if_false, Sem.run_bind, zeroValue, typeInfo, run_program, hi, Result.andThen_ok, Sem.run_pure, hz, hparts, hfill, newRow, run_newObj]
                simp
          · cases e
        · cases e
      · cases e
    · cases e
  · cases e

theorem buildSliceF_sound {P : Program} {t : TypeId} {len : Nat} {c : Cx} {σ σ' : List Ob} (h : SR c σ) {s : List V} {a : Act} (hs : c.vrs s a.tmps.toList) {parts : Array (Nat × Operand)} {r : V} (e : buildSliceF P t len σ s parts.toList = some (r, σ')) :
    SemOk P (Instr.buildSlice t len (parts.map fun (i, x) => (i, a.eval x))) c r σ' := by
  obtain ⟨el, ds, us, rfl, rfl, h0, hl, g1, g2, hrun⟩ := buildSlice_run h.gl hs e
  obtain ⟨k1, k2, k3⟩ := new_arr h h0 g1 g2 [] el len c.w.drawn false (by rw [hl]; simp) (by omega) (0, 0) (unfrozen0 _) (fun _ => unfrozen0 _)
  rw [hl] at k3
  exact ⟨_, _, _, hrun, k1, k2, k3⟩

/-- A literal slice that is data from the start. -/
theorem buildSlice_data {P : Program} {t : TypeId} {len : Nat} {c : Cx} {σ σ' : List Ob} (h : SR c σ) {s : List V} {a : Act} (hs : c.vrs s a.tmps.toList) {parts : Array (Nat × Operand)} {r : V} {sz : Nat} {ds : List D} {mk : Bool}
    (e : buildSliceF P t len σ s parts.toList = some (r, σ ++ [.arr sz mk ds])) :
    ∃ v w', (Instr.buildSlice t len (parts.map fun (i, x) => (i, a.eval x))).run P c.w = .ok v w' ∧ SR ⟨w', c.loc, c.hid⟩ σ ∧ Ext c ⟨w', c.loc, c.hid⟩ ∧ Cx.vr ⟨w', c.loc, c.hid⟩ (.d (.lst sz ds)) v := by
  obtain ⟨el, ds', us, rfl, hσ, h0, hl, g1, g2, hrun⟩ := buildSlice_run h.gl hs e
  have hσ' := List.append_cancel_left hσ
  simp only [List.cons.injEq, Ob.arr.injEq, and_true] at hσ'
  obtain ⟨rfl, rfl, rfl⟩ := hσ'
  refine ⟨_, _, hrun, ?_⟩
  generalize hw : ({ c.w with heap := c.w.heap.push (.cells ((us.flatMap fun (u : Value) => u.cells.toList) ++ []).toArray el (0, 0)), drawn := c.w.drawn } : World) = w'
  have hh : w'.heap = c.w.heap.push (.cells ((us.flatMap fun (u : Value) => u.cells.toList) ++ []).toArray el (0, 0)) := by rw [← hw]
  have e1 : w'.heap.size = c.w.heap.size + 1 := by rw [hh]; simp
  have e2 : ∀ b, b < c.w.heap.size → w'.heap[b]? = c.w.heap[b]? := fun b hb => by rw [hh]; exact heap_push_lt hb
  have hE : Ext c ⟨w', c.loc, c.hid⟩ := by
    refine ⟨rfl, by simp only [e1]; omega, fun b cs e f q => ⟨cs, f, ?_, rfl⟩, fun b hb ho => ⟨e2 b hb, ho⟩, fun _ => .inl rfl, by subst hw; exact ⟨rfl, rfl, rfl⟩⟩
    have : b < c.w.heap.size := (Array.getElem?_eq_some_iff.1 q).1
    show w'.heap[b]? = _
    rw [e2 b this, q]
  have hS : SR ⟨w', c.loc, c.hid⟩ σ := by
    refine ⟨fun o => ?_, h.inj, fun b hb => ⟨by have := (h.hid b hb).1; simp only [e1]; omega, (h.hid b hb).2⟩, hE.glob h.gl⟩
    have r := h.obj o
    cases hx : σ[o]? with
    | none => rw [hx] at r; exact r
    | some x =>
      rw [hx] at r
      exact OR.keep hE r fun b base sz hl => e2 b (h.lt hl)
  refine ⟨hS, hE, ?_⟩
  simp only [Cx.vr, VR, DR]
  refine ⟨some ⟨c.w.heap.size, 0, none⟩, len, by rw [hl], by omega, ?_⟩
  have hat : w'.heap[c.w.heap.size]? = some (.cells ((us.flatMap fun (u : Value) => u.cells.toList) ++ []).toArray el (0, 0)) := by rw [hh]; exact heap_push_at
  refine .inr ⟨c.w.heap.size, 0, rfl, h0, ⟨by show _ < w'.heap.size; omega, ?_, fun q => absurd (h.hid _ q).1 (by omega)⟩, ?_⟩
  · rintro ⟨o, base, sz, q⟩
    exact absurd (h.lt q) (by omega)
  · refine rows_flat hE.im 0 g1 g2 (fun j hj => ?_)
    show w'.cell? ⟨c.w.heap.size, 0 + j, none⟩ = _
    rw [cell?_cells hat]
    simp only [List.getElem?_toArray, Nat.zero_add]
    rw [List.getElem?_append_left hj]
end Go.Proofs.YtchgfpehcjomeaaGreatDoor.Am
