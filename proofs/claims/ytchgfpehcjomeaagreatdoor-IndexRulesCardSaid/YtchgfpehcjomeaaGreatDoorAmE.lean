/- The engine's operations that make or write memory, first part: new variables, literals, stores. -/
import Derived.Test.YtchgfpehcjomeaaGreatDoorAmV
set_option linter.unusedSimpArgs false
set_option linter.unusedVariables false
namespace Go.Proofs.YtchgfpehcjomeaaGreatDoor.Am
open Go

/-- What an operation that acts comes to: a value, a world, a store. -/
def SemOk (P : Program) (x : Sem Value) (c : Cx) (r : V) (σ' : List Ob) : Prop :=
  ∃ v w' loc', x.run P c.w = .ok v w' ∧ SR ⟨w', loc', c.hid⟩ σ' ∧ Ext c ⟨w', loc', c.hid⟩ ∧ Cx.vr ⟨w', loc', c.hid⟩ r v

def SemOkU (P : Program) (x : Sem Unit) (c : Cx) (σ' : List Ob) : Prop :=
  ∃ w' loc', x.run P c.w = .ok () w' ∧ SR ⟨w', loc', c.hid⟩ σ' ∧ Ext c ⟨w', loc', c.hid⟩

/-- Is the value known to be what it says? -/
def live (σ : List Ob) : V → Bool
  | .ptr o _ _ => alive σ o
  | .sl o _ _ => alive σ o
  | .mp o => alive σ o
  | .undef => false
  | .d .any => false
  | _ => true

def one (σ : List Ob) (x : V) : Bool := live σ x && (match x with | .agg _ => false | .tup _ => false | .d (.agg _) => false | _ => true)

/-- The cells of a value that is put into memory. -/
def cellsV (σ : List Ob) : V → Option (List V)
  | .agg cs => some cs
  | .d (.agg cs) => some (cs.map .d)
  | x => if one σ x then some [x] else none

theorem vr_one {c : Cx} {σ : List Ob} (h : SR c σ) {x : V} (hx : one σ x = true) {v : Value} (r : c.vr x v) : v.oneCell' = true := by
  simp only [one, Bool.and_eq_true] at hx
  obtain ⟨h1, h2⟩ := hx
  cases x with
  | d d =>
    simp only [Cx.vr, VR] at r
    cases d with
    | any => simp [live] at h1
    | agg cs => simp at h2
    | lst sz es => simp only [DR] at r; obtain ⟨a, cap, rfl, _⟩ := r; rfl
    | ifc t d => simp only [DR] at r; obtain ⟨a, rfl, _⟩ := r; rfl
    | _ => simp only [DR] at r; subst r; rfl
  | ptr o i k => obtain ⟨b, base, sz, _, rfl⟩ := vr_ptr h h1 r; rfl
  | ipt cs => simp only [Cx.vr, VR] at r; obtain ⟨b, off, vs, rfl, _⟩ := r; rfl
  | sl o off len => obtain ⟨a, cap, rfl⟩ := vr_sl_len h h1 r; rfl
  | mp o => obtain ⟨b, base, sz, _, rfl⟩ := vr_mp h h1 r; rfl
  | fn f caps => simp only [Cx.vr, VR] at r; obtain ⟨vs, rfl, _⟩ := r; rfl
  | bm f caps => simp only [Cx.vr, VR] at r; obtain ⟨vs, rfl, _⟩ := r; rfl
  | agg cs => simp at h2
  | tup cs => simp at h2
  | undef => simp [live] at h1

theorem oneCell_cells {v : Value} (h : v.oneCell' = true) : v.cells = #[v] := by
  cases v <;> first | rfl | simp [Value.oneCell'] at h

theorem cellsV_sound {c : Cx} {σ : List Ob} (h : SR c σ) {x : V} {cs : List V} (hc : cellsV σ x = some cs) {v : Value} (r : c.vr x v) : c.vrs cs v.cells.toList := by
  have single : one σ x = true → c.vrs [x] v.cells.toList := fun ho => by
    rw [oneCell_cells (vr_one h ho r)]
    simp only [Cx.vrs, VRs]
    exact ⟨v, [], rfl, r, rfl⟩
  unfold cellsV at hc
  split at hc
  · simp only [Option.some.injEq] at hc; subst hc
    simp only [Cx.vr, VR] at r
    obtain ⟨vs, rfl, hv⟩ := r
    simpa [Value.cells] using hv
  · simp only [Option.some.injEq] at hc; subst hc
    simp only [Cx.vr, VR, DR] at r
    obtain ⟨vs, rfl, hv⟩ := r
    simpa [Value.cells] using (VRs_map_d (I := c.im) (w := c.w) (l := c.loc)).2 hv
  · split at hc
    · rename_i ho
      simp only [Option.some.injEq] at hc; subst hc
      exact single ho
    · cases hc

/-! ### new variables -/
theorem heap_push_lt {w : World} {x : Obj} {b : Nat} (h : b < w.heap.size) : ({ w with heap := w.heap.push x } : World).heap[b]? = w.heap[b]? := by
  show (w.heap.push x)[b]? = _
  rw [Array.getElem?_push]
  have : ¬ b = w.heap.size := by omega
  simp [this]
theorem heap_push_at {w : World} {x : Obj} : ({ w with heap := w.heap.push x } : World).heap[w.heap.size]? = some x := by
  show (w.heap.push x)[w.heap.size]? = _
  simp

theorem new_box {c : Cx} {σ : List Ob} (h : SR c σ) {cs : List V} {vs : List Value} (hv : c.vrs cs vs) (ty : TypeId) (d : Nat) (sz : Nat := cs.length) :
    let c' : Cx := ⟨{ c.w with heap := c.w.heap.push (.cells vs.toArray ty), drawn := d }, upd c.loc σ.length (.here c.w.heap.size 0 sz), c.hid⟩
    SR c' (σ ++ [.box cs]) ∧ Ext c c' ∧ c'.vr (.ptr σ.length 0 0) (.pointer (some ⟨c.w.heap.size, 0, none⟩)) ∧ ∀ n, n * sz = cs.length → c'.vr (.sl σ.length 0 n) (.slice (some ⟨c.w.heap.size, 0, none⟩) n n) := by
  intro c'
  have e1 : c'.w.heap.size = c.w.heap.size + 1 := by show (c.w.heap.push _).size = _; simp
  have e2 : ∀ b, b < c.w.heap.size → c'.w.heap[b]? = c.w.heap[b]? := fun b hb => heap_push_lt hb
  have hE := Ext.new h c'.w e1 e2 sz
  have hlv := VRs_length hv
  refine ⟨?_, hE, ?_, fun n hn => ?_⟩
  · refine SR.new h c'.w e1 e2 sz (.box cs) ⟨c.w.heap.size, sz, rfl, vs.toArray, ty, (0, 0), heap_push_at, ?_, ?_⟩
    · exact unfrozen0 _
    · exact ⟨vs, [], by simp, hE.vrs hv⟩
  · simp [Cx.vr, VR, c']
  · simp only [Cx.vr, VR, c', upd_same]
    exact ⟨0, n, rfl, Nat.le_refl _, fun _ => by omega, _, ty, (0, 0), heap_push_at, Nat.zero_le _, by simp; omega⟩

/-- A new row of elements that may hold references, with spare room. -/
theorem new_vec {c : Cx} {σ : List Ob} (h : SR c σ) {cs : List V} {vs : List Value} (hv : c.vrs cs vs) (ty : TypeId) (d : Nat) (sz : Nat) (h0 : 0 < sz) (more : List Value) (n cap : Nat) (hn : cs.length = n * sz) (hcap : vs.length + more.length = cap * sz) (hle : n ≤ cap) :
    let c' : Cx := ⟨{ c.w with heap := c.w.heap.push (.cells (vs ++ more).toArray ty (0, 0)), drawn := d }, upd c.loc σ.length (.here c.w.heap.size 0 sz), c.hid⟩
    SR c' (σ ++ [.vec sz cs]) ∧ Ext c c' ∧ c'.vr (.sl σ.length 0 n) (.slice (some ⟨c.w.heap.size, 0, none⟩) n cap) := by
  intro c'
  have e1 : c'.w.heap.size = c.w.heap.size + 1 := by show (c.w.heap.push _).size = _; simp
  have e2 : ∀ b, b < c.w.heap.size → c'.w.heap[b]? = c.w.heap[b]? := fun b hb => heap_push_lt hb
  have hE := Ext.new h c'.w e1 e2 sz
  refine ⟨?_, hE, ?_⟩
  · refine SR.new h c'.w e1 e2 sz (.vec sz cs) ⟨c.w.heap.size, 0, rfl, h0, (vs ++ more).toArray, ty, (0, 0), heap_push_at, unfrozen0 _, vs, by simp, fun j hj => by simp [List.getElem?_append_left hj], hE.vrs hv⟩
  · simp only [Cx.vr, VR, c', upd_same]
    exact ⟨0, cap, rfl, hle, fun _ => by omega, _, ty, (0, 0), heap_push_at, Nat.zero_le _, by simp; omega⟩

/-- The zero value as cells. -/
def zeroCs (P : Program) (t : TypeId) : Option (List V) := match P.info? t with | some i => i.zero.map fun z => z.cells.toList.map fun v => .d (sc v) | none => none

theorem VRs_map_sc (I : Im) (w : World) (l : Nat → Loc) (vs : List Value) : VRs I w l (vs.map fun v => V.d (sc v)) vs := by
  have := (VRs_map_d (I := I) (w := w) (l := l) (ds := vs.map sc) (vs := vs)).2 (DRs_map_sc I vs)
  rw [List.map_map] at this
  exact this

theorem alloc_sound {P : Program} {t : TypeId} {c : Cx} {σ : List Ob} (h : SR c σ) {cs : List V} (hz : zeroCs P t = some cs) :
    SemOk P (Instr.alloc t true (.tuple #[])) c (.ptr σ.length 0 0) (σ ++ [.box cs]) := by
  unfold zeroCs at hz
  split at hz
  · rename_i i hi
    cases hzz : i.zero with
    | none => rw [hzz] at hz; cases hz
    | some z =>
      rw [hzz] at hz; simp at hz; subst hz
      obtain ⟨h1, h2, h3, _⟩ := new_box h (VRs_map_sc c.im c.w c.loc z.cells.toList) t c.w.drawn
      refine ⟨_, _, _, ?_, h1, h2, h3⟩
      simp [Instr.alloc, zeroValue, typeInfo, hi, hzz, newVar, newRow]
  · cases hz

theorem box_sound {P : Program} {t : TypeId} {c : Cx} {σ : List Ob} (h : SR c σ) {x : V} {cs : List V} (hc : cellsV σ x = some cs) {v : Value} (r : c.vr x v) :
    SemOk P (Instr.box t v) c (.ptr σ.length 0 0) (σ ++ [.box cs]) := by
  obtain ⟨h1, h2, h3, _⟩ := new_box h (cellsV_sound h hc r) t c.w.drawn
  refine ⟨_, _, _, ?_, h1, h2, h3⟩
  simp [Instr.box, newVar, newRow]

/-! ### rows of data -/

/-- A value as by-value data. -/
def toD (_σ : List Ob) : V → Option D
  | .d .any => none
  | .d x => some x
  | .agg cs => match (cs.mapM fun | .d x => some x | _ => none : Option (List D)) with | some ds => some (.agg ds) | none => none
  | _ => none

theorem toD_sound {c : Cx} {σ : List Ob} {x : V} {d : D} (h : toD σ x = some d) {v : Value} (r : c.vr x v) : DR c.im d v := by
  unfold toD at h
  split at h
  · cases h
  · simp only [Option.some.injEq] at h; subst h
    simpa [Cx.vr, VR] using r
  · rename_i cs
    split at h
    · rename_i ds hm
      simp only [Option.some.injEq] at h; subst h
      have := mapM_d _ _ hm
      subst this
      simp only [Cx.vr, VR] at r
      obtain ⟨vs, h1, h2⟩ := r
      simp only [DR]
      exact ⟨vs, h1, VRs_map_d.1 h2⟩
    · cases h
  · cases h

/-- Rows laid one behind the other. -/
theorem rows_flat {I J : Im} {b sz : Nat} (hle : I.Le J) : ∀ {es : List D} {us : List Value} (off : Nat), DRs I es us → (∀ u ∈ us, Flat u sz) →
    (∀ j, j < (us.flatMap fun u => u.cells.toList).length → J.cell b (off + j) = (us.flatMap fun u => u.cells.toList)[j]?) → RowsR J es b off sz
  | [], us, off, h, _, _ => by simp [RowsR]
  | d :: es, us, off, h, hs, hc => by
    simp only [DRs] at h
    obtain ⟨v, r, rfl, h1, h2⟩ := h
    simp only [RowsR]
    have hv : Flat v sz := hs v (by simp)
    have hvl : v.cells.toList.length = sz := by simpa using hv.1
    refine ⟨⟨v, DR_mono hle _ _ h1, hv, fun j hj => ?_⟩, ?_⟩
    · rw [hc j (by simp only [List.flatMap_cons, List.length_append]; omega)]
      simp only [List.flatMap_cons]
      rw [List.getElem?_append_left (by omega)]
      simp
    · refine rows_flat hle (off + sz) h2 (fun u hu => hs u (by simp [hu])) (fun j hj => ?_)
      have := hc (sz + j) (by simp only [List.flatMap_cons, List.length_append]; omega)
      rw [Nat.add_assoc, this]
      simp only [List.flatMap_cons]
      rw [List.getElem?_append_right (by omega), hvl]
      congr 1; omega

theorem flat_length {us : List Value} {sz : Nat} (h : ∀ u ∈ us, u.cells.size = sz) : (us.flatMap fun u => u.cells.toList).length = us.length * sz := by
  induction us with
  | nil => simp
  | cons u us ih =>
    simp only [List.flatMap_cons, List.length_append, List.length_cons, ih fun x hx => h x (by simp [hx]), Nat.add_mul, Nat.one_mul]
    have := h u (by simp)
    simp at this ⊢
    omega

/-- A new row of data. -/
theorem new_arr {c : Cx} {σ : List Ob} (h : SR c σ) {es : List D} {us : List Value} {sz : Nat} (h0 : 0 < sz) (hv : DRs c.im es us) (hs : ∀ u ∈ us, Flat u sz) (more : List Value) (ty : TypeId) (cap d : Nat) (mk : Bool)
    (hcap : cap * sz = es.length * sz + more.length) (hle : es.length ≤ cap) (f : Nat × Nat) (hf : Unfrozen f ((us.flatMap fun u => u.cells.toList) ++ more).length) (hf' : mk = false → Unfrozen f (((us.flatMap fun u => u.cells.toList) ++ more).length + 1)) :
    let c' : Cx := ⟨{ c.w with heap := c.w.heap.push (.cells ((us.flatMap fun u => u.cells.toList) ++ more).toArray ty f), drawn := d }, upd c.loc σ.length (.here c.w.heap.size 0 sz), c.hid⟩
    SR c' (σ ++ [.arr sz mk es]) ∧ Ext c c' ∧ c'.vr (.sl σ.length 0 es.length) (.slice (some ⟨c.w.heap.size, 0, none⟩) es.length cap) := by
  intro c'
  have e1 : c'.w.heap.size = c.w.heap.size + 1 := by show (c.w.heap.push _).size = _; simp
  have e2 : ∀ b, b < c.w.heap.size → c'.w.heap[b]? = c.w.heap[b]? := fun b hb => heap_push_lt hb
  have hE := Ext.new h c'.w e1 e2 sz
  have hl := flat_length fun u hu => (hs u hu).1
  have hlu := DRs_length hv
  have hat : c'.w.heap[c.w.heap.size]? = some (.cells ((us.flatMap fun u => u.cells.toList) ++ more).toArray ty f) := heap_push_at
  have hsz : ((us.flatMap fun u => u.cells.toList) ++ more).toArray.size = es.length * sz + more.length := by
    simp only [List.size_toArray, List.length_append, hl, hlu]
  refine ⟨?_, hE, ?_⟩
  · refine SR.new h c'.w e1 e2 sz (.arr sz mk es) (.inr ⟨c.w.heap.size, 0, rfl, h0, _, ty, f, hat, ?_, ?_, ?_⟩)
    · cases mk with
      | true => simpa using hf
      | false => simpa using hf' rfl
    · rw [hsz]; omega
    · refine rows_flat hE.im 0 hv hs (fun j hj => ?_)
      show c'.w.cell? ⟨c.w.heap.size, 0 + j, none⟩ = _
      rw [cell?_cells hat]
      simp only [List.getElem?_toArray, Nat.zero_add]
      rw [List.getElem?_append_left hj]
  · simp only [Cx.vr, VR, c', upd_same]
    exact ⟨0, cap, rfl, hle, fun _ => by omega, _, ty, f, hat, Nat.zero_le _, by rw [hsz]; simpa using hcap⟩

/-- The parts of a literal, where all are given in order. -/
def inOrder : Nat → List (Nat × Operand) → Option (List Operand)
  | _, [] => some []
  | n, (i, x) :: r => if i = n then (inOrder (n + 1) r).map (x :: ·) else none

theorem inOrder_zip : ∀ (n : Nat) (ps : List (Nat × Operand)) (xs : List Operand), inOrder n ps = some xs → ps.length = xs.length ∧ ∀ k, k < xs.length → ps[k]? = (xs[k]?).map fun x => (n + k, x)
  | n, [], xs, h => by simp [inOrder] at h; subst h; simp
  | n, (i, x) :: r, xs, h => by
    simp only [inOrder] at h
    split at h
    · rename_i hi
      cases hr : inOrder (n + 1) r with
      | none => rw [hr] at h; cases h
      | some ys =>
        rw [hr] at h; simp at h; subst h; subst hi
        obtain ⟨h1, h2⟩ := inOrder_zip (i + 1) r ys hr
        refine ⟨by simp [h1], fun k hk => ?_⟩
        cases k with
        | zero => simp
        | succ k => simpa [Nat.add_assoc, Nat.add_comm 1 k] using h2 k (by simpa using hk)
    · cases h

/-- Filling a row by parts of one size, in order, leaves just the parts. -/
theorem fill_all {sz : Nat} : ∀ (us : List Value) (n : Nat) (pre : List Value) (post : List Value), (∀ u ∈ us, u.cells.size = sz) → pre.length = n * sz → post.length = us.length * sz →
    Instr.fill (fun i => some (i * sz, sz)) (pre ++ post).toArray ((List.range' n us.length).zip us) = some (pre ++ us.flatMap fun u => u.cells.toList).toArray
  | [], n, pre, post, _, _, hp => by
    have : post = [] := List.eq_nil_of_length_eq_zero (by simpa using hp)
    subst this
    simp [Instr.fill]
  | u :: us, n, pre, post, hs, hpre, hp => by
    have hu : u.cells.size = sz := hs u (by simp)
    have hlen : (u :: us).length * sz = sz + us.length * sz := by simp [Nat.add_mul]; omega
    simp only [List.length_cons, List.range'_succ, List.zip_cons_cons, Instr.fill, hu]
    have hfit : ¬ (n * sz + sz > (pre ++ post).toArray.size) := by
      simp only [List.size_toArray, List.length_append]; omega
    simp only [ne_eq, not_true_eq_false, decide_false, hfit, Bool.or_self, Bool.false_eq_true, if_false]
    have key : ∀ (cs : List Value) (k : Nat) (p q : List Value), p.length = n * sz + k → cs.length ≤ q.length →
        (cs.zipIdx k).foldl (fun (a : Array Value) (x : Value × Nat) => a.setIfInBounds (n * sz + x.2) x.1) (p ++ q).toArray = (p ++ cs ++ q.drop cs.length).toArray := by
      intro cs
      induction cs with
      | nil => intro k p q _ _; simp
      | cons v cs ih =>
        intro k p q h1 h2
        cases q with
        | nil => simp at h2
        | cons y q =>
          simp only [List.zipIdx_cons, List.foldl_cons]
          have : (p ++ y :: q).toArray.setIfInBounds (n * sz + k) v = ((p ++ [v]) ++ q).toArray := by
            apply Array.ext'
            simp only [Array.toList_setIfInBounds]
            rw [List.set_append_right _ _ (by omega)]
            simp [show n * sz + k - p.length = 0 by omega]
          rw [this, ih (k + 1) (p ++ [v]) q (by simp; omega) (by simpa using h2)]
          simp
    have hfold : (u.cells.zipIdx.foldl (fun cs (x : Value × Nat) => cs.setIfInBounds (n * sz + x.2) x.1) (pre ++ post).toArray) = ((pre ++ u.cells.toList) ++ post.drop sz).toArray := by
      have := key u.cells.toList 0 pre post (by omega) (by simp; omega)
      simp only [Array.length_toList, hu] at this
      rw [← this, ← Array.foldl_toList]
      simp
    have := fill_all us (n + 1) (pre ++ u.cells.toList) (post.drop sz) (fun x hx => hs x (by simp [hx])) (by simp [Nat.add_mul, hpre, hu]) (by rw [List.length_drop]; omega)
    rw [List.append_assoc] at this
    simp only [List.flatMap_cons, ← List.append_assoc]
    rw [List.append_assoc] at this
    have e : (List.foldl (fun cs (x : Value × Nat) => match x with | (c, j) => cs.setIfInBounds (n * sz + j) c) (pre ++ post).toArray u.cells.zipIdx.toList) = ((pre ++ u.cells.toList) ++ post.drop sz).toArray := by
      rw [← hfold, ← Array.foldl_toList]
    first
      | (rw [Array.foldl_toList] at e; rw [e]; simpa [List.append_assoc] using this)
      | (rw [hfold]; simpa [List.append_assoc] using this)
end Go.Proofs.YtchgfpehcjomeaaGreatDoor.Am
