/- The engine's store: objects that a symbolic store owns, the memory outside it that nothing changes, and steps that keep what was known. -/
import Derived.Test.YtchgfpehcjomeaaGreatDoorAmGl
namespace Go.Proofs.YtchgfpehcjomeaaGreatDoor.Am
open Go

/-- The blocks that no call may touch, and the calls that the function has put off. -/
structure Hid where
  blk : Nat → Prop
  df : List Deferred

structure Cx where
  w : World
  loc : Nat → Loc
  hid : Hid

def Cx.own (c : Cx) (b : Nat) : Prop := ∃ o base sz, c.loc o = .here b base sz
def Cx.im (c : Cx) : Im := { cell := fun b o => c.w.cell? ⟨b, o, none⟩, ok := fun b => b < c.w.heap.size ∧ ¬ c.own b ∧ ¬ c.hid.blk b }
abbrev Cx.vr (c : Cx) : V → Value → Prop := VR c.im c.w c.loc
abbrev Cx.vrs (c : Cx) : List V → List Value → Prop := VRs c.im c.w c.loc

def Unfrozen (f : Nat × Nat) (n : Nat) : Prop := f.1 ≤ f.2 ∧ ∀ i, i < n → ¬ (f.1 ≤ i ∧ i < f.2)
theorem unfrozen0 (n : Nat) : Unfrozen (0, 0) n := ⟨Nat.le_refl _, fun i _ q => by simp at q⟩

inductive MapR (I : Im) (w : World) (loc : Nat → Loc) : List (D × V × Nat) → List MapEntry → Prop
  | nil : MapR I w loc [] []
  | cons {k : D} {x : V} {n : Nat} {e : MapEntry} {es : List (D × V × Nat)} {l : List MapEntry} : DR I k e.key → VR I w loc x e.val → e.born = n → MapR I w loc es l → MapR I w loc ((k, x, n) :: es) (e :: l)
abbrev Cx.mapR (c : Cx) : List (D × V × Nat) → List MapEntry → Prop := MapR c.im c.w c.loc

def OR (c : Cx) (l : Loc) : Ob → Prop
  | .dead => l = .dead
  | .box cs => ∃ b sz, l = .here b 0 sz ∧ ∃ (arr : Array Value) (e : TypeId) (f : Nat × Nat), c.w.heap[b]? = some (.cells arr e f) ∧ Unfrozen f arr.size ∧ ∃ vs rest, arr.toList = vs ++ rest ∧ c.vrs cs vs
  | .vec sz cs => ∃ b base, l = .here b base sz ∧ 0 < sz ∧ ∃ (arr : Array Value) (e : TypeId) (f : Nat × Nat), c.w.heap[b]? = some (.cells arr e f) ∧ Unfrozen f arr.size ∧ ∃ us : List Value, base + us.length ≤ arr.size ∧ (∀ j, j < us.length → arr[base + j]? = us[j]?) ∧ c.vrs cs us
  | .arr sz mk es => (l = .nil ∧ es = []) ∨ ∃ b base, l = .here b base sz ∧ 0 < sz ∧ ∃ (arr : Array Value) (e : TypeId) (f : Nat × Nat), c.w.heap[b]? = some (.cells arr e f) ∧ Unfrozen f (arr.size + (if mk then 0 else 1)) ∧ base + es.length * sz ≤ arr.size ∧ RowsR c.im es b base sz
  | .map es clk => ∃ b, l = .here b 0 1 ∧ ∃ (ents : Array MapEntry), c.w.heap[b]? = some (.map ents clk) ∧ c.mapR es ents.toList ∧ (es.map (·.2.2)).Nodup ∧ ∀ e ∈ es, e.2.2 < clk
  | .sit s pos => ∃ b, l = .here b 0 1 ∧ c.w.heap[b]? = some (.stringIter ⟨s.toArray⟩ pos)
  | .mit m since seen last => ∃ b, l = .here b 0 1 ∧ ∃ r, c.w.heap[b]? = some (.mapIter r since seen.toArray last) ∧ c.vr m (.map r)

def ORo (c : Cx) (l : Loc) : Option Ob → Prop
  | none => l = .unborn
  | some x => OR c l x

/-- The listed package-level variables read as they should. -/
def Glob (c : Cx) : Prop := ∀ g cs, globs g = some cs → c.im.ok g ∧ ∃ vs : List Value, DRs c.im cs vs ∧ ∀ j, j < cs.length → c.im.cell g j = vs[j]?
theorem Glob.le {c c' : Cx} (h : c.im.Le c'.im) (H : Glob c) : Glob c' := fun g cs e => by
  obtain ⟨h1, vs, h2, h3⟩ := H g cs e
  have := h g h1
  exact ⟨this.1, vs, DRs_mono h _ _ h2, fun j hj => by rw [this.2]; exact h3 j hj⟩

structure SR (c : Cx) (σ : List Ob) : Prop where
  obj : ∀ o, ORo c (c.loc o) σ[o]?
  inj : ∀ {o o' b base sz base' sz'}, c.loc o = .here b base sz → c.loc o' = .here b base' sz' → o = o'
  hid : ∀ b, c.hid.blk b → b < c.w.heap.size ∧ ¬ c.own b
  gl : Glob c

/-- The world's streams have not turned. -/
def IoEq (w w' : World) : Prop := w'.os = w.os ∧ w'.tape = w.tape ∧ w'.output = w.output
theorem IoEq.trans {a b c : World} (h : IoEq a b) (g : IoEq b c) : IoEq a c := ⟨g.1.trans h.1, g.2.1.trans h.2.1, g.2.2.trans h.2.2⟩
theorem io_setCells (b : Nat) : ∀ (l : List Value) (k : Nat) (w : World), IoEq w (w.setCells b k l)
  | [], _, _ => ⟨rfl, rfl, rfl⟩
  | v :: r, k, w => IoEq.trans (b := w.setCell ⟨b, k, none⟩ v) ⟨rfl, rfl, rfl⟩ (io_setCells b r (k + 1) _)

structure Ext (c c' : Cx) : Prop where
  hid : c'.hid = c.hid
  size : c.w.heap.size ≤ c'.w.heap.size
  cells : Cells c.w c'.w
  frame : ∀ b, b < c.w.heap.size → ¬ c.own b → c'.w.heap[b]? = c.w.heap[b]? ∧ ¬ c'.own b
  loc : locLe c.loc c'.loc
  io : IoEq c.w c'.w

theorem Ext.refl (c : Cx) : Ext c c := ⟨rfl, Nat.le_refl _, fun _ cs _ f h => ⟨cs, f, h, rfl⟩, fun _ _ h => ⟨rfl, h⟩, fun _ => .inl rfl, rfl, rfl, rfl⟩

theorem locLe.trans {l l' l'' : Nat → Loc} (h : locLe l l') (g : locLe l' l'') (hd : ∀ o, l' o = .unborn → l o = .unborn) : locLe l l'' := by
  intro o
  rcases g o with e | e | e
  · rw [e]; exact h o
  · exact .inr (.inl e)
  · exact .inr (.inr (hd o e))

theorem Ext.trans {c c' c'' : Cx} (h : Ext c c') (g : Ext c' c'') : Ext c c'' := by
  refine ⟨g.hid.trans h.hid, Nat.le_trans h.size g.size, ?_, ?_, ?_, h.io.trans g.io⟩
  · intro b cs e f hb
    obtain ⟨cs', f', h1, h2⟩ := h.cells b cs e f hb
    obtain ⟨cs'', f'', g1, g2⟩ := g.cells b cs' e f' h1
    exact ⟨cs'', f'', g1, g2.trans h2⟩
  · intro b hb ho
    obtain ⟨h1, h2⟩ := h.frame b hb ho
    obtain ⟨g1, g2⟩ := g.frame b (Nat.lt_of_lt_of_le hb h.size) h2
    exact ⟨g1.trans h1, g2⟩
  · intro o
    rcases g.loc o with e | e | e
    · rw [e]; exact h.loc o
    · exact .inr (.inl e)
    · rcases h.loc o with e' | e' | e'
      · exact .inr (.inr (e' ▸ e))
      · rw [e] at e'; cases e'
      · exact .inr (.inr e')

theorem SR.hid_ext {c c' : Cx} {σ : List Ob} (h : SR c σ) (hE : Ext c c') : ∀ b, c'.hid.blk b → b < c'.w.heap.size ∧ ¬ c'.own b := by
  intro b hb
  rw [hE.hid] at hb
  obtain ⟨h1, h2⟩ := h.hid b hb
  exact ⟨Nat.lt_of_lt_of_le h1 hE.size, (hE.frame b h1 h2).2⟩

theorem cell?_of_heap {w w' : World} {b : Nat} (h : w'.heap[b]? = w.heap[b]?) (o : Nat) : w'.cell? ⟨b, o, none⟩ = w.cell? ⟨b, o, none⟩ := by
  simp [World.cell?, h]

theorem Ext.im {c c' : Cx} (h : Ext c c') : c.im.Le c'.im := by
  intro b hb
  obtain ⟨h1, h2, h3⟩ := hb
  obtain ⟨e, ho⟩ := h.frame b h1 h2
  exact ⟨⟨Nat.lt_of_lt_of_le h1 h.size, ho, by rw [h.hid]; exact h3⟩, fun o => cell?_of_heap e o⟩

theorem Ext.glob {c c' : Cx} (h : Ext c c') (H : Glob c) : Glob c' := H.le h.im
theorem Ext.vr {c c' : Cx} (h : Ext c c') {x : V} {v : Value} (r : c.vr x v) : c'.vr x v := VR_mono h.im h.loc h.cells x v r
theorem Ext.vrs {c c' : Cx} (h : Ext c c') {x : List V} {v : List Value} (r : c.vrs x v) : c'.vrs x v := VRs_mono h.im h.loc h.cells x v r
theorem Ext.dr {c c' : Cx} (h : Ext c c') {x : D} {v : Value} (r : DR c.im x v) : DR c'.im x v := DR_mono h.im x v r

theorem MapR.imp {I J : Im} {w w' : World} {l l' : Nat → Loc} (h : I.Le J) (hv : ∀ x v, VR I w l x v → VR J w' l' x v) {es : List (D × V × Nat)} {ents : List MapEntry} (m : MapR I w l es ents) : MapR J w' l' es ents := by
  induction m with
  | nil => exact .nil
  | cons a b e _ ih => exact .cons (DR_mono h _ _ a) (hv _ _ b) e ih
theorem Ext.mapR {c c' : Cx} (h : Ext c c') {es : List (D × V × Nat)} {ents : List MapEntry} (m : c.mapR es ents) : c'.mapR es ents := m.imp h.im fun _ _ r => h.vr r

/-- An object whose block has not changed stays. -/
theorem OR.keep {c c' : Cx} (h : Ext c c') {l : Loc} {x : Ob} (r : OR c l x) (hb : ∀ b base sz, l = .here b base sz → c'.w.heap[b]? = c.w.heap[b]?) : OR c' l x := by
  cases x with
  | dead => exact r
  | box cs =>
    obtain ⟨b, sz, rfl, arr, e, f, h1, h2, vs, rest, hv, h3⟩ := r
    exact ⟨b, sz, rfl, arr, e, f, by rw [hb _ _ _ rfl]; exact h1, h2, vs, rest, hv, h.vrs h3⟩
  | vec sz cs =>
    obtain ⟨b, base, rfl, h0, arr, e, f, h1, h2, us, hle, hat, h3⟩ := r
    exact ⟨b, base, rfl, h0, arr, e, f, by rw [hb _ _ _ rfl]; exact h1, h2, us, hle, hat, h.vrs h3⟩
  | arr sz mk es =>
    rcases r with r | ⟨b, base, rfl, h0, arr, e, f, h1, h2, h3, h4⟩
    · exact .inl r
    · exact .inr ⟨b, base, rfl, h0, arr, e, f, by rw [hb _ _ _ rfl]; exact h1, h2, h3, RowsR_mono h.im es b base sz (fun o => cell?_of_heap (hb _ _ _ rfl) o) h4⟩
  | map es clk =>
    obtain ⟨b, rfl, ents, h1, h2, h3⟩ := r
    exact ⟨b, rfl, ents, by rw [hb _ _ _ rfl]; exact h1, h.mapR h2, h3⟩
  | mit m since seen last =>
    obtain ⟨b, rfl, r, h1, h2⟩ := r
    exact ⟨b, rfl, r, by rw [hb _ _ _ rfl]; exact h1, h.vr h2⟩
  | sit s pos =>
    obtain ⟨b, rfl, h1⟩ := r
    exact ⟨b, rfl, by rw [hb _ _ _ rfl]; exact h1⟩

theorem SR.lt {c : Cx} {σ : List Ob} (h : SR c σ) {o b base sz : Nat} (e : c.loc o = .here b base sz) : b < c.w.heap.size := by
  have r := h.obj o
  rw [e] at r
  cases hx : σ[o]? with
  | none => rw [hx] at r; cases r
  | some x =>
    rw [hx] at r
    cases x with
    | dead => cases r
    | box cs =>
      obtain ⟨b', sz', e', arr, ty, f, h1, _⟩ := r
      cases e'
      exact (Array.getElem?_eq_some_iff.1 h1).1
    | vec sz cs =>
      obtain ⟨b', _, e', _, arr, ty, f, h1, _⟩ := r
      cases e'
      exact (Array.getElem?_eq_some_iff.1 h1).1
    | arr s mk es =>
      rcases r with ⟨r, _⟩ | ⟨b', base', e', _, arr, ty, f, h1, _⟩
      · cases r
      · cases e'
        exact (Array.getElem?_eq_some_iff.1 h1).1
    | map es clk =>
      obtain ⟨b', e', ents, h1, _⟩ := r
      cases e'
      exact (Array.getElem?_eq_some_iff.1 h1).1
    | mit m since seen last =>
      obtain ⟨b', e', r, h1, _⟩ := r
      cases e'
      exact (Array.getElem?_eq_some_iff.1 h1).1
    | sit s pos =>
      obtain ⟨b', e', h1⟩ := r
      cases e'
      exact (Array.getElem?_eq_some_iff.1 h1).1

theorem SR.unborn {c : Cx} {σ : List Ob} (h : SR c σ) {o : Nat} (ho : σ.length ≤ o) : c.loc o = .unborn := by
  have r := h.obj o
  rw [List.getElem?_eq_none ho] at r
  exact r

theorem SR.get {c : Cx} {σ : List Ob} (h : SR c σ) {o : Nat} {x : Ob} (ho : σ[o]? = some x) : OR c (c.loc o) x := by
  have r := h.obj o
  rw [ho] at r
  exact r

theorem SR.born {c : Cx} {σ : List Ob} (h : SR c σ) {o : Nat} (ho : c.loc o ≠ .unborn) : o < σ.length := by
  rcases Nat.lt_or_ge o σ.length with g | g
  · exact g
  · exact (ho (h.unborn g)).elim

theorem OR.not_unborn {c : Cx} {x : Ob} : ¬ OR c .unborn x := by
  intro r
  cases x with
  | dead => cases r
  | box cs => obtain ⟨b, _, e, _⟩ := r; cases e
  | vec sz cs => obtain ⟨b, _, e, _⟩ := r; cases e
  | arr s mk es => rcases r with ⟨e, _⟩ | ⟨b, base, e, _⟩ <;> cases e
  | map es clk => obtain ⟨b, e, _⟩ := r; cases e
  | mit m since seen last => obtain ⟨b, e, _⟩ := r; cases e
  | sit s p => obtain ⟨b, e, _⟩ := r; cases e

theorem SR.not_unborn {c : Cx} {σ : List Ob} (h : SR c σ) {o : Nat} (ho : o < σ.length) : c.loc o ≠ .unborn := by
  intro e
  have r := h.get (List.getElem?_eq_getElem ho)
  rw [e] at r
  exact OR.not_unborn r

/-- The calls put off are the frame's own matter. -/
theorem SR.re {w : World} {loc : Nat → Loc} {h h' : Hid} (e : h.blk = h'.blk) {σ : List Ob} (s : SR ⟨w, loc, h⟩ σ) : SR ⟨w, loc, h'⟩ σ := by
  cases h; cases h'; simp only at e; subst e
  refine ⟨fun o => ?_, s.inj, s.hid, s.gl⟩
  have r := s.obj o
  cases hx : σ[o]? with
  | none => rw [hx] at r; exact r
  | some x =>
    rw [hx] at r
    cases x <;> exact r
theorem Ext.re {w w' : World} {loc loc' : Nat → Loc} {h h' : Hid} (e : h.blk = h'.blk) (s : Ext ⟨w, loc, h⟩ ⟨w', loc', h⟩) : Ext ⟨w, loc, h'⟩ ⟨w', loc', h'⟩ := by
  cases h; cases h'; simp only at e; subst e
  exact ⟨rfl, s.size, s.cells, s.frame, s.loc, s.io⟩

/-! ### steps of the store -/

def upd (l : Nat → Loc) (o : Nat) (x : Loc) : Nat → Loc := fun o' => if o' = o then x else l o'
@[simp] theorem upd_same (l : Nat → Loc) (o : Nat) (x : Loc) : upd l o x o = x := by simp [upd]
theorem upd_other (l : Nat → Loc) {o o' : Nat} (x : Loc) (h : o' ≠ o) : upd l o x o' = l o' := by simp [upd, h]

/-- A new object in a new block. -/
theorem Ext.new {c : Cx} {σ : List Ob} (h : SR c σ) (w' : World) (hh : w'.heap.size = c.w.heap.size + 1) (hs : ∀ b, b < c.w.heap.size → w'.heap[b]? = c.w.heap[b]?) (sz : Nat) (hio : IoEq c.w w' := by first | exact ⟨rfl, rfl, rfl⟩ | exact io_setCells _ _ _ _) :
    Ext c ⟨w', upd c.loc σ.length (.here c.w.heap.size 0 sz), c.hid⟩ := by
  refine ⟨rfl, by simp [hh], ?_, ?_, ?_, hio⟩
  · intro b cs e f hb
    exact ⟨cs, f, by rw [hs b (Array.getElem?_eq_some_iff.1 hb).1]; exact hb, rfl⟩
  · intro b hb ho
    refine ⟨hs b hb, ?_⟩
    rintro ⟨o, base, sz', e⟩
    dsimp only at e
    by_cases g : o = σ.length
    · subst g
      simp at e
      omega
    · rw [upd_other _ _ g] at e
      exact ho ⟨o, base, sz', e⟩
  · intro o
    by_cases g : o = σ.length
    · subst g
      exact .inr (.inr (h.unborn (Nat.le_refl _)))
    · exact .inl (upd_other _ _ g)

theorem SR.new {c : Cx} {σ : List Ob} (h : SR c σ) (w' : World) (hh : w'.heap.size = c.w.heap.size + 1) (hs : ∀ b, b < c.w.heap.size → w'.heap[b]? = c.w.heap[b]?) (sz : Nat) (x : Ob)
    (hx : OR ⟨w', upd c.loc σ.length (.here c.w.heap.size 0 sz), c.hid⟩ (.here c.w.heap.size 0 sz) x) (hio : IoEq c.w w' := by first | exact ⟨rfl, rfl, rfl⟩ | exact io_setCells _ _ _ _) :
    SR ⟨w', upd c.loc σ.length (.here c.w.heap.size 0 sz), c.hid⟩ (σ ++ [x]) := by
  have hE := Ext.new h w' hh hs sz hio
  refine ⟨fun o => ?_, ?_, h.hid_ext hE, hE.glob h.gl⟩
  · rcases Nat.lt_trichotomy o σ.length with g | g | g
    · rw [List.getElem?_append_left g]
      show ORo _ (upd c.loc σ.length _ o) _
      rw [upd_other _ _ (Nat.ne_of_lt g), List.getElem?_eq_getElem g]
      exact (h.get (List.getElem?_eq_getElem g)).keep hE fun b base s e => hs b (h.lt e)
    · subst g
      show ORo _ (upd c.loc σ.length _ σ.length) _
      simp only [upd_same, List.getElem?_concat_length]
      exact hx
    · rw [List.getElem?_eq_none (by simp; omega)]
      show upd c.loc σ.length _ o = _
      rw [upd_other _ _ (Nat.ne_of_gt g)]
      exact h.unborn (Nat.le_of_lt g)
  · intro o o' b base s base' s' e e'
    dsimp only at e e'
    by_cases g : o = σ.length <;> by_cases g' : o' = σ.length
    · rw [g, g']
    · subst g
      rw [upd_other _ _ g'] at e'
      simp at e
      have := h.lt e'
      omega
    · subst g'
      rw [upd_other _ _ g] at e
      simp at e'
      have := h.lt e
      omega
    · rw [upd_other _ _ g] at e
      rw [upd_other _ _ g'] at e'
      exact h.inj e e'

/-- One object's block is written; nothing moves. -/
theorem Ext.write {c : Cx} {o b base sz : Nat} (ho : c.loc o = .here b base sz) (w' : World) (hsz : w'.heap.size = c.w.heap.size) (hs : ∀ b', b' ≠ b → w'.heap[b']? = c.w.heap[b']?)
    (hc : ∀ (cs : Array Value) (e : TypeId) (f : Nat × Nat), c.w.heap[b]? = some (.cells cs e f) → ∃ (cs' : Array Value) (f' : Nat × Nat), w'.heap[b]? = some (.cells cs' e f') ∧ cs'.size = cs.size) (hio : IoEq c.w w' := by first | exact ⟨rfl, rfl, rfl⟩ | exact io_setCells _ _ _ _) :
    Ext c ⟨w', c.loc, c.hid⟩ := by
  refine ⟨rfl, by simp [hsz], ?_, ?_, fun _ => .inl rfl, hio⟩
  · intro b' cs e f hb
    by_cases g : b' = b
    · subst g; exact hc cs e f hb
    · exact ⟨cs, f, by rw [hs b' g]; exact hb, rfl⟩
  · intro b' hb hown
    exact ⟨hs b' fun g => hown ⟨o, base, sz, g ▸ ho⟩, hown⟩

theorem SR.write {c : Cx} {σ : List Ob} (h : SR c σ) {o b base sz : Nat} (ho : c.loc o = .here b base sz) (w' : World) (hsz : w'.heap.size = c.w.heap.size) (hs : ∀ b', b' ≠ b → w'.heap[b']? = c.w.heap[b']?)
    (hc : ∀ (cs : Array Value) (e : TypeId) (f : Nat × Nat), c.w.heap[b]? = some (.cells cs e f) → ∃ (cs' : Array Value) (f' : Nat × Nat), w'.heap[b]? = some (.cells cs' e f') ∧ cs'.size = cs.size)
    (x : Ob) (hx : OR ⟨w', c.loc, c.hid⟩ (.here b base sz) x) (hio : IoEq c.w w' := by first | exact ⟨rfl, rfl, rfl⟩ | exact io_setCells _ _ _ _) : SR ⟨w', c.loc, c.hid⟩ (σ.set o x) := by
  have hE := Ext.write ho w' hsz hs hc hio
  have hlt := h.born (o := o) (by rw [ho]; simp)
  refine ⟨fun o' => ?_, fun e e' => h.inj e e', h.hid_ext hE, hE.glob h.gl⟩
  by_cases g : o' = o
  · subst g
    rw [List.getElem?_set_self hlt]
    show OR _ (c.loc o') x
    rw [ho]; exact hx
  · rw [List.getElem?_set_ne (fun e => g e.symm)]
    have r := h.obj o'
    show ORo _ (c.loc o') _
    cases hx' : σ[o']? with
    | none => rw [hx'] at r; exact r
    | some y =>
      rw [hx'] at r
      exact OR.keep hE r fun b' base' s' e => hs b' fun g' => g (h.inj (g' ▸ e) ho)

/-- One object dies; its block is given to a new object. -/
theorem Ext.move {c : Cx} {σ : List Ob} (h : SR c σ) {o b base sz : Nat} (ho : c.loc o = .here b base sz) (w' : World) (hsz : w'.heap.size = c.w.heap.size) (hs : ∀ b', b' ≠ b → w'.heap[b']? = c.w.heap[b']?)
    (hc : ∀ (cs : Array Value) (e : TypeId) (f : Nat × Nat), c.w.heap[b]? = some (.cells cs e f) → ∃ (cs' : Array Value) (f' : Nat × Nat), w'.heap[b]? = some (.cells cs' e f') ∧ cs'.size = cs.size) (base' sz' : Nat) (hio : IoEq c.w w' := by first | exact ⟨rfl, rfl, rfl⟩ | exact io_setCells _ _ _ _) :
    Ext c ⟨w', upd (upd c.loc o .dead) σ.length (.here b base' sz'), c.hid⟩ := by
  have hlt := h.born (o := o) (by rw [ho]; simp)
  refine ⟨rfl, by simp [hsz], ?_, ?_, ?_, hio⟩
  · intro b' cs e f hb
    by_cases g : b' = b
    · subst g; exact hc cs e f hb
    · exact ⟨cs, f, by rw [hs b' g]; exact hb, rfl⟩
  · intro b' hb hown
    have hne : b' ≠ b := fun g => hown ⟨o, base, sz, g ▸ ho⟩
    refine ⟨hs b' hne, ?_⟩
    rintro ⟨o', ba, s, e⟩
    dsimp only at e
    by_cases g : o' = σ.length
    · subst g; simp at e; exact hne e.1.symm
    · rw [upd_other _ _ g] at e
      by_cases g' : o' = o
      · subst g'; simp at e
      · rw [upd_other _ _ g'] at e; exact hown ⟨o', ba, s, e⟩
  · intro o'
    dsimp only
    by_cases g : o' = σ.length
    · subst g; exact .inr (.inr (h.unborn (Nat.le_refl _)))
    · rw [upd_other _ _ g]
      by_cases g' : o' = o
      · subst g'; exact .inr (.inl (by simp))
      · rw [upd_other _ _ g']; exact .inl rfl

theorem SR.move {c : Cx} {σ : List Ob} (h : SR c σ) {o b base sz : Nat} (ho : c.loc o = .here b base sz) (w' : World) (hsz : w'.heap.size = c.w.heap.size) (hs : ∀ b', b' ≠ b → w'.heap[b']? = c.w.heap[b']?)
    (hc : ∀ (cs : Array Value) (e : TypeId) (f : Nat × Nat), c.w.heap[b]? = some (.cells cs e f) → ∃ (cs' : Array Value) (f' : Nat × Nat), w'.heap[b]? = some (.cells cs' e f') ∧ cs'.size = cs.size) (base' sz' : Nat)
    (x : Ob) (hx : OR ⟨w', upd (upd c.loc o .dead) σ.length (.here b base' sz'), c.hid⟩ (.here b base' sz') x) (hio : IoEq c.w w' := by first | exact ⟨rfl, rfl, rfl⟩ | exact io_setCells _ _ _ _) :
    SR ⟨w', upd (upd c.loc o .dead) σ.length (.here b base' sz'), c.hid⟩ (σ.set o .dead ++ [x]) := by
  have hE := Ext.move h ho w' hsz hs hc base' sz' hio
  have hlt := h.born (o := o) (by rw [ho]; simp)
  refine ⟨fun o' => ?_, ?_, h.hid_ext hE, hE.glob h.gl⟩
  · show ORo _ (upd (upd c.loc o .dead) σ.length _ o') _
    rcases Nat.lt_trichotomy o' σ.length with g | g | g
    · rw [List.getElem?_append_left (by simpa using g), upd_other _ _ (Nat.ne_of_lt g)]
      by_cases g' : o' = o
      · subst g'
        rw [List.getElem?_set_self hlt]
        show upd c.loc o' .dead o' = .dead
        simp
      · rw [List.getElem?_set_ne (fun e => g' e.symm), upd_other _ _ g', List.getElem?_eq_getElem g]
        exact (h.get (List.getElem?_eq_getElem g)).keep hE fun b' base' s' e => hs b' fun k => g' (h.inj (k ▸ e) ho)
    · subst g
      rw [List.getElem?_append_right (by simp)]
      simp only [upd_same, List.length_set, Nat.sub_self, List.getElem?_cons_zero]
      exact hx
    · rw [List.getElem?_eq_none (by simp; omega), upd_other _ _ (Nat.ne_of_gt g), upd_other _ _ (by omega)]
      exact h.unborn (Nat.le_of_lt g)
  · intro o1 o2 b1 ba s ba' s' e e'
    dsimp only at e e'
    have key : ∀ o' ba s, upd (upd c.loc o .dead) σ.length (.here b base' sz') o' = .here b1 ba s → (o' = σ.length ∧ b1 = b) ∨ (o' ≠ σ.length ∧ o' ≠ o ∧ c.loc o' = .here b1 ba s) := by
      intro o' ba s e
      by_cases g : o' = σ.length
      · subst g; simp at e; exact .inl ⟨rfl, e.1.symm⟩
      · rw [upd_other _ _ g] at e
        by_cases g' : o' = o
        · subst g'; simp at e
        · rw [upd_other _ _ g'] at e; exact .inr ⟨g, g', e⟩
    rcases key _ _ _ e with ⟨k1, k2⟩ | ⟨k1, k2, k3⟩ <;> rcases key _ _ _ e' with ⟨l1, l2⟩ | ⟨l1, l2, l3⟩
    · rw [k1, l1]
    · exact (l2 (h.inj (k2 ▸ l3) ho)).elim
    · exact (k2 (h.inj (l2 ▸ k3) ho)).elim
    · exact h.inj k3 l3

/-- One object dies. -/
theorem Ext.kill (c : Cx) (o : Nat) : Ext c ⟨c.w, upd c.loc o .dead, c.hid⟩ := by
  refine ⟨rfl, Nat.le_refl _, fun _ cs _ f h => ⟨cs, f, h, rfl⟩, fun b hb hown => ⟨rfl, ?_⟩, fun o' => ?_, rfl, rfl, rfl⟩
  · rintro ⟨o', ba, s, e⟩
    dsimp only at e
    by_cases g : o' = o
    · subst g; simp at e
    · rw [upd_other _ _ g] at e; exact hown ⟨o', ba, s, e⟩
  · dsimp only
    by_cases g : o' = o
    · subst g; exact .inr (.inl (by simp))
    · rw [upd_other _ _ g]; exact .inl rfl

theorem SR.kill {c : Cx} {σ : List Ob} (h : SR c σ) {o : Nat} (hlt : o < σ.length) : SR ⟨c.w, upd c.loc o .dead, c.hid⟩ (σ.set o .dead) := by
  refine ⟨fun o' => ?_, ?_, h.hid_ext (Ext.kill c o), (Ext.kill c o).glob h.gl⟩
  · show ORo _ (upd c.loc o .dead o') _
    by_cases g : o' = o
    · subst g
      rw [List.getElem?_set_self hlt]
      show upd c.loc o' .dead o' = .dead
      simp
    · rw [List.getElem?_set_ne (fun e => g e.symm), upd_other _ _ g]
      have r := h.obj o'
      cases hx' : σ[o']? with
      | none => rw [hx'] at r; exact r
      | some y =>
        rw [hx'] at r
        exact OR.keep (Ext.kill c o) r fun _ _ _ _ => rfl
  · intro o1 o2 b1 ba s ba' s' e e'
    dsimp only at e e'
    have key : ∀ o' ba s, upd c.loc o .dead o' = .here b1 ba s → c.loc o' = .here b1 ba s := by
      intro o' ba s e
      by_cases g : o' = o
      · subst g; simp at e
      · rw [upd_other _ _ g] at e; exact e
    exact h.inj (key _ _ _ e) (key _ _ _ e')
end Go.Proofs.YtchgfpehcjomeaaGreatDoor.Am
