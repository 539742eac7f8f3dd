/- The engine's data: what values stand for, when the world is as the symbolic store says, and that this stays so while the world grows. No program in sight. -/
import Derived.WalkKit
import Derived.Deep.AppendSrc
import Derived.Room.AppendUpon
import Derived.Room.AppendOwn
import Derived.Room.FrozenHead
import Derived.WalkSmall
namespace Go.Proofs.YtchgfpehcjomeaaGreatDoor.Am
open Go

/-- By-value data. -/
inductive D where
  | int (k : IntKind) (n : Int)
  | bool (b : Bool)
  | str (s : List UInt8)
  | lst (sz : Nat) (es : List D)
  | nils | nilp | nilm | nilf | nili
  | agg (cs : List D)
  | ifc (t : TypeId) (d : D)
  | any
  deriving Inhabited

def D.cells : D → List D
  | .agg cs => cs
  | d => [d]

/-- What a slot holds. -/
inductive V where
  | d (x : D)
  | ptr (o i k : Nat)
  | ipt (cs : List D)
  | sl (o off len : Nat)
  | mp (o : Nat)
  | fn (f : FuncId) (caps : List V)
  | bm (f : FuncId) (first : List V)
  | agg (cs : List V)
  | tup (vs : List V)
  | undef
  deriving Inhabited

/-- Objects that the store owns. -/
inductive Ob where
  | dead
  | box (cs : List V)
  | vec (sz : Nat) (cs : List V)
  | arr (sz : Nat) (mk : Bool) (es : List D)
  | map (es : List (D × V × Nat)) (clk : Nat)
  | sit (s : List UInt8) (pos : Nat)
  | mit (m : V) (since : Nat) (seen : List Nat) (last : Nat)
  deriving Inhabited

/-- A value of so many cells, each of which can lie in memory. -/
def Flat (v : Value) (sz : Nat) : Prop := v.cells.size = sz ∧ ∀ u ∈ v.cells.toList, u.oneCell' = true

/-- Memory that does not change: the cells of the blocks that are 'ok'. -/
structure Im where
  cell : Nat → Nat → Option Value
  ok : Nat → Prop

mutual
def DR (I : Im) : D → Value → Prop
  | .int k n, v => v = .int k n
  | .bool b, v => v = .bool b
  | .str s, v => v = .string ⟨s.toArray⟩
  | .lst sz es, v => ∃ a cap, v = .slice a es.length cap ∧ es.length ≤ cap ∧ (es = [] ∨ ∃ b off, a = some ⟨b, off, none⟩ ∧ 0 < sz ∧ I.ok b ∧ RowsR I es b off sz)
  | .nils, v => v = .slice none 0 0
  | .nilp, v => v = .pointer none
  | .nilm, v => v = .map none
  | .nilf, v => v = .nilFunc
  | .nili, v => v = .nilIface
  | .agg cs, v => ∃ vs : List Value, v = .agg vs.toArray ∧ DRs I cs vs
  | .ifc t d, v => ∃ x, v = .iface t x ∧ DR I d x
  | .any, _ => True
def DRs (I : Im) : List D → List Value → Prop
  | [], vs => vs = []
  | d :: ds, vs => ∃ v r, vs = v :: r ∧ DR I d v ∧ DRs I ds r
def RowsR (I : Im) : List D → Nat → Nat → Nat → Prop
  | [], _, _, _ => True
  | d :: ds, b, off, sz => (∃ v, DR I d v ∧ Flat v sz ∧ ∀ j, j < sz → I.cell b (off + j) = v.cells[j]?) ∧ RowsR I ds b (off + sz) sz
end

def Im.Le (I J : Im) : Prop := ∀ b, I.ok b → J.ok b ∧ ∀ o, J.cell b o = I.cell b o

mutual
theorem DR_mono {I J : Im} (h : I.Le J) : ∀ (d : D) (v : Value), DR I d v → DR J d v
  | .int _ _, _, r | .bool _, _, r | .str _, _, r | .nils, _, r | .nilp, _, r | .nilm, _, r | .nilf, _, r | .nili, _, r => by simpa [DR] using r
  | .any, _, _ => by simp [DR]
  | .lst sz es, v, r => by
    simp only [DR] at r ⊢
    obtain ⟨a, cap, h1, h2, h3⟩ := r
    refine ⟨a, cap, h1, h2, ?_⟩
    rcases h3 with h3 | ⟨b, off, e1, e2, e3, e4⟩
    · exact .inl h3
    · exact .inr ⟨b, off, e1, e2, (h b e3).1, RowsR_mono h es b off sz (h b e3).2 e4⟩
  | .agg cs, v, r => by
    simp only [DR] at r ⊢
    obtain ⟨vs, h1, h2⟩ := r
    exact ⟨vs, h1, DRs_mono h cs vs h2⟩
  | .ifc t d, v, r => by
    simp only [DR] at r ⊢
    obtain ⟨x, h1, h2⟩ := r
    exact ⟨x, h1, DR_mono h d x h2⟩
theorem DRs_mono {I J : Im} (h : I.Le J) : ∀ (ds : List D) (vs : List Value), DRs I ds vs → DRs J ds vs
  | [], vs, r => by simpa [DRs] using r
  | d :: ds, vs, r => by
    simp only [DRs] at r ⊢
    obtain ⟨v, t, h1, h2, h3⟩ := r
    exact ⟨v, t, h1, DR_mono h d v h2, DRs_mono h ds t h3⟩
theorem RowsR_mono {I J : Im} (h : I.Le J) : ∀ (ds : List D) (b off sz : Nat), (∀ o, J.cell b o = I.cell b o) → RowsR I ds b off sz → RowsR J ds b off sz
  | [], _, _, _, _, _ => by simp [RowsR]
  | d :: ds, b, off, sz, hb, r => by
    simp only [RowsR] at r ⊢
    obtain ⟨⟨v, h1, h2, h3⟩, h4⟩ := r
    exact ⟨⟨v, DR_mono h d v h1, h2, fun j hj => by rw [hb]; exact h3 j hj⟩, RowsR_mono h ds b (off + sz) sz hb h4⟩
end

theorem DRs_length {I : Im} : ∀ {ds : List D} {vs : List Value}, DRs I ds vs → vs.length = ds.length
  | [], vs, h => by simp [DRs] at h; simp [h]
  | d :: ds, vs, h => by
    simp only [DRs] at h
    obtain ⟨v, t, rfl, _, h⟩ := h
    simp [DRs_length h]

theorem DRs_get {I : Im} : ∀ {ds : List D} {vs : List Value}, DRs I ds vs → ∀ (i : Nat) {d : D}, ds[i]? = some d → ∃ v, vs[i]? = some v ∧ DR I d v
  | [], vs, h, i, d, e => by simp at e
  | x :: ds, vs, h, i, d, e => by
    simp only [DRs] at h
    obtain ⟨v, t, rfl, h1, h2⟩ := h
    cases i with
    | zero => simp at e; subst e; exact ⟨v, by simp, h1⟩
    | succ i => simpa using DRs_get h2 i (by simpa using e)

theorem DRs_take {I : Im} : ∀ {ds : List D} {vs : List Value}, DRs I ds vs → ∀ n, DRs I (ds.take n) (vs.take n)
  | [], vs, h, n => by simp [DRs] at h; simp [h, DRs]
  | d :: ds, vs, h, n => by
    simp only [DRs] at h
    obtain ⟨v, t, rfl, h1, h2⟩ := h
    cases n with
    | zero => simp [DRs]
    | succ n => simp only [List.take_succ_cons, DRs]; exact ⟨v, _, rfl, h1, DRs_take h2 n⟩

theorem DRs_drop {I : Im} : ∀ {ds : List D} {vs : List Value}, DRs I ds vs → ∀ n, DRs I (ds.drop n) (vs.drop n)
  | [], vs, h, n => by simp [DRs] at h; simp [h, DRs]
  | d :: ds, vs, h, n => by
    simp only [DRs] at h
    obtain ⟨v, t, rfl, h1, h2⟩ := h
    cases n with
    | zero => simp only [List.drop_zero, DRs]; exact ⟨v, t, rfl, h1, h2⟩
    | succ n => simpa using DRs_drop h2 n

theorem DRs_append {I : Im} : ∀ {ds es : List D} {vs us : List Value}, DRs I ds vs → DRs I es us → DRs I (ds ++ es) (vs ++ us)
  | [], es, vs, us, h, g => by simp [DRs] at h; simpa [h] using g
  | d :: ds, es, vs, us, h, g => by
    simp only [DRs] at h
    obtain ⟨v, t, rfl, h1, h2⟩ := h
    simp only [List.cons_append, DRs]
    exact ⟨v, _, rfl, h1, DRs_append h2 g⟩

theorem RowsR_get {I : Im} : ∀ {ds : List D} {b off sz : Nat}, RowsR I ds b off sz → ∀ (i : Nat) {d : D}, ds[i]? = some d →
    ∃ v, DR I d v ∧ Flat v sz ∧ ∀ j, j < sz → I.cell b (off + i * sz + j) = v.cells[j]?
  | [], _, _, _, _, i, d, e => by simp at e
  | x :: ds, b, off, sz, h, i, d, e => by
    simp only [RowsR] at h
    obtain ⟨⟨v, h1, h2, h3⟩, h4⟩ := h
    cases i with
    | zero => simp at e; subst e; exact ⟨v, h1, h2, fun j hj => by simpa using h3 j hj⟩
    | succ i =>
      obtain ⟨u, g1, g2, g3⟩ := RowsR_get h4 i (by simpa using e)
      exact ⟨u, g1, g2, fun j hj => by rw [← g3 j hj]; congr 1; rw [Nat.succ_mul]; omega⟩

theorem RowsR_of_get {I : Im} : ∀ {ds : List D} {b off sz : Nat}, (∀ (i : Nat) (d : D), ds[i]? = some d →
    ∃ v, DR I d v ∧ Flat v sz ∧ ∀ j, j < sz → I.cell b (off + i * sz + j) = v.cells[j]?) → RowsR I ds b off sz
  | [], _, _, _, _ => by simp [RowsR]
  | x :: ds, b, off, sz, h => by
    simp only [RowsR]
    refine ⟨by simpa using h 0 x (by simp), RowsR_of_get fun i d e => ?_⟩
    obtain ⟨v, h1, h2, h3⟩ := h (i + 1) d (by simpa using e)
    exact ⟨v, h1, h2, fun j hj => by rw [← h3 j hj]; congr 1; rw [Nat.succ_mul]; omega⟩

theorem RowsR_drop {I : Im} {ds : List D} {b off sz : Nat} (h : RowsR I ds b off sz) (n : Nat) : RowsR I (ds.drop n) b (off + n * sz) sz :=
  RowsR_of_get fun i d e => by
    obtain ⟨v, h1, h2, h3⟩ := RowsR_get h (n + i) (by simpa using e)
    exact ⟨v, h1, h2, fun j hj => by rw [← h3 j hj]; congr 1; rw [Nat.add_mul]; omega⟩

theorem RowsR_take {I : Im} {ds : List D} {b off sz : Nat} (h : RowsR I ds b off sz) (n : Nat) : RowsR I (ds.take n) b off sz :=
  RowsR_of_get fun i d e => RowsR_get h i (by rw [List.getElem?_take] at e; split at e <;> simp_all)

theorem RowsR_append {I : Im} {ds es : List D} {b off sz : Nat} (h : RowsR I ds b off sz) (g : RowsR I es b (off + ds.length * sz) sz) : RowsR I (ds ++ es) b off sz :=
  RowsR_of_get fun i d e => by
    rw [List.getElem?_append] at e
    split at e
    · exact RowsR_get h i e
    · rename_i hge
      obtain ⟨v, h1, h2, h3⟩ := RowsR_get g (i - ds.length) e
      refine ⟨v, h1, h2, fun j hj => ?_⟩
      rw [← h3 j hj]
      have : i * sz = ds.length * sz + (i - ds.length) * sz := by rw [← Nat.add_mul]; congr 1; omega
      congr 1; omega

/-- The cells of a datum's value are read like the datum's cells. -/
theorem DR_cells {I : Im} {d : D} {v : Value} (h : DR I d v) (hd : ∀ x, d = .any → v.cells.size = x → x = 1 ∧ v.cells = #[v]) : DRs I d.cells v.cells.toList := by
  cases d with
  | agg cs =>
    simp only [DR] at h
    obtain ⟨vs, rfl, h⟩ := h
    simpa [D.cells, Value.cells] using h
  | any =>
    have := (hd _ rfl rfl).2
    simp [D.cells, DRs, this, DR]
  | lst sz es =>
    have h' := h
    simp only [DR] at h'
    obtain ⟨a, cap, rfl, _⟩ := h'
    simpa [D.cells, Value.cells, DRs] using h
  | ifc t x =>
    have h' := h
    simp only [DR] at h'
    obtain ⟨a, rfl, _⟩ := h'
    simpa [D.cells, Value.cells, DRs] using h
  | _ => simp only [DR] at h; subst h; simp [D.cells, Value.cells, DRs, DR]

/-- Where an object lies. -/
inductive Loc where
  | unborn | dead | nil
  | here (b base sz : Nat)

mutual
def VR (I : Im) (w : World) (loc : Nat → Loc) : V → Value → Prop
  | .d x, v => DR I x v
  | .ptr o i k, v => match loc o with
    | .dead => True
    | .here b base sz => v = .pointer (some ⟨b, base + i * sz + k, none⟩)
    | _ => False
  | .ipt cs, v => ∃ b off vs, v = .pointer (some ⟨b, off, none⟩) ∧ I.ok b ∧ DRs I cs vs ∧ ∀ j, j < cs.length → I.cell b (off + j) = vs[j]?
  | .sl o off len, v => match loc o with
    | .dead => True
    | .nil => v = .slice none 0 0 ∧ off = 0 ∧ len = 0
    | .here b base sz => ∃ a cap, v = .slice (some ⟨b, a, none⟩) len cap ∧ len ≤ cap ∧ (0 < cap → a = base + off * sz) ∧
        ∃ (cs : Array Value) (e : TypeId) (f : Nat × Nat), w.heap[b]? = some (.cells cs e f) ∧ a ≤ cs.size ∧ base + (off + cap) * sz = cs.size
    | .unborn => False
  | .mp o, v => match loc o with
    | .dead => True
    | .here b _ _ => v = .map (some b)
    | _ => False
  | .fn f caps, v => ∃ vs : List Value, v = .func (.func f) #[] vs.toArray ∧ VRs I w loc caps vs
  | .bm f first, v => ∃ vs : List Value, v = .func (.func f) vs.toArray #[] ∧ VRs I w loc first vs
  | .agg cs, v => ∃ vs : List Value, v = .agg vs.toArray ∧ VRs I w loc cs vs
  | .tup cs, v => ∃ vs : List Value, v = .tuple vs.toArray ∧ VRs I w loc cs vs
  | .undef, _ => True
def VRs (I : Im) (w : World) (loc : Nat → Loc) : List V → List Value → Prop
  | [], vs => vs = []
  | x :: xs, vs => ∃ v r, vs = v :: r ∧ VR I w loc x v ∧ VRs I w loc xs r
end

/-- A row of cells stays one, of the same size. -/
def Cells (w w' : World) : Prop := ∀ (b : Nat) (cs : Array Value) (e : TypeId) (f : Nat × Nat), w.heap[b]? = some (.cells cs e f) → ∃ (cs' : Array Value) (f' : Nat × Nat), w'.heap[b]? = some (.cells cs' e f') ∧ cs'.size = cs.size

def locLe (l l' : Nat → Loc) : Prop := ∀ o, l' o = l o ∨ l' o = .dead ∨ l o = .unborn

mutual
theorem VR_mono {I J : Im} {w w' : World} {l l' : Nat → Loc} (h : I.Le J) (hl : locLe l l') (hcs : Cells w w') :
    ∀ (x : V) (v : Value), VR I w l x v → VR J w' l' x v
  | .d x, v, r => by simp only [VR] at r ⊢; exact DR_mono h x v r
  | .ptr o i k, v, r => by
    simp only [VR] at r ⊢
    rcases hl o with e | e | e
    · rw [e]; exact r
    · rw [e]; trivial
    · rw [e] at r; exact r.elim
  | .ipt cs, v, r => by
    simp only [VR] at r ⊢
    obtain ⟨b, off, vs, h1, h2, h3, h4⟩ := r
    exact ⟨b, off, vs, h1, (h b h2).1, DRs_mono h cs vs h3, fun j hj => by rw [(h b h2).2]; exact h4 j hj⟩
  | .sl o off len, v, r => by
    simp only [VR] at r ⊢
    rcases hl o with e | e | e
    · rw [e]
      cases ho : l o with
      | here b base sz =>
        rw [ho] at r
        obtain ⟨a, cap, h1, h2, h3, h4⟩ := r
        obtain ⟨cs, e', f, h5, h6⟩ := h4
        obtain ⟨cs', f', g1, g2⟩ := hcs b cs e' f h5
        exact ⟨a, cap, h1, h2, h3, cs', e', f', g1, by rw [g2]; exact h6.1, by rw [g2]; exact h6.2⟩
      | _ => rw [ho] at r; exact r
    · rw [e]; trivial
    · rw [e] at r; exact r.elim
  | .mp o, v, r => by
    simp only [VR] at r ⊢
    rcases hl o with e | e | e
    · rw [e]; exact r
    · rw [e]; trivial
    · rw [e] at r; exact r.elim
  | .fn f caps, v, r => by
    simp only [VR] at r ⊢
    obtain ⟨vs, h1, h2⟩ := r
    exact ⟨vs, h1, VRs_mono h hl hcs caps vs h2⟩
  | .bm f caps, v, r => by
    simp only [VR] at r ⊢
    obtain ⟨vs, h1, h2⟩ := r
    exact ⟨vs, h1, VRs_mono h hl hcs caps vs h2⟩
  | .agg cs, v, r => by
    simp only [VR] at r ⊢
    obtain ⟨vs, h1, h2⟩ := r
    exact ⟨vs, h1, VRs_mono h hl hcs cs vs h2⟩
  | .tup cs, v, r => by
    simp only [VR] at r ⊢
    obtain ⟨vs, h1, h2⟩ := r
    exact ⟨vs, h1, VRs_mono h hl hcs cs vs h2⟩
  | .undef, _, _ => by simp [VR]
theorem VRs_mono {I J : Im} {w w' : World} {l l' : Nat → Loc} (h : I.Le J) (hl : locLe l l') (hcs : Cells w w') :
    ∀ (xs : List V) (vs : List Value), VRs I w l xs vs → VRs J w' l' xs vs
  | [], vs, r => by simpa [VRs] using r
  | x :: xs, vs, r => by
    simp only [VRs] at r ⊢
    obtain ⟨v, t, h1, h2, h3⟩ := r
    exact ⟨v, t, h1, VR_mono h hl hcs x v h2, VRs_mono h hl hcs xs t h3⟩
end
end Go.Proofs.YtchgfpehcjomeaaGreatDoor.Am
