/- The engine's data: what values stand for, when the world is as the symbolic store says, and that this stays so while the world grows. No program in sight. -/
import Derived.WalkKit
import Derived.Deep.AppendSrc
import Derived.Room.AppendUpon
import Derived.Room.AppendOwn
import Derived.Room.FrozenHead
import Derived.WalkSmall
import Derived.Laws.StructEq
section
namespace Go.Proofs.YteafabpedfgedaaGreatDoor.Am
open Go

/-- By-value data. -/
inductive D where
  | int (k : IntKind) (n : Int)
  | bool (b : Bool)
  | str (s : List UInt8)
  | lst (sz : Nat) (es : List D)
  | nils | nilp | nilm | nilf | nili
  | agg (cs : List D)
  | ifc (t : TypeId) (d : D)
  | any
  deriving Inhabited

def D.cells : D → List D
  | .agg cs => cs
  | d => [d]

/-- What a slot holds. -/
inductive V where
  | d (x : D)
  | ptr (o i k : Nat)
  | ipt (cs : List D)
  | sl (o off len : Nat)
  | mp (o : Nat)
  | fn (f : FuncId) (caps : List V)
  | bm (f : FuncId) (first : List V)
  | agg (cs : List V)
  | tup (vs : List V)
  | undef
  deriving Inhabited

/-- Objects that the store owns. -/
inductive Ob where
  | dead
  | box (cs : List V)
  | vec (sz : Nat) (cs : List V)
  | arr (sz : Nat) (mk : Bool) (es : List D)
  | map (es : List (D × V × Nat)) (clk : Nat)
  | sit (s : List UInt8) (pos : Nat)
  | mit (m : V) (since : Nat) (seen : List Nat) (last : Nat)
  deriving Inhabited

/-- A value of so many cells, each of which can lie in memory. -/
def Flat (v : Value) (sz : Nat) : Prop := v.cells.size = sz ∧ ∀ u ∈ v.cells.toList, u.oneCell' = true

/-- Memory that does not change: the cells of the blocks that are 'ok'. -/
structure Im where
  cell : Nat → Nat → Option Value
  ok : Nat → Prop

mutual
def DR (I : Im) : D → Value → Prop
  | .int k n, v => v = .int k n
  | .bool b, v => v = .bool b
  | .str s, v => v = .string ⟨s.toArray⟩
  | .lst sz es, v => ∃ a cap, v = .slice a es.length cap ∧ es.length ≤ cap ∧ (es = [] ∨ ∃ b off, a = some ⟨b, off, none⟩ ∧ 0 < sz ∧ I.ok b ∧ RowsR I es b off sz)
  | .nils, v => v = .slice none 0 0
  | .nilp, v => v = .pointer none
  | .nilm, v => v = .map none
  | .nilf, v => v = .nilFunc
  | .nili, v => v = .nilIface
  | .agg cs, v => ∃ vs : List Value, v = .agg vs.toArray ∧ DRs I cs vs
  | .ifc t d, v => ∃ x, v = .iface t x ∧ DR I d x
  | .any, _ => True
def DRs (I : Im) : List D → List Value → Prop
  | [], vs => vs = []
  | d :: ds, vs => ∃ v r, vs = v :: r ∧ DR I d v ∧ DRs I ds r
def RowsR (I : Im) : List D → Nat → Nat → Nat → Prop
  | [], _, _, _ => True
  | d :: ds, b, off, sz => (∃ v, DR I d v ∧ Flat v sz ∧ ∀ j, j < sz → I.cell b (off + j) = v.cells[j]?) ∧ RowsR I ds b (off + sz) sz
end

def Im.Le (I J : Im) : Prop := ∀ b, I.ok b → J.ok b ∧ ∀ o, J.cell b o = I.cell b o

mutual
theorem DR_mono {I J : Im} (h : I.Le J) : ∀ (d : D) (v : Value), DR I d v → DR J d v
  | .int _ _, _, r | .bool _, _, r | .str _, _, r | .nils, _, r | .nilp, _, r | .nilm, _, r | .nilf, _, r | .nili, _, r => by simpa [DR] using r
  | .any, _, _ => by simp [DR]
  | .lst sz es, v, r => by
    simp only [DR] at r ⊢
    obtain ⟨a, cap, h1, h2, h3⟩ := r
    refine ⟨a, cap, h1, h2, ?_⟩
    rcases h3 with h3 | ⟨b, off, e1, e2, e3, e4⟩
    · exact .inl h3
    · exact .inr ⟨b, off, e1, e2, (h b e3).1, RowsR_mono h es b off sz (h b e3).2 e4⟩
  | .agg cs, v, r => by
    simp only [DR] at r ⊢
    obtain ⟨vs, h1, h2⟩ := r
    exact ⟨vs, h1, DRs_mono h cs vs h2⟩
  | .ifc t d, v, r => by
    simp only [DR] at r ⊢
    obtain ⟨x, h1, h2⟩ := r
    exact ⟨x, h1, DR_mono h d x h2⟩
theorem DRs_mono {I J : Im} (h : I.Le J) : ∀ (ds : List D) (vs : List Value), DRs I ds vs → DRs J ds vs
  | [], vs, r => by simpa [DRs] using r
  | d :: ds, vs, r => by
    simp only [DRs] at r ⊢
    obtain ⟨v, t, h1, h2, h3⟩ := r
    exact ⟨v, t, h1, DR_mono h d v h2, DRs_mono h ds t h3⟩
theorem RowsR_mono {I J : Im} (h : I.Le J) : ∀ (ds : List D) (b off sz : Nat), (∀ o, J.cell b o = I.cell b o) → RowsR I ds b off sz → RowsR J ds b off sz
  | [], _, _, _, _, _ => by simp [RowsR]
  | d :: ds, b, off, sz, hb, r => by
    simp only [RowsR] at r ⊢
    obtain ⟨⟨v, h1, h2, h3⟩, h4⟩ := r
    exact ⟨⟨v, DR_mono h d v h1, h2, fun j hj => by rw [hb]; exact h3 j hj⟩, RowsR_mono h ds b (off + sz) sz hb h4⟩
end

theorem DRs_length {I : Im} : ∀ {ds : List D} {vs : List Value}, DRs I ds vs → vs.length = ds.length
  | [], vs, h => by simp [DRs] at h; simp [h]
  | d :: ds, vs, h => by
    simp only [DRs] at h
    obtain ⟨v, t, rfl, _, h⟩ := h
    simp [DRs_length h]

theorem DRs_get {I : Im} : ∀ {ds : List D} {vs : List Value}, DRs I ds vs → ∀ (i : Nat) {d : D}, ds[i]? = some d → ∃ v, vs[i]? = some v ∧ DR I d v
  | [], vs, h, i, d, e => by simp at e
  | x :: ds, vs, h, i, d, e => by
    simp only [DRs] at h
    obtain ⟨v, t, rfl, h1, h2⟩ := h
    cases i with
    | zero => simp at e; subst e; exact ⟨v, by simp, h1⟩
    | succ i => simpa using DRs_get h2 i (by simpa using e)

theorem DRs_take {I : Im} : ∀ {ds : List D} {vs : List Value}, DRs I ds vs → ∀ n, DRs I (ds.take n) (vs.take n)
  | [], vs, h, n => by simp [DRs] at h; simp [h, DRs]
  | d :: ds, vs, h, n => by
    simp only [DRs] at h
    obtain ⟨v, t, rfl, h1, h2⟩ := h
    cases n with
    | zero => simp [DRs]
    | succ n => simp only [List.take_succ_cons, DRs]; exact ⟨v, _, rfl, h1, DRs_take h2 n⟩

theorem DRs_drop {I : Im} : ∀ {ds : List D} {vs : List Value}, DRs I ds vs → ∀ n, DRs I (ds.drop n) (vs.drop n)
  | [], vs, h, n => by simp [DRs] at h; simp [h, DRs]
  | d :: ds, vs, h, n => by
    simp only [DRs] at h
    obtain ⟨v, t, rfl, h1, h2⟩ := h
    cases n with
    | zero => simp only [List.drop_zero, DRs]; exact ⟨v, t, rfl, h1, h2⟩
    | succ n => simpa using DRs_drop h2 n

theorem DRs_append {I : Im} : ∀ {ds es : List D} {vs us : List Value}, DRs I ds vs → DRs I es us → DRs I (ds ++ es) (vs ++ us)
  | [], es, vs, us, h, g => by simp [DRs] at h; simpa [h] using g
  | d :: ds, es, vs, us, h, g => by
    simp only [DRs] at h
    obtain ⟨v, t, rfl, h1, h2⟩ := h
    simp only [List.cons_append, DRs]
    exact ⟨v, _, rfl, h1, DRs_append h2 g⟩

theorem RowsR_get {I : Im} : ∀ {ds : List D} {b off sz : Nat}, RowsR I ds b off sz → ∀ (i : Nat) {d : D}, ds[i]? = some d →
    ∃ v, DR I d v ∧ Flat v sz ∧ ∀ j, j < sz → I.cell b (off + i * sz + j) = v.cells[j]?
  | [], _, _, _, _, i, d, e => by simp at e
  | x :: ds, b, off, sz, h, i, d, e => by
    simp only [RowsR] at h
    obtain ⟨⟨v, h1, h2, h3⟩, h4⟩ := h
    cases i with
    | zero => simp at e; subst e; exact ⟨v, h1, h2, fun j hj => by simpa using h3 j hj⟩
    | succ i =>
      obtain ⟨u, g1, g2, g3⟩ := RowsR_get h4 i (by simpa using e)
      exact ⟨u, g1, g2, fun j hj => by rw [← g3 j hj]; congr 1; rw [Nat.succ_mul]; omega⟩

theorem RowsR_of_get {I : Im} : ∀ {ds : List D} {b off sz : Nat}, (∀ (i : Nat) (d : D), ds[i]? = some d →
    ∃ v, DR I d v ∧ Flat v sz ∧ ∀ j, j < sz → I.cell b (off + i * sz + j) = v.cells[j]?) → RowsR I ds b off sz
  | [], _, _, _, _ => by simp [RowsR]
  | x :: ds, b, off, sz, h => by
    simp only [RowsR]
    refine ⟨by simpa using h 0 x (by simp), RowsR_of_get fun i d e => ?_⟩
    obtain ⟨v, h1, h2, h3⟩ := h (i + 1) d (by simpa using e)
    exact ⟨v, h1, h2, fun j hj => by rw [← h3 j hj]; congr 1; rw [Nat.succ_mul]; omega⟩

theorem RowsR_drop {I : Im} {ds : List D} {b off sz : Nat} (h : RowsR I ds b off sz) (n : Nat) : RowsR I (ds.drop n) b (off + n * sz) sz :=
  RowsR_of_get fun i d e => by
    obtain ⟨v, h1, h2, h3⟩ := RowsR_get h (n + i) (by simpa using e)
    exact ⟨v, h1, h2, fun j hj => by rw [← h3 j hj]; congr 1; rw [Nat.add_mul]; omega⟩

theorem RowsR_take {I : Im} {ds : List D} {b off sz : Nat} (h : RowsR I ds b off sz) (n : Nat) : RowsR I (ds.take n) b off sz :=
  RowsR_of_get fun i d e => RowsR_get h i (by rw [List.getElem?_take] at e; split at e <;> simp_all)

theorem RowsR_append {I : Im} {ds es : List D} {b off sz : Nat} (h : RowsR I ds b off sz) (g : RowsR I es b (off + ds.length * sz) sz) : RowsR I (ds ++ es) b off sz :=
  RowsR_of_get fun i d e => by
    rw [List.getElem?_append] at e
    split at e
    · exact RowsR_get h i e
    · rename_i hge
      obtain ⟨v, h1, h2, h3⟩ := RowsR_get g (i - ds.length) e
      refine ⟨v, h1, h2, fun j hj => ?_⟩
      rw [← h3 j hj]
      have : i * sz = ds.length * sz + (i - ds.length) * sz := by rw [← Nat.add_mul]; congr 1; omega
      congr 1; omega

/-- The cells of a datum's value are read like the datum's cells. -/
theorem DR_cells {I : Im} {d : D} {v : Value} (h : DR I d v) (hd : ∀ x, d = .any → v.cells.size = x → x = 1 ∧ v.cells = #[v]) : DRs I d.cells v.cells.toList := by
  cases d with
  | agg cs =>
    simp only [DR] at h
    obtain ⟨vs, rfl, h⟩ := h
    simpa [D.cells, Value.cells] using h
  | any =>
    have := (hd _ rfl rfl).2
    simp [D.cells, DRs, this, DR]
  | lst sz es =>
    have h' := h
    simp only [DR] at h'
    obtain ⟨a, cap, rfl, _⟩ := h'
    simpa [D.cells, Value.cells, DRs] using h
  | ifc t x =>
    have h' := h
    simp only [DR] at h'
    obtain ⟨a, rfl, _⟩ := h'
    simpa [D.cells, Value.cells, DRs] using h
  | _ => simp only [DR] at h; subst h; simp [D.cells, Value.cells, DRs, DR]

/-- Where an object lies. -/
inductive Loc where
  | unborn | dead | nil
  | here (b base sz : Nat)

mutual
def VR (I : Im) (w : World) (loc : Nat → Loc) : V → Value → Prop
  | .d x, v => DR I x v
  | .ptr o i k, v => match loc o with
    | .dead => True
    | .here b base sz => v = .pointer (some ⟨b, base + i * sz + k, none⟩)
    | _ => False
  | .ipt cs, v => ∃ b off vs, v = .pointer (some ⟨b, off, none⟩) ∧ I.ok b ∧ DRs I cs vs ∧ ∀ j, j < cs.length → I.cell b (off + j) = vs[j]?
  | .sl o off len, v => match loc o with
    | .dead => True
    | .nil => v = .slice none 0 0 ∧ off = 0 ∧ len = 0
    | .here b base sz => ∃ a cap, v = .slice (some ⟨b, a, none⟩) len cap ∧ len ≤ cap ∧ (0 < cap → a = base + off * sz) ∧
        ∃ (cs : Array Value) (e : TypeId) (f : Nat × Nat), w.heap[b]? = some (.cells cs e f) ∧ a ≤ cs.size ∧ base + (off + cap) * sz = cs.size
    | .unborn => False
  | .mp o, v => match loc o with
    | .dead => True
    | .here b _ _ => v = .map (some b)
    | _ => False
  | .fn f caps, v => ∃ vs : List Value, v = .func (.func f) #[] vs.toArray ∧ VRs I w loc caps vs
  | .bm f first, v => ∃ vs : List Value, v = .func (.func f) vs.toArray #[] ∧ VRs I w loc first vs
  | .agg cs, v => ∃ vs : List Value, v = .agg vs.toArray ∧ VRs I w loc cs vs
  | .tup cs, v => ∃ vs : List Value, v = .tuple vs.toArray ∧ VRs I w loc cs vs
  | .undef, _ => True
def VRs (I : Im) (w : World) (loc : Nat → Loc) : List V → List Value → Prop
  | [], vs => vs = []
  | x :: xs, vs => ∃ v r, vs = v :: r ∧ VR I w loc x v ∧ VRs I w loc xs r
end

/-- A row of cells stays one, of the same size. -/
def Cells (w w' : World) : Prop := ∀ (b : Nat) (cs : Array Value) (e : TypeId) (f : Nat × Nat), w.heap[b]? = some (.cells cs e f) → ∃ (cs' : Array Value) (f' : Nat × Nat), w'.heap[b]? = some (.cells cs' e f') ∧ cs'.size = cs.size

def locLe (l l' : Nat → Loc) : Prop := ∀ o, l' o = l o ∨ l' o = .dead ∨ l o = .unborn

mutual
theorem VR_mono {I J : Im} {w w' : World} {l l' : Nat → Loc} (h : I.Le J) (hl : locLe l l') (hcs : Cells w w') :
    ∀ (x : V) (v : Value), VR I w l x v → VR J w' l' x v
  | .d x, v, r => by simp only [VR] at r ⊢; exact DR_mono h x v r
  | .ptr o i k, v, r => by
    simp only [VR] at r ⊢
    rcases hl o with e | e | e
    · rw [e]; exact r
    · rw [e]; trivial
    · rw [e] at r; exact r.elim
  | .ipt cs, v, r => by
    simp only [VR] at r ⊢
    obtain ⟨b, off, vs, h1, h2, h3, h4⟩ := r
    exact ⟨b, off, vs, h1, (h b h2).1, DRs_mono h cs vs h3, fun j hj => by rw [(h b h2).2]; exact h4 j hj⟩
  | .sl o off len, v, r => by
    simp only [VR] at r ⊢
    rcases hl o with e | e | e
    · rw [e]
      cases ho : l o with
      | here b base sz =>
        rw [ho] at r
        obtain ⟨a, cap, h1, h2, h3, h4⟩ := r
        obtain ⟨cs, e', f, h5, h6⟩ := h4
        obtain ⟨cs', f', g1, g2⟩ := hcs b cs e' f h5
        exact ⟨a, cap, h1, h2, h3, cs', e', f', g1, by rw [g2]; exact h6.1, by rw [g2]; exact h6.2⟩
      | _ => rw [ho] at r; exact r
    · rw [e]; trivial
    · rw [e] at r; exact r.elim
  | .mp o, v, r => by
    simp only [VR] at r ⊢
    rcases hl o with e | e | e
    · rw [e]; exact r
    · rw [e]; trivial
    · rw [e] at r; exact r.elim
  | .fn f caps, v, r => by
    simp only [VR] at r ⊢
    obtain ⟨vs, h1, h2⟩ := r
    exact ⟨vs, h1, VRs_mono h hl hcs caps vs h2⟩
  | .bm f caps, v, r => by
    simp only [VR] at r ⊢
    obtain ⟨vs, h1, h2⟩ := r
    exact ⟨vs, h1, VRs_mono h hl hcs caps vs h2⟩
  | .agg cs, v, r => by
    simp only [VR] at r ⊢
    obtain ⟨vs, h1, h2⟩ := r
    exact ⟨vs, h1, VRs_mono h hl hcs cs vs h2⟩
  | .tup cs, v, r => by
    simp only [VR] at r ⊢
    obtain ⟨vs, h1, h2⟩ := r
    exact ⟨vs, h1, VRs_mono h hl hcs cs vs h2⟩
  | .undef, _, _ => by simp [VR]
theorem VRs_mono {I J : Im} {w w' : World} {l l' : Nat → Loc} (h : I.Le J) (hl : locLe l l') (hcs : Cells w w') :
    ∀ (xs : List V) (vs : List Value), VRs I w l xs vs → VRs J w' l' xs vs
  | [], vs, r => by simpa [VRs] using r
  | x :: xs, vs, r => by
    simp only [VRs] at r ⊢
    obtain ⟨v, t, h1, h2, h3⟩ := r
    exact ⟨v, t, h1, VR_mono h hl hcs x v h2, VRs_mono h hl hcs xs t h3⟩
end
end Go.Proofs.YteafabpedfgedaaGreatDoor.Am
end
/- The listed package-level variables, with what their cells hold; printed by program. -/
section
namespace Go.Proofs.YteafabpedfgedaaGreatDoor.Am
open Go
def nums (k : IntKind) : List Nat → List D
  | [] => []
  | n :: r => .int k (n : Nat) :: nums k r
def g_agora_sum_initial : List D := nums .u32 [1779033703, 3144134277, 1013904242, 2773480762, 1359893119, 2600822924, 528734635, 1541459225]
def g_agora_sum_constants : List D := nums .u32 [1116352408, 1899447441, 3049323471, 3921009573, 961987163, 1508970993, 2453635748, 2870763221, 3624381080, 310598401, 607225278, 1426881987, 1925078388, 2162078206, 2614888103, 3248222580, 3835390401, 4022224774, 264347078, 604807628, 770255983, 1249150122, 1555081692, 1996064986, 2554220882, 2821834349, 2952996808, 3210313671, 3336571891, 3584528711, 113926993, 338241895, 666307205, 773529912, 1294757372, 1396182291, 1695183700, 1986661051, 2177026350, 2456956037, 2730485921, 2820302411, 3259730800, 3345764771, 3516065817, 3600352804, 4094571909, 275423344, 430227734, 506948616, 659060556, 883997877, 958139571, 1322822218, 1537002063, 1747873779, 1955562222, 2024104815, 2227730452, 2361852424, 2428436474, 2756734187, 3204031479, 3329325298]
def g_internal_strconv_uint64pow10 : List D := nums .u64 [1, 10, 100, 1000, 10000, 100000, 1000000, 10000000, 100000000, 1000000000, 10000000000, 100000000000, 1000000000000, 10000000000000, 100000000000000, 1000000000000000, 10000000000000000, 100000000000000000, 1000000000000000000, 10000000000000000000]
def g_math_bits_deBruijn32tab : List D := nums .u8 [0, 1, 28, 2, 29, 14, 24, 3, 30, 22, 20, 15, 25, 17, 4, 8, 31, 27, 13, 23, 21, 19, 16, 7, 26, 12, 18, 6, 11, 5, 10, 9]
def g_math_bits_deBruijn64tab : List D := nums .u8 [0, 1, 56, 2, 57, 49, 28, 3, 61, 58, 42, 50, 38, 29, 17, 4, 62, 47, 59, 36, 45, 43, 51, 22, 53, 39, 33, 30, 24, 18, 12, 5, 63, 55, 48, 27, 60, 41, 37, 16, 46, 35, 44, 21, 52, 32, 23, 11, 54, 26, 40, 15, 34, 20, 31, 10, 25, 14, 19, 9, 13, 8, 7, 6]
def globs : Nat → Option (List D)
  | 0 => some g_agora_sum_initial
  | 1 => some g_agora_sum_constants
  | 7 => some g_internal_strconv_uint64pow10
  | 8 => some g_math_bits_deBruijn32tab
  | 9 => some g_math_bits_deBruijn64tab
  | _ => none
end Go.Proofs.YteafabpedfgedaaGreatDoor.Am
end
/- The engine's store: objects that a symbolic store owns, the memory outside it that nothing changes, and steps that keep what was known. -/
section
namespace Go.Proofs.YteafabpedfgedaaGreatDoor.Am
open Go

/-- The blocks that no call may touch, and the calls that the function has put off. -/
structure Hid where
  blk : Nat → Prop
  df : List Deferred

structure Cx where
  w : World
  loc : Nat → Loc
  hid : Hid

def Cx.own (c : Cx) (b : Nat) : Prop := ∃ o base sz, c.loc o = .here b base sz
def Cx.im (c : Cx) : Im := { cell := fun b o => c.w.cell? ⟨b, o, none⟩, ok := fun b => b < c.w.heap.size ∧ ¬ c.own b ∧ ¬ c.hid.blk b }
abbrev Cx.vr (c : Cx) : V → Value → Prop := VR c.im c.w c.loc
abbrev Cx.vrs (c : Cx) : List V → List Value → Prop := VRs c.im c.w c.loc

def Unfrozen (f : Nat × Nat) (n : Nat) : Prop := f.1 ≤ f.2 ∧ ∀ i, i < n → ¬ (f.1 ≤ i ∧ i < f.2)
theorem unfrozen0 (n : Nat) : Unfrozen (0, 0) n := ⟨Nat.le_refl _, fun i _ q => by simp at q⟩

inductive MapR (I : Im) (w : World) (loc : Nat → Loc) : List (D × V × Nat) → List MapEntry → Prop
  | nil : MapR I w loc [] []
  | cons {k : D} {x : V} {n : Nat} {e : MapEntry} {es : List (D × V × Nat)} {l : List MapEntry} : DR I k e.key → VR I w loc x e.val → e.born = n → MapR I w loc es l → MapR I w loc ((k, x, n) :: es) (e :: l)
abbrev Cx.mapR (c : Cx) : List (D × V × Nat) → List MapEntry → Prop := MapR c.im c.w c.loc

def OR (c : Cx) (l : Loc) : Ob → Prop
  | .dead => l = .dead
  | .box cs => ∃ b sz, l = .here b 0 sz ∧ ∃ (arr : Array Value) (e : TypeId) (f : Nat × Nat), c.w.heap[b]? = some (.cells arr e f) ∧ Unfrozen f arr.size ∧ ∃ vs rest, arr.toList = vs ++ rest ∧ c.vrs cs vs
  | .vec sz cs => ∃ b base, l = .here b base sz ∧ 0 < sz ∧ ∃ (arr : Array Value) (e : TypeId) (f : Nat × Nat), c.w.heap[b]? = some (.cells arr e f) ∧ Unfrozen f arr.size ∧ ∃ us : List Value, base + us.length ≤ arr.size ∧ (∀ j, j < us.length → arr[base + j]? = us[j]?) ∧ c.vrs cs us
  | .arr sz mk es => (l = .nil ∧ es = []) ∨ ∃ b base, l = .here b base sz ∧ 0 < sz ∧ ∃ (arr : Array Value) (e : TypeId) (f : Nat × Nat), c.w.heap[b]? = some (.cells arr e f) ∧ Unfrozen f (arr.size + (if mk then 0 else 1)) ∧ base + es.length * sz ≤ arr.size ∧ RowsR c.im es b base sz
  | .map es clk => ∃ b, l = .here b 0 1 ∧ ∃ (ents : Array MapEntry), c.w.heap[b]? = some (.map ents clk) ∧ c.mapR es ents.toList ∧ (es.map (·.2.2)).Nodup ∧ ∀ e ∈ es, e.2.2 < clk
  | .sit s pos => ∃ b, l = .here b 0 1 ∧ c.w.heap[b]? = some (.stringIter ⟨s.toArray⟩ pos)
  | .mit m since seen last => ∃ b, l = .here b 0 1 ∧ ∃ r, c.w.heap[b]? = some (.mapIter r since seen.toArray last) ∧ c.vr m (.map r)

def ORo (c : Cx) (l : Loc) : Option Ob → Prop
  | none => l = .unborn
  | some x => OR c l x

/-- The listed package-level variables read as they should. -/
def Glob (c : Cx) : Prop := ∀ g cs, globs g = some cs → c.im.ok g ∧ ∃ vs : List Value, DRs c.im cs vs ∧ ∀ j, j < cs.length → c.im.cell g j = vs[j]?
theorem Glob.le {c c' : Cx} (h : c.im.Le c'.im) (H : Glob c) : Glob c' := fun g cs e => by
  obtain ⟨h1, vs, h2, h3⟩ := H g cs e
  have := h g h1
  exact ⟨this.1, vs, DRs_mono h _ _ h2, fun j hj => by rw [this.2]; exact h3 j hj⟩

structure SR (c : Cx) (σ : List Ob) : Prop where
  obj : ∀ o, ORo c (c.loc o) σ[o]?
  inj : ∀ {o o' b base sz base' sz'}, c.loc o = .here b base sz → c.loc o' = .here b base' sz' → o = o'
  hid : ∀ b, c.hid.blk b → b < c.w.heap.size ∧ ¬ c.own b
  gl : Glob c

/-- The world's streams have not turned. -/
def IoEq (w w' : World) : Prop := w'.os = w.os ∧ w'.tape = w.tape ∧ w'.output = w.output
theorem IoEq.trans {a b c : World} (h : IoEq a b) (g : IoEq b c) : IoEq a c := ⟨g.1.trans h.1, g.2.1.trans h.2.1, g.2.2.trans h.2.2⟩
theorem io_setCells (b : Nat) : ∀ (l : List Value) (k : Nat) (w : World), IoEq w (w.setCells b k l)
  | [], _, _ => ⟨rfl, rfl, rfl⟩
  | v :: r, k, w => IoEq.trans (b := w.setCell ⟨b, k, none⟩ v) ⟨rfl, rfl, rfl⟩ (io_setCells b r (k + 1) _)

structure Ext (c c' : Cx) : Prop where
  hid : c'.hid = c.hid
  size : c.w.heap.size ≤ c'.w.heap.size
  cells : Cells c.w c'.w
  frame : ∀ b, b < c.w.heap.size → ¬ c.own b → c'.w.heap[b]? = c.w.heap[b]? ∧ ¬ c'.own b
  loc : locLe c.loc c'.loc
  io : IoEq c.w c'.w

theorem Ext.refl (c : Cx) : Ext c c := ⟨rfl, Nat.le_refl _, fun _ cs _ f h => ⟨cs, f, h, rfl⟩, fun _ _ h => ⟨rfl, h⟩, fun _ => .inl rfl, rfl, rfl, rfl⟩

theorem locLe.trans {l l' l'' : Nat → Loc} (h : locLe l l') (g : locLe l' l'') (hd : ∀ o, l' o = .unborn → l o = .unborn) : locLe l l'' := by
  intro o
  rcases g o with e | e | e
  · rw [e]; exact h o
  · exact .inr (.inl e)
  · exact .inr (.inr (hd o e))

theorem Ext.trans {c c' c'' : Cx} (h : Ext c c') (g : Ext c' c'') : Ext c c'' := by
  refine ⟨g.hid.trans h.hid, Nat.le_trans h.size g.size, ?_, ?_, ?_, h.io.trans g.io⟩
  · intro b cs e f hb
    obtain ⟨cs', f', h1, h2⟩ := h.cells b cs e f hb
    obtain ⟨cs'', f'', g1, g2⟩ := g.cells b cs' e f' h1
    exact ⟨cs'', f'', g1, g2.trans h2⟩
  · intro b hb ho
    obtain ⟨h1, h2⟩ := h.frame b hb ho
    obtain ⟨g1, g2⟩ := g.frame b (Nat.lt_of_lt_of_le hb h.size) h2
    exact ⟨g1.trans h1, g2⟩
  · intro o
    rcases g.loc o with e | e | e
    · rw [e]; exact h.loc o
    · exact .inr (.inl e)
    · rcases h.loc o with e' | e' | e'
      · exact .inr (.inr (e' ▸ e))
      · rw [e] at e'; cases e'
      · exact .inr (.inr e')

theorem SR.hid_ext {c c' : Cx} {σ : List Ob} (h : SR c σ) (hE : Ext c c') : ∀ b, c'.hid.blk b → b < c'.w.heap.size ∧ ¬ c'.own b := by
  intro b hb
  rw [hE.hid] at hb
  obtain ⟨h1, h2⟩ := h.hid b hb
  exact ⟨Nat.lt_of_lt_of_le h1 hE.size, (hE.frame b h1 h2).2⟩

theorem cell?_of_heap {w w' : World} {b : Nat} (h : w'.heap[b]? = w.heap[b]?) (o : Nat) : w'.cell? ⟨b, o, none⟩ = w.cell? ⟨b, o, none⟩ := by
  simp [World.cell?, h]

theorem Ext.im {c c' : Cx} (h : Ext c c') : c.im.Le c'.im := by
  intro b hb
  obtain ⟨h1, h2, h3⟩ := hb
  obtain ⟨e, ho⟩ := h.frame b h1 h2
  exact ⟨⟨Nat.lt_of_lt_of_le h1 h.size, ho, by rw [h.hid]; exact h3⟩, fun o => cell?_of_heap e o⟩

theorem Ext.glob {c c' : Cx} (h : Ext c c') (H : Glob c) : Glob c' := H.le h.im
theorem Ext.vr {c c' : Cx} (h : Ext c c') {x : V} {v : Value} (r : c.vr x v) : c'.vr x v := VR_mono h.im h.loc h.cells x v r
theorem Ext.vrs {c c' : Cx} (h : Ext c c') {x : List V} {v : List Value} (r : c.vrs x v) : c'.vrs x v := VRs_mono h.im h.loc h.cells x v r
theorem Ext.dr {c c' : Cx} (h : Ext c c') {x : D} {v : Value} (r : DR c.im x v) : DR c'.im x v := DR_mono h.im x v r

theorem MapR.imp {I J : Im} {w w' : World} {l l' : Nat → Loc} (h : I.Le J) (hv : ∀ x v, VR I w l x v → VR J w' l' x v) {es : List (D × V × Nat)} {ents : List MapEntry} (m : MapR I w l es ents) : MapR J w' l' es ents := by
  induction m with
  | nil => exact .nil
  | cons a b e _ ih => exact .cons (DR_mono h _ _ a) (hv _ _ b) e ih
theorem Ext.mapR {c c' : Cx} (h : Ext c c') {es : List (D × V × Nat)} {ents : List MapEntry} (m : c.mapR es ents) : c'.mapR es ents := m.imp h.im fun _ _ r => h.vr r

/-- An object whose block has not changed stays. -/
theorem OR.keep {c c' : Cx} (h : Ext c c') {l : Loc} {x : Ob} (r : OR c l x) (hb : ∀ b base sz, l = .here b base sz → c'.w.heap[b]? = c.w.heap[b]?) : OR c' l x := by
  cases x with
  | dead => exact r
  | box cs =>
    obtain ⟨b, sz, rfl, arr, e, f, h1, h2, vs, rest, hv, h3⟩ := r
    exact ⟨b, sz, rfl, arr, e, f, by rw [hb _ _ _ rfl]; exact h1, h2, vs, rest, hv, h.vrs h3⟩
  | vec sz cs =>
    obtain ⟨b, base, rfl, h0, arr, e, f, h1, h2, us, hle, hat, h3⟩ := r
    exact ⟨b, base, rfl, h0, arr, e, f, by rw [hb _ _ _ rfl]; exact h1, h2, us, hle, hat, h.vrs h3⟩
  | arr sz mk es =>
    rcases r with r | ⟨b, base, rfl, h0, arr, e, f, h1, h2, h3, h4⟩
    · exact .inl r
    · exact .inr ⟨b, base, rfl, h0, arr, e, f, by rw [hb _ _ _ rfl]; exact h1, h2, h3, RowsR_mono h.im es b base sz (fun o => cell?_of_heap (hb _ _ _ rfl) o) h4⟩
  | map es clk =>
    obtain ⟨b, rfl, ents, h1, h2, h3⟩ := r
    exact ⟨b, rfl, ents, by rw [hb _ _ _ rfl]; exact h1, h.mapR h2, h3⟩
  | mit m since seen last =>
    obtain ⟨b, rfl, r, h1, h2⟩ := r
    exact ⟨b, rfl, r, by rw [hb _ _ _ rfl]; exact h1, h.vr h2⟩
  | sit s pos =>
    obtain ⟨b, rfl, h1⟩ := r
    exact ⟨b, rfl, by rw [hb _ _ _ rfl]; exact h1⟩

theorem SR.lt {c : Cx} {σ : List Ob} (h : SR c σ) {o b base sz : Nat} (e : c.loc o = .here b base sz) : b < c.w.heap.size := by
  have r := h.obj o
  rw [e] at r
  cases hx : σ[o]? with
  | none => rw [hx] at r; cases r
  | some x =>
    rw [hx] at r
    cases x with
    | dead => cases r
    | box cs =>
      obtain ⟨b', sz', e', arr, ty, f, h1, _⟩ := r
      cases e'
      exact (Array.getElem?_eq_some_iff.1 h1).1
    | vec sz cs =>
      obtain ⟨b', _, e', _, arr, ty, f, h1, _⟩ := r
      cases e'
      exact (Array.getElem?_eq_some_iff.1 h1).1
    | arr s mk es =>
      rcases r with ⟨r, _⟩ | ⟨b', base', e', _, arr, ty, f, h1, _⟩
      · cases r
      · cases e'
        exact (Array.getElem?_eq_some_iff.1 h1).1
    | map es clk =>
      obtain ⟨b', e', ents, h1, _⟩ := r
      cases e'
      exact (Array.getElem?_eq_some_iff.1 h1).1
    | mit m since seen last =>
      obtain ⟨b', e', r, h1, _⟩ := r
      cases e'
      exact (Array.getElem?_eq_some_iff.1 h1).1
    | sit s pos =>
      obtain ⟨b', e', h1⟩ := r
      cases e'
      exact (Array.getElem?_eq_some_iff.1 h1).1

theorem SR.unborn {c : Cx} {σ : List Ob} (h : SR c σ) {o : Nat} (ho : σ.length ≤ o) : c.loc o = .unborn := by
  have r := h.obj o
  rw [List.getElem?_eq_none ho] at r
  exact r

theorem SR.get {c : Cx} {σ : List Ob} (h : SR c σ) {o : Nat} {x : Ob} (ho : σ[o]? = some x) : OR c (c.loc o) x := by
  have r := h.obj o
  rw [ho] at r
  exact r

theorem SR.born {c : Cx} {σ : List Ob} (h : SR c σ) {o : Nat} (ho : c.loc o ≠ .unborn) : o < σ.length := by
  rcases Nat.lt_or_ge o σ.length with g | g
  · exact g
  · exact (ho (h.unborn g)).elim

theorem OR.not_unborn {c : Cx} {x : Ob} : ¬ OR c .unborn x := by
  intro r
  cases x with
  | dead => cases r
  | box cs => obtain ⟨b, _, e, _⟩ := r; cases e
  | vec sz cs => obtain ⟨b, _, e, _⟩ := r; cases e
  | arr s mk es => rcases r with ⟨e, _⟩ | ⟨b, base, e, _⟩ <;> cases e
  | map es clk => obtain ⟨b, e, _⟩ := r; cases e
  | mit m since seen last => obtain ⟨b, e, _⟩ := r; cases e
  | sit s p => obtain ⟨b, e, _⟩ := r; cases e

theorem SR.not_unborn {c : Cx} {σ : List Ob} (h : SR c σ) {o : Nat} (ho : o < σ.length) : c.loc o ≠ .unborn := by
  intro e
  have r := h.get (List.getElem?_eq_getElem ho)
  rw [e] at r
  exact OR.not_unborn r

/-- The calls put off are the frame's own matter. -/
theorem SR.re {w : World} {loc : Nat → Loc} {h h' : Hid} (e : h.blk = h'.blk) {σ : List Ob} (s : SR ⟨w, loc, h⟩ σ) : SR ⟨w, loc, h'⟩ σ := by
  cases h; cases h'; simp only at e; subst e
  refine ⟨fun o => ?_, s.inj, s.hid, s.gl⟩
  have r := s.obj o
  cases hx : σ[o]? with
  | none => rw [hx] at r; exact r
  | some x =>
    rw [hx] at r
    cases x <;> exact r
theorem Ext.re {w w' : World} {loc loc' : Nat → Loc} {h h' : Hid} (e : h.blk = h'.blk) (s : Ext ⟨w, loc, h⟩ ⟨w', loc', h⟩) : Ext ⟨w, loc, h'⟩ ⟨w', loc', h'⟩ := by
  cases h; cases h'; simp only at e; subst e
  exact ⟨rfl, s.size, s.cells, s.frame, s.loc, s.io⟩

/-! ### steps of the store -/

def upd (l : Nat → Loc) (o : Nat) (x : Loc) : Nat → Loc := fun o' => if o' = o then x else l o'
@[simp] theorem upd_same (l : Nat → Loc) (o : Nat) (x : Loc) : upd l o x o = x := by simp [upd]
theorem upd_other (l : Nat → Loc) {o o' : Nat} (x : Loc) (h : o' ≠ o) : upd l o x o' = l o' := by simp [upd, h]

/-- A new object in a new block. -/
theorem Ext.new {c : Cx} {σ : List Ob} (h : SR c σ) (w' : World) (hh : w'.heap.size = c.w.heap.size + 1) (hs : ∀ b, b < c.w.heap.size → w'.heap[b]? = c.w.heap[b]?) (sz : Nat) (hio : IoEq c.w w' := by first | exact ⟨rfl, rfl, rfl⟩ | exact io_setCells _ _ _ _) :
    Ext c ⟨w', upd c.loc σ.length (.here c.w.heap.size 0 sz), c.hid⟩ := by
  refine ⟨rfl, by simp [hh], ?_, ?_, ?_, hio⟩
  · intro b cs e f hb
    exact ⟨cs, f, by rw [hs b (Array.getElem?_eq_some_iff.1 hb).1]; exact hb, rfl⟩
  · intro b hb ho
    refine ⟨hs b hb, ?_⟩
    rintro ⟨o, base, sz', e⟩
    dsimp only at e
    by_cases g : o = σ.length
    · subst g
      simp at e
      omega
    · rw [upd_other _ _ g] at e
      exact ho ⟨o, base, sz', e⟩
  · intro o
    by_cases g : o = σ.length
    · subst g
      exact .inr (.inr (h.unborn (Nat.le_refl _)))
    · exact .inl (upd_other _ _ g)

theorem SR.new {c : Cx} {σ : List Ob} (h : SR c σ) (w' : World) (hh : w'.heap.size = c.w.heap.size + 1) (hs : ∀ b, b < c.w.heap.size → w'.heap[b]? = c.w.heap[b]?) (sz : Nat) (x : Ob)
    (hx : OR ⟨w', upd c.loc σ.length (.here c.w.heap.size 0 sz), c.hid⟩ (.here c.w.heap.size 0 sz) x) (hio : IoEq c.w w' := by first | exact ⟨rfl, rfl, rfl⟩ | exact io_setCells _ _ _ _) :
    SR ⟨w', upd c.loc σ.length (.here c.w.heap.size 0 sz), c.hid⟩ (σ ++ [x]) := by
  have hE := Ext.new h w' hh hs sz hio
  refine ⟨fun o => ?_, ?_, h.hid_ext hE, hE.glob h.gl⟩
  · rcases Nat.lt_trichotomy o σ.length with g | g | g
    · rw [List.getElem?_append_left g]
      show ORo _ (upd c.loc σ.length _ o) _
      rw [upd_other _ _ (Nat.ne_of_lt g), List.getElem?_eq_getElem g]
      exact (h.get (List.getElem?_eq_getElem g)).keep hE fun b base s e => hs b (h.lt e)
    · subst g
      show ORo _ (upd c.loc σ.length _ σ.length) _
      simp only [upd_same, List.getElem?_concat_length]
      exact hx
    · rw [List.getElem?_eq_none (by simp; omega)]
      show upd c.loc σ.length _ o = _
      rw [upd_other _ _ (Nat.ne_of_gt g)]
      exact h.unborn (Nat.le_of_lt g)
  · intro o o' b base s base' s' e e'
    dsimp only at e e'
    by_cases g : o = σ.length <;> by_cases g' : o' = σ.length
    · rw [g, g']
    · subst g
      rw [upd_other _ _ g'] at e'
      simp at e
      have := h.lt e'
      omega
    · subst g'
      rw [upd_other _ _ g] at e
      simp at e'
      have := h.lt e
      omega
    · rw [upd_other _ _ g] at e
      rw [upd_other _ _ g'] at e'
      exact h.inj e e'

/-- One object's block is written; nothing moves. -/
theorem Ext.write {c : Cx} {o b base sz : Nat} (ho : c.loc o = .here b base sz) (w' : World) (hsz : w'.heap.size = c.w.heap.size) (hs : ∀ b', b' ≠ b → w'.heap[b']? = c.w.heap[b']?)
    (hc : ∀ (cs : Array Value) (e : TypeId) (f : Nat × Nat), c.w.heap[b]? = some (.cells cs e f) → ∃ (cs' : Array Value) (f' : Nat × Nat), w'.heap[b]? = some (.cells cs' e f') ∧ cs'.size = cs.size) (hio : IoEq c.w w' := by first | exact ⟨rfl, rfl, rfl⟩ | exact io_setCells _ _ _ _) :
    Ext c ⟨w', c.loc, c.hid⟩ := by
  refine ⟨rfl, by simp [hsz], ?_, ?_, fun _ => .inl rfl, hio⟩
  · intro b' cs e f hb
    by_cases g : b' = b
    · subst g; exact hc cs e f hb
    · exact ⟨cs, f, by rw [hs b' g]; exact hb, rfl⟩
  · intro b' hb hown
    exact ⟨hs b' fun g => hown ⟨o, base, sz, g ▸ ho⟩, hown⟩

theorem SR.write {c : Cx} {σ : List Ob} (h : SR c σ) {o b base sz : Nat} (ho : c.loc o = .here b base sz) (w' : World) (hsz : w'.heap.size = c.w.heap.size) (hs : ∀ b', b' ≠ b → w'.heap[b']? = c.w.heap[b']?)
    (hc : ∀ (cs : Array Value) (e : TypeId) (f : Nat × Nat), c.w.heap[b]? = some (.cells cs e f) → ∃ (cs' : Array Value) (f' : Nat × Nat), w'.heap[b]? = some (.cells cs' e f') ∧ cs'.size = cs.size)
    (x : Ob) (hx : OR ⟨w', c.loc, c.hid⟩ (.here b base sz) x) (hio : IoEq c.w w' := by first | exact ⟨rfl, rfl, rfl⟩ | exact io_setCells _ _ _ _) : SR ⟨w', c.loc, c.hid⟩ (σ.set o x) := by
  have hE := Ext.write ho w' hsz hs hc hio
  have hlt := h.born (o := o) (by rw [ho]; simp)
  refine ⟨fun o' => ?_, fun e e' => h.inj e e', h.hid_ext hE, hE.glob h.gl⟩
  by_cases g : o' = o
  · subst g
    rw [List.getElem?_set_self hlt]
    show OR _ (c.loc o') x
    rw [ho]; exact hx
  · rw [List.getElem?_set_ne (fun e => g e.symm)]
    have r := h.obj o'
    show ORo _ (c.loc o') _
    cases hx' : σ[o']? with
    | none => rw [hx'] at r; exact r
    | some y =>
      rw [hx'] at r
      exact OR.keep hE r fun b' base' s' e => hs b' fun g' => g (h.inj (g' ▸ e) ho)

/-- One object dies; its block is given to a new object. -/
theorem Ext.move {c : Cx} {σ : List Ob} (h : SR c σ) {o b base sz : Nat} (ho : c.loc o = .here b base sz) (w' : World) (hsz : w'.heap.size = c.w.heap.size) (hs : ∀ b', b' ≠ b → w'.heap[b']? = c.w.heap[b']?)
    (hc : ∀ (cs : Array Value) (e : TypeId) (f : Nat × Nat), c.w.heap[b]? = some (.cells cs e f) → ∃ (cs' : Array Value) (f' : Nat × Nat), w'.heap[b]? = some (.cells cs' e f') ∧ cs'.size = cs.size) (base' sz' : Nat) (hio : IoEq c.w w' := by first | exact ⟨rfl, rfl, rfl⟩ | exact io_setCells _ _ _ _) :
    Ext c ⟨w', upd (upd c.loc o .dead) σ.length (.here b base' sz'), c.hid⟩ := by
  have hlt := h.born (o := o) (by rw [ho]; simp)
  refine ⟨rfl, by simp [hsz], ?_, ?_, ?_, hio⟩
  · intro b' cs e f hb
    by_cases g : b' = b
    · subst g; exact hc cs e f hb
    · exact ⟨cs, f, by rw [hs b' g]; exact hb, rfl⟩
  · intro b' hb hown
    have hne : b' ≠ b := fun g => hown ⟨o, base, sz, g ▸ ho⟩
    refine ⟨hs b' hne, ?_⟩
    rintro ⟨o', ba, s, e⟩
    dsimp only at e
    by_cases g : o' = σ.length
    · subst g; simp at e; exact hne e.1.symm
    · rw [upd_other _ _ g] at e
      by_cases g' : o' = o
      · subst g'; simp at e
      · rw [upd_other _ _ g'] at e; exact hown ⟨o', ba, s, e⟩
  · intro o'
    dsimp only
    by_cases g : o' = σ.length
    · subst g; exact .inr (.inr (h.unborn (Nat.le_refl _)))
    · rw [upd_other _ _ g]
      by_cases g' : o' = o
      · subst g'; exact .inr (.inl (by simp))
      · rw [upd_other _ _ g']; exact .inl rfl

theorem SR.move {c : Cx} {σ : List Ob} (h : SR c σ) {o b base sz : Nat} (ho : c.loc o = .here b base sz) (w' : World) (hsz : w'.heap.size = c.w.heap.size) (hs : ∀ b', b' ≠ b → w'.heap[b']? = c.w.heap[b']?)
    (hc : ∀ (cs : Array Value) (e : TypeId) (f : Nat × Nat), c.w.heap[b]? = some (.cells cs e f) → ∃ (cs' : Array Value) (f' : Nat × Nat), w'.heap[b]? = some (.cells cs' e f') ∧ cs'.size = cs.size) (base' sz' : Nat)
    (x : Ob) (hx : OR ⟨w', upd (upd c.loc o .dead) σ.length (.here b base' sz'), c.hid⟩ (.here b base' sz') x) (hio : IoEq c.w w' := by first | exact ⟨rfl, rfl, rfl⟩ | exact io_setCells _ _ _ _) :
    SR ⟨w', upd (upd c.loc o .dead) σ.length (.here b base' sz'), c.hid⟩ (σ.set o .dead ++ [x]) := by
  have hE := Ext.move h ho w' hsz hs hc base' sz' hio
  have hlt := h.born (o := o) (by rw [ho]; simp)
  refine ⟨fun o' => ?_, ?_, h.hid_ext hE, hE.glob h.gl⟩
  · show ORo _ (upd (upd c.loc o .dead) σ.length _ o') _
    rcases Nat.lt_trichotomy o' σ.length with g | g | g
    · rw [List.getElem?_append_left (by simpa using g), upd_other _ _ (Nat.ne_of_lt g)]
      by_cases g' : o' = o
      · subst g'
        rw [List.getElem?_set_self hlt]
        show upd c.loc o' .dead o' = .dead
        simp
      · rw [List.getElem?_set_ne (fun e => g' e.symm), upd_other _ _ g', List.getElem?_eq_getElem g]
        exact (h.get (List.getElem?_eq_getElem g)).keep hE fun b' base' s' e => hs b' fun k => g' (h.inj (k ▸ e) ho)
    · subst g
      rw [List.getElem?_append_right (by simp)]
      simp only [upd_same, List.length_set, Nat.sub_self, List.getElem?_cons_zero]
      exact hx
    · rw [List.getElem?_eq_none (by simp; omega), upd_other _ _ (Nat.ne_of_gt g), upd_other _ _ (by omega)]
      exact h.unborn (Nat.le_of_lt g)
  · intro o1 o2 b1 ba s ba' s' e e'
    dsimp only at e e'
    have key : ∀ o' ba s, upd (upd c.loc o .dead) σ.length (.here b base' sz') o' = .here b1 ba s → (o' = σ.length ∧ b1 = b) ∨ (o' ≠ σ.length ∧ o' ≠ o ∧ c.loc o' = .here b1 ba s) := by
      intro o' ba s e
      by_cases g : o' = σ.length
      · subst g; simp at e; exact .inl ⟨rfl, e.1.symm⟩
      · rw [upd_other _ _ g] at e
        by_cases g' : o' = o
        · subst g'; simp at e
        · rw [upd_other _ _ g'] at e; exact .inr ⟨g, g', e⟩
    rcases key _ _ _ e with ⟨k1, k2⟩ | ⟨k1, k2, k3⟩ <;> rcases key _ _ _ e' with ⟨l1, l2⟩ | ⟨l1, l2, l3⟩
    · rw [k1, l1]
    · exact (l2 (h.inj (k2 ▸ l3) ho)).elim
    · exact (k2 (h.inj (l2 ▸ k3) ho)).elim
    · exact h.inj k3 l3

/-- One object dies. -/
theorem Ext.kill (c : Cx) (o : Nat) : Ext c ⟨c.w, upd c.loc o .dead, c.hid⟩ := by
  refine ⟨rfl, Nat.le_refl _, fun _ cs _ f h => ⟨cs, f, h, rfl⟩, fun b hb hown => ⟨rfl, ?_⟩, fun o' => ?_, rfl, rfl, rfl⟩
  · rintro ⟨o', ba, s, e⟩
    dsimp only at e
    by_cases g : o' = o
    · subst g; simp at e
    · rw [upd_other _ _ g] at e; exact hown ⟨o', ba, s, e⟩
  · dsimp only
    by_cases g : o' = o
    · subst g; exact .inr (.inl (by simp))
    · rw [upd_other _ _ g]; exact .inl rfl

theorem SR.kill {c : Cx} {σ : List Ob} (h : SR c σ) {o : Nat} (hlt : o < σ.length) : SR ⟨c.w, upd c.loc o .dead, c.hid⟩ (σ.set o .dead) := by
  refine ⟨fun o' => ?_, ?_, h.hid_ext (Ext.kill c o), (Ext.kill c o).glob h.gl⟩
  · show ORo _ (upd c.loc o .dead o') _
    by_cases g : o' = o
    · subst g
      rw [List.getElem?_set_self hlt]
      show upd c.loc o' .dead o' = .dead
      simp
    · rw [List.getElem?_set_ne (fun e => g e.symm), upd_other _ _ g]
      have r := h.obj o'
      cases hx' : σ[o']? with
      | none => rw [hx'] at r; exact r
      | some y =>
        rw [hx'] at r
        exact OR.keep (Ext.kill c o) r fun _ _ _ _ => rfl
  · intro o1 o2 b1 ba s ba' s' e e'
    dsimp only at e e'
    have key : ∀ o' ba s, upd c.loc o .dead o' = .here b1 ba s → c.loc o' = .here b1 ba s := by
      intro o' ba s e
      by_cases g : o' = o
      · subst g; simp at e
      · rw [upd_other _ _ g] at e; exact e
    exact h.inj (key _ _ _ e) (key _ _ _ e')
end Go.Proofs.YteafabpedfgedaaGreatDoor.Am
end
/- The engine's quiet operations: those that only look. What they yield, as a function of the slots and the store, and that the model's run yields just that. -/
section
set_option linter.unusedSimpArgs false
set_option linter.unusedVariables false
namespace Go.Proofs.YteafabpedfgedaaGreatDoor.Am
open Go

/-! ### types -/
def szOf (P : Program) (t : TypeId) : Nat := ((P.info? t).map (·.size)).getD 0
def aggT (P : Program) (t : TypeId) : Bool := match P.underlying t with | some (.struct _) | some (.array _ _) => true | _ => false
/-- A field's offset and type. -/
def fld (P : Program) (s f : Nat) : Option (Nat × TypeId) := match P.underlying s with | some (.struct fs) => (fs[f]?).map fun x => (x.offset, x.type) | _ => none
def elemOfSlice (P : Program) (t : TypeId) : Option TypeId := match P.underlying t with | some (.slice e) => some e | _ => none
def isStrT (P : Program) (t : TypeId) : Bool := match P.underlying t with | some .string => true | _ => false
def isBoolT (P : Program) (t : TypeId) : Bool := match P.underlying t with | some .bool => true | _ => false
def isPtrT (P : Program) (t : TypeId) : Bool := match P.underlying t with | some (.pointer _) => true | _ => false
def isMapT (P : Program) (t : TypeId) : Bool := match P.underlying t with | some (.map _ _) => true | _ => false
def intT (P : Program) (t : TypeId) : Option IntKind := match P.underlying t with | some (.int k) => some k | _ => none

/-! ### slots and constants -/
def sc : Value → D
  | .int k n => .int k n
  | .bool b => .bool b
  | .string s => .str s.data.toList
  | .slice none 0 0 => .nils
  | .pointer none => .nilp
  | .map none => .nilm
  | .nilFunc => .nilf
  | .nilIface => .nili
  | _ => .any

def ofConst : Value → V
  | .agg cs => .d (.agg (cs.toList.map sc))
  | .func (.func f) first caps => if first = #[] ∧ caps = #[] then .fn f [] else .undef
  | v => .d (sc v)

def get (s : List V) : Operand → V
  | .tmp t => s.getD t .undef
  | .const v => ofConst v
  | .global g => match globs g with | some cs => .ipt cs | none => .undef
  | .func f => .fn f []

theorem DR_sc (I : Im) (v : Value) : DR I (sc v) v := by
  unfold sc
  split <;> simp [DR]

theorem DRs_map_sc (I : Im) : ∀ vs : List Value, DRs I (vs.map sc) vs
  | [] => by simp [DRs]
  | v :: vs => by simp only [List.map_cons, DRs]; exact ⟨v, vs, rfl, DR_sc I v, DRs_map_sc I vs⟩

theorem VR_ofConst (I : Im) (w : World) (l : Nat → Loc) (v : Value) : VR I w l (ofConst v) v := by
  unfold ofConst
  split
  · rename_i cs
    simp only [VR, DR]
    exact ⟨cs.toList, by simp, DRs_map_sc I _⟩
  · rename_i f first caps
    split
    · rename_i h
      simp only [VR, VRs]
      exact ⟨[], by simp [h.1, h.2], rfl⟩
    · simp [VR]
  · simp only [VR]; exact DR_sc I _

theorem VRs_length {I : Im} {w : World} {l : Nat → Loc} : ∀ {xs : List V} {vs : List Value}, VRs I w l xs vs → vs.length = xs.length
  | [], vs, h => by simp [VRs] at h; simp [h]
  | x :: xs, vs, h => by
    simp only [VRs] at h
    obtain ⟨v, r, rfl, _, h⟩ := h
    simp [VRs_length h]

theorem VRs_get {I : Im} {w : World} {l : Nat → Loc} : ∀ {xs : List V} {vs : List Value}, VRs I w l xs vs → ∀ (i : Nat) {x : V}, xs[i]? = some x → ∃ v, vs[i]? = some v ∧ VR I w l x v
  | [], vs, h, i, d, e => by simp at e
  | x :: xs, vs, h, i, d, e => by
    simp only [VRs] at h
    obtain ⟨v, r, rfl, h1, h2⟩ := h
    cases i with
    | zero => simp at e; subst e; exact ⟨v, by simp, h1⟩
    | succ i => simpa using VRs_get h2 i (by simpa using e)

theorem VRs_of_get {I : Im} {w : World} {l : Nat → Loc} : ∀ {xs : List V} {vs : List Value}, vs.length = xs.length → (∀ (i : Nat) (x : V) (v : Value), xs[i]? = some x → vs[i]? = some v → VR I w l x v) → VRs I w l xs vs
  | [], vs, h, _ => by simp at h; simp [VRs, h]
  | x :: xs, [], h, _ => by simp at h
  | x :: xs, v :: vs, h, g => by
    simp only [VRs]
    exact ⟨v, vs, rfl, g 0 x v (by simp) (by simp), VRs_of_get (by simpa using h) fun i y u e f => g (i + 1) y u (by simpa using e) (by simpa using f)⟩

theorem VRs_take {I : Im} {w : World} {l : Nat → Loc} : ∀ {xs : List V} {vs : List Value}, VRs I w l xs vs → ∀ n, VRs I w l (xs.take n) (vs.take n)
  | [], vs, h, n => by simp [VRs] at h; simp [h, VRs]
  | x :: xs, vs, h, n => by
    simp only [VRs] at h
    obtain ⟨v, t, rfl, h1, h2⟩ := h
    cases n with
    | zero => simp [VRs]
    | succ n => simp only [List.take_succ_cons, VRs]; exact ⟨v, _, rfl, h1, VRs_take h2 n⟩

theorem VRs_drop {I : Im} {w : World} {l : Nat → Loc} : ∀ {xs : List V} {vs : List Value}, VRs I w l xs vs → ∀ n, VRs I w l (xs.drop n) (vs.drop n)
  | [], vs, h, n => by simp [VRs] at h; simp [h, VRs]
  | x :: xs, vs, h, n => by
    have h' := h
    simp only [VRs] at h
    obtain ⟨v, t, rfl, h1, h2⟩ := h
    cases n with
    | zero => simpa using h'
    | succ n => simpa using VRs_drop h2 n

theorem VRs_map_d {I : Im} {w : World} {l : Nat → Loc} : ∀ {ds : List D} {vs : List Value}, VRs I w l (ds.map .d) vs ↔ DRs I ds vs
  | [], vs => by simp [VRs, DRs]
  | d :: ds, vs => by
    simp only [List.map_cons, VRs, DRs, VR]
    constructor
    · rintro ⟨v, r, rfl, h1, h2⟩; exact ⟨v, r, rfl, h1, VRs_map_d.1 h2⟩
    · rintro ⟨v, r, rfl, h1, h2⟩; exact ⟨v, r, rfl, h1, VRs_map_d.2 h2⟩

theorem vr_get {c : Cx} {s : List V} {a : Act} (hG : Glob c) (h : c.vrs s a.tmps.toList) (x : Operand) : c.vr (get s x) (a.eval x) := by
  cases x with
  | tmp t =>
    show VR _ _ _ (s.getD t .undef) (a.tmps.getD t undef)
    rw [List.getD_eq_getElem?_getD]
    cases e : s[t]? with
    | none => simp [VR]
    | some x =>
      obtain ⟨v, h1, h2⟩ := VRs_get h t e
      have : a.tmps.getD t undef = v := by
        rw [Array.getElem?_toList] at h1
        simp [Array.getD_eq_getD_getElem?, h1]
      rw [this]
      exact h2
  | const v => exact VR_ofConst _ _ _ v
  | global g =>
    simp only [get]
    split
    · rename_i cs e
      obtain ⟨h1, vs, h2, h3⟩ := hG g cs e
      simp only [VR, Act.eval]
      exact ⟨g, 0, vs, rfl, h1, h2, fun j hj => by rw [Nat.zero_add]; exact h3 j hj⟩
    · simp [VR]
  | func f => simp only [get, VR, VRs, Act.eval]; exact ⟨[], rfl, rfl⟩

/-! ### operators -/
def intBin (op : BinOp) (k : IntKind) (a b : Int) : Option D :=
  match op with
  | .add => some (.int k (k.wrap (a + b)))
  | .sub => some (.int k (k.wrap (a - b)))
  | .mul => some (.int k (k.wrap (a * b)))
  | .quo => if b = 0 then none else some (.int k (k.wrap (a.tdiv b)))
  | .rem => if b = 0 then none else some (.int k (a.tmod b))
  | .and => some (.int k (k.wrap (BitVec.ofInt k.bits a &&& BitVec.ofInt k.bits b).toNat))
  | .or => some (.int k (k.wrap (BitVec.ofInt k.bits a ||| BitVec.ofInt k.bits b).toNat))
  | .xor => some (.int k (k.wrap (BitVec.ofInt k.bits a ^^^ BitVec.ofInt k.bits b).toNat))
  | .andNot => some (.int k (k.wrap (BitVec.ofInt k.bits a &&& ~~~BitVec.ofInt k.bits b).toNat))
  | .eql => some (.bool (a == b))
  | .neq => some (.bool (a != b))
  | .lss => some (.bool (decide (a < b)))
  | .leq => some (.bool (decide (a ≤ b)))
  | .gtr => some (.bool (decide (b < a)))
  | .geq => some (.bool (decide (b ≤ a)))
  | _ => none

def intShift (op : BinOp) (k : IntKind) (a b : Int) : Option D :=
  if b < 0 then none else
  match op with
  | .shl => some (.int k (k.wrap (a * 2 ^ (min b.toNat k.bits))))
  | .shr => some (.int k (a.fdiv (2 ^ (min b.toNat k.bits))))
  | _ => none

def strBin (op : BinOp) (a b : List UInt8) : Option D :=
  match op with
  | .add => if a.length + b.length ≤ 9223372036854775807 then some (.str (a ++ b)) else none
  | .eql => some (.bool (a == b))
  | .neq => some (.bool (!(a == b)))
  | .lss => some (.bool (Op.bytesLess a b))
  | .leq => some (.bool (Op.bytesLess a b || a == b))
  | .gtr => some (.bool (!(Op.bytesLess a b || a == b)))
  | .geq => some (.bool (!Op.bytesLess a b))
  | _ => none

def alive (σ : List Ob) (o : Nat) : Bool := match σ[o]? with | some .dead => false | none => false | _ => true

/-- '==' where it is a plain test of two values that can be told apart: true, false. -/
def eqv (P : Program) (t : TypeId) (σ : List Ob) (x y : V) : Option Bool :=
  match x, y with
  | .d (.bool a), .d (.bool b) => if isBoolT P t then some (a == b) else none
  | .ptr o _ _, .d .nilp => if isPtrT P t && alive σ o then some false else none
  | .d .nilp, .d .nilp => if isPtrT P t then some true else none
  | .ipt _, .d .nilp => if isPtrT P t then some false else none
  | .mp o, .d .nilm => if isMapT P t && alive σ o then some false else none
  | .d .nilm, .d .nilm => if isMapT P t then some true else none
  | .d .nils, .d .nils => if (elemOfSlice P t).isSome then some true else none
  | _, _ => none

/-- The kinds of a comparable type's cells, in order. -/
inductive SK where
  | int | bool | str
  deriving DecidableEq

def flatFields (f : TypeId → Option (List SK)) (szf : TypeId → Nat) : List Field → Nat → Option (List SK)
  | [], _ => some []
  | x :: r, off => if x.name ≠ "_" ∧ x.offset = off then
      match f x.type with
      | some ks => if ks.length = szf x.type ∧ 0 < ks.length then match flatFields f szf r (off + ks.length) with | some ls => some (ks ++ ls) | none => none else none
      | none => none
    else none

def flatT (P : Program) : Nat → TypeId → Option (List SK)
  | 0, _ => none
  | n + 1, t => match P.underlying t with
    | some (.int _) => some [.int]
    | some .bool => some [.bool]
    | some .string => some [.str]
    | some (.struct fs) => if P.stoodInHeld t = false then flatFields (flatT P n) (szOf P) fs.toList 0 else none
    | _ => none

def flatD : List SK → List D → List D → Option Bool
  | [], [], [] => some true
  | .int :: ks, .int k a :: xs, .int k' b :: ys => if k = k' then match flatD ks xs ys with | some r => some ((a == b) && r) | none => none else none
  | .bool :: ks, .bool a :: xs, .bool b :: ys => match flatD ks xs ys with | some r => some ((a == b) && r) | none => none
  | .str :: ks, .str a :: xs, .str b :: ys => match flatD ks xs ys with | some r => some ((a == b) && r) | none => none
  | _, _, _ => none

def V.ds : V → Option (List D)
  | .d (.agg cs) => some cs
  | .agg cs => cs.mapM fun | .d x => some x | _ => none
  | _ => none

def aggEq (P : Program) (t : TypeId) (x y : V) : Option Bool :=
  match x.ds, y.ds, flatT P 8 t with
  | some a, some b, some ks => if P.eqGuardType P.depth t = false ∧ aggT P t = true then flatD ks a b else none
  | _, _, _ => none

def binF (P : Program) (op : BinOp) (t : TypeId) (σ : List Ob) (x y : V) : Option V :=
  match x, y with
  | .d (.int k a), .d (.int k' b) =>
    match op with
    | .shl | .shr => (intShift op k a b).map .d
    | _ => if k = k' then (intBin op k a b).map .d else none
  | .d (.str a), .d (.str b) => (strBin op a b).map .d
  | x, y =>
    match op with
    | .eql => match eqv P t σ x y with | some r => some (.d (.bool r)) | none => (aggEq P t x y).map fun r => .d (.bool r)
    | .neq => match eqv P t σ x y with | some r => some (.d (.bool (!r))) | none => (aggEq P t x y).map fun r => .d (.bool (!r))
    | _ => none

def unF (op : UnOp) : V → Option V
  | .d (.bool b) => match op with | .not => some (.d (.bool (!b))) | _ => none
  | .d (.int k n) => match op with
    | .neg => some (.d (.int k (k.wrap (0 - n))))
    | .xor => (intBin .xor k (if k.signed then -1 else k.max) n).map .d
    | _ => none
  | _ => none

theorem toList_mk (a : List UInt8) : (⟨a.toArray⟩ : ByteArray).toList = a := by rw [ByteArray.toList_eq]

theorem mk_append (a b : List UInt8) : (⟨a.toArray⟩ : ByteArray) ++ ⟨b.toArray⟩ = ⟨(a ++ b).toArray⟩ := by
  apply ByteArray.ext
  simp

theorem size_mk (a : List UInt8) : (⟨a.toArray⟩ : ByteArray).size = a.length := by
  show a.toArray.size = _
  simp

theorem intBin_sound {op : BinOp} {k : IntKind} {a b : Int} {r : D} (h : intBin op k a b = some r) (P : Program) (t : TypeId) (I : Im) (w : World) (ox oy : Operand) :
    ∃ v, (do eqGuard op t ox oy (.int k a) (.int k b); binOp op t (.int k a) (.int k b) : Sem Value).run P w = .ok v w ∧ DR I r v := by
  cases op <;> simp only [intBin] at h
  case quo =>
    split at h
    · cases h
    · rename_i h0; simp only [Option.some.injEq] at h; subst h; simp [eqGuard_quo, binOp_quo, Op.intDiv, DR, h0]
  case rem =>
    split at h
    · cases h
    · rename_i h0; simp only [Option.some.injEq] at h; subst h; simp [eqGuard_rem, binOp_rem, Op.intDiv, DR, h0]
  all_goals first
    | (cases h; done)
    | (simp only [Option.some.injEq] at h; subst h
       simp [eqGuard_at_int, binOp_add, binOp_sub, binOp_mul, binOp_and, binOp_or, binOp_xor, binOp_andNot, binOp_eql, binOp_neq, binOp_lss, binOp_leq, binOp_gtr, binOp_geq, Op.intArith, Op.intBits, DR])

theorem intShift_sound {op : BinOp} {k k' : IntKind} {a b : Int} {r : D} (h : intShift op k a b = some r) (P : Program) (t : TypeId) (I : Im) (w : World) (ox oy : Operand) :
    ∃ v, (do eqGuard op t ox oy (.int k a) (.int k' b); binOp op t (.int k a) (.int k' b) : Sem Value).run P w = .ok v w ∧ DR I r v := by
  unfold intShift at h
  split at h
  · cases h
  · rename_i h0
    cases op <;> simp at h <;> subst h <;> simp [eqGuard_at_int, binOp_shl, binOp_shr, Op.shift, DR, h0]

theorem strBin_sound {op : BinOp} {a b : List UInt8} {r : D} (h : strBin op a b = some r) (P : Program) (t : TypeId) (I : Im) (w : World) (ox oy : Operand) :
    ∃ v, (do eqGuard op t ox oy (.string ⟨a.toArray⟩) (.string ⟨b.toArray⟩); binOp op t (.string ⟨a.toArray⟩) (.string ⟨b.toArray⟩) : Sem Value).run P w = .ok v w ∧ DR I r v := by
  cases op <;> simp [strBin] at h
  case add =>
    obtain ⟨h0, rfl⟩ := h
    have : ¬ (9223372036854775807 < ((a.length : Int) + (b.length : Int))) := by omega
    have e : IntKind.i64.max = 9223372036854775807 := rfl
    simp [eqGuard_at_string, binOp, Op.stringOp, DR, mk_append, size_mk, e, this]
  all_goals (subst h; simp [eqGuard_at_string, binOp, Op.stringOp, DR, toList_mk])

theorem run_sizeOf' {P : Program} {t : TypeId} (h : 0 < szOf P t) (w : World) : (sizeOf t).run P w = .ok (szOf P t) w := by
  unfold szOf at *
  cases hi : P.info? t with
  | none => simp [hi] at h
  | some i => simp [sizeOf, typeInfo, hi]

theorem run_isAgg' {P : Program} {t : TypeId} {d : TypeDesc} (h : P.underlying t = some d) (w : World) : (isAgg t).run P w = .ok (aggT P t) w := by
  unfold aggT
  simp only [isAgg, Sem.run_bind, run_underlying h, Result.andThen_ok, h]
  cases d <;> rfl

theorem flatD_append : ∀ (ks ls : List SK) (xs ys : List D) (r : Bool), flatD (ks ++ ls) xs ys = some r →
    ∃ r1 r2, flatD ks (xs.take ks.length) (ys.take ks.length) = some r1 ∧ flatD ls (xs.drop ks.length) (ys.drop ks.length) = some r2 ∧ r = (r1 && r2)
  | [], ls, xs, ys, r, h => ⟨true, r, by simp [flatD], by simpa using h, by simp⟩
  | k :: ks, ls, xs, ys, r, h => by
    cases xs with
    | nil => cases k <;> simp [flatD] at h
    | cons x xs =>
      cases ys with
      | nil => cases k <;> simp [flatD] at h
      | cons y ys =>
        simp only [List.cons_append] at h
        cases k <;> cases x <;> (try (simp [flatD] at h; done)) <;> cases y <;> (try (simp [flatD] at h; done)) <;> simp only [flatD] at h
        · split at h
          · rename_i hk
            split at h
            · rename_i q hq
              obtain ⟨r1, r2, h1, h2, h3⟩ := flatD_append ks ls xs ys q hq
              simp only [Option.some.injEq] at h
              subst hk
              exact ⟨_, r2, by simp only [List.length_cons, List.take_succ_cons, flatD, if_true, h1]; rfl, by simpa using h2, by rw [← h, h3, Bool.and_assoc]⟩
            · cases h
          · cases h
        all_goals
          split at h
          · rename_i q hq
            obtain ⟨r1, r2, h1, h2, h3⟩ := flatD_append ks ls xs ys q hq
            simp only [Option.some.injEq] at h
            exact ⟨_, r2, by simp only [List.length_cons, List.take_succ_cons, flatD, h1]; rfl, by simpa using h2, by rw [← h, h3, Bool.and_assoc]⟩
          · cases h

theorem flatD_length : ∀ (ks : List SK) (xs ys : List D) (r : Bool), flatD ks xs ys = some r → xs.length = ks.length ∧ ys.length = ks.length
  | [], xs, ys, r, h => by cases xs <;> cases ys <;> simp [flatD] at h ⊢
  | k :: ks, xs, ys, r, h => by
    cases xs with
    | nil => cases k <;> simp [flatD] at h
    | cons x xs =>
      cases ys with
      | nil => cases k <;> simp [flatD] at h
      | cons y ys =>
        cases k <;> cases x <;> (try (simp [flatD] at h; done)) <;> cases y <;> (try (simp [flatD] at h; done)) <;> simp only [flatD] at h
        · split at h
          · split at h
            · rename_i q hq
              obtain ⟨h1, h2⟩ := flatD_length ks xs ys q hq
              exact ⟨by simp [h1], by simp [h2]⟩
            · cases h
          · cases h
        all_goals
          split at h
          · rename_i q hq
            obtain ⟨h1, h2⟩ := flatD_length ks xs ys q hq
            exact ⟨by simp [h1], by simp [h2]⟩
          · cases h

/-- The value of a type whose cells these are. -/
def valOf (P : Program) (t : TypeId) (cs : List Value) : Value := if aggT P t then .agg cs.toArray else cs.headD undef

theorem run_part {P : Program} {t : TypeId} {d : TypeDesc} (h : P.underlying t = some d) (h0 : 0 < szOf P t) (cs : List Value) (off : Nat) (hl : off + szOf P t ≤ cs.length) (w : World) :
    (part t cs.toArray off).run P w = .ok (valOf P t ((cs.drop off).take (szOf P t))) w := by
  simp only [part, Sem.run_bind, run_isAgg' h, Result.andThen_ok, valOf]
  cases ha : aggT P t with
  | true =>
    simp only [if_true, Sem.run_bind, run_sizeOf' h0, Result.andThen_ok, Sem.run_pure]
    congr 2
    apply Array.ext'
    simp
  | false =>
    simp only [Bool.false_eq_true, if_false]
    have hlt : off < cs.length := by omega
    have e : cs.toArray[off]? = some cs[off] := by simp [List.getElem?_eq_getElem hlt]
    rw [e]
    simp only [Sem.run_pure]
    congr 1
    rw [List.drop_eq_getElem_cons hlt]
    obtain ⟨n, hn⟩ : ∃ n, szOf P t = n + 1 := ⟨szOf P t - 1, by omega⟩
    rw [hn, List.take_succ_cons]
    rfl

theorem flat_eq (P : Program) (w : World) (I : Im) : ∀ (n : Nat) (t : TypeId) (ks : List SK), flatT P n t = some ks → ∀ (d : Nat), n ≤ d → ∀ (as bs : List D) (xs ys : List Value) (r : Bool),
    flatD ks as bs = some r → DRs I as xs → DRs I bs ys → (∃ e, P.underlying t = some e) ∧ (Op.equalIn d t (valOf P t xs) (valOf P t ys)).run P w = .ok r w
  | 0, t, ks, h, d, hd, as, bs, xs, ys, r, hf, hx, hy => by simp [flatT] at h
  | n + 1, t, ks, h, 0, hd, as, bs, xs, ys, r, hf, hx, hy => by omega
  | n + 1, t, ks, h, d + 1, hd, as, bs, xs, ys, r, hf, hx, hy => by
    unfold flatT at h
    split at h
    · rename_i k hu
      simp only [Option.some.injEq] at h; subst h
      refine ⟨⟨_, hu⟩, ?_⟩
      have ha : aggT P t = false := by simp [aggT, hu]
      have hl := flatD_length _ _ _ _ hf
      match as, bs, hl with
      | [a], [b], _ =>
        cases a <;> (try (simp [flatD] at hf; done)) <;> cases b <;> (try (simp [flatD] at hf; done))
        simp only [DRs, DR] at hx hy
        obtain ⟨v, r', rfl, rfl, rfl⟩ := hx
        obtain ⟨v', r'', rfl, rfl, rfl⟩ := hy
        simp [flatD] at hf
        obtain ⟨rfl, hf⟩ := hf
        simp only [valOf, ha, Bool.false_eq_true, if_false, List.headD_cons]
        rw [run_equalIn_int w d t _ k _ _ hu, hf]
    · rename_i hu
      simp only [Option.some.injEq] at h; subst h
      refine ⟨⟨_, hu⟩, ?_⟩
      have ha : aggT P t = false := by simp [aggT, hu]
      have hl := flatD_length _ _ _ _ hf
      match as, bs, hl with
      | [a], [b], _ =>
        cases a <;> (try (simp [flatD] at hf; done)) <;> cases b <;> (try (simp [flatD] at hf; done))
        simp only [DRs, DR] at hx hy
        obtain ⟨v, r', rfl, rfl, rfl⟩ := hx
        obtain ⟨v', r'', rfl, rfl, rfl⟩ := hy
        simp [flatD] at hf
        simp only [valOf, ha, Bool.false_eq_true, if_false, List.headD_cons]
        rw [run_equalIn_bool' w d t _ _ hu, hf]
    · rename_i hu
      simp only [Option.some.injEq] at h; subst h
      refine ⟨⟨_, hu⟩, ?_⟩
      have ha : aggT P t = false := by simp [aggT, hu]
      have hl := flatD_length _ _ _ _ hf
      match as, bs, hl with
      | [a], [b], _ =>
        cases a <;> (try (simp [flatD] at hf; done)) <;> cases b <;> (try (simp [flatD] at hf; done))
        simp only [DRs, DR] at hx hy
        obtain ⟨v, r', rfl, rfl, rfl⟩ := hx
        obtain ⟨v', r'', rfl, rfl, rfl⟩ := hy
        simp [flatD] at hf
        simp only [valOf, ha, Bool.false_eq_true, if_false, List.headD_cons]
        rw [run_equalIn_string w d t _ _ hu, toList_mk, toList_mk, hf]
    · rename_i fs hu
      refine ⟨⟨_, hu⟩, ?_⟩
      have ha : aggT P t = true := by simp [aggT, hu]
      split at h
      · rename_i hst
        have hfo : P.fieldsOf t = fs := by simp [Program.fieldsOf, hu]
        simp only [valOf, ha, if_true]
        rw [run_equalIn_struct w d t _ _ (by rw [hfo]; exact hu) hst, hfo]
        have key : ∀ (l : List Field) (off : Nat) (ks : List SK), flatFields (flatT P n) (szOf P) l off = some ks → ∀ r, flatD ks (as.drop off) (bs.drop off) = some r →
            (Op.eqFields d xs.toArray ys.toArray l).run P w = .ok r w := by
          intro l
          induction l with
          | nil =>
            intro off ks h r hf
            simp only [flatFields, Option.some.injEq] at h; subst h
            cases ha : as.drop off <;> cases hb : bs.drop off <;> rw [ha, hb] at hf <;> simp [flatD] at hf
            subst hf
            simp [Op.eqFields]
          | cons f l ih =>
            intro off ks h r hf
            simp only [flatFields] at h
            split at h
            · rename_i hn
              obtain ⟨hn, ho⟩ := hn
              split at h
              · rename_i k1 hk1
                split at h
                · rename_i hs
                  obtain ⟨hs, h0⟩ := hs
                  split at h
                  · rename_i ls hls
                    simp only [Option.some.injEq] at h; subst h
                    obtain ⟨r1, r2, g1, g2, g3⟩ := flatD_append k1 ls _ _ r hf
                    have l1 := (flatD_length _ _ _ _ hf)
                    rw [List.length_drop, List.length_append] at l1
                    have lx := DRs_length hx
                    have ly := DRs_length hy
                    obtain ⟨⟨e, he⟩, hrec⟩ := flat_eq P w I n f.type k1 hk1 d (by omega) _ _ ((xs.drop off).take k1.length) ((ys.drop off).take k1.length) r1 g1 (DRs_take (DRs_drop hx off) _) (DRs_take (DRs_drop hy off) _)
                    have ih' := ih (off + k1.length) ls hls r2 (by rw [← List.drop_drop, ← List.drop_drop]; exact g2)
                    have p1 := run_part he (by omega) xs f.offset (by rw [ho, ← hs]; rw [List.length_drop] at l1; omega) w
                    have p2 := run_part he (by omega) ys f.offset (by rw [ho, ← hs]; rw [List.length_drop] at l1; omega) w
                    rw [ho, ← hs] at p1 p2
                    simp only [Op.eqFields, hn, ne_eq, not_false_eq_true, if_true, Sem.run_bind, ho, p1, p2, Result.andThen_ok, hrec]
                    cases r1
                    · simp [g3]
                    · simp [g3, ih']
                  · cases h
                · cases h
              · cases h
            · cases h
        have := key fs.toList 0 ks h r (by simpa using hf)
        exact this
      · cases h
    · cases h
end Go.Proofs.YteafabpedfgedaaGreatDoor.Am
end
/- The engine's quiet operations, second part: tests, reads of memory, indexes, cuts. -/
section
set_option linter.unusedSimpArgs false
set_option linter.unusedVariables false
namespace Go.Proofs.YteafabpedfgedaaGreatDoor.Am
open Go

theorem SR.at_alive {c : Cx} {σ : List Ob} (h : SR c σ) {o : Nat} (ha : alive σ o = true) : c.loc o ≠ .dead ∧ c.loc o ≠ .unborn := by
  unfold alive at ha
  cases hx : σ[o]? with
  | none => simp [hx] at ha
  | some x =>
    have r := h.get hx
    constructor
    · intro e
      rw [e] at r
      cases x with
      | dead => simp [hx] at ha
      | box cs => obtain ⟨b, _, e, _⟩ := r; cases e
      | vec sz cs => obtain ⟨b, _, e, _⟩ := r; cases e
      | arr s mk es => rcases r with ⟨e, _⟩ | ⟨b, base, e, _⟩ <;> cases e
      | map es clk => obtain ⟨b, e, _⟩ := r; cases e
      | mit m since seen last => obtain ⟨b, e, _⟩ := r; cases e
      | sit s p => obtain ⟨b, e, _⟩ := r; cases e
    · intro e
      rw [e] at r
      exact OR.not_unborn r

theorem vr_ptr {c : Cx} {σ : List Ob} (h : SR c σ) {o i k : Nat} {v : Value} (ha : alive σ o = true) (r : c.vr (.ptr o i k) v) :
    ∃ b base sz, c.loc o = .here b base sz ∧ v = .pointer (some ⟨b, base + i * sz + k, none⟩) := by
  have hd := h.at_alive ha
  simp only [Cx.vr, VR] at r
  cases e : c.loc o with
  | unborn => exact (hd.2 e).elim
  | dead => exact (hd.1 e).elim
  | nil => rw [e] at r; exact r.elim
  | here b base sz => rw [e] at r; exact ⟨b, base, sz, rfl, r⟩

theorem vr_mp {c : Cx} {σ : List Ob} (h : SR c σ) {o : Nat} {v : Value} (ha : alive σ o = true) (r : c.vr (.mp o) v) :
    ∃ b base sz, c.loc o = .here b base sz ∧ v = .map (some b) := by
  have hd := h.at_alive ha
  simp only [Cx.vr, VR] at r
  cases e : c.loc o with
  | unborn => exact (hd.2 e).elim
  | dead => exact (hd.1 e).elim
  | nil => rw [e] at r; exact r.elim
  | here b base sz => rw [e] at r; exact ⟨b, base, sz, rfl, r⟩

theorem isPtrT_some {P : Program} {t : TypeId} (h : isPtrT P t = true) : ∃ e, P.underlying t = some (.pointer e) := by
  unfold isPtrT at h
  split at h
  · exact ⟨_, by assumption⟩
  · cases h
theorem isMapT_some {P : Program} {t : TypeId} (h : isMapT P t = true) : ∃ k e, P.underlying t = some (.map k e) := by
  unfold isMapT at h
  split at h
  · exact ⟨_, _, by assumption⟩
  · cases h
theorem isBoolT_some {P : Program} {t : TypeId} (h : isBoolT P t = true) : P.underlying t = some .bool := by
  unfold isBoolT at h
  split at h
  · assumption
  · cases h
theorem isStrT_some {P : Program} {t : TypeId} (h : isStrT P t = true) : P.underlying t = some .string := by
  unfold isStrT at h
  split at h
  · assumption
  · cases h

theorem equal_ptr {P : Program} {w : World} {t el : TypeId} (h : P.underlying t = some (.pointer el)) (a : Option Addr) : (Op.equal t (.pointer a) (.pointer none)).run P w = .ok a.isNone w := by
  have key : ∀ d, (Op.equalIn (d + 1) t (.pointer a) (.pointer none)).run P w = .ok a.isNone w := by
    intro d
    cases a <;> simp [Op.equalIn, run_underlying h]
  exact key 9999
theorem equal_map {P : Program} {w : World} {t k el : TypeId} (h : P.underlying t = some (.map k el)) (a : Option Nat) : (Op.equal t (.map a) (.map none)).run P w = .ok a.isNone w := by
  have key : ∀ d, (Op.equalIn (d + 1) t (.map a) (.map none)).run P w = .ok a.isNone w := by
    intro d
    cases a <;> simp [Op.equalIn, run_underlying h]
  exact key 9999

theorem equal_slice {P : Program} {w : World} {t el : TypeId} (h : P.underlying t = some (.slice el)) (a : Option Addr) (n cap : Nat) : (Op.equal t (.slice a n cap) (.slice none 0 0)).run P w = .ok a.isNone w := by
  have key : ∀ d, (Op.equalIn (d + 1) t (.slice a n cap) (.slice none 0 0)).run P w = .ok a.isNone w := by
    intro d
    cases a <;> simp [Op.equalIn, run_underlying h]
  exact key 9999
theorem isSlice_some {P : Program} {t : TypeId} (h : (elemOfSlice P t).isSome = true) : ∃ e, P.underlying t = some (.slice e) := by
  unfold elemOfSlice at h
  split at h
  · exact ⟨_, by assumption⟩
  · cases h

/-- What '==' comes to where 'Op.equal' and the guard are known. -/
theorem eql_of {P : Program} {w : World} {t : TypeId} {ox oy : Operand} {x y : Value} {r : Bool} (hg : ∀ op, (eqGuard op t ox oy x y).run P w = .ok () w) (he : (Op.equal t x y).run P w = .ok r w)
    (h1 : binOp .eql t x y = (do pure (.bool (← Op.equal t x y)))) (h2 : binOp .neq t x y = (do pure (.bool (!(← Op.equal t x y))))) :
    (do eqGuard .eql t ox oy x y; binOp .eql t x y : Sem Value).run P w = .ok (.bool r) w ∧ (do eqGuard .neq t ox oy x y; binOp .neq t x y : Sem Value).run P w = .ok (.bool (!r)) w := by
  constructor
  · rw [h1, Sem.run_bind, hg]; simp [he]
  · rw [h2, Sem.run_bind, hg]; simp [he]

theorem eqv_sound {P : Program} {t : TypeId} {c : Cx} {σ : List Ob} (h : SR c σ) {x y : V} {vx vy : Value} {r : Bool} (e : eqv P t σ x y = some r) (hx : c.vr x vx) (hy : c.vr y vy) (ox oy : Operand) :
    (do eqGuard .eql t ox oy vx vy; binOp .eql t vx vy : Sem Value).run P c.w = .ok (.bool r) c.w ∧ (do eqGuard .neq t ox oy vx vy; binOp .neq t vx vy : Sem Value).run P c.w = .ok (.bool (!r)) c.w := by
  unfold eqv at e
  split at e
  · rename_i a b
    split at e
    · rename_i ht
      simp only [Option.some.injEq] at e; subst e
      simp only [Cx.vr, VR, DR] at hx hy; subst hx; subst hy
      exact eql_of (fun op => by rw [eqGuard_at_bool]; rfl) (run_equalIn_bool' c.w 9999 t a b (isBoolT_some ht)) (by simp [binOp]) (by simp [binOp])
    · cases e
  · rename_i o i k
    split at e
    · rename_i ht
      simp only [Bool.and_eq_true] at ht
      simp only [Option.some.injEq] at e; subst e
      obtain ⟨b, base, sz, _, rfl⟩ := vr_ptr h ht.2 hx
      simp only [Cx.vr, VR, DR] at hy; subst hy
      obtain ⟨el, hel⟩ := isPtrT_some ht.1
      exact eql_of (fun op => by rw [eqGuard_at_pointer]; rfl) (equal_ptr hel _) (by simp [binOp]) (by simp [binOp])
    · cases e
  · split at e
    · rename_i ht
      simp only [Option.some.injEq] at e; subst e
      simp only [Cx.vr, VR, DR] at hx hy; subst hx; subst hy
      obtain ⟨el, hel⟩ := isPtrT_some ht
      exact eql_of (fun op => by rw [eqGuard_at_pointer]; rfl) (equal_ptr hel _) (by simp [binOp]) (by simp [binOp])
    · cases e
  · split at e
    · rename_i ht
      simp only [Option.some.injEq] at e; subst e
      simp only [Cx.vr, VR, DR] at hx hy; subst hy
      obtain ⟨b, off, vs, rfl, _⟩ := hx
      obtain ⟨el, hel⟩ := isPtrT_some ht
      exact eql_of (fun op => by rw [eqGuard_at_pointer]; rfl) (equal_ptr hel _) (by simp [binOp]) (by simp [binOp])
    · cases e
  · rename_i o
    split at e
    · rename_i ht
      simp only [Bool.and_eq_true] at ht
      simp only [Option.some.injEq] at e; subst e
      obtain ⟨b, base, sz, _, rfl⟩ := vr_mp h ht.2 hx
      simp only [Cx.vr, VR, DR] at hy; subst hy
      obtain ⟨k, el, hel⟩ := isMapT_some ht.1
      exact eql_of (fun op => by rw [eqGuard_at_map]; rfl) (equal_map hel _) (by simp [binOp]) (by simp [binOp])
    · cases e
  · split at e
    · rename_i ht
      simp only [Option.some.injEq] at e; subst e
      simp only [Cx.vr, VR, DR] at hx hy; subst hx; subst hy
      obtain ⟨k, el, hel⟩ := isMapT_some ht
      exact eql_of (fun op => by rw [eqGuard_at_map]; rfl) (equal_map hel _) (by simp [binOp]) (by simp [binOp])
    · cases e
  · split at e
    · rename_i ht
      simp only [Option.some.injEq] at e; subst e
      simp only [Cx.vr, VR, DR] at hx hy; subst hx; subst hy
      obtain ⟨el, hel⟩ := isSlice_some ht
      exact eql_of (fun op => by rw [eqGuard_at_slice]; rfl) (equal_slice hel _ _ _) (by simp [binOp]) (by simp [binOp])
    · cases e
  · cases e

theorem mapM_d : ∀ (cs : List V) (ds : List D), (cs.mapM fun | .d x => some x | _ => none) = some ds → cs = ds.map .d
  | [], ds, h => by simp at h; simp [h]
  | x :: cs, ds, h => by
    cases x <;> simp only [List.mapM_cons, Option.bind_eq_bind, Option.bind_some, Option.bind_none] at h <;> try (cases h; done)
    rename_i d
    cases hm : (cs.mapM fun | .d x => some x | _ => none) with
    | none => rw [hm] at h; simp at h
    | some es => rw [hm] at h; simp at h; subst h; simp [mapM_d cs es hm]

theorem vr_ds {c : Cx} {x : V} {ds : List D} (h : x.ds = some ds) {v : Value} (r : c.vr x v) : ∃ vs : List Value, v = .agg vs.toArray ∧ DRs c.im ds vs := by
  unfold V.ds at h
  split at h
  · simp only [Option.some.injEq] at h; subst h
    simpa [Cx.vr, VR, DR] using r
  · have := mapM_d _ _ h
    subst this
    simp only [Cx.vr, VR] at r
    obtain ⟨vs, h1, h2⟩ := r
    exact ⟨vs, h1, VRs_map_d.1 h2⟩
  · cases h

theorem aggEq_sound {P : Program} {t : TypeId} {c : Cx} {x y : V} {vx vy : Value} {r : Bool} (e : aggEq P t x y = some r) (hx : c.vr x vx) (hy : c.vr y vy) (ox oy : Operand) :
    (do eqGuard .eql t ox oy vx vy; binOp .eql t vx vy : Sem Value).run P c.w = .ok (.bool r) c.w ∧ (do eqGuard .neq t ox oy vx vy; binOp .neq t vx vy : Sem Value).run P c.w = .ok (.bool (!r)) c.w := by
  unfold aggEq at e
  split at e
  · rename_i a b ks ha hb hk
    split at e
    · rename_i hg
      obtain ⟨xs, rfl, gx⟩ := vr_ds ha hx
      obtain ⟨ys, rfl, gy⟩ := vr_ds hb hy
      have := (flat_eq P c.w c.im 8 t ks hk 10000 (by omega) a b xs ys r e gx gy).2
      simp only [valOf, hg.2, if_true] at this
      constructor
      · rw [Sem.run_bind, run_eqGuard_agg _ _ _ _ _ _ _ hg.1, Result.andThen_ok, run_eql_struct, this, Result.andThen_ok]
      · rw [Sem.run_bind, run_eqGuard_agg _ _ _ _ _ _ _ hg.1, Result.andThen_ok, run_neq_struct, this, Result.andThen_ok]
    · cases e
  · cases e

theorem binF_sound {P : Program} {op : BinOp} {t : TypeId} {c : Cx} {σ : List Ob} (h : SR c σ) {x y r : V} {vx vy : Value} (e : binF P op t σ x y = some r) (hx : c.vr x vx) (hy : c.vr y vy) (ox oy : Operand) :
    ∃ v, (do eqGuard op t ox oy vx vy; binOp op t vx vy : Sem Value).run P c.w = .ok v c.w ∧ c.vr r v := by
  unfold binF at e
  split at e
  · rename_i k a k' b
    simp only [Cx.vr, VR, DR] at hx hy; subst hx; subst hy
    have sh : (intShift op k a b).map V.d = some r → ∃ v, (do eqGuard op t ox oy (.int k a) (.int k' b); binOp op t (.int k a) (.int k' b) : Sem Value).run P c.w = .ok v c.w ∧ c.vr r v := by
      intro e
      cases hr : intShift op k a b with
      | none => rw [hr] at e; cases e
      | some d =>
        rw [hr] at e; simp at e; subst e
        obtain ⟨v, h1, h2⟩ := intShift_sound (k' := k') hr P t c.im c.w ox oy
        exact ⟨v, h1, by simpa [Cx.vr, VR] using h2⟩
    split at e
    · exact sh e
    · exact sh e
    · split at e
      · rename_i hk
        subst hk
        cases hr : intBin op k a b with
        | none => rw [hr] at e; cases e
        | some d =>
          rw [hr] at e; simp at e; subst e
          obtain ⟨v, h1, h2⟩ := intBin_sound hr P t c.im c.w ox oy
          exact ⟨v, h1, by simpa [Cx.vr, VR] using h2⟩
      · cases e
  · rename_i a b
    simp only [Cx.vr, VR, DR] at hx hy; subst hx; subst hy
    cases hr : strBin op a b with
    | none => rw [hr] at e; cases e
    | some d =>
      rw [hr] at e; simp at e; subst e
      obtain ⟨v, h1, h2⟩ := strBin_sound hr P t c.im c.w ox oy
      exact ⟨v, h1, by simpa [Cx.vr, VR] using h2⟩
  · split at e
    · split at e
      · rename_i q hq
        simp only [Option.some.injEq] at e; subst e
        exact ⟨_, (eqv_sound h hq hx hy ox oy).1, by simp [Cx.vr, VR, DR]⟩
      · cases hq : aggEq P t x y with
        | none => rw [hq] at e; cases e
        | some q =>
          rw [hq] at e; simp at e; subst e
          exact ⟨_, (aggEq_sound hq hx hy ox oy).1, by simp [Cx.vr, VR, DR]⟩
    · split at e
      · rename_i q hq
        simp only [Option.some.injEq] at e; subst e
        exact ⟨_, (eqv_sound h hq hx hy ox oy).2, by simp [Cx.vr, VR, DR]⟩
      · cases hq : aggEq P t x y with
        | none => rw [hq] at e; cases e
        | some q =>
          rw [hq] at e; simp at e; subst e
          exact ⟨_, (aggEq_sound hq hx hy ox oy).2, by simp [Cx.vr, VR, DR]⟩
    · cases e

theorem unF_sound {P : Program} {op : UnOp} {c : Cx} {x r : V} {vx : Value} (e : unF op x = some r) (hx : c.vr x vx) : ∃ v, (Op.unary op vx).run P c.w = .ok v c.w ∧ c.vr r v := by
  unfold unF at e
  split at e
  · simp only [Cx.vr, VR, DR] at hx; subst hx
    split at e
    · simp only [Option.some.injEq] at e; subst e; exact ⟨_, rfl, by simp [Cx.vr, VR, DR]⟩
    · cases e
  · simp only [Cx.vr, VR, DR] at hx; subst hx
    split at e
    · simp only [Option.some.injEq] at e; subst e; exact ⟨_, rfl, by simp [Cx.vr, VR, DR]⟩
    · simp only [intBin, Option.map_some, Option.some.injEq] at e; subst e
      exact ⟨_, rfl, by simp [Cx.vr, VR, DR]⟩
    · cases e
  · cases e

/-! ### memory that is read -/

/-- How many cells a datum that is known takes. -/
def D.csz : D → Option Nat
  | .any => none
  | .agg cs => some cs.length
  | _ => some 1

theorem DR_csz {I : Im} {d : D} {v : Value} {n : Nat} (h : DR I d v) (hc : d.csz = some n) : v.cells.size = n ∧ d.cells.length = n ∧ DRs I d.cells v.cells.toList := by
  cases d with
  | any => simp [D.csz] at hc
  | agg cs =>
    simp only [DR] at h
    obtain ⟨vs, rfl, h⟩ := h
    simp only [D.csz, Option.some.injEq] at hc
    refine ⟨by simp [Value.cells, DRs_length h, hc], by simp [D.cells, hc], by simpa [D.cells, Value.cells] using h⟩
  | lst sz es =>
    have h' := h
    simp only [DR] at h'
    obtain ⟨a, cap, rfl, _⟩ := h'
    simp only [D.csz, Option.some.injEq] at hc
    subst hc
    exact ⟨rfl, rfl, by simpa [D.cells, Value.cells, DRs] using h⟩
  | ifc t x =>
    have h' := h
    simp only [DR] at h'
    obtain ⟨a, rfl, _⟩ := h'
    simp only [D.csz, Option.some.injEq] at hc
    subst hc
    exact ⟨rfl, rfl, by simpa [D.cells, Value.cells, DRs] using h⟩
  | _ =>
    simp only [D.csz, Option.some.injEq] at hc
    subst hc
    have h' := h
    simp only [DR] at h'
    subst h'
    exact ⟨rfl, rfl, by simp [D.cells, Value.cells, DRs, DR]⟩

def okT (P : Program) (t : TypeId) : Bool := (P.underlying t).isSome

def takeD (P : Program) (t : TypeId) (cs : List D) : Option V :=
  if aggT P t then (if 0 < szOf P t ∧ szOf P t ≤ cs.length then some (.d (.agg (cs.take (szOf P t)))) else none)
  else match cs with
    | x :: _ => if okT P t then some (.d x) else none
    | [] => none

def takeV (P : Program) (t : TypeId) (cs : List V) : Option V :=
  if aggT P t then (if 0 < szOf P t ∧ szOf P t ≤ cs.length then some (.agg (cs.take (szOf P t))) else none)
  else match cs with
    | x :: _ => if okT P t then some x else none
    | [] => none

def loadF (P : Program) (t : TypeId) (σ : List Ob) : V → Option V
  | .ptr o i k => match σ[o]? with
    | some (.box cs) => if i = 0 then takeV P t (cs.drop k) else none
    | some (.vec sz cs) => takeV P t (cs.drop (i * sz + k))
    | some (.arr sz _ es) => match es[i]? with
      | some e => if e.csz = some sz then takeD P t (e.cells.drop k) else none
      | none => none
    | _ => none
  | .ipt cs => takeD P t cs
  | _ => none

theorem okT_some {P : Program} {t : TypeId} (h : okT P t = true) : ∃ d, P.underlying t = some d := Option.isSome_iff_exists.1 h
theorem aggT_ok {P : Program} {t : TypeId} (h : aggT P t = true) : ∃ d, P.underlying t = some d := by
  unfold aggT at h
  split at h
  · exact ⟨_, by assumption⟩
  · exact ⟨_, by assumption⟩
  · cases h

theorem run_loadVar' {P : Program} {w : World} {t : TypeId} {b off : Nat} {vs : List Value} (hr : ∀ j, j < vs.length → w.cell? ⟨b, off + j, none⟩ = vs[j]?) :
    (aggT P t = true → 0 < szOf P t → szOf P t ≤ vs.length → (loadVar t ⟨b, off, none⟩).run P w = .ok (.agg (vs.take (szOf P t)).toArray) w) ∧
    (aggT P t = false → okT P t = true → ∀ v, vs.head? = some v → (loadVar t ⟨b, off, none⟩).run P w = .ok v w) := by
  constructor
  · intro ha h0 hl
    obtain ⟨d, hd⟩ := aggT_ok ha
    have hc := run_loadCells_list (P := P) w ⟨b, off, none⟩ (vs.take (szOf P t)) (by
      intro j v hj
      rw [Addr.add_lit]
      have hlt : j < szOf P t := by
        have := List.getElem?_eq_some_iff.1 hj
        have := this.1
        simp at this; omega
      rw [hr j (by omega)]
      rw [List.getElem?_take] at hj
      simpa [hlt] using hj)
    rw [List.length_take_of_le hl] at hc
    simp only [loadVar, Sem.run_bind, run_isAgg' hd, ha, Result.andThen_ok, if_true, run_sizeOf' h0, hc, Sem.run_pure]
  · intro ha ho v hv
    obtain ⟨d, hd⟩ := okT_some ho
    cases vs with
    | nil => cases hv
    | cons x vs =>
      simp at hv; subst hv
      have := hr 0 (by simp)
      simp only [Nat.add_zero, List.getElem?_cons_zero] at this
      simp only [loadVar, Sem.run_bind, run_isAgg' hd, ha, Result.andThen_ok, Bool.false_eq_true, if_false, run_load, this]

theorem takeD_sound {P : Program} {t : TypeId} {c : Cx} {cs : List D} {r : V} (e : takeD P t cs = some r) {b off : Nat} {vs : List Value} (hv : DRs c.im cs vs) (hr : ∀ j, j < vs.length → c.w.cell? ⟨b, off + j, none⟩ = vs[j]?) :
    ∃ v, (loadVar t ⟨b, off, none⟩).run P c.w = .ok v c.w ∧ c.vr r v := by
  obtain ⟨h1, h2⟩ := run_loadVar' (P := P) (t := t) hr
  have hl := DRs_length hv
  unfold takeD at e
  split at e
  · rename_i ha
    split at e
    · rename_i hs
      simp only [Option.some.injEq] at e; subst e
      exact ⟨_, h1 ha hs.1 (by omega), by simp only [Cx.vr, VR, DR]; exact ⟨_, rfl, DRs_take hv _⟩⟩
    · cases e
  · rename_i ha
    split at e
    · split at e
      · rename_i ho
        simp only [Option.some.injEq] at e; subst e
        simp only [DRs] at hv
        obtain ⟨v, t', rfl, hv, _⟩ := hv
        exact ⟨v, h2 (by simpa using ha) ho v rfl, by simpa [Cx.vr, VR] using hv⟩
      · cases e
    · cases e

theorem takeV_sound {P : Program} {t : TypeId} {c : Cx} {cs : List V} {r : V} (e : takeV P t cs = some r) {b off : Nat} {vs : List Value} (hv : c.vrs cs vs) (hr : ∀ j, j < vs.length → c.w.cell? ⟨b, off + j, none⟩ = vs[j]?) :
    ∃ v, (loadVar t ⟨b, off, none⟩).run P c.w = .ok v c.w ∧ c.vr r v := by
  obtain ⟨h1, h2⟩ := run_loadVar' (P := P) (t := t) hr
  have hl := VRs_length hv
  unfold takeV at e
  split at e
  · rename_i ha
    split at e
    · rename_i hs
      simp only [Option.some.injEq] at e; subst e
      exact ⟨_, h1 ha hs.1 (by omega), by simp only [Cx.vr, VR]; exact ⟨_, rfl, VRs_take hv _⟩⟩
    · cases e
  · rename_i ha
    split at e
    · split at e
      · rename_i ho
        simp only [Option.some.injEq] at e; subst e
        simp only [Cx.vrs, VRs] at hv
        obtain ⟨v, t', rfl, hv, _⟩ := hv
        exact ⟨v, h2 (by simpa using ha) ho v rfl, hv⟩
      · cases e
    · cases e

theorem cell?_cells {w : World} {b : Nat} {arr : Array Value} {e : TypeId} {f : Nat × Nat} (h : w.heap[b]? = some (.cells arr e f)) (off : Nat) : w.cell? ⟨b, off, none⟩ = arr[off]? := by
  simp [World.cell?, h]

/-- What lies where an owned pointer points to. -/
theorem box_at {c : Cx} {σ : List Ob} (h : SR c σ) {o k : Nat} {cs : List V} (hx : σ[o]? = some (.box cs)) {v : Value} (r : c.vr (.ptr o 0 k) v) :
    ∃ b sz arr e f, c.loc o = .here b 0 sz ∧ v = .pointer (some ⟨b, k, none⟩) ∧ c.w.heap[b]? = some (.cells arr e f) ∧ Unfrozen f arr.size ∧ ∃ vs rest, arr.toList = vs ++ rest ∧ c.vrs cs vs := by
  obtain ⟨b, sz, hl, arr, e, f, h1, h2, h3⟩ := h.get hx
  simp only [Cx.vr, VR, hl] at r
  exact ⟨b, sz, arr, e, f, hl, by simpa using r, h1, h2, h3⟩

theorem vec_at {c : Cx} {σ : List Ob} (h : SR c σ) {o i k sz : Nat} {cs : List V} (hx : σ[o]? = some (.vec sz cs)) {v : Value} (r : c.vr (.ptr o i k) v) :
    ∃ b base arr e f, c.loc o = .here b base sz ∧ v = .pointer (some ⟨b, base + (i * sz + k), none⟩) ∧ 0 < sz ∧ c.w.heap[b]? = some (.cells arr e f) ∧ Unfrozen f arr.size ∧ ∃ us : List Value, base + us.length ≤ arr.size ∧ (∀ j, j < us.length → arr[base + j]? = us[j]?) ∧ c.vrs cs us := by
  obtain ⟨b, base, hl, h0, arr, e, f, h1, h2, h3⟩ := h.get hx
  simp only [Cx.vr, VR, hl] at r
  exact ⟨b, base, arr, e, f, hl, by rw [r, Nat.add_assoc], h0, h1, h2, h3⟩

theorem arr_at {c : Cx} {σ : List Ob} (h : SR c σ) {o i k sz : Nat} {mk : Bool} {es : List D} (hx : σ[o]? = some (.arr sz mk es)) {v : Value} (r : c.vr (.ptr o i k) v) :
    ∃ b base arr e f, c.loc o = .here b base sz ∧ v = .pointer (some ⟨b, base + i * sz + k, none⟩) ∧ 0 < sz ∧ c.w.heap[b]? = some (.cells arr e f) ∧ Unfrozen f (arr.size + (if mk then 0 else 1)) ∧ base + es.length * sz ≤ arr.size ∧ RowsR c.im es b base sz := by
  rcases h.get hx with ⟨hl, _⟩ | ⟨b, base, hl, h0, arr, e, f, h1, h2, h3, h4⟩
  · simp only [Cx.vr, VR, hl] at r
  · simp only [Cx.vr, VR, hl] at r
    exact ⟨b, base, arr, e, f, hl, r, h0, h1, h2, h3, h4⟩

theorem loadF_sound {P : Program} {t : TypeId} {c : Cx} {σ : List Ob} (h : SR c σ) {x r : V} {vx : Value} (e : loadF P t σ x = some r) (hx : c.vr x vx) : ∃ v, (Instr.loadAt t vx).run P c.w = .ok v c.w ∧ c.vr r v := by
  unfold loadF at e
  split at e
  · rename_i o i k
    split at e
    · rename_i cs hcs
      split at e
      · rename_i hi
        subst hi
        obtain ⟨b, bs, arr, ty, f, hl, rfl, h1, h2, us, rest, hu, h3⟩ := box_at h hcs hx
        obtain ⟨v, hr, hv⟩ := takeV_sound (b := b) (off := k) e (VRs_drop h3 k) (fun j hj => by
          rw [List.length_drop] at hj
          rw [cell?_cells h1, ← Array.getElem?_toList, hu, List.getElem?_append_left (by omega), List.getElem?_drop])
        exact ⟨v, by simpa [Instr.loadAt, Instr.sureAddr] using hr, hv⟩
      · cases e
    · rename_i sz cs hcs
      obtain ⟨b, base, arr, ty, f, hl, rfl, h0, h1, h2, us, hle, hat, h3⟩ := vec_at h hcs hx
      obtain ⟨v, hr, hv⟩ := takeV_sound (b := b) (off := base + (i * sz + k)) e (VRs_drop h3 (i * sz + k)) (fun j hj => by
        rw [List.length_drop] at hj
        rw [cell?_cells h1, Nat.add_assoc base, hat _ (by omega), List.getElem?_drop])
      exact ⟨v, by simpa [Instr.loadAt, Instr.sureAddr] using hr, hv⟩
    · rename_i sz mk es hes
      split at e
      · rename_i d hd
        split at e
        · rename_i hc
          obtain ⟨b, base, arr, ty, f, hl, rfl, h0, h1, h2, h3, h4⟩ := arr_at h hes hx
          obtain ⟨u, g1, g2, g3⟩ := RowsR_get h4 i hd
          obtain ⟨q1, q2, q3⟩ := DR_csz g1 hc
          obtain ⟨v, hr, hv⟩ := takeD_sound (c := c) (b := b) (off := base + i * sz + k) e (DRs_drop q3 k) (fun j hj => by
            simp at hj
            have := g3 (k + j) (by omega)
            simp only [Cx.im] at this
            rw [Nat.add_assoc, this]; simp)
          exact ⟨v, by simpa [Instr.loadAt, Instr.sureAddr] using hr, hv⟩
        · cases e
      · cases e
    · cases e
  · rename_i cs
    simp only [Cx.vr, VR] at hx
    obtain ⟨b, off, vs, rfl, h1, h2, h3⟩ := hx
    obtain ⟨v, hr, hv⟩ := takeD_sound (c := c) (b := b) (off := off) e h2 (fun j hj => h3 j (by rw [← DRs_length h2]; exact hj))
    exact ⟨v, by simpa [Instr.loadAt, Instr.sureAddr] using hr, hv⟩
  · cases e
end Go.Proofs.YteafabpedfgedaaGreatDoor.Am
end
/- The engine's quiet operations, third part, and all of them in one function. -/
section
set_option linter.unusedSimpArgs false
set_option linter.unusedVariables false
namespace Go.Proofs.YteafabpedfgedaaGreatDoor.Am
open Go

theorem fld_some {P : Program} {s f off : Nat} {t : TypeId} (h : fld P s f = some (off, t)) : ∃ fs x, P.underlying s = some (.struct fs) ∧ fs[f]? = some x ∧ x.offset = off ∧ x.type = t := by
  unfold fld at h
  split at h
  · rename_i fs hs
    cases hx : fs[f]? with
    | none => rw [hx] at h; cases h
    | some x => rw [hx] at h; simp at h; exact ⟨fs, x, hs, hx, h.1, h.2⟩
  · cases h

def fieldAddrF (P : Program) (s f : Nat) (σ : List Ob) (x : V) : Option V :=
  match fld P s f with
  | some (off, t) => if 0 < szOf P t then
      match x with
      | .ptr o i k => if alive σ o then some (.ptr o i (k + off)) else none
      | .ipt cs => some (.ipt (cs.drop off))
      | _ => none
    else none
  | none => none

theorem fieldAddrF_sound {P : Program} {s f : Nat} {c : Cx} {σ : List Ob} (h : SR c σ) {x r : V} {vx : Value} (e : fieldAddrF P s f σ x = some r) (hx : c.vr x vx) : ∃ v, (Instr.fieldAt s vx f).run P c.w = .ok v c.w ∧ c.vr r v := by
  unfold fieldAddrF at e
  split at e
  · rename_i off t hf
    obtain ⟨fs, fx, h1, h2, rfl, rfl⟩ := fld_some hf
    split at e
    · rename_i h0
      have hz := run_sizeOf' h0 c.w
      have hne : ¬ szOf P fx.type = 0 := by omega
      have run : ∀ b o, (Instr.fieldAt s (.pointer (some ⟨b, o, none⟩)) f).run P c.w = .ok (.pointer (some ⟨b, o + fx.offset, none⟩)) c.w := by
        intro b o
        simp only [Instr.fieldAt, Sem.run_bind, run_underlying h1, Result.andThen_ok, h2, Instr.sureAddr, Sem.run_pure, fieldPlace, hz, hne, if_false, Addr.add_lit]
      split at e
      · rename_i o i k
        split at e
        · rename_i ha
          simp only [Option.some.injEq] at e; subst e
          obtain ⟨b, base, sz, hl, rfl⟩ := vr_ptr h ha hx
          exact ⟨_, run _ _, by simp only [Cx.vr, VR, hl, Nat.add_assoc]⟩
        · cases e
      · rename_i cs
        simp only [Option.some.injEq] at e; subst e
        simp only [Cx.vr, VR] at hx
        obtain ⟨b, off, vs, rfl, g1, g2, g3⟩ := hx
        refine ⟨_, run _ _, ?_⟩
        simp only [Cx.vr, VR]
        refine ⟨b, off + fx.offset, vs.drop fx.offset, rfl, g1, DRs_drop g2 _, fun j hj => ?_⟩
        rw [List.length_drop] at hj
        rw [Nat.add_assoc, g3 _ (by omega), List.getElem?_drop]
      · cases e
    · cases e
  · cases e

def fieldF (P : Program) (s f : Nat) (x : V) : Option V :=
  match fld P s f with
  | some (off, t) => match x with
    | .d (.agg cs) => takeD P t (cs.drop off)
    | .agg cs => takeV P t (cs.drop off)
    | _ => none
  | none => none

theorem takeD_part {P : Program} {t : TypeId} {I : Im} {cs : List D} {off : Nat} {r : V} (e : takeD P t (cs.drop off) = some r) {vs : List Value} (hv : DRs I cs vs) (w : World) (l : Nat → Loc) :
    ∃ v, (part t vs.toArray off).run P w = .ok v w ∧ VR I w l r v := by
  have hl := DRs_length hv
  unfold takeD at e
  split at e
  · rename_i ha
    split at e
    · rename_i hs
      obtain ⟨hs0, hs⟩ := hs
      simp only [Option.some.injEq] at e; subst e
      obtain ⟨d, hd⟩ := aggT_ok ha
      rw [List.length_drop] at hs
      refine ⟨_, run_part hd hs0 vs off (by omega) w, ?_⟩
      simp only [valOf, ha, if_true, VR, DR]
      exact ⟨_, rfl, DRs_take (DRs_drop hv _) _⟩
    · cases e
  · rename_i ha
    split at e
    · rename_i x tl hx
      split at e
      · rename_i ho
        simp only [Option.some.injEq] at e; subst e
        obtain ⟨d, hd⟩ := okT_some ho
        have hx' : cs[off]? = some x := by
          have := congrArg (·[0]?) hx
          simpa using this
        obtain ⟨v, h1, h2⟩ := DRs_get hv off hx'
        have : vs.toArray[off]? = some v := by simpa using h1
        refine ⟨v, ?_, by simpa [VR] using h2⟩
        simp only [part, Sem.run_bind, run_isAgg' hd, ha, Result.andThen_ok, Bool.false_eq_true, if_false, this, Sem.run_pure]
      · cases e
    · cases e

theorem takeV_part {P : Program} {t : TypeId} {I : Im} {cs : List V} {off : Nat} {r : V} {w : World} {l : Nat → Loc} (e : takeV P t (cs.drop off) = some r) {vs : List Value} (hv : VRs I w l cs vs) :
    ∃ v, (part t vs.toArray off).run P w = .ok v w ∧ VR I w l r v := by
  have hl := VRs_length hv
  unfold takeV at e
  split at e
  · rename_i ha
    split at e
    · rename_i hs
      obtain ⟨hs0, hs⟩ := hs
      simp only [Option.some.injEq] at e; subst e
      obtain ⟨d, hd⟩ := aggT_ok ha
      rw [List.length_drop] at hs
      refine ⟨_, run_part hd hs0 vs off (by omega) w, ?_⟩
      simp only [valOf, ha, if_true, VR]
      exact ⟨_, rfl, VRs_take (VRs_drop hv _) _⟩
    · cases e
  · rename_i ha
    split at e
    · rename_i x tl hx
      split at e
      · rename_i ho
        simp only [Option.some.injEq] at e; subst e
        obtain ⟨d, hd⟩ := okT_some ho
        have hx' : cs[off]? = some x := by
          have := congrArg (·[0]?) hx
          simpa using this
        obtain ⟨v, h1, h2⟩ := VRs_get hv off hx'
        have : vs.toArray[off]? = some v := by simpa using h1
        refine ⟨v, ?_, h2⟩
        simp only [part, Sem.run_bind, run_isAgg' hd, ha, Result.andThen_ok, Bool.false_eq_true, if_false, this, Sem.run_pure]
      · cases e
    · cases e

theorem fieldF_sound {P : Program} {s f : Nat} {c : Cx} {x r : V} {vx : Value} (e : fieldF P s f x = some r) (hx : c.vr x vx) : ∃ v, (Instr.field s vx f).run P c.w = .ok v c.w ∧ c.vr r v := by
  unfold fieldF at e
  split at e
  · rename_i off t hf
    obtain ⟨fs, fx, h1, h2, rfl, rfl⟩ := fld_some hf
    split at e
    · simp only [Cx.vr, VR, DR] at hx
      obtain ⟨vs, rfl, hv⟩ := hx
      obtain ⟨v, g1, g2⟩ := takeD_part e hv c.w c.loc
      exact ⟨v, by simp only [Instr.field, Sem.run_bind, run_underlying h1, Result.andThen_ok, h2, asAgg, Sem.run_pure, g1], g2⟩
    · simp only [Cx.vr, VR] at hx
      obtain ⟨vs, rfl, hv⟩ := hx
      obtain ⟨v, g1, g2⟩ := takeV_part e hv
      exact ⟨v, by simp only [Instr.field, Sem.run_bind, run_underlying h1, Result.andThen_ok, h2, asAgg, Sem.run_pure, g1], g2⟩
    · cases e
  · cases e

/-! ### indexes and cuts -/
def arrSz (σ : List Ob) (o : Nat) : Nat := match σ[o]? with | some (.arr sz _ _) => sz | _ => 0

def arrT (P : Program) (t : TypeId) : Option (Nat × TypeId) := match P.underlying t with | some (.array n e) => some (n, e) | _ => none

def indexAddrF (P : Program) (t : TypeId) (σ : List Ob) (x ix : V) : Option V :=
  match ix with
  | .d (.int _ i) => match x with
    | .sl o off len => match elemOfSlice P t with
      | some e => match σ[o]? with
        | some (.box _) => if 0 < szOf P e ∧ off = 0 then (if 0 ≤ i ∧ i < len then some (.ptr o 0 (i.toNat * szOf P e)) else none) else none
        | some (.vec sz _) => if 0 < szOf P e ∧ sz = szOf P e then (if 0 ≤ i ∧ i < len then some (.ptr o (off + i.toNat) 0) else none) else none
        | _ => if 0 < szOf P e ∧ arrSz σ o = szOf P e then (if 0 ≤ i ∧ i < len then some (.ptr o (off + i.toNat) 0) else none) else none
      | none => none
    | .d (.lst sz es) => match elemOfSlice P t with
      | some e => if sz = szOf P e ∧ 0 ≤ i then match es[i.toNat]? with
          | some d => if d.csz = some sz then some (.ipt d.cells) else none
          | none => none
        else none
      | none => none
    | .ptr o j k => match arrT P t with
      | some (n, e) => if 0 < szOf P e ∧ alive σ o = true then (if 0 ≤ i ∧ i < n then some (.ptr o j (k + i.toNat * szOf P e)) else none) else none
      | none => none
    | .ipt cs => match arrT P t with
      | some (n, e) => if 0 < szOf P e then (if 0 ≤ i ∧ i < n then some (.ipt (cs.drop (i.toNat * szOf P e))) else none) else none
      | none => none
    | _ => none
  | _ => none

theorem elemOfSlice_some {P : Program} {t e : TypeId} (h : elemOfSlice P t = some e) : P.underlying t = some (.slice e) := by
  unfold elemOfSlice at h
  split at h
  · simp at h; subst h; assumption
  · cases h
theorem arrT_some {P : Program} {t e : TypeId} {n : Nat} (h : arrT P t = some (n, e)) : P.underlying t = some (.array n e) := by
  unfold arrT at h
  split at h
  · simp at h; obtain ⟨rfl, rfl⟩ := h; assumption
  · cases h

theorem arrSz_some {σ : List Ob} {o n : Nat} (h : arrSz σ o = n) (h0 : 0 < n) : ∃ mk es, σ[o]? = some (.arr n mk es) := by
  unfold arrSz at h
  split at h
  · subst h; exact ⟨_, _, by assumption⟩
  · omega

/-- What is known of an owned slice's value. -/
theorem vr_sl {c : Cx} {σ : List Ob} (h : SR c σ) {o off len sz : Nat} {mk : Bool} {es : List D} {v : Value} (hx : σ[o]? = some (.arr sz mk es)) (r : c.vr (.sl o off len) v) :
    (c.loc o = .nil ∧ v = .slice none 0 0 ∧ off = 0 ∧ len = 0 ∧ es = []) ∨
    ∃ b base a cap arr e f, c.loc o = .here b base sz ∧ v = .slice (some ⟨b, a, none⟩) len cap ∧ len ≤ cap ∧ (0 < cap → a = base + off * sz) ∧ 0 < sz ∧
      c.w.heap[b]? = some (.cells arr e f) ∧ (a ≤ arr.size ∧ base + (off + cap) * sz = arr.size) ∧ Unfrozen f (arr.size + (if mk then 0 else 1)) ∧ base + es.length * sz ≤ arr.size ∧ RowsR c.im es b base sz := by
  rcases h.get hx with ⟨hl, he⟩ | ⟨b, base, hl, h0, arr, e, f, h1, h2, h3, h4⟩
  · simp only [Cx.vr, VR, hl] at r
    exact .inl ⟨hl, r.1, r.2.1, r.2.2, he⟩
  · simp only [Cx.vr, VR, hl] at r
    obtain ⟨a, cap, rfl, g1, g2, cs, e', f', g3, g4⟩ := r
    rw [h1] at g3
    simp only [Option.some.injEq, Obj.cells.injEq] at g3
    obtain ⟨rfl, rfl, rfl⟩ := g3
    exact .inr ⟨b, base, a, cap, arr, e, f, hl, rfl, g1, g2, h0, h1, g4, h2, h3, h4⟩

theorem indexAddrF_sound {P : Program} {t : TypeId} {c : Cx} {σ : List Ob} (h : SR c σ) {x ix r : V} {vx vi : Value} (e : indexAddrF P t σ x ix = some r) (hx : c.vr x vx) (hi : c.vr ix vi) :
    ∃ v, (Instr.indexAt t vx vi).run P c.w = .ok v c.w ∧ c.vr r v := by
  unfold indexAddrF at e
  split at e
  · rename_i k i
    simp only [Cx.vr, VR, DR] at hi; subst hi
    split at e
    · rename_i o off len
      split at e
      · rename_i el hel
        split at e
        · rename_i cs hcs
          split at e
          · rename_i hs
            obtain ⟨hs0, rfl⟩ := hs
            split at e
            · rename_i hb
              simp only [Option.some.injEq] at e; subst e
              have hu := elemOfSlice_some hel
              obtain ⟨b, bs, hl, arr, ty, f, h1, h2, h3⟩ := h.get hcs
              simp only [Cx.vr, VR, hl] at hx
              obtain ⟨a, cap, rfl, g1, g2, _⟩ := hx
              have ha := g2 (by omega)
              refine ⟨.pointer (some ⟨b, a + i.toNat * szOf P el, none⟩), ?_, ?_⟩
              · simp only [Instr.indexAt, asIntOf, Sem.run_bind, Sem.run_pure, Result.andThen_ok, run_underlying hu, hb, and_self, if_true, run_sizeOf' hs0, Addr.add_lit]
              · simp only [Cx.vr, VR, hl, ha, Nat.zero_mul, Nat.zero_add]
            · cases e
          · cases e
        · rename_i sz cs hcs
          split at e
          · rename_i hs
            obtain ⟨hs0, rfl⟩ := hs
            split at e
            · rename_i hb
              simp only [Option.some.injEq] at e; subst e
              have hu := elemOfSlice_some hel
              obtain ⟨b, base, hl, h0, arr, ty, f, h1, h2, h3⟩ := h.get hcs
              simp only [Cx.vr, VR, hl] at hx
              obtain ⟨a, cap, rfl, g1, g2, _⟩ := hx
              have ha := g2 (by omega)
              refine ⟨.pointer (some ⟨b, a + i.toNat * szOf P el, none⟩), ?_, ?_⟩
              · simp only [Instr.indexAt, asIntOf, Sem.run_bind, Sem.run_pure, Result.andThen_ok, run_underlying hu, hb, and_self, if_true, run_sizeOf' hs0, Addr.add_lit]
              · simp only [Cx.vr, VR, hl, ha, Nat.add_zero, Nat.add_mul, Nat.add_assoc]
            · cases e
          · cases e
        split at e
        · rename_i hs
          split at e
          · rename_i hb
            simp only [Option.some.injEq] at e; subst e
            obtain ⟨mk, es, hes⟩ := arrSz_some hs.2 hs.1
            have hu := elemOfSlice_some hel
            rcases vr_sl h hes hx with ⟨_, _, _, h4, _⟩ | ⟨b, base, a, cap, arr, ty, f, hl, rfl, g1, g2, g3, g4, g5, g6, g7, g8⟩
            · omega
            · have ha := g2 (by omega)
              refine ⟨.pointer (some ⟨b, a + i.toNat * szOf P el, none⟩), ?_, ?_⟩
              · simp only [Instr.indexAt, asIntOf, Sem.run_bind, Sem.run_pure, Result.andThen_ok, run_underlying hu, hb, and_self, if_true, run_sizeOf' hs.1, Addr.add_lit]
              · simp only [Cx.vr, VR, hl, ha, Nat.add_zero, Nat.add_mul]
                congr 3; omega
          · cases e
        · cases e
      · cases e
    · rename_i sz es
      split at e
      · rename_i el hel
        split at e
        · rename_i h0
          obtain ⟨hsz, h0⟩ := h0
          subst hsz
          split at e
          · rename_i d hd
            split at e
            · rename_i hc
              simp only [Option.some.injEq] at e; subst e
              simp only [Cx.vr, VR, DR] at hx
              obtain ⟨ad, cap, rfl, g1, g2⟩ := hx
              have hlt := (List.getElem?_eq_some_iff.1 hd).1
              rcases g2 with g2 | ⟨b, off, rfl, gs, g3, g4⟩
              · subst g2; simp at hlt
              · obtain ⟨u, q1, q2, q3⟩ := RowsR_get g4 _ hd
                obtain ⟨p1, p2, p3⟩ := DR_csz q1 hc
                have hu := elemOfSlice_some hel
                have hb : 0 ≤ i ∧ i < (es.length : Int) := by omega
                refine ⟨.pointer (some ⟨b, off + i.toNat * szOf P el, none⟩), ?_, ?_⟩
                · simp only [Instr.indexAt, asIntOf, Sem.run_bind, Sem.run_pure, Result.andThen_ok, run_underlying hu, hb, and_self, if_true, run_sizeOf' gs, Addr.add_lit]
                · simp only [Cx.vr, VR]
                  refine ⟨b, _, u.cells.toList, rfl, g3, p3, fun j hj => ?_⟩
                  rw [q3 j (by omega)]
                  simp
            · cases e
          · cases e
        · cases e
      · cases e
    · rename_i o j k'
      split at e
      · rename_i n el hel
        split at e
        · rename_i hs
          split at e
          · rename_i hb
            simp only [Option.some.injEq] at e; subst e
            obtain ⟨b, base, sz, hl, rfl⟩ := vr_ptr h hs.2 hx
            have hu := arrT_some hel
            refine ⟨.pointer (some ⟨b, base + j * sz + k' + i.toNat * szOf P el, none⟩), ?_, ?_⟩
            · simp only [Instr.indexAt, asIntOf, Sem.run_bind, Sem.run_pure, Result.andThen_ok, run_underlying hu, hb, and_self, if_true, run_sizeOf' hs.1, Addr.add_lit, Instr.sureAddr]
            · simp only [Cx.vr, VR, hl, Nat.add_assoc]
          · cases e
        · cases e
      · cases e
    · rename_i cs
      split at e
      · rename_i n el hel
        split at e
        · rename_i hs
          split at e
          · rename_i hb
            simp only [Option.some.injEq] at e; subst e
            simp only [Cx.vr, VR] at hx
            obtain ⟨b, off, vs, rfl, g1, g2, g3⟩ := hx
            have hu := arrT_some hel
            refine ⟨.pointer (some ⟨b, off + i.toNat * szOf P el, none⟩), ?_, ?_⟩
            · simp only [Instr.indexAt, asIntOf, Sem.run_bind, Sem.run_pure, Result.andThen_ok, run_underlying hu, hb, and_self, if_true, run_sizeOf' hs, Addr.add_lit, Instr.sureAddr]
            · simp only [Cx.vr, VR]
              refine ⟨b, _, vs.drop (i.toNat * szOf P el), rfl, g1, DRs_drop g2 _, fun j hj => ?_⟩
              rw [List.length_drop] at hj
              rw [Nat.add_assoc, g3 _ (by omega), List.getElem?_drop]
          · cases e
        · cases e
      · cases e
    · cases e
  · cases e

/-- The bounds of a cut: low, high. -/
def bnd : Option V → Nat → Option Nat
  | none, d => some d
  | some (.d (.int _ i)), _ => if 0 ≤ i then some i.toNat else none
  | _, _ => none

/-- 'x[lo:hi:mx]' of a list: where no bound is given nothing is cut. -/
def cutD (es : List D) (lo hi : Option Nat) : List D :=
  match lo, hi with
  | none, none => es
  | some l, none => es.drop l
  | none, some h => es.take h
  | some l, some h => (es.take h).drop l

def natOf : V → Option Nat
  | .d (.int _ i) => if 0 ≤ i then some i.toNat else none
  | _ => none

def optNat : Option V → Option (Option Nat)
  | none => some none
  | some x => (natOf x).map some

def cutS (s : List UInt8) (lo hi : Option Nat) : List UInt8 :=
  match lo, hi with
  | none, none => s
  | some l, none => s.drop l
  | none, some h => s.take h
  | some l, some h => (s.take h).drop l

def sliceF (P : Program) (t : TypeId) (σ : List Ob) (x : V) (lo hi mx : Option V) : Option V :=
  match optNat lo, optNat hi, optNat mx with
  | some lo, some hi, some mx =>
    match x with
    | .d (.str s) => if mx = none ∧ isStrT P t = true then (if lo.getD 0 ≤ hi.getD s.length ∧ hi.getD s.length ≤ s.length then some (.d (.str (cutS s lo hi))) else none) else none
    | .d (.lst sz es) => match elemOfSlice P t with
      | some e => if (mx = none ∨ hi ≠ none) ∧ 0 < szOf P e ∧ sz = szOf P e then (if lo.getD 0 ≤ hi.getD es.length ∧ hi.getD es.length ≤ mx.getD es.length ∧ mx.getD es.length ≤ es.length then
          some (.d (.lst sz (cutD es lo hi))) else none) else none
      | none => none
    | .d .nils => match elemOfSlice P t with
      | some e => if lo.getD 0 = 0 ∧ hi.getD 0 = 0 ∧ mx = none ∧ 0 < szOf P e then some (.d .nils) else none
      | none => none
    | .sl o off len => match elemOfSlice P t with
      | some e => match σ[o]? with
        | some (.arr sz _ es) => if (mx = none ∨ hi ≠ none) ∧ 0 < szOf P e ∧ sz = szOf P e then
            (if lo.getD 0 ≤ hi.getD len ∧ hi.getD len ≤ mx.getD (hi.getD len) ∧ (mx.getD (hi.getD len) ≤ len ∨ off + mx.getD (hi.getD len) ≤ es.length) then some (match mx with | none => .sl o (off + lo.getD 0) (hi.getD len - lo.getD 0) | some _ => .undef) else none) else none
        | some (.vec sz cs) => if (mx = none ∨ hi ≠ none) ∧ 0 < szOf P e ∧ sz = szOf P e then
            (if lo.getD 0 ≤ hi.getD len ∧ hi.getD len ≤ mx.getD (hi.getD len) ∧ (mx.getD (hi.getD len) ≤ len ∨ (off + mx.getD (hi.getD len)) * sz ≤ cs.length) then some (match mx with | none => .sl o (off + lo.getD 0) (hi.getD len - lo.getD 0) | some _ => .undef) else none) else none
        | _ => none
      | none => none
    | _ => none
  | _, _, _ => none

theorem natOf_some {c : Cx} {x : V} {n : Nat} (h : natOf x = some n) {v : Value} (r : c.vr x v) : ∃ k : IntKind, v = .int k (n : Int) := by
  unfold natOf at h
  split at h
  · rename_i k i
    split at h
    · simp at h
      simp only [Cx.vr, VR, DR] at r
      exact ⟨k, by rw [r, ← h]; congr 1; omega⟩
    · cases h
  · cases h

def ovr (c : Cx) : Option V → Option Value → Prop
  | some x, some v => c.vr x v
  | none, none => True
  | _, _ => False

theorem optNat_some {c : Cx} {x : Option V} {n : Option Nat} (h : optNat x = some n) {v : Option Value} (r : ovr c x v) :
    (n = none ∧ v = none) ∨ ∃ (m : Nat) (k : IntKind), n = some m ∧ v = some (.int k (m : Int)) := by
  cases x with
  | none =>
    simp [optNat] at h
    cases v with
    | none => exact .inl ⟨h.symm, rfl⟩
    | some v => exact r.elim
  | some x =>
    simp only [optNat] at h
    cases hn : natOf x with
    | none => rw [hn] at h; cases h
    | some m =>
      rw [hn] at h; simp at h; subst h
      cases v with
      | none => exact r.elim
      | some v =>
        obtain ⟨k, rfl⟩ := natOf_some hn r
        exact .inr ⟨m, k, rfl, rfl⟩

theorem run_bound {P : Program} (w : World) (k : IntKind) (m y : Nat) (code : BoundsCode) (h : m ≤ y) : (Instr.sliceBound (.int k (m : Int)) y code).run P w = .ok m w := by
  have : (0 : Int) ≤ m ∧ (m : Int) ≤ (y : Int) := by omega
  simp [Instr.sliceBound, asIntOf, this]

/-- What the bounds come to. -/
theorem run_bounds {P : Program} (w : World) (isS : Bool) (len cap : Nat) (lo hi mx : Option Nat) (vlo vhi vmx : Option Value)
    (hlo : (lo = none ∧ vlo = none) ∨ ∃ (m : Nat) (k : IntKind), lo = some m ∧ vlo = some (.int k (m : Int)))
    (hhi : (hi = none ∧ vhi = none) ∨ ∃ (m : Nat) (k : IntKind), hi = some m ∧ vhi = some (.int k (m : Int)))
    (hmx : (mx = none ∧ vmx = none) ∨ ∃ (m : Nat) (k : IntKind), mx = some m ∧ vmx = some (.int k (m : Int)))
    (h0 : mx = none ∨ hi ≠ none) (hle : len ≤ cap) (h1 : lo.getD 0 ≤ hi.getD len) (h2 : hi.getD len ≤ mx.getD cap) (h3 : mx.getD cap ≤ cap) :
    (Instr.sliceBounds isS len cap vlo vhi vmx).run P w = .ok (lo.getD 0, hi.getD len, mx.getD cap) w := by
  rcases hmx with ⟨rfl, rfl⟩ | ⟨m, km, rfl, rfl⟩ <;> rcases hhi with ⟨rfl, rfl⟩ | ⟨h, kh, rfl, rfl⟩ <;> rcases hlo with ⟨rfl, rfl⟩ | ⟨l, kl, rfl, rfl⟩ <;> simp only [Option.getD_none, Option.getD_some] at h1 h2 h3 ⊢
  all_goals first
    | (simp at h0; done)
    | simp [Instr.sliceBounds, run_bound, h1, h2, h3]

theorem cutS_eq (s : List UInt8) (lo hi : Option Nat) : cutS s lo hi = (s.take (hi.getD s.length)).drop (lo.getD 0) := by
  cases lo <;> cases hi <;> simp [cutS]
theorem cutD_eq (s : List D) (lo hi : Option Nat) : cutD s lo hi = (s.take (hi.getD s.length)).drop (lo.getD 0) := by
  cases lo <;> cases hi <;> simp [cutD]

theorem extract_mk (s : List UInt8) (l h : Nat) : (⟨s.toArray⟩ : ByteArray).extract l h = ⟨((s.take h).drop l).toArray⟩ := by
  apply ByteArray.ext
  rw [ByteArray.data_extract]
  apply Array.ext'
  simp [List.extract_eq_take_drop, List.drop_take]

theorem sliceF_sound {P : Program} {t : TypeId} {c : Cx} {σ : List Ob} (h : SR c σ) {x r : V} {lo hi mx : Option V} {vx : Value} {vlo vhi vmx : Option Value} (e : sliceF P t σ x lo hi mx = some r) (hx : c.vr x vx)
    (hlo : ovr c lo vlo) (hhi : ovr c hi vhi) (hmx : ovr c mx vmx) : ∃ v, (Instr.sliceAt t vx vlo vhi vmx).run P c.w = .ok v c.w ∧ c.vr r v := by
  unfold sliceF at e
  split at e
  · rename_i ln hn mn e1 e2 e3
    have b1 := optNat_some e1 hlo
    have b2 := optNat_some e2 hhi
    have b3 := optNat_some e3 hmx
    split at e
    · rename_i s
      split at e
      · rename_i h0
        split at e
        · rename_i h1
          simp only [Option.some.injEq] at e; subst e
          have hu := isStrT_some h0.2
          simp only [Cx.vr, VR, DR] at hx; subst hx
          have b3' : vmx = none := by
            rcases b3 with ⟨_, q⟩ | ⟨m, k, q, _⟩
            · exact q
            · rw [h0.1] at q; cases q
          subst b3'
          have hb := run_bounds (P := P) c.w false s.length s.length ln hn none vlo vhi none b1 b2 (.inl ⟨rfl, rfl⟩) (.inl rfl) (Nat.le_refl _) h1.1 (by simpa using h1.2) (by simp)
          refine ⟨.string ⟨((s.take (hn.getD s.length)).drop (ln.getD 0)).toArray⟩, ?_, ?_⟩
          · simp only [Instr.sliceAt, Sem.run_bind, run_underlying hu, Result.andThen_ok, Instr.slice, Option.isSome_none, Bool.false_eq_true, if_false, Sem.run_pure, size_mk, hb, extract_mk]
          · simp only [Cx.vr, VR, DR, cutS_eq]
        · cases e
      · cases e
    · rename_i sz es
      split at e
      · rename_i el hel
        split at e
        · rename_i h0
          obtain ⟨h0, hz, rfl⟩ := h0
          split at e
          · rename_i h1
            simp only [Option.some.injEq] at e; subst e
            have hu := elemOfSlice_some hel
            simp only [Cx.vr, VR, DR] at hx
            obtain ⟨a, cap, rfl, g1, g2⟩ := hx
            have hm2 : hn.getD es.length ≤ mn.getD cap := by
              cases mn with
              | none => have := h1.2.1; simp at this ⊢; omega
              | some m => exact h1.2.1
            have hm3 : mn.getD cap ≤ cap := by
              cases mn with
              | none => simp
              | some m => have := h1.2.2; simp at this ⊢; omega
            have hb := run_bounds (P := P) c.w true es.length cap ln hn mn vlo vhi vmx b1 b2 b3 h0 g1 h1.1 hm2 hm3
            have hh : hn.getD es.length ≤ es.length := by have := h1.2; omega
            refine ⟨.slice (if mn.getD cap = ln.getD 0 then a else a.map (·.add (ln.getD 0 * szOf P el))) (hn.getD es.length - ln.getD 0) (mn.getD cap - ln.getD 0), ?_, ?_⟩
            · simp only [Instr.sliceAt, Instr.slice, Sem.run_bind, run_underlying hu, Result.andThen_ok, hb, run_sizeOf' hz, Sem.run_pure]
            · simp only [Cx.vr, VR, DR, cutD_eq]
              have hlen : ((es.take (hn.getD es.length)).drop (ln.getD 0)).length = hn.getD es.length - ln.getD 0 := by
                rw [List.length_drop, List.length_take]; omega
              refine ⟨_, _, by rw [hlen], by rw [hlen]; omega, ?_⟩
              by_cases he : (es.take (hn.getD es.length)).drop (ln.getD 0) = []
              · exact .inl he
              · right
                rcases g2 with g2 | ⟨b, off, rfl, gs, g3, g4⟩
                · subst g2; simp at he
                · have hne : ¬ mn.getD cap = ln.getD 0 := by
                    intro q
                    apply he
                    apply List.eq_nil_of_length_eq_zero
                    omega
                  refine ⟨b, off + ln.getD 0 * szOf P el, by simp [hne, Addr.add_lit], gs, g3, RowsR_drop (RowsR_take g4 _) _⟩
          · cases e
        · cases e
      · cases e
    · split at e
      · rename_i el hel
        split at e
        · rename_i h0
          obtain ⟨h0, h1, rfl, hz⟩ := h0
          simp only [Option.some.injEq] at e; subst e
          have hu := elemOfSlice_some hel
          simp only [Cx.vr, VR, DR] at hx; subst hx
          have hb := run_bounds (P := P) c.w true 0 0 ln hn none vlo vhi vmx b1 b2 b3 (.inl rfl) (Nat.le_refl _) (by omega) (by simpa using h1) (by simp)
          refine ⟨.slice none 0 0, ?_, by simp [Cx.vr, VR, DR]⟩
          simp only [Instr.sliceAt, Instr.slice, Sem.run_bind, run_underlying hu, Result.andThen_ok, hb, run_sizeOf' hz, Sem.run_pure, h0, h1]
          simp
        · cases e
      · cases e
    · rename_i o off len
      split at e
      · rename_i el hel
        split at e
        · rename_i sz mk es hes
          split at e
          · rename_i h0
            obtain ⟨h0, hz, rfl⟩ := h0
            split at e
            · rename_i h1
              simp only [Option.some.injEq] at e; subst e
              have hu := elemOfSlice_some hel
              rcases vr_sl h hes hx with ⟨hl, rfl, rfl, rfl, rfl⟩ | ⟨b, base, a, cap, arr, ty, f, hl, rfl, g1, g2, g3, g4, g5, g6, g7, g8⟩
              · have h13 : mn.getD (hn.getD 0) ≤ 0 := by have := h1.2.2; simp at this; omega
                have hb := run_bounds (P := P) c.w true 0 0 ln hn mn vlo vhi vmx b1 b2 b3 h0 (Nat.le_refl _) h1.1 (by cases mn with
                  | none => simpa using h13
                  | some m => exact h1.2.1) (by cases mn with
                  | none => simp
                  | some m => exact h13)
                have z2 : hn.getD 0 = 0 := by have := h1.2.1; omega
                have z1 : ln.getD 0 = 0 := by omega
                have z3 : mn.getD 0 = 0 := by cases mn with
                  | none => rfl
                  | some m => simpa using h13
                refine ⟨.slice none 0 0, ?_, by cases mn <;> simp [Cx.vr, VR, hl, z1, z2]⟩
                simp only [Instr.sliceAt, Instr.slice, Sem.run_bind, run_underlying hu, Result.andThen_ok, hb, run_sizeOf' hz, Sem.run_pure, z1, z2, z3]
                simp
              · have hcap : es.length ≤ off + cap := by
                  have : base + es.length * szOf P el ≤ base + (off + cap) * szOf P el := by rw [g5.2]; exact g7
                  exact Nat.le_of_mul_le_mul_right (by omega : es.length * szOf P el ≤ (off + cap) * szOf P el) hz
                have hmc : mn.getD (hn.getD len) ≤ cap := by have := h1.2.2; omega
                have hm2 : hn.getD len ≤ mn.getD cap := by
                  cases mn with
                  | none => simpa using hmc
                  | some m => exact h1.2.1
                have hm3 : mn.getD cap ≤ cap := by
                  cases mn with
                  | none => simp
                  | some m => exact hmc
                have hb := run_bounds (P := P) c.w true len cap ln hn mn vlo vhi vmx b1 b2 b3 h0 g1 h1.1 hm2 hm3
                refine ⟨.slice (if mn.getD cap = ln.getD 0 then some ⟨b, a, none⟩ else (some ⟨b, a, none⟩ : Option Addr).map (·.add (ln.getD 0 * szOf P el))) (hn.getD len - ln.getD 0) (mn.getD cap - ln.getD 0), ?_, ?_⟩
                · simp only [Instr.sliceAt, Instr.slice, Sem.run_bind, run_underlying hu, Result.andThen_ok, hb, run_sizeOf' hz, Sem.run_pure]
                · cases mn with
                  | some m => simp [Cx.vr, VR]
                  | none =>
                    simp only [Cx.vr, VR, hl, Option.getD_none]
                    simp only [Option.getD_none] at hm2 hmc
                    have hlc : ln.getD 0 ≤ cap := by omega
                    have hoc : off + ln.getD 0 + (cap - ln.getD 0) = off + cap := by omega
                    by_cases q : cap = ln.getD 0
                    · refine ⟨a, cap - ln.getD 0, by rw [if_pos q], by omega, fun q' => by omega, arr, ty, f, g4, g5.1, ?_⟩
                      rw [hoc]; exact g5.2
                    · refine ⟨a + ln.getD 0 * szOf P el, cap - ln.getD 0, by simp [q, Addr.add_lit], by omega, fun q' => ?_, arr, ty, f, g4, ?_, ?_⟩
                      · rw [g2 (by omega), Nat.add_mul]; omega
                      · have q1 : off + ln.getD 0 ≤ off + cap := by omega
                        have q2 := Nat.mul_le_mul_right (szOf P el) q1
                        have q3 := g5.2
                        rw [Nat.add_mul] at q2
                        rw [g2 (by omega)]
                        omega
                      · rw [hoc]; exact g5.2
            · cases e
          · cases e
        · rename_i sz cs hes
          split at e
          · rename_i h0
            obtain ⟨h0, hz, rfl⟩ := h0
            split at e
            · rename_i h1
              simp only [Option.some.injEq] at e; subst e
              have hu := elemOfSlice_some hel
              obtain ⟨b, base, hl, _, arr, ty, f, g4, hfz, us, hule, hat, h3⟩ := h.get hes
              have hul := VRs_length h3
              simp only [Cx.vr, VR, hl] at hx
              obtain ⟨a, cap, rfl, g1, g2, cs', e', f', gh, g5⟩ := hx
              rw [g4] at gh
              simp only [Option.some.injEq, Obj.cells.injEq] at gh
              obtain ⟨rfl, rfl, rfl⟩ := gh
              · have hmc : mn.getD (hn.getD len) ≤ cap := by
                  rcases h1.2.2 with q | q
                  · omega
                  · have : (off + mn.getD (hn.getD len)) * szOf P el ≤ (off + cap) * szOf P el := by have := g5.2; omega
                    have := Nat.le_of_mul_le_mul_right this hz
                    omega
                have hm2 : hn.getD len ≤ mn.getD cap := by
                  cases mn with
                  | none => simpa using hmc
                  | some m => exact h1.2.1
                have hm3 : mn.getD cap ≤ cap := by
                  cases mn with
                  | none => simp
                  | some m => exact hmc
                have hb := run_bounds (P := P) c.w true len cap ln hn mn vlo vhi vmx b1 b2 b3 h0 g1 h1.1 hm2 hm3
                refine ⟨.slice (if mn.getD cap = ln.getD 0 then some ⟨b, a, none⟩ else (some ⟨b, a, none⟩ : Option Addr).map (·.add (ln.getD 0 * szOf P el))) (hn.getD len - ln.getD 0) (mn.getD cap - ln.getD 0), ?_, ?_⟩
                · simp only [Instr.sliceAt, Instr.slice, Sem.run_bind, run_underlying hu, Result.andThen_ok, hb, run_sizeOf' hz, Sem.run_pure]
                · cases mn with
                  | some m => simp [Cx.vr, VR]
                  | none =>
                    simp only [Cx.vr, VR, hl, Option.getD_none]
                    simp only [Option.getD_none] at hm2 hmc
                    have hlc : ln.getD 0 ≤ cap := by omega
                    have hoc : off + ln.getD 0 + (cap - ln.getD 0) = off + cap := by omega
                    by_cases q : cap = ln.getD 0
                    · refine ⟨a, cap - ln.getD 0, by rw [if_pos q], by omega, fun q' => by omega, arr, ty, f, g4, g5.1, ?_⟩
                      rw [hoc]; exact g5.2
                    · refine ⟨a + ln.getD 0 * szOf P el, cap - ln.getD 0, by simp [q, Addr.add_lit], by omega, fun q' => ?_, arr, ty, f, g4, ?_, ?_⟩
                      · rw [g2 (by omega), Nat.add_mul]; omega
                      · have q1 : off + ln.getD 0 ≤ off + cap := by omega
                        have q2 := Nat.mul_le_mul_right (szOf P el) q1
                        have q3 := g5.2
                        rw [Nat.add_mul] at q2
                        rw [g2 (by omega)]
                        omega
                      · rw [hoc]; exact g5.2
            · cases e
          · cases e
        · cases e
      · cases e
    · cases e
  · cases e
end Go.Proofs.YteafabpedfgedaaGreatDoor.Am
end
