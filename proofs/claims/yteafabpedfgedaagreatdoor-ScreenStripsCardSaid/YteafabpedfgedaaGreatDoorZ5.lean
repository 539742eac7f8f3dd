/- The engine's append. -/
import Derived.Test.YteafabpedfgedaaGreatDoorZ4
section
set_option linter.unusedSimpArgs false
set_option linter.unusedVariables false
namespace Go.Proofs.YteafabpedfgedaaGreatDoor.Am
open Go

abbrev flat (us : List Value) : List Value := us.flatMap fun u => u.cells.toList

theorem rows_values {I : Im} : ∀ {es : List D} {b off sz : Nat}, RowsR I es b off sz → ∃ us : List Value, DRs I es us ∧ (∀ u ∈ us, Flat u sz) ∧ ∀ j, j < (flat us).length → I.cell b (off + j) = (flat us)[j]?
  | [], b, off, sz, h => ⟨[], by simp [DRs], by simp, by simp⟩
  | d :: es, b, off, sz, h => by
    simp only [RowsR] at h
    obtain ⟨⟨v, h1, h2, h3⟩, h4⟩ := h
    obtain ⟨us, g1, g2, g3⟩ := rows_values h4
    refine ⟨v :: us, by simp only [DRs]; exact ⟨v, us, rfl, h1, g1⟩, fun u hu => by rcases List.mem_cons.1 hu with rfl | hu; exact h2; exact g2 u hu, fun j hj => ?_⟩
    have hl : v.cells.toList.length = sz := by simpa using h2.1
    simp only [flat, List.flatMap_cons] at hj ⊢
    by_cases q : j < sz
    · rw [List.getElem?_append_left (by omega), h3 j q]; simp
    · rw [List.length_append] at hj
      rw [List.getElem?_append_right (by omega), hl, ← g3 (j - sz) (by simp only [flat]; omega)]
      congr 1; omega

theorem flat_one {us : List Value} {sz : Nat} (h : ∀ u ∈ us, Flat u sz) : ∀ u ∈ flat us, u.oneCell' = true := by
  intro u hu
  obtain ⟨v, hv, hu⟩ := List.mem_flatMap.1 hu
  exact (h v hv).2 u hu

/-- What is appended, as data. -/
def srcD (P : Program) (e : TypeId) (σ : List Ob) (tx : TypeId) : V → Option (List D)
  | .d (.lst sz ds) => if isSliceT P tx = true ∧ sz = szOf P e then some ds else none
  | .d .nils => if isSliceT P tx then some [] else none
  | .sl o off len => match σ[o]? with
    | some (.arr sz _ es) => if isSliceT P tx = true ∧ sz = szOf P e ∧ off + len ≤ es.length then some ((es.drop off).take len) else none
    | _ => none
  | .d (.str s) => if isStrT P tx = true ∧ intT P e = some .u8 ∧ szOf P e = 1 then some (s.map u8D) else none
  | _ => none

/-- What an append needs to know of what is appended. -/
structure SrcOk (P : Program) (c : Cx) (sz : Nat) (tx : TypeId) (vx : Value) (ds : List D) (us : List Value) : Prop where
  dr : DRs c.im ds us
  fl : ∀ u ∈ us, Flat u sz
  src : Src P sz tx vx ds.length (flat us) c.w
  len : Builtin.lenOf vx = Sem.pure ds.length
  sh : ∀ ad m c', vx = .slice (some ad) m c' → m = ds.length ∧ (0 < m → ad.spot = none ∧ Room.holdsV c.w ad (m * sz) = true)

theorem cells_holds {w : World} {b off n : Nat} {arr : Array Value} {e : TypeId} {f : Nat × Nat} (h : w.heap[b]? = some (.cells arr e f)) (hl : off + n ≤ arr.size) : Room.holdsV w ⟨b, off, none⟩ n = true := by
  simp [Room.holdsV, World.shape?, h, hl]

theorem holds_of_cells {w : World} {b off n : Nat} (h0 : 0 < n) (h : ∃ v, w.cell? ⟨b, off + (n - 1), none⟩ = some v) : Room.holdsV w ⟨b, off, none⟩ n = true := by
  obtain ⟨v, h⟩ := h
  exact holdsV_of_last w b off n h0 (by rw [h]; rfl) n (Nat.le_refl _)

/-- In which block the memory of what is appended lies. -/
def inBlock (vx : Value) (b : Nat) : Prop := ∃ ad m c', vx = .slice (some ad) m c' ∧ 0 < m ∧ ad.block = b

theorem srcD_sound {P : Program} {e : TypeId} {tx : TypeId} {c : Cx} {σ : List Ob} (h : SR c σ) (h0 : 0 < szOf P e) {x : V} {ds : List D} (hx : srcD P e σ tx x = some ds) {vx : Value} (r : c.vr x vx) :
    (∃ us, SrcOk P c (szOf P e) tx vx ds us) ∧ ∀ b, inBlock vx b → c.im.ok b ∨ ∃ o off len base sz, x = .sl o off len ∧ c.loc o = .here b base sz := by
  unfold srcD at hx
  split at hx
  · rename_i sz ds'
    split at hx
    · rename_i hq
      obtain ⟨q1, rfl⟩ := hq
      simp only [Option.some.injEq] at hx; subst hx
      obtain ⟨el, hu⟩ := isSliceT_some q1
      simp only [Cx.vr, VR, DR] at r
      obtain ⟨a, cap, rfl, g1, g2⟩ := r
      rcases g2 with rfl | ⟨b, off, rfl, g3, g4, g5⟩
      · refine ⟨⟨[], by simp [DRs], by simp, ?_, rfl, fun ad m c' hq => by cases hq; exact ⟨rfl, fun z => by simp at z⟩⟩, ?_⟩
        · cases a with
          | none =>
            have : Builtin.lenOf (.slice none ([] : List D).length cap) = Sem.pure 0 := rfl
            exact ⟨.inl ⟨_, hu⟩, fun _ => rfl, by simp [Builtin.firstCells], by simp [Builtin.firstCells], by simp, by simp⟩
          | some a => exact Src.ofSlice c.w hu a 0 cap [] (by simp) (by simp) (by simp)
        · rintro b ⟨ad, m, c', hq, hm, _⟩
          cases hq; simp at hm
      · obtain ⟨us, p1, p2, p3⟩ := rows_values g5
        have hl := flat_length fun u hu => (p2 u hu).1
        have hlu := DRs_length p1
        refine ⟨⟨us, p1, p2, Src.ofSlice c.w hu ⟨b, off, none⟩ ds'.length cap (flat us) (by rw [← hlu]; exact hl) (fun j u hj => ?_) (flat_one p2), rfl, fun ad m c' hq => ?_⟩, ?_⟩
        · rw [Addr.add_lit, ← hj]
          exact p3 j (List.getElem?_eq_some_iff.1 hj).1
        · cases hq
          refine ⟨rfl, fun hm => ⟨rfl, ?_⟩⟩
          have hpos : 0 < ds'.length * szOf P e := Nat.mul_pos hm g3
          refine holds_of_cells hpos ⟨(flat us)[ds'.length * szOf P e - 1]'(by rw [hl, hlu]; omega), ?_⟩
          have := p3 (ds'.length * szOf P e - 1) (by rw [hl, hlu]; omega)
          rw [List.getElem?_eq_getElem] at this
          exact this
        · rintro b' ⟨ad, m, c', hq, hm, rfl⟩
          cases hq
          exact .inl g4
    · cases hx
  · split at hx
    · rename_i q1
      simp only [Option.some.injEq] at hx; subst hx
      obtain ⟨el, hu⟩ := isSliceT_some q1
      simp only [Cx.vr, VR, DR] at r; subst r
      refine ⟨⟨[], by simp [DRs], by simp, Src.ofNil c.w hu 0, rfl, fun ad m c' hq => by cases hq⟩, ?_⟩
      rintro b ⟨ad, m, c', hq, _⟩; cases hq
    · cases hx
  · rename_i o off len
    split at hx
    · rename_i sz mk es hes
      split at hx
      · rename_i hq
        obtain ⟨q1, rfl, q2⟩ := hq
        simp only [Option.some.injEq] at hx; subst hx
        obtain ⟨el, hu⟩ := isSliceT_some q1
        have hlen : ((es.drop off).take len).length = len := by rw [List.length_take, List.length_drop]; omega
        rcases vr_sl h hes r with ⟨hl, rfl, rfl, rfl, rfl⟩ | ⟨b, base, a, cap, arr, ty, f, hl, rfl, g1, g2, g3, g4, g5, g6, g7, g8⟩
        · refine ⟨⟨[], by simp [DRs], by simp, by simpa using Src.ofNil c.w hu 0, rfl, fun ad m c' hq => by cases hq⟩, ?_⟩
          rintro b ⟨ad, m, c', hq, _⟩; cases hq
        · by_cases hz : len = 0
          · subst hz
            refine ⟨⟨[], by simp [DRs], by simp, ?_, rfl, fun ad m c' hq => by cases hq; exact ⟨by simp, fun z => by omega⟩⟩, ?_⟩
            · simpa using Src.ofSlice (P := P) (size := szOf P e) c.w hu ⟨b, a, none⟩ 0 cap [] (by simp) (by simp) (by simp)
            · rintro b' ⟨ad, m, c', hq, hm, _⟩; cases hq; omega
          · have ha := g2 (by omega)
            obtain ⟨us, p1, p2, p3⟩ := rows_values (RowsR_take (RowsR_drop g8 off) len)
            have hfl := flat_length fun u hu => (p2 u hu).1
            have hlu := DRs_length p1
            rw [hlen] at hlu
            refine ⟨⟨us, p1, p2, ?_, by rw [hlen]; rfl, fun ad m c' hq => ?_⟩, ?_⟩
            · rw [hlen]
              exact Src.ofSlice c.w hu ⟨b, a, none⟩ len cap (flat us) (by rw [← hlu]; exact hfl) (fun j u hj => by
                rw [Addr.add_lit, ha, ← hj]
                exact p3 j (List.getElem?_eq_some_iff.1 hj).1) (flat_one p2)
            · cases hq
              refine ⟨hlen.symm, fun hm => ⟨rfl, cells_holds g4 ?_⟩⟩
              have : (off + len) * szOf P e ≤ (off + cap) * szOf P e := Nat.mul_le_mul_right _ (by omega)
              rw [Nat.add_mul] at this
              omega
            · rintro b' ⟨ad, m, c', hq, hm, rfl⟩
              cases hq
              exact .inr ⟨o, off, len, base, _, rfl, hl⟩
      · cases hx
    · cases hx
  · rename_i s
    split at hx
    · rename_i hq
      simp only [Option.some.injEq] at hx; subst hx
      simp only [Cx.vr, VR, DR] at r; subst r
      have hcells : flat (s.map fun b => Value.int .u8 b.toNat) = byteCells ⟨s.toArray⟩ := by
        unfold byteCells flat
        simp only [List.toList_toArray]
        induction s with
        | nil => rfl
        | cons b s ih => simp only [List.map_cons, List.flatMap_cons, ih]; rfl
      refine ⟨⟨s.map fun b => Value.int .u8 b.toNat, ?_, ?_, ?_, ?_, fun ad m c' hq => by cases hq⟩, ?_⟩
      · clear hcells
        induction s with
        | nil => simp [DRs]
        | cons b s ih => simp only [List.map_cons, DRs, u8D, DR]; exact ⟨_, _, rfl, rfl, ih⟩
      · intro u hu
        obtain ⟨b, _, rfl⟩ := List.mem_map.1 hu
        rw [hq.2.2]
        exact ⟨rfl, by simp [Value.cells, Value.oneCell']⟩
      · rw [hq.2.2, hcells]
        simpa [size_mk] using Src.ofString (P := P) c.w (isStrT_some hq.1) ⟨s.toArray⟩
      · simp [Builtin.lenOf, size_mk]; rfl
      · rintro b ⟨ad, m, c', hq, _⟩; cases hq
    · cases hx
  · cases hx
end Go.Proofs.YteafabpedfgedaaGreatDoor.Am
end
/- The engine's append: what comes of it. -/
section
set_option linter.unusedSimpArgs false
set_option linter.unusedVariables false
namespace Go.Proofs.YteafabpedfgedaaGreatDoor.Am
open Go

theorem nextslicecap_le {need old : Nat} (h : old < need) : Builtin.nextslicecap need old ≤ 2 * need + 256 := by
  unfold Builtin.nextslicecap
  split
  · omega
  · split
    · omega
    · have key : ∀ r c, c < 2 * need → Builtin.growBy need r c ≤ 2 * need + 256 := by
        intro r
        induction r with
        | zero => intro c hc; simp only [Builtin.growBy]; omega
        | succ r ih =>
          intro c hc
          simp only [Builtin.growBy]
          split
          · omega
          · by_cases hq : c + (c + 768) / 4 < 2 * need
            · exact ih _ hq
            · cases r with
              | zero => simp only [Builtin.growBy]; omega
              | succ r => simp only [Builtin.growBy]; rw [if_pos (by omega)]; omega
      exact key 4 old (by omega)

def notSame (o : Nat) : V → Bool
  | .sl o' _ _ => o' != o
  | _ => true

def bytesT (P : Program) (e : TypeId) : Nat := ((P.info? e).map (·.bytes)).getD 0

theorem cap_fits {need old b : Nat} (h : old < need) (h1 : need * b ≤ 70368744177664) (h2 : b ≤ 16384) : Builtin.nextslicecap need old * b ≤ 281474976710656 := by
  have h3 := nextslicecap_le h
  have h4 : Builtin.nextslicecap need old * b ≤ (2 * need + 256) * b := Nat.mul_le_mul_right _ h3
  have h5 : (2 * need + 256) * b = 2 * (need * b) + 256 * b := by rw [Nat.add_mul, Nat.mul_assoc]
  omega

def appendF (P : Program) (t tx : TypeId) (σ : List Ob) (dst src : V) : Option (V × List Ob) :=
  match elemOfSlice P t with
  | some e => if elemOk P e = true then
      match srcD P e σ tx src with
      | some ds => match dst with
        | .d .nils => if ds.length * bytesT P e ≤ 70368744177664 ∧ bytesT P e ≤ 16384 then some (.sl σ.length 0 ds.length, σ ++ [.arr (szOf P e) false ds]) else none
        | .sl o off len => match σ[o]? with
          | some (.arr sz mk es) => if sz = szOf P e ∧ off + len ≤ es.length ∧ (len + ds.length) * bytesT P e ≤ 70368744177664 ∧ bytesT P e ≤ 16384 then
              some (.sl σ.length 0 (len + ds.length), σ.set o .dead ++ [.arr sz mk ((es.drop off).take len ++ ds)]) else none
          | _ => none
        | _ => none
      | none => none
    else none
  | none => none

/-- A nil slice that is an object of its own. -/
theorem new_nil {c : Cx} {σ : List Ob} (h : SR c σ) (sz : Nat) (mk : Bool) :
    let c' : Cx := ⟨c.w, upd c.loc σ.length .nil, c.hid⟩
    SR c' (σ ++ [.arr sz mk []]) ∧ Ext c c' ∧ c'.vr (.sl σ.length 0 0) (.slice none 0 0) := by
  intro c'
  have hE : Ext c c' := by
    refine ⟨rfl, Nat.le_refl _, fun _ cs _ f hb => ⟨cs, f, hb, rfl⟩, fun b hb ho => ⟨rfl, ?_⟩, fun o => ?_, rfl, rfl, rfl⟩
    · rintro ⟨o, ba, s, e⟩
      dsimp only [c'] at e
      by_cases g : o = σ.length
      · subst g; simp at e
      · rw [upd_other _ _ g] at e; exact ho ⟨o, ba, s, e⟩
    · dsimp only [c']
      by_cases g : o = σ.length
      · subst g; exact .inr (.inr (h.unborn (Nat.le_refl _)))
      · exact .inl (upd_other _ _ g)
  refine ⟨⟨fun o => ?_, ?_, h.hid_ext hE, hE.glob h.gl⟩, hE, by simp [Cx.vr, VR, c']⟩
  · show ORo _ (upd c.loc σ.length _ o) _
    rcases Nat.lt_trichotomy o σ.length with g | g | g
    · rw [List.getElem?_append_left g, upd_other _ _ (Nat.ne_of_lt g), List.getElem?_eq_getElem g]
      exact (h.get (List.getElem?_eq_getElem g)).keep hE fun _ _ _ _ => rfl
    · subst g
      simp only [upd_same, List.getElem?_concat_length]
      exact .inl ⟨rfl, rfl⟩
    · rw [List.getElem?_eq_none (by simp; omega), upd_other _ _ (Nat.ne_of_gt g)]
      exact h.unborn (Nat.le_of_lt g)
  · intro o1 o2 b ba s ba' s' e e'
    dsimp only [c'] at e e'
    have key : ∀ o ba s, upd c.loc σ.length .nil o = .here b ba s → c.loc o = .here b ba s := by
      intro o ba s e
      by_cases g : o = σ.length
      · subst g; simp at e
      · rw [upd_other _ _ g] at e; exact e
    exact h.inj (key _ _ _ e) (key _ _ _ e')

theorem no_share {P : Program} {c : Cx} {sz sLen : Nat} {base : Option Addr} {tx : TypeId} {vx : Value} {ds : List D} {us : List Value} (s : SrcOk P c sz tx vx ds us)
    (hb : ∀ a, base = some a → Room.holdsV c.w a (sLen * sz) = true ∧ c.w.frozen? (a.add (sLen / 2 * sz)) = false ∧ ¬ inBlock vx a.block) (hbn : base = none → sLen = 0) (h0 : 0 < ds.length) :
    (Builtin.mayShare sz sLen ds.length base vx).runT P c.w #[] = (.ok false c.w, #[]) := by
  rcases s.src.kind with ⟨e', _⟩ | _
  all_goals
    have hl := s.src.len c.w
    cases vx with
    | string s' =>
      have hn : ds.length = s'.size := by
        have := s.len
        simp only [Builtin.lenOf] at this
        have h1 : Sem.run P (Pure.pure s'.size : Sem Nat) c.w = Sem.run P (Sem.pure ds.length : Sem Nat) c.w := by rw [this]
        simp at h1; exact h1.symm
      exact runT_mayShare_string c.w sz sLen ds.length base s' fun a ha => ⟨(hb a ha).1, (hb a ha).2.1⟩
    | slice ad m c' =>
      cases ad with
      | none =>
        cases base with
        | none => simp [-Sem.runT_eq, Builtin.mayShare, Room.Sem.bind_def, Room.Sem.runT_bind, Room.Sem.runT_pure']
        | some a =>
          obtain ⟨h1, h2, _⟩ := hb a rfl
          simp [-Sem.runT_eq, Builtin.mayShare, Room.Sem.bind_def, frozen, Sem.bind, Sem.runT, Room.Sem.runT_bind, Room.runT_holdsCells', Room.Sem.runT_pure', h1, h2]
      | some ad =>
        obtain ⟨h1, h2⟩ := s.sh ad m c' rfl
        subst h1
        obtain ⟨_, h3⟩ := h2 h0
        cases base with
        | none =>
          have := hbn rfl; subst this
          exact runT_mayShare_nil_cells c.w sz ds.length ad c' h3
        | some a =>
          obtain ⟨g1, g2, g3⟩ := hb a rfl
          exact runT_mayShare_apart c.w sz sLen ds.length a ad c' g1 g2 h3 fun q => g3 ⟨ad, ds.length, c', rfl, h0, q.symm⟩
    | _ => simp [Builtin.lenOf] at hl

theorem zeroCells_size (z : Array Value) (n : Nat) : (Builtin.zeroCells z n).size = n * z.size := by simp [Builtin.zeroCells]

/-- The part of append where a new row is made. -/
theorem append_grow {P : Program} {t tx ty e : TypeId} {c : Cx} {σ : List Ob} (h : SR c σ) {i : TypeInfo} {z : Value} (ht : P.underlying t = some (.slice e)) (hi : P.info? e = some i) (hz : i.zero = some z) (hzs : z.cells.size = i.size) (h0 : 0 < i.size) (hb : 0 < i.bytes)
    {vx : Value} {ds : List D} {us : List Value} (s : SrcOk P c i.size tx vx ds us) {base : Option Addr} {sLen sCap : Nat} {olds : List D} {vs : List Value} (ho : DRs c.im olds vs) (hof : ∀ u ∈ vs, Flat u i.size) (hol : olds.length = sLen)
    (hold : (Builtin.firstCells i.size sLen (.slice base sLen sCap)).run P c.w.drew = .ok (flat vs).toArray c.w.drew) (hg : sCap < sLen + ds.length) (mk : Bool)
    (hfit : Builtin.nextslicecap (sLen + ds.length) sCap * i.bytes ≤ 281474976710656) :
    SemOk P (Builtin.append_ #[t, tx] ty #[.slice base sLen sCap, vx]) c (.sl σ.length 0 (sLen + ds.length)) (σ ++ [.arr i.size mk (olds ++ ds)]) := by
  have hneed := le_nextslicecap hg
  have h63 : ((sLen + ds.length : Nat) : Int) ≤ 9223372036854775807 := by
    have : sLen + ds.length ≤ Builtin.nextslicecap (sLen + ds.length) sCap * i.bytes := Nat.le_trans hneed (Nat.le_mul_of_pos_right _ hb)
    omega
  have hrun := run_append_grow_src (P := P) c.w t tx ty e i z ht hi hz base sLen sCap (flat vs) hold vx ds.length (flat us) s.src hg h63 hfit
  have hge := grownCap_ge c.w (sLen + ds.length) sCap e
  have happ : flat (vs ++ us) = flat vs ++ flat us := by simp [flat]
  have hlen : (olds ++ ds).length = sLen + ds.length := by rw [List.length_append, hol]
  obtain ⟨k1, k2, k3⟩ := new_arr h h0 (DRs_append ho s.dr) (fun u hu => by rcases List.mem_append.1 hu with q | q; exact hof u q; exact s.fl u q)
    (Builtin.zeroCells z.cells (grownCap c.w (sLen + ds.length) sCap e - (sLen + ds.length))).toList e (grownCap c.w (sLen + ds.length) sCap e) (c.w.drawn + 1) mk
    (by
      have hzl : (Builtin.zeroCells z.cells (grownCap c.w (sLen + ds.length) sCap e - (sLen + ds.length))).toList.length = (grownCap c.w (sLen + ds.length) sCap e - (sLen + ds.length)) * i.size := by simp [zeroCells_size, hzs]
      rw [hzl, hlen, ← Nat.add_mul]; congr 1; omega) (by rw [hlen]; exact hge) (0, 0) (unfrozen0 _) (fun _ => unfrozen0 _)
  rw [hlen] at k3
  refine ⟨_, _, _, ?_, k1, k2, k3⟩
  rw [hrun]
  congr 1
  show World.alloc _ _ = _
  unfold World.alloc World.drew
  congr 2
  congr 1
  apply Array.ext'
  simp [happ]

/-- The part of append where memory cannot bear it. -/
theorem append_beyond {P : Program} {t tx ty e : TypeId} {c : Cx} {i : TypeInfo} (ht : P.underlying t = some (.slice e)) (hi : P.info? e = some i) {vx : Value} {ds : List D} {us : List Value} (s : SrcOk P c i.size tx vx ds us)
    {base : Option Addr} {sLen sCap : Nat} (hg : sCap < sLen + ds.length) (hpick : Builtin.nextslicecap (sLen + ds.length) sCap * i.bytes > 281474976710656)
    (hm : (Builtin.mayShare i.size sLen ds.length base vx).runT P c.w #[] = (.ok false c.w, #[])) :
    noRoomEvent ∈ ((Builtin.append_ #[t, tx] ty #[.slice base sLen sCap, vx]).runT P c.w #[]).2 ∧ ((Builtin.append_ #[t, tx] ty #[.slice base sLen sCap, vx]).run P c.w).enabled := by
  have key : ∀ d, P.underlying tx = some d → (∀ k, d ≠ .int k) → noRoomEvent ∈ ((Builtin.append_ #[t, tx] ty #[.slice base sLen sCap, vx]).runT P c.w #[]).2 ∧ ((Builtin.append_ #[t, tx] ty #[.slice base sLen sCap, vx]).run P c.w).enabled := by
    intro d htx hd
    have hr := runT_append_beyond_any (P := P) c.w t tx ty e i d ht hi htx hd base sLen sCap ds.length vx s.len hg hpick hm
    refine ⟨by rw [hr]; simp, ?_⟩
    rw [← Sem.runT_fst P _ c.w #[], hr]
    exact fun _ => ⟨by simp, by simp, fun _ => by simp⟩
  rcases s.src.kind with ⟨e', hk⟩ | hk
  · exact key _ hk (fun k hk => by cases hk)
  · exact key _ hk (fun k hk => by cases hk)

theorem appendF_sound {P : Program} {t tx ty : TypeId} {c : Cx} {σ σ' : List Ob} (h : SR c σ) {dst src r : V} {vd vx : Value} (e : appendF P t tx σ dst src = some (r, σ')) (hd : c.vr dst vd) (hx : c.vr src vx) :
    SemOk P (Builtin.append_ #[t, tx] ty #[vd, vx]) c r σ' := by
  unfold appendF at e
  split at e
  · rename_i el hel
    have hu := elemOfSlice_some hel
    split at e
    · rename_i hk
      obtain ⟨i, z, hi, hz, hzs, h0, hb, hsz⟩ := elemOk_some hk
      split at e
      · rename_i ds hds
        obtain ⟨⟨us, s⟩, hblk⟩ := srcD_sound h (by omega) hds hx
        rw [hsz] at s
        split at e
        · split at e
          case isFalse => cases e
          rename_i hcap
          simp only [Option.some.injEq, Prod.mk.injEq] at e
          obtain ⟨rfl, rfl⟩ := e
          simp only [Cx.vr, VR, DR] at hd; subst hd
          rw [hsz]
          by_cases hn : ds = []
          · subst hn
            obtain ⟨k1, k2, k3⟩ := new_nil h i.size false
            refine ⟨.slice none 0 0, c.w, _, ?_, k1, k2, k3⟩
            have hus : us = [] := by have := DRs_length s.dr; exact List.eq_nil_of_length_eq_zero (by simpa using this)
            subst hus
            have hcz : (Builtin.firstCells i.size 0 vx).run P c.w = .ok #[] c.w := by simpa using s.src.cells
            rcases s.src.kind with ⟨e', hk'⟩ | hk' <;>
              simp [Builtin.append_, run_underlying hu, run_underlying hk', sizeOf, typeInfo, hi, s.src.len, hcz]
          · have hpos : 0 < ds.length := List.length_pos_iff.2 hn
            have hp : Builtin.nextslicecap (0 + ds.length) 0 * i.bytes ≤ 281474976710656 := cap_fits (by omega) (by rw [Nat.zero_add]; simpa [bytesT, hi] using hcap.1) (by simpa [bytesT, hi] using hcap.2)
            · have := append_grow h (ty := ty) hu hi hz hzs h0 hb s (base := none) (sLen := 0) (sCap := 0) (olds := []) (vs := []) (by simp [DRs]) (by simp) rfl (by simp [Builtin.firstCells]) (by omega) false hp
              simpa using this
        · rename_i o off len
          split at e
          · rename_i sz mk es hes
            split at e
            · rename_i hq
              obtain ⟨rfl, hle, hcond⟩ := hq
              simp only [Option.some.injEq, Prod.mk.injEq] at e
              obtain ⟨rfl, rfl⟩ := e
              rw [hsz] at hes ⊢
              have hlt : o < σ.length := (List.getElem?_eq_some_iff.1 hes).1
              have hlen' : ((es.drop off).take len).length = len := by rw [List.length_take, List.length_drop]; omega
              -- what holds where a new row is made: the old object is given up first
              have kill : ∀ (base : Option Addr) (cap : Nat) (vs : List Value), DRs c.im ((es.drop off).take len) vs → (∀ u ∈ vs, Flat u i.size) → (Builtin.firstCells i.size len (.slice base len cap)).run P c.w.drew = .ok (flat vs).toArray c.w.drew →
                  cap < len + ds.length → Builtin.nextslicecap (len + ds.length) cap * i.bytes ≤ 281474976710656 → SemOk P (Builtin.append_ #[t, tx] ty #[.slice base len cap, vx]) c (.sl σ.length 0 (len + ds.length)) (σ.set o .dead ++ [.arr i.size mk ((es.drop off).take len ++ ds)]) := by
                intro base cap vs p1 p2 p3 p4 p5
                have hE := Ext.kill c o
                have hS := SR.kill h hlt
                have s' : SrcOk P ⟨c.w, upd c.loc o .dead, c.hid⟩ i.size tx vx ds us := ⟨DRs_mono hE.im _ _ s.dr, s.fl, s.src, s.len, s.sh⟩
                obtain ⟨v, w', loc', q1, q2, q3, q4⟩ := append_grow hS (ty := ty) hu hi hz hzs h0 hb s' (DRs_mono hE.im _ _ p1) p2 hlen' p3 p4 mk p5
                rw [List.length_set] at q4
                exact ⟨v, w', loc', q1, q2, hE.trans q3, q4⟩
              rcases vr_sl h hes hd with ⟨hl, rfl, rfl, rfl, rfl⟩ | ⟨b, base, a, cap, arr, ty', f, hl, rfl, g1, g2, g3, g4, g5, g6, g7, g8⟩
              · by_cases hn : ds = []
                · subst hn
                  have hS := SR.kill h hlt
                  obtain ⟨k1, k2, k3⟩ := new_nil hS i.size mk
                  refine ⟨.slice none 0 0, c.w, _, ?_, k1, (Ext.kill c o).trans k2, by simpa using k3⟩
                  have hus : us = [] := by have := DRs_length s.dr; exact List.eq_nil_of_length_eq_zero (by simpa using this)
                  subst hus
                  have hcz : (Builtin.firstCells i.size 0 vx).run P c.w = .ok #[] c.w := by simpa using s.src.cells
                  rcases s.src.kind with ⟨e', hk'⟩ | hk' <;>
                    simp [Builtin.append_, run_underlying hu, run_underlying hk', sizeOf, typeInfo, hi, s.src.len, hcz]
                · have hpos : 0 < ds.length := List.length_pos_iff.2 hn
                  have hp : Builtin.nextslicecap (0 + ds.length) 0 * i.bytes ≤ 281474976710656 := cap_fits (by omega) (by simpa [bytesT, hi] using hcond.1) (by simpa [bytesT, hi] using hcond.2)
                  exact kill none 0 [] (by simp [DRs]) (by simp) (by simp [Builtin.firstCells]) (by omega) hp
              · -- the slice has an array
                have hrows := RowsR_take (RowsR_drop g8 off) len
                have hsp : base + off * i.size + len * i.size ≤ arr.size := by
                  have : (off + len) * i.size ≤ (off + cap) * i.size := Nat.mul_le_mul_right _ (by omega)
                  rw [Nat.add_mul] at this
                  omega
                by_cases hroom : len + ds.length ≤ cap
                · -- there is room
                  by_cases hc0 : cap = 0
                  · have hl0 : len = 0 := by omega
                    have hd0 : ds = [] := List.eq_nil_of_length_eq_zero (by omega)
                    subst hl0; subst hd0; subst hc0
                    have hus : us = [] := by have := DRs_length s.dr; exact List.eq_nil_of_length_eq_zero (by simpa using this)
                    subst hus
                    have hcz : (Builtin.firstCells i.size 0 vx).run P c.w = .ok #[] c.w := by simpa using s.src.cells
                    have hcl : ∀ (cs' : Array Value) (e' : TypeId) (f' : Nat × Nat), c.w.heap[b]? = some (.cells cs' e' f') → ∃ (cs'' : Array Value) (f'' : Nat × Nat), c.w.heap[b]? = some (.cells cs'' e' f'') ∧ cs''.size = cs'.size := fun cs' _ f' hc => ⟨cs', f', hc, rfl⟩
                    have hE := Ext.move h hl c.w rfl (fun _ _ => rfl) hcl (base + off * i.size) i.size
                    have g52 : base + off * i.size = arr.size := by simpa using g5.2
                    refine ⟨.slice (some ⟨b, a, none⟩) 0 0, c.w, _, ?_, SR.move h hl c.w rfl (fun _ _ => rfl) hcl (base + off * i.size) i.size (.arr i.size mk ((es.drop off).take 0 ++ [])) (.inr ⟨b, _, rfl, h0, arr, ty', f, g4, g6, by simp; omega, by simp [RowsR]⟩), hE, ?_⟩
                    · rcases s.src.kind with ⟨e', hk'⟩ | hk' <;>
                        simp [Builtin.append_, run_underlying hu, run_underlying hk', sizeOf, typeInfo, hi, s.src.len, hcz, storeCells]
                    · simp only [Cx.vr, VR, upd_same]
                      exact ⟨a, 0, rfl, by simp, fun q => by omega, arr, ty', f, g4, g5.1, by simpa using g52⟩
                  · have ha := g2 (by omega)
                    subst ha
                    have hfl : (flat us).length = ds.length * i.size := by rw [flat_length fun u hu => (s.fl u hu).1, DRs_length s.dr]
                    have hfit : base + off * i.size + (len + ds.length) * i.size ≤ arr.size := by
                      have : (off + (len + ds.length)) * i.size ≤ (off + cap) * i.size := Nat.mul_le_mul_right _ (by omega)
                      rw [Nat.add_mul] at this
                      have := g5.2
                      omega
                    rw [Nat.add_mul] at hfit
                    have hrun := run_append_room_src (P := P) c.w t tx ty el i hu hi b (base + off * i.size) len cap vx ds.length (flat us) s.src hroom
                      (fun j hj => by rw [cell?_cells g4, Array.getElem?_eq_getElem (by omega)]; rfl) (fun j hj => frozen_no g4 g6 (by omega))
                    obtain ⟨q1, q2, q3⟩ := heap_setCells (flat us) (base + off * i.size + len * i.size) c.w arr g4
                    have hcl : ∀ (cs' : Array Value) (e' : TypeId) (f' : Nat × Nat), c.w.heap[b]? = some (.cells cs' e' f') → ∃ (cs'' : Array Value) (f'' : Nat × Nat), (c.w.setCells b (base + off * i.size + len * i.size) (flat us)).heap[b]? = some (.cells cs'' e' f'') ∧ cs''.size = cs'.size := by
                      intro cs' e' f' hc
                      rw [g4] at hc
                      simp only [Option.some.injEq, Obj.cells.injEq] at hc
                      obtain ⟨rfl, rfl, rfl⟩ := hc
                      exact ⟨_, _, q3, putL_size _ _ _⟩
                    have hE := Ext.move h hl _ q1 q2 hcl (base + off * i.size) i.size
                    refine ⟨_, _, _, hrun, SR.move h hl _ q1 q2 hcl (base + off * i.size) i.size (.arr i.size mk ((es.drop off).take len ++ ds)) (.inr ⟨b, _, rfl, h0, _, ty', f, q3, by rw [putL_size]; exact g6, ?_, ?_⟩), hE, ?_⟩
                    · rw [putL_size, List.length_append, hlen', Nat.add_mul]; omega
                    · refine RowsR_append ?_ ?_
                      · refine RowsR_of_get fun j d hj => ?_
                        have hjl : j < len := by have := (List.getElem?_eq_some_iff.1 hj).1; omega
                        obtain ⟨v, p1, p2, p3⟩ := RowsR_get hrows j hj
                        refine ⟨v, hE.dr p1, p2, fun k hk => ?_⟩
                        rw [← p3 k hk]
                        show World.cell? _ ⟨b, _, none⟩ = c.w.cell? ⟨b, _, none⟩
                        rw [cell?_cells q3, cell?_cells g4, putL_get, if_neg]
                        rintro ⟨z1, _, _⟩
                        have : (j + 1) * i.size ≤ len * i.size := Nat.mul_le_mul_right _ hjl
                        rw [Nat.add_mul] at this
                        omega
                      · rw [hlen']
                        refine rows_flat hE.im _ s.dr s.fl (fun j hj => ?_)
                        show World.cell? _ ⟨b, _, none⟩ = _
                        rw [cell?_cells q3, putL_get, if_pos ⟨by omega, by simp only [flat] at *; omega, by simp only [flat] at *; omega⟩]
                        congr 1; omega
                    · simp only [Cx.vr, VR, upd_same]
                      exact ⟨_, cap, rfl, hroom, fun _ => by omega, _, ty', f, q3, by rw [putL_size]; exact g5.1, by rw [putL_size, Nat.zero_add]; have := g5.2; rw [Nat.add_mul] at this; omega⟩
                · -- there is none
                  have hgr : cap < len + ds.length := by omega
                  have hds0 : 0 < ds.length := by omega
                  obtain ⟨vs, p1, p2, p3⟩ := rows_values hrows
                  have hvl : (flat vs).length = len * i.size := by rw [flat_length fun u hu => (p2 u hu).1, DRs_length p1, hlen']
                  have hold : (Builtin.firstCells i.size len (.slice (some ⟨b, a, none⟩) len cap)).run P c.w.drew = .ok (flat vs).toArray c.w.drew := by
                    refine run_firstCells_some c.w.drew i.size len ⟨b, a, none⟩ len cap (flat vs) hvl (fun j u hj => ?_)
                    have hjl := (List.getElem?_eq_some_iff.1 hj).1
                    have hlp : 0 < len := by
                      rcases Nat.eq_zero_or_pos len with q | q
                      · subst q; rw [hvl, Nat.zero_mul] at hjl; omega
                      · exact q
                    rw [Addr.add_lit, g2 (by omega), ← hj]
                    exact p3 j hjl
                  have hp : Builtin.nextslicecap (len + ds.length) cap * i.bytes ≤ 281474976710656 := cap_fits hgr (by simpa [bytesT, hi] using hcond.1) (by simpa [bytesT, hi] using hcond.2)
                  exact kill _ cap vs p1 p2 hold hgr hp
            · cases e
          · cases e
        · cases e
      · cases e
    · cases e
  · cases e
end Go.Proofs.YteafabpedfgedaaGreatDoor.Am
end
/- The engine's append within what an object is known to hold. -/
section
set_option linter.unusedSimpArgs false
set_option linter.unusedVariables false
namespace Go.Proofs.YteafabpedfgedaaGreatDoor.Am
open Go

/-- Rows written over a part of an object. -/
def over (es : List D) (k : Nat) (ds : List D) : List D := es.take k ++ ds ++ es.drop (k + ds.length)

theorem over_length {es : List D} {k : Nat} {ds : List D} (h : k + ds.length ≤ es.length) : (over es k ds).length = es.length := by
  simp only [over, List.length_append, List.length_take, List.length_drop]; omega

theorem over_get {es : List D} {k : Nat} {ds : List D} (h : k + ds.length ≤ es.length) (j : Nat) : (over es k ds)[j]? = if k ≤ j ∧ j < k + ds.length then ds[j - k]? else es[j]? := by
  have hl : (es.take k).length = k := by rw [List.length_take]; omega
  unfold over
  by_cases h1 : j < k
  · rw [List.append_assoc, List.getElem?_append_left (by omega), List.getElem?_take, if_pos h1, if_neg (by omega)]
  · by_cases h2 : j < k + ds.length
    · rw [List.append_assoc, List.getElem?_append_right (by omega), hl, List.getElem?_append_left (by omega), if_pos (by omega)]
    · rw [List.getElem?_append_right (by simp only [List.length_append, hl]; omega), List.length_append, hl, List.getElem?_drop, if_neg (by omega)]
      congr 1; omega

/-- A write of whole rows into the block of an object. -/
theorem rows_over {c c' : Cx} (hE : Ext c c') {b base sz : Nat} {es ds : List D} {us : List Value} {arr : Array Value} {e : TypeId} {f : Nat × Nat} (hr : RowsR c.im es b base sz) (hb : c.w.heap[b]? = some (.cells arr e f)) (hle : base + es.length * sz ≤ arr.size)
    (hd : DRs c.im ds us) (hf : ∀ u ∈ us, Flat u sz) {k : Nat} (hk : k + ds.length ≤ es.length) {f' : Nat × Nat} (hb' : c'.w.heap[b]? = some (.cells (putL arr (base + k * sz) (us.flatMap fun u => u.cells.toList)) e f')) : RowsR c'.im (over es k ds) b base sz := by
  have hul : us.length = ds.length := DRs_length hd
  have hfl : (us.flatMap fun u => u.cells.toList).length = ds.length * sz := by rw [flat_length fun u hu => (hf u hu).1, hul]
  refine RowsR_of_get fun j d hj => ?_
  rw [over_get hk] at hj
  have hjl : j < es.length := by
    split at hj
    · omega
    · exact (List.getElem?_eq_some_iff.1 hj).1
  have hjs : (j + 1) * sz ≤ es.length * sz := Nat.mul_le_mul_right _ hjl
  rw [Nat.add_mul] at hjs
  split at hj
  · rename_i hin
    obtain ⟨v, q1, q2⟩ := DRs_get hd _ hj
    have hv := hf v (List.mem_of_getElem? q1)
    have hrows : RowsR c'.im ds b (base + k * sz) sz := by
      refine rows_flat hE.im _ hd hf (fun i hi => ?_)
      show c'.w.cell? ⟨b, _, none⟩ = _
      have : (k + ds.length) * sz ≤ es.length * sz := Nat.mul_le_mul_right _ hk
      rw [Nat.add_mul] at this
      rw [cell?_cells hb', putL_get, if_pos ⟨by omega, by omega, by omega⟩]
      congr 1; omega
    obtain ⟨u, p1, p2, p3⟩ := RowsR_get hrows (j - k) hj
    refine ⟨u, p1, p2, fun i hi => ?_⟩
    rw [← p3 i hi]
    have : (k + (j - k)) * sz = k * sz + (j - k) * sz := Nat.add_mul _ _ _
    have e : k + (j - k) = j := by omega
    rw [e] at this
    congr 1; omega
  · rename_i hout
    obtain ⟨v, p1, p2, p3⟩ := RowsR_get hr j hj
    refine ⟨v, hE.dr p1, p2, fun i hi => ?_⟩
    rw [← p3 i hi]
    show c'.w.cell? ⟨b, _, none⟩ = c.w.cell? ⟨b, _, none⟩
    rw [cell?_cells hb', cell?_cells hb, putL_get, if_neg]
    rintro ⟨z1, z2, _⟩
    rcases Nat.lt_or_ge j k with q | q
    · have : (j + 1) * sz ≤ k * sz := Nat.mul_le_mul_right _ q
      rw [Nat.add_mul] at this
      omega
    · have q' : k + ds.length ≤ j := by omega
      have : (k + ds.length) * sz ≤ j * sz := Nat.mul_le_mul_right _ q'
      rw [Nat.add_mul] at this
      omega

theorem set_self {σ : List Ob} {o : Nat} {x : Ob} (h : σ[o]? = some x) : σ.set o x = σ := by
  obtain ⟨hlt, e⟩ := List.getElem?_eq_some_iff.1 h
  subst e
  exact List.set_getElem_self hlt

/-- 'append' into what the object holds already. -/
def appendInF (P : Program) (t tx : TypeId) (σ : List Ob) (dst src : V) : Option (V × List Ob) :=
  match elemOfSlice P t with
  | some e => if elemOk P e = true then
      match srcD P e σ tx src with
      | some ds => match dst with
        | .sl o off len => match σ[o]? with
          | some (.arr sz mk es) => if sz = szOf P e ∧ off + len + ds.length ≤ es.length then
              some (.sl o off (len + ds.length), σ.set o (.arr sz mk (over es (off + len) ds))) else none
          | _ => none
        | _ => none
      | none => none
    else none
  | none => none

theorem appendInF_sound {P : Program} {t tx ty : TypeId} {c : Cx} {σ σ' : List Ob} (h : SR c σ) {dst src r : V} {vd vx : Value} (e : appendInF P t tx σ dst src = some (r, σ')) (hd : c.vr dst vd) (hx : c.vr src vx) :
    SemOk P (Builtin.append_ #[t, tx] ty #[vd, vx]) c r σ' := by
  unfold appendInF at e
  split at e
  · rename_i el hel
    have hu := elemOfSlice_some hel
    split at e
    · rename_i hk
      obtain ⟨i, z, hi, hz, hzs, h0, hb, hsz⟩ := elemOk_some hk
      split at e
      · rename_i ds hds
        obtain ⟨⟨us, s⟩, hblk⟩ := srcD_sound h (by omega) hds hx
        rw [hsz] at s
        split at e
        · rename_i o off len
          split at e
          · rename_i sz mk es hes
            split at e
            · rename_i hq
              obtain ⟨rfl, hfit⟩ := hq
              simp only [Option.some.injEq, Prod.mk.injEq] at e
              obtain ⟨rfl, rfl⟩ := e
              rw [hsz] at hes ⊢
              have hlt : o < σ.length := (List.getElem?_eq_some_iff.1 hes).1
              rcases vr_sl h hes hd with ⟨hl, rfl, rfl, rfl, rfl⟩ | ⟨b, base, a, cap, arr, ty', f, hl, rfl, g1, g2, g3, g4, g5, g6, g7, g8⟩
              · have hn : ds = [] := List.eq_nil_of_length_eq_zero (by simpa using hfit)
                subst hn
                have hus : us = [] := by have := DRs_length s.dr; exact List.eq_nil_of_length_eq_zero (by simpa using this)
                subst hus
                have hcz : (Builtin.firstCells i.size 0 vx).run P c.w = .ok #[] c.w := by simpa using s.src.cells
                have hset : σ.set o (.arr i.size mk (over [] (0 + 0) [])) = σ := by
                  have : over [] (0 + 0) [] = ([] : List D) := rfl
                  rw [this]
                  exact set_self hes
                rw [hset]
                refine ⟨.slice none 0 0, c.w, c.loc, ?_, h, Ext.refl c, by simp [Cx.vr, VR, hl]⟩
                rcases s.src.kind with ⟨e', hk'⟩ | hk' <;>
                  simp [Builtin.append_, run_underlying hu, run_underlying hk', sizeOf, typeInfo, hi, s.src.len, hcz]
              · have hcap : es.length ≤ off + cap := by
                  have : base + es.length * i.size ≤ base + (off + cap) * i.size := by rw [g5.2]; exact g7
                  exact Nat.le_of_mul_le_mul_right (by omega : es.length * i.size ≤ (off + cap) * i.size) h0
                have hroom : len + ds.length ≤ cap := by omega
                by_cases hc0 : cap = 0
                · have hl0 : len = 0 := by omega
                  have hd0 : ds = [] := List.eq_nil_of_length_eq_zero (by omega)
                  subst hl0; subst hd0; subst hc0
                  have hus : us = [] := by have := DRs_length s.dr; exact List.eq_nil_of_length_eq_zero (by simpa using this)
                  subst hus
                  have hcz : (Builtin.firstCells i.size 0 vx).run P c.w = .ok #[] c.w := by simpa using s.src.cells
                  have hset : σ.set o (.arr i.size mk (over es (off + 0) [])) = σ := by
                    have : over es (off + 0) [] = es := by simp [over]
                    rw [this]
                    exact set_self hes
                  rw [hset]
                  refine ⟨.slice (some ⟨b, a, none⟩) 0 0, c.w, c.loc, ?_, h, Ext.refl c, ?_⟩
                  · rcases s.src.kind with ⟨e', hk'⟩ | hk' <;>
                      simp [Builtin.append_, run_underlying hu, run_underlying hk', sizeOf, typeInfo, hi, s.src.len, hcz, storeCells]
                  · exact hd
                · have ha := g2 (by omega)
                  subst ha
                  have hfl : (flat us).length = ds.length * i.size := by rw [flat_length fun u hu => (s.fl u hu).1, DRs_length s.dr]
                  have hfit' : base + off * i.size + (len + ds.length) * i.size ≤ arr.size := by
                    have : (off + (len + ds.length)) * i.size ≤ (off + cap) * i.size := Nat.mul_le_mul_right _ (by omega)
                    rw [Nat.add_mul] at this
                    have := g5.2
                    omega
                  rw [Nat.add_mul] at hfit'
                  have hrun := run_append_room_src (P := P) c.w t tx ty el i hu hi b (base + off * i.size) len cap vx ds.length (flat us) s.src hroom
                    (fun j hj => by rw [cell?_cells g4, Array.getElem?_eq_getElem (by omega)]; rfl) (fun j hj => frozen_no g4 g6 (by omega))
                  have hpos : base + off * i.size + len * i.size = base + (off + len) * i.size := by rw [Nat.add_mul]; omega
                  rw [hpos] at hrun
                  obtain ⟨q1, q2, q3⟩ := heap_setCells (flat us) (base + (off + len) * i.size) c.w arr g4
                  have hcl : ∀ (cs' : Array Value) (e' : TypeId) (f' : Nat × Nat), c.w.heap[b]? = some (.cells cs' e' f') → ∃ (cs'' : Array Value) (f'' : Nat × Nat), (c.w.setCells b (base + (off + len) * i.size) (flat us)).heap[b]? = some (.cells cs'' e' f'') ∧ cs''.size = cs'.size := by
                    intro cs' e' f' hc
                    rw [g4] at hc
                    simp only [Option.some.injEq, Obj.cells.injEq] at hc
                    obtain ⟨rfl, rfl, rfl⟩ := hc
                    exact ⟨_, _, q3, putL_size _ _ _⟩
                  have hE := Ext.write hl _ q1 q2 hcl
                  have hov := over_length hfit
                  refine ⟨_, _, c.loc, hrun, SR.write h hl _ q1 q2 hcl (.arr i.size mk (over es (off + len) ds)) (.inr ⟨b, base, rfl, h0, _, ty', f, q3, by rw [putL_size]; exact g6, by rw [putL_size, hov]; exact g7, ?_⟩), hE, ?_⟩
                  · exact rows_over hE g8 g4 g7 s.dr s.fl hfit q3
                  · simp only [Cx.vr, VR, hl]
                    exact ⟨_, cap, rfl, hroom, fun _ => rfl, _, ty', f, q3, by rw [putL_size]; exact g5.1, by rw [putL_size]; exact g5.2⟩
            · cases e
          · cases e
        · cases e
      · cases e
    · cases e
  · cases e

/-- 'clear' of a slice. -/
def clearF (P : Program) (t : TypeId) (σ : List Ob) (x : V) : Option (List Ob) :=
  match x with
  | .d .nils => if isSliceT P t = true then some σ else none
  | .sl o off len => match elemOfSlice P t with
    | some e => match zeroD P e, σ[o]? with
      | some _, some (.vec sz cs) => match zeroCs P e with
        | some z => if elemOk P e = true ∧ z.length = sz ∧ sz = szOf P e ∧ (off + len) * sz ≤ cs.length ∧ z.all (one σ) = true then some (σ.set o (.vec sz (setAt cs (off * sz) (List.replicate len z).flatten))) else none
        | none => none
      | some z, some (.arr sz mk es) => if elemOk P e = true ∧ flatOk z (szOf P e) = true ∧ sz = szOf P e ∧ off + len ≤ es.length then some (σ.set o (.arr sz mk (over es off (List.replicate len z)))) else none
      | _, _ => none
    | none => none
  | _ => none

theorem clearF_sound {P : Program} {t ty : TypeId} {c : Cx} {σ σ' : List Ob} (h : SR c σ) {x : V} {vx : Value} (e : clearF P t σ x = some σ') (hx : c.vr x vx) :
    SemOk P (Builtin.clear_ #[t] ty #[vx]) c (.tup []) σ' := by
  have tup : ∀ c' : Cx, c'.vr (.tup []) (.tuple #[]) := fun c' => by simp [Cx.vr, VR, VRs]
  unfold clearF at e
  split at e
  · split at e
    · rename_i ht
      simp only [Option.some.injEq] at e; subst e
      obtain ⟨el, hel⟩ := Option.isSome_iff_exists.1 ht
      have hu := elemOfSlice_some hel
      simp only [Cx.vr, VR, DR] at hx; subst hx
      exact ⟨.tuple #[], c.w, c.loc, by simp [Builtin.clear_, run_underlying hu], h, Ext.refl c, tup _⟩
    · cases e
  · rename_i o off len
    split at e
    · rename_i el hel
      have hu := elemOfSlice_some hel
      split at e
      · rename_i z0 sz cs hz0 hes
        split at e
        rotate_left
        · cases e
        rename_i z hz
        split at e
        rotate_left
        · cases e
        rename_i hq
        obtain ⟨hk, hzl, rfl, hfit, hzone⟩ := hq
        simp only [Option.some.injEq] at e; subst e
        obtain ⟨i, zv, hi, hzv, hzs, h0, hb, hsz⟩ := elemOk_some hk
        unfold zeroCs at hz
        rw [hi] at hz
        simp only [hzv, Option.map_some, Option.some.injEq] at hz
        subst hz
        have hlt : o < σ.length := (List.getElem?_eq_some_iff.1 hes).1
        obtain ⟨b, base, hl, h00, arr, ty', f, h1, h2, us, hule, hat, h3⟩ := h.get hes
        have hul := VRs_length h3
        simp only [Cx.vr, VR, hl] at hx
        obtain ⟨a, cap, rfl, g1, g2, _⟩ := hx
        by_cases hl0 : len = 0
        · subst hl0
          have hset : σ.set o (.vec (szOf P el) (setAt cs (off * szOf P el) (List.replicate 0 (zv.cells.toList.map fun v => V.d (sc v))).flatten)) = σ := by
            have : setAt cs (off * szOf P el) ([] : List V) = cs := by simp [setAt]
            simp only [List.replicate_zero, List.flatten_nil, this]; exact set_self hes
          rw [hset]
          exact ⟨.tuple #[], c.w, c.loc, by simp [Builtin.clear_, run_underlying hu], h, Ext.refl c, tup _⟩
        · have ha := g2 (by omega)
          subst ha
          have hv := vec_zero c.im c.w c.loc zv len
          have hzc : zv.cells.size = szOf P el := by simpa using hzl
          have hcz : (Builtin.zeroCells zv.cells len).toList = (List.replicate len zv).flatMap fun u => u.cells.toList := by
            have := cells_replicate zv (szOf P el) h00 hzc len
            rw [← this]
            simp only [Builtin.zeroCells, hzc]
          have hlen : ((List.replicate len zv).flatMap fun u => u.cells.toList).length = len * szOf P el := by
            rw [flat_length (sz := szOf P el) (fun u hu => by rw [(List.mem_replicate.1 hu).2]; exact hzc)]; simp
          have hxl := VRs_length hv
          rw [Nat.add_mul] at hfit
          have hone : ∀ v ∈ (List.replicate len zv).flatMap (fun u => u.cells.toList), v.oneCell' = true := by
            refine vrs_one h hv ?_
            simp only [List.all_eq_true] at hzone ⊢
            intro x hx
            obtain ⟨l, hl', hx⟩ := List.mem_flatten.1 hx
            rw [(List.mem_replicate.1 hl').2] at hx
            exact hzone x hx
          have hst := run_stores (P := P) (o := base + off * szOf P el) h1 h2 (by omega) hone
          obtain ⟨k1, k2, k3⟩ := vec_write h hl h00 h1 h2 hule hat h3 hv (kk := off * szOf P el) (by omega)
          refine ⟨.tuple #[], _, c.loc, ?_, k1, k2, tup _⟩
          have hn0 : ∃ m, len = m + 1 := ⟨len - 1, by omega⟩
          obtain ⟨m, rfl⟩ := hn0
          simp [Builtin.clear_, run_underlying hu, zeroValue, typeInfo, hi, hzv, hcz, hst]
      · rename_i z sz mk es hz hes
        split at e
        · rename_i hq
          obtain ⟨hk, hfz, rfl, hfit⟩ := hq
          simp only [Option.some.injEq] at e; subst e
          obtain ⟨i, z', hi, hz', hzs, h0, hb, hsz⟩ := elemOk_some hk
          obtain ⟨zv, hzv, dz⟩ := zeroD_some hz hi c.im
          rw [hzv] at hz'; simp at hz'; subst hz'
          have hfl := flatOk_Flat hfz dz
          have hlt : o < σ.length := (List.getElem?_eq_some_iff.1 hes).1
          by_cases hl0 : len = 0
          · subst hl0
            have hset : σ.set o (.arr (szOf P el) mk (over es off (List.replicate 0 z))) = σ := by
              have : over es off (List.replicate 0 z) = es := by simp [over]
              rw [this]; exact set_self hes
            rw [hset]
            have ha : alive σ o = true := by unfold alive; rw [hes]
            obtain ⟨a, cap, rfl⟩ := vr_sl_len h ha hx
            exact ⟨.tuple #[], c.w, c.loc, by cases a <;> simp [Builtin.clear_, run_underlying hu], h, Ext.refl c, tup _⟩
          · rcases vr_sl h hes hx with ⟨_, _, _, q, _⟩ | ⟨b, base, a, cap, arr, ty', f, hl, rfl, g1, g2, g3, g4, g5, g6, g7, g8⟩
            · exact absurd q hl0
            · have ha := g2 (by omega)
              subst ha
              have hdr : DRs c.im (List.replicate len z) (List.replicate len zv) := by
                clear hl0 hfit hx g1 g2
                induction len with
                | zero => simp [DRs]
                | succ n ih => simp only [List.replicate_succ, DRs]; exact ⟨zv, _, rfl, dz, ih⟩
              have hflat : ∀ u ∈ List.replicate len zv, Flat u (szOf P el) := fun u hu => by rw [(List.mem_replicate.1 hu).2]; exact hfl
              have hcz : (Builtin.zeroCells zv.cells len).toList = (List.replicate len zv).flatMap fun u => u.cells.toList := by
                have := cells_replicate zv (szOf P el) g3 hfl.1 len
                rw [← this]
                simp only [Builtin.zeroCells, hfl.1]
              have hlen : ((List.replicate len zv).flatMap fun u => u.cells.toList).length = len * szOf P el := by rw [flat_length fun u hu => (hflat u hu).1]; simp
              have hmul : (off + len) * szOf P el ≤ es.length * szOf P el := Nat.mul_le_mul_right _ hfit
              rw [Nat.add_mul] at hmul
              have hone : ∀ v ∈ (List.replicate len zv).flatMap (fun u => u.cells.toList), v.oneCell' = true := by
                intro v hv
                obtain ⟨u, hu, hv⟩ := List.mem_flatMap.1 hv
                exact (hflat u hu).2 v hv
              have hst := run_stores (P := P) (o := base + off * szOf P el) g4 (f := f) ⟨g6.1, fun j hj => g6.2 j (by omega)⟩ (by omega) hone
              obtain ⟨q1, q2, q3⟩ := heap_setCells ((List.replicate len zv).flatMap fun u => u.cells.toList) (base + off * szOf P el) c.w arr g4
              have hcl : ∀ (cs' : Array Value) (e' : TypeId) (f' : Nat × Nat), c.w.heap[b]? = some (.cells cs' e' f') → ∃ (cs'' : Array Value) (f'' : Nat × Nat), (c.w.setCells b (base + off * szOf P el) ((List.replicate len zv).flatMap fun u => u.cells.toList)).heap[b]? = some (.cells cs'' e' f'') ∧ cs''.size = cs'.size := by
                intro cs' e' f' hc
                rw [g4] at hc
                simp only [Option.some.injEq, Obj.cells.injEq] at hc
                obtain ⟨rfl, rfl, rfl⟩ := hc
                exact ⟨_, _, q3, putL_size _ _ _⟩
              have hE := Ext.write hl _ q1 q2 hcl
              have hfit' : off + (List.replicate len z).length ≤ es.length := by simpa using hfit
              have hov := over_length hfit'
              refine ⟨.tuple #[], _, c.loc, ?_, SR.write h hl _ q1 q2 hcl (.arr (szOf P el) mk (over es off (List.replicate len z))) (.inr ⟨b, base, rfl, g3, _, ty', f, q3, by rw [putL_size]; exact g6, by rw [putL_size, hov]; exact g7, ?_⟩), hE, tup _⟩
              · have hn0 : ∃ m, len = m + 1 := ⟨len - 1, by omega⟩
                obtain ⟨m, rfl⟩ := hn0
                simp [Builtin.clear_, run_underlying hu, zeroValue, typeInfo, hi, hzv, hcz, hst]
              · exact rows_over hE g8 g4 g7 hdr hflat hfit' q3
        · cases e
      · cases e
    · cases e
  · cases e
end Go.Proofs.YteafabpedfgedaaGreatDoor.Am
end
/- The engine's maps, text turned into bytes, and every operation that makes or writes memory in one function. -/
section
set_option linter.unusedSimpArgs false
set_option linter.unusedVariables false
namespace Go.Proofs.YteafabpedfgedaaGreatDoor.Am
open Go

/-! ### maps -/
def putD (k : D) (x : V) (clk : Nat) : List (D × V × Nat) → Option (List (D × V × Nat) × Nat)
  | [] => some ([(k, x, clk)], clk + 1)
  | (k', y, n) :: r => match keyEq k k' with
    | some true => some ((k, x, n) :: r, clk)
    | some false => (putD k x clk r).map fun p => ((k', y, n) :: p.1, p.2)
    | none => none

def delD (k : D) : List (D × V × Nat) → Option (List (D × V × Nat))
  | [] => some []
  | (k', x, n) :: r => match keyEq k k' with
    | some true => some r
    | some false => (delD k r).map ((k', x, n) :: ·)
    | none => none

theorem keyEq0_same {k k' : D} (h : keyEq0 k k' = some true) {I : Im} {v v' : Value} (r : DR I k v) (r' : DR I k' v') (n : Nat) : v = v' ∧ Instr.sameBits (n + 1) v' v = true := by
  cases k <;> cases k' <;> simp only [keyEq0] at h <;> (try (cases h; done)) <;> simp only [DR] at r r' <;> subst r <;> subst r'
  · split at h
    · rename_i q; subst q
      simp at h; subst h
      simp [Instr.sameBits]
    · cases h
  · simp at h; subst h
    simp [Instr.sameBits]
  · simp at h; subst h
    simp [Instr.sameBits, beq_toListBytes]

theorem keysEq_same (I : Im) (n : Nat) : ∀ (as bs : List D), keysEq as bs = some true → ∀ xs ys : List Value, DRs I as xs → DRs I bs ys → xs = ys ∧ ((ys.zip xs).all fun p => Instr.sameBits (n + 1) p.1 p.2) = true
  | [], [], h, xs, ys, hx, hy => by
    simp only [DRs] at hx hy; subst hx; subst hy; exact ⟨rfl, rfl⟩
  | [], _ :: _, h, xs, ys, hx, hy => by simp [keysEq] at h
  | _ :: _, [], h, xs, ys, hx, hy => by simp [keysEq] at h
  | a :: as, b :: bs, h, xs, ys, hx, hy => by
    simp only [keysEq] at h
    cases h0 : keyEq0 a b with
    | none => rw [h0] at h; cases h
    | some x =>
      cases h1 : keysEq as bs with
      | none => rw [h0, h1] at h; cases h
      | some y =>
        rw [h0, h1] at h
        simp only [Option.some.injEq, Bool.and_eq_true] at h
        obtain ⟨rfl, rfl⟩ := h
        simp only [DRs] at hx hy
        obtain ⟨v, vs, rfl, g1, g2⟩ := hx
        obtain ⟨v', vs', rfl, g3, g4⟩ := hy
        obtain ⟨rfl, e1⟩ := keyEq0_same h0 g1 g3 n
        obtain ⟨rfl, e2⟩ := keysEq_same I n as bs h1 vs vs' g2 g4
        exact ⟨rfl, by simp only [List.zip_cons_cons, List.all_cons, e1, e2, Bool.and_self]⟩

theorem keyEq_same {k k' : D} (h : keyEq k k' = some true) {I : Im} {v v' : Value} (r : DR I k v) (r' : DR I k' v') : v = v' ∧ Instr.sameBits 10000 v' v = true := by
  cases k with
  | agg as =>
    cases k' with
    | agg bs =>
      simp only [keyEq] at h
      simp only [DR] at r r'
      obtain ⟨xs, rfl, hx⟩ := r
      obtain ⟨ys, rfl, hy⟩ := r'
      obtain ⟨rfl, e⟩ := keysEq_same I 9998 as bs h xs ys hx hy
      refine ⟨rfl, ?_⟩
      show Instr.sameBits (9999 + 1) _ _ = true
      simp only [Instr.sameBits, beq_self_eq_true, Bool.true_and]
      exact e
    | _ => simp only [keyEq] at h; cases h
  | _ => cases k' <;> first | exact keyEq0_same (by simpa only [keyEq, keyEq0] using h) r r' 9999 | (exfalso; revert h; simp [keyEq])

theorem put_Fd {P : Program} {kt : TypeId} {I : Im} {w : World} {loc : Nat → Loc} {k : D} {x : V} {clk : Nat} {v vx : Value} (h : keyOk P kt k = true) (hk : DR I k v) (hx : VR I w loc x vx) :
    ∀ {es : List (D × V × Nat)} {l : List MapEntry} (m : MapR I w loc es l) (i : Nat) {es' : List (D × V × Nat)} {clk' : Nat}, putD k x clk es = some (es', clk') →
      (∃ j e, Fd P kt v l i (some (i + j, e.val)) ∧ l[j]? = some e ∧ e.key = v ∧ Instr.sameBits 10000 e.key v = true ∧ MapR I w loc es' (l.set j { e with key := v, val := vx }) ∧ clk' = clk ∧ es'.map (·.2.2) = es.map (·.2.2)) ∨
      (Fd P kt v l i none ∧ MapR I w loc es' (l ++ [⟨v, vx, clk⟩]) ∧ clk' = clk + 1 ∧ es'.map (·.2.2) = es.map (·.2.2) ++ [clk]) := by
  intro es l m
  induction m with
  | nil => intro i es' clk' e; simp [putD] at e; obtain ⟨rfl, rfl⟩ := e; exact .inr ⟨.nil _, .cons hk hx rfl .nil, rfl, rfl⟩
  | @cons k0 x0 n0 ent es l h1 h2 h3 m ih =>
    intro i es' clk' e
    simp only [putD] at e
    split at e
    · rename_i hq
      simp only [Option.some.injEq, Prod.mk.injEq] at e; obtain ⟨rfl, rfl⟩ := e
      obtain ⟨s1, s2⟩ := keyEq_same hq hk h1
      refine .inl ⟨0, ent, .hit (keyCmp h hk h1 hq), by simp, s1.symm, s2, ?_, rfl, rfl⟩
      exact .cons hk hx h3 m
    · rename_i hq
      have kc := keyCmp (P := P) h hk h1 hq
      cases hr : putD k x clk es with
      | none => rw [hr] at e; cases e
      | some r =>
        rw [hr] at e; simp at e; obtain ⟨rfl, rfl⟩ := e
        rcases ih (i + 1) hr with ⟨j, e', g1, g2, g3, g4, g5, g6, g7⟩ | ⟨g1, g2, g6, g7⟩
        · refine .inl ⟨j + 1, e', ?_, by simpa using g2, g3, g4, ?_, g6, by simp [g7]⟩
          · rw [show i + (j + 1) = i + 1 + j by omega]; exact .miss kc g1
          · simpa using MapR.cons h1 h2 h3 g5
        · refine .inr ⟨.miss kc g1, by simpa using MapR.cons h1 h2 h3 g2, g6, by simp [g7]⟩
    · cases e

theorem del_Fd {P : Program} {kt : TypeId} {I : Im} {w : World} {loc : Nat → Loc} {k : D} {v : Value} (h : keyOk P kt k = true) (hk : DR I k v) :
    ∀ {es : List (D × V × Nat)} {l : List MapEntry} (m : MapR I w loc es l) (i : Nat) {es' : List (D × V × Nat)}, delD k es = some es' →
      (∃ j u, Fd P kt v l i (some (i + j, u)) ∧ j < l.length ∧ MapR I w loc es' (l.eraseIdx j) ∧ es' = es.eraseIdx j) ∨
      (Fd P kt v l i none ∧ es' = es) := by
  intro es l m
  induction m with
  | nil => intro i es' e; simp [delD] at e; subst e; exact .inr ⟨.nil _, rfl⟩
  | @cons k0 x0 n0 ent es l h1 h2 h3 m ih =>
    intro i es' e
    simp only [delD] at e
    split at e
    · rename_i hq
      simp only [Option.some.injEq] at e; subst e
      exact .inl ⟨0, ent.val, .hit (keyCmp h hk h1 hq), by simp, by simpa using m, rfl⟩
    · rename_i hq
      have kc := keyCmp (P := P) h hk h1 hq
      cases hr : delD k es with
      | none => rw [hr] at e; cases e
      | some r =>
        rw [hr] at e; simp at e; subst e
        rcases ih (i + 1) hr with ⟨j, u, g1, g2, g3, g4⟩ | ⟨g1, g2⟩
        · refine .inl ⟨j + 1, u, ?_, by simpa using g2, by simpa using MapR.cons h1 h2 h3 g3, by simp [g4]⟩
          rw [show i + (j + 1) = i + 1 + j by omega]; exact .miss kc g1
        · subst g2
          exact .inr ⟨.miss kc g1, rfl⟩
    · cases e

theorem run_setObj_map {P : Program} {w : World} {b : Nat} {ents : Array MapEntry} {clock : Nat} (h : w.heap[b]? = some (.map ents clock)) (x : Obj) : (setObj b x).run P w = .ok () { w with heap := w.heap.setIfInBounds b x } := by
  simp only [setObj, Sem.run, h]

/-- A map written anew where it lies. -/
theorem write_map {c : Cx} {σ : List Ob} (h : SR c σ) {o b : Nat} (hl : c.loc o = .here b 0 1) {ents : Array MapEntry} {clock : Nat} (hb : c.w.heap[b]? = some (.map ents clock)) {es' : List (D × V × Nat)} {ents' : Array MapEntry} {clock' d : Nat}
    (hm : c.mapR es' ents'.toList) (hn : (es'.map (·.2.2)).Nodup) (hc : ∀ e ∈ es', e.2.2 < clock') :
    SR ⟨{ c.w with heap := c.w.heap.setIfInBounds b (.map ents' clock'), drawn := d }, c.loc, c.hid⟩ (σ.set o (.map es' clock')) ∧ Ext c ⟨{ c.w with heap := c.w.heap.setIfInBounds b (.map ents' clock'), drawn := d }, c.loc, c.hid⟩ := by
  have hlt := (Array.getElem?_eq_some_iff.1 hb).1
  have e1 : ({ c.w with heap := c.w.heap.setIfInBounds b (.map ents' clock'), drawn := d } : World).heap.size = c.w.heap.size := by simp
  have e2 : ∀ b', b' ≠ b → ({ c.w with heap := c.w.heap.setIfInBounds b (.map ents' clock'), drawn := d } : World).heap[b']? = c.w.heap[b']? := fun b' hb' => by
    show (c.w.heap.setIfInBounds b _)[b']? = _
    rw [Array.getElem?_setIfInBounds_ne (Ne.symm hb')]
  have e3 : ∀ (cs : Array Value) (e : TypeId) (f : Nat × Nat), c.w.heap[b]? = some (.cells cs e f) → ∃ (cs' : Array Value) (f' : Nat × Nat), ({ c.w with heap := c.w.heap.setIfInBounds b (.map ents' clock'), drawn := d } : World).heap[b]? = some (.cells cs' e f') ∧ cs'.size = cs.size := by
    intro cs e f q; rw [hb] at q; cases q
  have hE := Ext.write hl _ e1 e2 e3
  refine ⟨SR.write h hl _ e1 e2 e3 (.map es' clock') ⟨b, rfl, ents', ?_, hE.mapR hm, hn, hc⟩, hE⟩
  show (c.w.heap.setIfInBounds b _)[b]? = _
  simp [hlt]

def mapUpdateF (P : Program) (t : TypeId) (σ : List Ob) (m k x : V) : Option (List Ob) :=
  match mapT P t, m, keyV k with
  | some (kt, _), .mp o, some k => if keyOk P kt k then
      match σ[o]? with
      | some (.map es clk) => (putD k x clk es).map fun p => σ.set o (.map p.1 p.2)
      | _ => none
    else none
  | _, _, _ => none

theorem mapUpdateF_sound {P : Program} {t : TypeId} {c : Cx} {σ σ' : List Ob} (h : SR c σ) {m k x : V} {vm vk vx : Value} (e : mapUpdateF P t σ m k x = some σ') (hm : c.vr m vm) (hk : c.vr k vk) (hx : c.vr x vx) : SemOkU P (Instr.mapUpdate t vm vk vx) c σ' := by
  unfold mapUpdateF at e
  split at e
  · rename_i kt et o k ht hkv
    have hu := mapT_some ht
    have hk := keyV_dr hkv hk
    split at e
    · rename_i hko
      obtain ⟨td, htd⟩ := keyOk_some hko
      split at e
      · rename_i es clk hes
        cases hp : putD k x clk es with
        | none => rw [hp] at e; cases e
        | some pq =>
          obtain ⟨es', clk'⟩ := pq
          rw [hp] at e; simp at e; subst e
          obtain ⟨b, ents, hl, rfl, h1, h2, h3, h4⟩ := map_at h hes hm
          have hstamp : ∀ (l : List (D × V × Nat)) (n : Nat), (∀ q ∈ l.map (·.2.2), q < n) → ∀ e ∈ l, e.2.2 < n := fun l n hq e he => hq _ (List.mem_map.2 ⟨e, he, rfl⟩)
          have h4' : ∀ q ∈ es.map (·.2.2), q < clk := fun q hq => by
            obtain ⟨e, he, rfl⟩ := List.mem_map.1 hq
            exact h4 e he
          rcases put_Fd (P := P) hko hk hx h2 0 hp with ⟨j, ent, g1, g2, g3, g4, g5, g6, g7⟩ | ⟨g1, g2, g6, g7⟩
          · have hj := (List.getElem?_eq_some_iff.1 g2).1
            have ej : ents[j]? = some ent := by simpa using g2
            have hmod : (ents.modify j fun e => { e with key := vk, val := vx }).toList = ents.toList.set j { ent with key := vk, val := vx } := by
              apply List.ext_getElem?
              intro q
              rw [Array.getElem?_toList, Array.getElem?_modify, List.getElem?_set]
              by_cases hq : j = q
              · subst hq
                simp [ej]
                have := (Array.getElem?_eq_some_iff.1 ej).1
                exact this
              · simp [hq]
            subst g6
            obtain ⟨k1, k2⟩ := write_map h hl h1 (es' := es') (ents' := ents.modify j fun e => { e with key := vk, val := vx }) (clock' := clk') (d := c.w.drawn) (by rw [hmod]; exact g5) (by rw [g7]; exact h3) (hstamp _ _ (by rw [g7]; exact h4'))
            refine ⟨_, c.loc, ?_, k1, k2⟩
            simp only [Nat.zero_add] at g1
            simp only [Instr.mapUpdate, Sem.run_bind, run_underlying hu, Result.andThen_ok, run_getObj_map h1, keyOk_checks hko hk, g1.run htd, ej, Option.map_some, Option.getD_some, Instr.keyThatStays, g4, if_true, Sem.run_pure]
            exact run_setObj_map h1 _
          · subst g6
            obtain ⟨k1, k2⟩ := write_map h hl h1 (es' := es') (ents' := ents.push { key := vk, val := vx, born := clk }) (clock' := clk + 1) (d := c.w.drawn) (by simpa using g2)
              (by
                rw [g7]
                refine List.nodup_append.2 ⟨h3, by simp, ?_⟩
                intro a ha b' hb' hab
                simp at hb'; subst hb'; subst hab
                have := h4' _ ha
                omega)
              (hstamp _ _ (by
                rw [g7]
                intro q hq
                rcases List.mem_append.1 hq with hq | hq
                · have := h4' q hq; omega
                · simp at hq; omega))
            refine ⟨_, c.loc, ?_, k1, k2⟩
            simp only [Instr.mapUpdate, Sem.run_bind, run_underlying hu, Result.andThen_ok, run_getObj_map h1, keyOk_checks hko hk, g1.run htd]
            exact run_setObj_map h1 _
      · cases e
    · cases e
  · cases e

/-- The entry of a key, which is made where there is none: its value and its stamp. -/
def mapEntryF (P : Program) (t : TypeId) (σ : List Ob) (m k : V) : Option (V × List Ob) :=
  match mapT P t, m, keyV k with
  | some (kt, et), .mp o, some k => if keyOk P kt k then
      match σ[o]? with
      | some (.map es clk) => match findD k es 0 with
        | some (some (i, x)) => match es[i]? with
          | some (_, _, n) => some (.tup [x, .d (.int .i64 (n : Nat))], σ.set o (.map es clk))
          | none => none
        | some none => match zeroV P et with
          | some z => some (.tup [z, .d (.int .i64 (clk : Nat))], σ.set o (.map (es ++ [(k, z, clk)]) (clk + 1)))
          | none => none
        | none => none
      | _ => none
    else none
  | _, _, _ => none

theorem MapR.get {I : Im} {w : World} {loc : Nat → Loc} {es : List (D × V × Nat)} {l : List MapEntry} (m : MapR I w loc es l) : ∀ {j : Nat} {k : D} {x : V} {n : Nat}, es[j]? = some (k, x, n) → ∃ e, l[j]? = some e ∧ DR I k e.key ∧ VR I w loc x e.val ∧ e.born = n := by
  induction m with
  | nil => intro j k x n h; simp at h
  | @cons k0 x0 n0 ent es l h1 h2 h3 m ih =>
    intro j k x n h
    cases j with
    | zero => simp at h; obtain ⟨rfl, rfl, rfl⟩ := h; exact ⟨ent, rfl, h1, h2, h3⟩
    | succ j => simpa using ih (by simpa using h)

theorem MapR.snoc {I : Im} {w : World} {loc : Nat → Loc} {es : List (D × V × Nat)} {l : List MapEntry} (m : MapR I w loc es l) {k : D} {x : V} {n : Nat} {v u : Value} (hk : DR I k v) (hx : VR I w loc x u) : MapR I w loc (es ++ [(k, x, n)]) (l ++ [⟨v, u, n⟩]) := by
  induction m with
  | nil => exact .cons hk hx rfl .nil
  | cons h1 h2 h3 m ih => exact .cons h1 h2 h3 ih

theorem mapEntryF_sound {P : Program} {t : TypeId} {c : Cx} {σ σ' : List Ob} (h : SR c σ) {m k r : V} {vm vk : Value} (e : mapEntryF P t σ m k = some (r, σ')) (hm : c.vr m vm) (hk : c.vr k vk) : SemOk P (Instr.mapEntry t vm vk) c r σ' := by
  unfold mapEntryF at e
  split at e
  · rename_i kt et o k ht hkv
    have hu := mapT_some ht
    have hk := keyV_dr hkv hk
    split at e
    · rename_i hko
      obtain ⟨td, htd⟩ := keyOk_some hko
      split at e
      · rename_i es clk hes
        obtain ⟨b, ents, hl, rfl, h1, h2, h3, h4⟩ := map_at h hes hm
        split at e
        · rename_i i x hf
          split at e
          · rename_i kx x' n hi
            simp only [Option.some.injEq, Prod.mk.injEq] at e
            obtain ⟨rfl, rfl⟩ := e
            obtain ⟨r', g1, g2⟩ := Fd_findD (P := P) hko hk h2 0 hf
            cases r' with
            | none => exact g2.elim
            | some q =>
              obtain ⟨j', u⟩ := q
              obtain ⟨rfl, g3, _, k', n', g5, g6⟩ := g2
              rw [Nat.sub_zero, hi] at g5
              simp only [Option.some.injEq, Prod.mk.injEq] at g5
              obtain ⟨rfl, rfl, rfl⟩ := g5
              obtain ⟨ent, e1, e2, e3, e4⟩ := h2.get hi
              obtain ⟨s1, s2⟩ := keyEq_same g6 hk e2
              have ej : ents[i]? = some ent := by simpa using e1
              have hmod : (ents.modify i fun e => { e with key := vk }) = ents := by
                apply Array.ext'
                apply List.ext_getElem?
                intro q
                rw [Array.getElem?_toList, Array.getElem?_toList, Array.getElem?_modify]
                by_cases hq : i = q
                · subst hq
                  simp only [if_true, ej, Option.map_some, Option.some.injEq]
                  rw [s1]
                · simp [hq]
              obtain ⟨k1, k2⟩ := write_map h hl h1 (es' := es) (ents' := ents) (clock' := clk) (d := c.w.drawn) h2 h3 h4
              refine ⟨.tuple #[u, goInt (n : Nat)], _, c.loc, ?_, k1, k2, ?_⟩
              · simp only [Instr.mapEntry, Sem.run_bind, run_underlying hu, Result.andThen_ok, run_getObj_map h1, keyOk_checks hko hk, g1.run htd, ej, Option.map_some, Option.getD_some, Instr.keyThatStays, s2, if_true, Sem.run_pure, hmod, run_setObj_map h1, e4]
              · simp only [Cx.vr, VR, VRs]
                exact ⟨[u, goInt (n : Nat)], rfl, u, _, rfl, k2.vr g3, _, [], rfl, by simp [DR, goInt], rfl⟩
          · cases e
        · rename_i hf
          split at e
          · rename_i z hz
            simp only [Option.some.injEq, Prod.mk.injEq] at e
            obtain ⟨rfl, rfl⟩ := e
            obtain ⟨r', g1, g2⟩ := Fd_findD (P := P) hko hk h2 0 hf
            obtain ⟨zv, z1, rfl, _⟩ := zeroV_some hz c.w
            cases r' with
            | some q => exact g2.elim
            | none =>
              obtain ⟨k1, k2⟩ := write_map h hl h1 (es' := es ++ [(k, ofConst zv, clk)]) (ents' := ents.push { key := vk, val := zv, born := clk }) (clock' := clk + 1) (d := c.w.drawn)
                (by simpa using h2.snoc hk (VR_ofConst _ _ _ _))
                (by
                  rw [List.map_append]
                  refine List.nodup_append.2 ⟨h3, by simp, ?_⟩
                  intro a ha b' hb' hab
                  simp at hb'; subst hb'; subst hab
                  obtain ⟨e, he, rfl⟩ := List.mem_map.1 ha
                  have := h4 e he
                  omega)
                (by
                  intro e he
                  rcases List.mem_append.1 he with he | he
                  · have := h4 e he; omega
                  · simp at he; subst he; simp)
              refine ⟨.tuple #[zv, goInt (clk : Nat)], _, c.loc, ?_, k1, k2, ?_⟩
              · simp only [Instr.mapEntry, Sem.run_bind, run_underlying hu, Result.andThen_ok, run_getObj_map h1, keyOk_checks hko hk, g1.run htd, z1, run_setObj_map h1, Sem.run_pure]
              · simp only [Cx.vr, VR, VRs]
                exact ⟨[zv, goInt (clk : Nat)], rfl, zv, _, rfl, VR_ofConst _ _ _ _, _, [], rfl, by simp [DR, goInt], rfl⟩
          · cases e
        · cases e
      · cases e
    · cases e
  · cases e

def stampD (n : Int) (x : V) : List (D × V × Nat) → Option (List (D × V × Nat))
  | [] => none
  | (k, y, m) :: r => if (m : Int) = n then some ((k, x, m) :: r) else (stampD n x r).map ((k, y, m) :: ·)

def entryStoreF (P : Program) (σ : List Ob) (m s x : V) : Option (List Ob) :=
  match m, s with
  | .mp o, .d (.int .i64 n) => match σ[o]? with
    | some (.map es clk) => (stampD n x es).map fun es' => σ.set o (.map es' clk)
    | _ => none
  | _, _ => none

theorem stamp_find {I : Im} {w : World} {loc : Nat → Loc} {x : V} {vx : Value} (hx : VR I w loc x vx) {n : Int} {es : List (D × V × Nat)} {l : List MapEntry} (m : MapR I w loc es l) : ∀ {es' : List (D × V × Nat)}, stampD n x es = some es' →
    ∃ j e, l.findIdx? (fun e => (e.born : Int) == n) = some j ∧ l[j]? = some e ∧ MapR I w loc es' (l.set j { e with val := vx }) ∧ es'.map (·.2.2) = es.map (·.2.2) := by
  induction m with
  | nil => intro es' h; simp [stampD] at h
  | @cons k0 x0 n0 ent es l h1 h2 h3 m ih =>
    intro es' h
    simp only [stampD] at h
    split at h
    · rename_i q
      simp only [Option.some.injEq] at h; subst h
      refine ⟨0, ent, ?_, rfl, .cons h1 hx h3 m, rfl⟩
      simp [List.findIdx?_cons, h3, q]
    · rename_i q
      cases hr : stampD n x es with
      | none => rw [hr] at h; cases h
      | some r =>
        rw [hr] at h; simp at h; subst h
        obtain ⟨j, e, g1, g2, g3, g4⟩ := ih hr
        refine ⟨j + 1, e, ?_, by simpa using g2, by simpa using MapR.cons h1 h2 h3 g3, by simp [g4]⟩
        simp [List.findIdx?_cons, h3, q, g1]

theorem entryStoreF_sound {P : Program} (t : TypeId) {c : Cx} {σ σ' : List Ob} (h : SR c σ) {m s x : V} {vm vs vx : Value} (e : entryStoreF P σ m s x = some σ') (hm : c.vr m vm) (hs : c.vr s vs) (hx : c.vr x vx) : SemOkU P (Instr.entryStore t vm vs vx) c σ' := by
  unfold entryStoreF at e
  split at e
  · rename_i o n
    split at e
    · rename_i es clk hes
      cases hp : stampD n x es with
      | none => rw [hp] at e; cases e
      | some es' =>
        rw [hp] at e; simp at e; subst e
        obtain ⟨b, ents, hl, rfl, h1, h2, h3, h4⟩ := map_at h hes hm
        simp only [Cx.vr, VR, DR] at hs; subst hs
        obtain ⟨j, ent, g1, g2, g3, g4⟩ := stamp_find hx h2 hp
        have ej : ents[j]? = some ent := by simpa using g2
        have hmod : (ents.modify j fun e => { e with val := vx }).toList = ents.toList.set j { ent with val := vx } := by
          apply List.ext_getElem?
          intro q
          rw [Array.getElem?_toList, Array.getElem?_modify, List.getElem?_set]
          by_cases hq : j = q
          · subst hq
            simp [ej]
            have := (Array.getElem?_eq_some_iff.1 ej).1
            exact this
          · simp [hq]
        have hfi : ents.findIdx? (fun e => (e.born : Int) == n) = some j := by
          have q := List.findIdx?_toArray (fun e : MapEntry => (e.born : Int) == n) ents.toList
          rw [Array.toArray_toList] at q
          rw [q, g1]
        obtain ⟨k1, k2⟩ := write_map h hl h1 (es' := es') (ents' := ents.modify j fun e => { e with val := vx }) (clock' := clk) (d := c.w.drawn) (by rw [hmod]; exact g3) (by rw [g4]; exact h3)
          (by
            intro e he
            have hq : e.2.2 ∈ es'.map (·.2.2) := List.mem_map.2 ⟨e, he, rfl⟩
            rw [g4] at hq
            obtain ⟨e', he', hq⟩ := List.mem_map.1 hq
            rw [← hq]; exact h4 e' he')
        refine ⟨_, c.loc, ?_, k1, k2⟩
        have hn : (asInt (.int .i64 n)).run P c.w = .ok n c.w := by simp [asInt, asIntOf]
        simp only [Instr.entryStore, Sem.run_bind, Result.andThen_ok, run_getObj_map h1, hn, hfi]
        exact run_setObj_map h1 _
    · cases e
  · cases e

def deleteF (P : Program) (t : TypeId) (σ : List Ob) (m k : V) : Option (List Ob) :=
  match mapT P t, keyV k with
  | some (kt, _), some k => if keyOk P kt k then
      match m with
      | .mp o => match σ[o]? with
        | some (.map es clk) => (delD k es).map fun es' => σ.set o (.map es' clk)
        | _ => none
      | .d .nilm => some σ
      | _ => none
    else none
  | _, _ => none

theorem deleteF_sound {P : Program} {t ty : TypeId} {c : Cx} {σ σ' : List Ob} (h : SR c σ) {m k : V} {vm vk : Value} (e : deleteF P t σ m k = some σ') (hm : c.vr m vm) (hk : c.vr k vk) : SemOk P (Builtin.delete_ #[t] ty #[vm, vk]) c (.tup []) σ' := by
  have htup : ∀ c' : Cx, c'.vr (.tup []) (.tuple #[]) := fun c' => by simp only [Cx.vr, VR, VRs]; exact ⟨[], rfl, rfl⟩
  unfold deleteF at e
  split at e
  · rename_i kt et k ht hkv
    have hu := mapT_some ht
    have hk := keyV_dr hkv hk
    split at e
    · rename_i hko
      obtain ⟨td, htd⟩ := keyOk_some hko
      split at e
      · rename_i o
        split at e
        · rename_i es clk hes
          cases hp : delD k es with
          | none => rw [hp] at e; cases e
          | some es' =>
            rw [hp] at e; simp at e; subst e
            obtain ⟨b, ents, hl, rfl, h1, h2, h3, h4⟩ := map_at h hes hm
            rcases del_Fd (P := P) hko hk h2 0 hp with ⟨j, u, g1, g2, g3, g4⟩ | ⟨g1, rfl⟩
            · have hj : j < ents.size := by simpa using g2
              have her : (ents.eraseIdxIfInBounds j).toList = ents.toList.eraseIdx j := by simp [Array.eraseIdxIfInBounds, hj]
              obtain ⟨k1, k2⟩ := write_map h hl h1 (es' := es') (ents' := ents.eraseIdxIfInBounds j) (clock' := clk) (d := c.w.drawn) (by rw [her]; exact g3)
                (by rw [g4]; exact h3.sublist (List.Sublist.map _ (List.eraseIdx_sublist _ _)))
                (by rw [g4]; intro e he; exact h4 e (List.mem_of_mem_eraseIdx he))
              refine ⟨.tuple #[], _, c.loc, ?_, k1, k2, htup _⟩
              simp only [Nat.zero_add] at g1
              simp only [Builtin.delete_, List.getElem?_toArray, List.getElem?_cons_zero, List.getElem?_cons_succ, Sem.run_bind, run_underlying hu, Result.andThen_ok, run_getObj_map h1, keyOk_checks hko hk, g1.run htd, run_setObj_map h1, Sem.run_pure]
            · obtain ⟨k1, k2⟩ := write_map h hl h1 (es' := es') (ents' := ents) (clock' := clk) (d := c.w.drawn) h2 h3 h4
              refine ⟨.tuple #[], _, c.loc, ?_, k1, k2, htup _⟩
              simp only [Builtin.delete_, List.getElem?_toArray, List.getElem?_cons_zero, List.getElem?_cons_succ, Sem.run_bind, run_underlying hu, Result.andThen_ok, run_getObj_map h1, keyOk_checks hko hk, g1.run htd, run_setObj_map h1, Sem.run_pure]
        · cases e
      · simp only [Option.some.injEq] at e; subst e
        simp only [Cx.vr, VR, DR] at hm; subst hm
        refine ⟨.tuple #[], c.w, c.loc, ?_, h, Ext.refl c, htup _⟩
        simp only [Builtin.delete_, List.getElem?_toArray, List.getElem?_cons_zero, List.getElem?_cons_succ, Sem.run_bind, run_underlying hu, Result.andThen_ok, keyOk_checks hko hk, Sem.run_pure]
      · cases e
    · cases e
  · cases e

theorem makeMap_sound {P : Program} {t : TypeId} {c : Cx} {σ : List Ob} (h : SR c σ) : SemOk P (Instr.makeMap t none) c (.mp σ.length) (σ ++ [.map [] 0]) := by
  have e1 : ({ c.w with heap := c.w.heap.push (.map #[] 0) } : World).heap.size = c.w.heap.size + 1 := by simp
  have e2 : ∀ b, b < c.w.heap.size → ({ c.w with heap := c.w.heap.push (.map #[] 0) } : World).heap[b]? = c.w.heap[b]? := fun b hb => heap_push_lt hb
  refine ⟨.map (some c.w.heap.size), _, upd c.loc σ.length (.here c.w.heap.size 0 1), ?_, SR.new h _ e1 e2 1 (.map [] 0) ⟨c.w.heap.size, rfl, #[], heap_push_at, .nil, by simp, by simp⟩, Ext.new h _ e1 e2 1, ?_⟩
  · simp only [Instr.makeMap, Sem.run_bind, Sem.run_pure, Result.andThen_ok, run_newObj]
  · simp [Cx.vr, VR]

/-! ### text turned into bytes -/
def strBytesF (P : Program) (src dst : TypeId) (σ : List Ob) : V → Option (V × List Ob)
  | .d (.str s) => match elemOfSlice P dst with
    | some e => if isStrT P src = true ∧ intT P e = some .u8 ∧ szOf P e = 1 then some (.sl σ.length 0 s.length, σ ++ [.arr 1 true (s.map u8D)]) else none
    | none => none
  | _ => none

theorem freeze_push {w : World} {cs : Array Value} {e : TypeId} {d : Nat} : ({ w with heap := w.heap.push (.cells cs e), drawn := d } : World).freeze { block := w.heap.size, off := cs.size } 1 = { w with heap := w.heap.push (.cells cs e (cs.size, cs.size + 1)), drawn := d } := by
  unfold World.freeze
  simp only [Nat.one_ne_zero, if_false]
  congr 1
  apply Array.ext'
  apply List.ext_getElem?
  intro j
  simp only [Array.getElem?_toList]
  rw [Array.getElem?_modify, Array.getElem?_push, Array.getElem?_push]
  by_cases h : w.heap.size = j
  · subst h; simp
  · simp [h, Ne.symm h]

theorem strBytesF_sound {P : Program} {src dst : TypeId} {c : Cx} {σ σ' : List Ob} (h : SR c σ) {x r : V} {vx : Value} (e : strBytesF P src dst σ x = some (r, σ')) (hx : c.vr x vx) : SemOk P (convert src dst vx) c r σ' := by
  unfold strBytesF at e
  split at e
  · rename_i s
    split at e
    · rename_i el hel
      split at e
      · rename_i hq
        simp only [Option.some.injEq, Prod.mk.injEq] at e
        obtain ⟨rfl, rfl⟩ := e
        have hu := elemOfSlice_some hel
        simp only [Cx.vr, VR, DR] at hx; subst hx
        have hdr : DRs c.im (s.map u8D) (s.map fun b => Value.int .u8 b.toNat) := by
          clear hel
          induction s with
          | nil => simp [DRs]
          | cons b s ih => simp only [List.map_cons, DRs, u8D, DR]; exact ⟨_, _, rfl, rfl, ih⟩
        have hfl : ∀ u ∈ s.map (fun b => Value.int .u8 b.toNat), Flat u 1 := by
          intro u hu
          obtain ⟨b, _, rfl⟩ := List.mem_map.1 hu
          exact ⟨rfl, by simp [Value.cells, Value.oneCell']⟩
        let cap := (Question.appendCap s.length 0 el).cut (c.w.tape c.w.drawn (.appendCap s.length 0 el))
        have hcap : s.length ≤ cap := by simp [cap, Question.cut]
        have hflat : (flat (s.map fun b => Value.int .u8 b.toNat)) = s.map fun b => Value.int .u8 b.toNat := by
          unfold flat
          clear hcap hel hdr hfl
          induction s with
          | nil => rfl
          | cons b s ih => simp only [List.map_cons, List.flatMap_cons, ih]; rfl
        have hlen : ((flat (s.map fun b => Value.int .u8 b.toNat)) ++ List.replicate (cap - s.length) (Value.int .u8 0)).length = cap := by
          rw [hflat]; simp; omega
        obtain ⟨k1, k2, k3⟩ := new_arr h (by omega) hdr hfl (List.replicate (cap - s.length) (Value.int .u8 0)) el cap (c.w.drawn + 1) true (by simp; omega) (by simpa using hcap) (cap, cap + 1)
          (by rw [hlen]; exact ⟨by simp, fun i hi hh => by simp only at hh; omega⟩) (by intro q; cases q)
        rw [List.length_map] at k3
        refine ⟨_, _, _, ?_, k1, k2, k3⟩
        have hqf : (Question.appendCap s.length 0 el).forced = false := rfl
        have harr : (s.map fun b => Value.int .u8 (b.toNat : Int)).toArray ++ Array.replicate (cap - s.length) (Value.int .u8 0) = ((flat (s.map fun b => Value.int .u8 b.toNat)) ++ List.replicate (cap - s.length) (Value.int .u8 0)).toArray := by
          rw [hflat]; apply Array.ext'; simp
        have hsz : ((flat (s.map fun b => Value.int .u8 b.toNat)) ++ List.replicate (cap - s.length) (Value.int .u8 0)).toArray.size = cap := by rw [List.size_toArray, hlen]
        have hfz := freeze_push (w := c.w) (cs := ((flat (s.map fun b => Value.int .u8 b.toNat)) ++ List.replicate (cap - s.length) (Value.int .u8 0)).toArray) (e := el) (d := c.w.drawn + 1)
        rw [hsz] at hfz
        have hshape : ({ c.w with heap := c.w.heap.push (.cells ((flat (s.map fun b => Value.int .u8 b.toNat)) ++ List.replicate (cap - s.length) (Value.int .u8 0)).toArray el), drawn := c.w.drawn + 1 } : World).shape? c.w.heap.size = some (el, cap) := by
          simp only [World.shape?, Array.getElem?_push_size, hsz]
        simp only [convert, Sem.run_bind, run_underlying (isStrT_some hq.1), run_underlying hu, run_underlying (intT_some hq.2.1), Result.andThen_ok, Conv.stringToBytes, size_mk, run_choose, hqf, Bool.false_eq_true, if_false]
        show ((newRow el _).run P _).andThen _ = _
        have hmap : (⟨s.toArray⟩ : ByteArray).data.map (fun b => Value.int .u8 (b.toNat : Int)) = (s.map fun b => Value.int .u8 (b.toNat : Int)).toArray := by simp
        rw [hmap, harr]
        simp only [newRow, Sem.run_bind, run_newObj, Result.andThen_ok, Sem.run_pure, markStringish, run_shape, hshape, run_freeze]
        rw [hfz]
      · cases e
    · cases e
  · cases e

/-! ### append of elements that hold references -/
def srcV (P : Program) (e : TypeId) (σ : List Ob) (tx : TypeId) : V → Option (List V × Nat)
  | .sl o off len => match σ[o]? with
    | some (.vec sz cs) => if isSliceT P tx = true ∧ sz = szOf P e ∧ (off + len) * sz ≤ cs.length ∧ ((cs.drop (off * sz)).take (len * sz)).all (one σ) = true then some ((cs.drop (off * sz)).take (len * sz), len) else none
    | _ => none
  | _ => none

theorem srcV_sound {P : Program} {e tx : TypeId} {c : Cx} {σ : List Ob} (h : SR c σ) {x : V} {xs : List V} {m : Nat} (hx : srcV P e σ tx x = some (xs, m)) {vx : Value} (r : c.vr x vx) : ∃ fs, c.vrs xs fs ∧ Src P (szOf P e) tx vx m fs c.w := by
  unfold srcV at hx
  split at hx
  · rename_i o off len
    split at hx
    · rename_i sz cs hes
      split at hx
      · rename_i hq
        obtain ⟨ht, rfl, hle, hone⟩ := hq
        simp only [Option.some.injEq, Prod.mk.injEq] at hx
        obtain ⟨rfl, rfl⟩ := hx
        obtain ⟨el, hu⟩ := isSliceT_some ht
        obtain ⟨b, base, hl, h0, arr, ty, f, h1, h2, us, hule, hat, h3⟩ := h.get hes
        simp only [Cx.vr, VR, hl] at r
        obtain ⟨a, cap, rfl, g1, g2, _⟩ := r
        have hv := VRs_take (VRs_drop h3 (off * szOf P e)) (len * szOf P e)
        have hul := VRs_length h3
        rw [Nat.add_mul] at hle
        have hfl : ((us.drop (off * szOf P e)).take (len * szOf P e)).length = len * szOf P e := by
          rw [List.length_take, List.length_drop]; omega
        refine ⟨_, hv, Src.ofSlice c.w hu ⟨b, a, none⟩ len cap _ hfl (fun j u hj => ?_) (vrs_one h hv hone)⟩
        have hjl : j < len * szOf P e := by have := (List.getElem?_eq_some_iff.1 hj).1; omega
        have hlp : 0 < len := by
          rcases Nat.eq_zero_or_pos len with q | q
          · subst q; rw [Nat.zero_mul] at hjl; omega
          · exact q
        have ha := g2 (by omega)
        rw [Addr.add_lit, ha, cell?_cells h1, Nat.add_assoc, hat _ (by omega)]
        rw [List.getElem?_take, if_pos hjl, List.getElem?_drop] at hj
        exact hj
      · cases hx
    · cases hx
  · cases hx

def appendVecF (P : Program) (t tx : TypeId) (σ : List Ob) (dst src : V) : Option (V × List Ob) :=
  match elemOfSlice P t with
  | some e => if elemOk P e = true then
      match srcV P e σ tx src with
      | some (xs, m) => match dst with
        | .d .nils => if 0 < m ∧ m * bytesT P e ≤ 70368744177664 ∧ bytesT P e ≤ 16384 then some (.sl σ.length 0 m, σ ++ [.vec (szOf P e) xs]) else none
        | .sl o off len => match σ[o]? with
          | some (.vec sz cs) => if sz = szOf P e ∧ m = 0 then some (.sl o off len, σ)
            else if sz = szOf P e ∧ (off + len + m) * sz ≤ cs.length then some (.sl o off (len + m), σ.set o (.vec sz (setAt cs ((off + len) * sz) xs)))
            else if off = 0 ∧ sz = szOf P e ∧ len * sz ≤ cs.length ∧ (len + m) * bytesT P e ≤ 70368744177664 ∧ bytesT P e ≤ 16384 then
              some (.sl σ.length 0 (len + m), σ.set o .dead ++ [.vec sz (cs.take (len * sz) ++ xs)]) else none
          | _ => none
        | _ => none
      | none => none
    else none
  | none => none

/-- The part of such an append where a new row is made. -/
theorem append_growV {P : Program} {t tx ty e : TypeId} {c : Cx} {σ : List Ob} (h : SR c σ) {i : TypeInfo} {z : Value} (ht : P.underlying t = some (.slice e)) (hi : P.info? e = some i) (hz : i.zero = some z) (hzs : z.cells.size = i.size) (h0 : 0 < i.size) (hb : 0 < i.bytes)
    {vx : Value} {xs : List V} {m : Nat} {fs : List Value} (hx : c.vrs xs fs) (s : Src P i.size tx vx m fs c.w) {base : Option Addr} {sLen sCap : Nat} {olds : List V} {ofs : List Value} (ho : c.vrs olds ofs) (hol : ofs.length = sLen * i.size)
    (hold : (Builtin.firstCells i.size sLen (.slice base sLen sCap)).run P c.w.drew = .ok ofs.toArray c.w.drew) (hg : sCap < sLen + m)
    (hfit : Builtin.nextslicecap (sLen + m) sCap * i.bytes ≤ 281474976710656) :
    SemOk P (Builtin.append_ #[t, tx] ty #[.slice base sLen sCap, vx]) c (.sl σ.length 0 (sLen + m)) (σ ++ [.vec i.size (olds ++ xs)]) := by
  have hneed := le_nextslicecap hg
  have h63 : ((sLen + m : Nat) : Int) ≤ 9223372036854775807 := by
    have : sLen + m ≤ Builtin.nextslicecap (sLen + m) sCap * i.bytes := Nat.le_trans hneed (Nat.le_mul_of_pos_right _ hb)
    omega
  have hrun := run_append_grow_src (P := P) c.w t tx ty e i z ht hi hz base sLen sCap ofs hold vx m fs s hg h63 hfit
  have hge := grownCap_ge c.w (sLen + m) sCap e
  have hzl : (Builtin.zeroCells z.cells (grownCap c.w (sLen + m) sCap e - (sLen + m))).toList.length = (grownCap c.w (sLen + m) sCap e - (sLen + m)) * i.size := by simp [zeroCells_size, hzs]
  have hfl := s.newsLen
  have l1 := VRs_length ho
  have l2 := VRs_length hx
  obtain ⟨k1, k2, k3⟩ := new_vec h (vrs_append ho hx) e (c.w.drawn + 1) i.size h0 (Builtin.zeroCells z.cells (grownCap c.w (sLen + m) sCap e - (sLen + m))).toList (sLen + m) (grownCap c.w (sLen + m) sCap e)
    (by rw [List.length_append, Nat.add_mul]; omega) (by rw [hzl, List.length_append, hol, hfl, ← Nat.add_mul, ← Nat.add_mul]; congr 1; omega) hge
  refine ⟨_, _, _, ?_, k1, k2, k3⟩
  rw [hrun]
  congr 1
  show World.alloc _ _ = _
  unfold World.alloc World.drew
  congr 2
  congr 1
  apply Array.ext'
  simp

theorem appendVecF_sound {P : Program} {t tx ty : TypeId} {c : Cx} {σ σ' : List Ob} (h : SR c σ) {dst src r : V} {vd vx : Value} (e : appendVecF P t tx σ dst src = some (r, σ')) (hd : c.vr dst vd) (hx : c.vr src vx) :
    SemOk P (Builtin.append_ #[t, tx] ty #[vd, vx]) c r σ' := by
  unfold appendVecF at e
  split at e
  · rename_i el hel
    have hu := elemOfSlice_some hel
    split at e
    · rename_i hk
      obtain ⟨i, z, hi, hz, hzs, h0, hb, hsz⟩ := elemOk_some hk
      split at e
      · rename_i xs m hxs
        obtain ⟨fs, hfs, s⟩ := srcV_sound h hxs hx
        rw [hsz] at s
        split at e
        · split at e
          case isFalse => cases e
          rename_i hcap
          have hm := hcap.1
          simp only [Option.some.injEq, Prod.mk.injEq] at e
          obtain ⟨rfl, rfl⟩ := e
          simp only [Cx.vr, VR, DR] at hd; subst hd
          rw [hsz]
          have hp : Builtin.nextslicecap (0 + m) 0 * i.bytes ≤ 281474976710656 := cap_fits (by omega) (by rw [Nat.zero_add]; simpa [bytesT, hi] using hcap.2.1) (by simpa [bytesT, hi] using hcap.2.2)
          have := append_growV h (ty := ty) hu hi hz hzs h0 hb hfs s (base := none) (sLen := 0) (sCap := 0) (olds := []) (ofs := []) (by simp [Cx.vrs, VRs]) (by simp) (by simp [Builtin.firstCells]) (by omega) hp
          simpa using this
        · rename_i o off len
          split at e
          · rename_i sz cs hes
            split at e
            · rename_i hq
              obtain ⟨rfl, rfl⟩ := hq
              simp only [Option.some.injEq, Prod.mk.injEq] at e
              obtain ⟨rfl, rfl⟩ := e
              have hfs0 : fs = [] := List.eq_nil_of_length_eq_zero (by have := s.newsLen; simpa using this)
              subst hfs0
              obtain ⟨b, base, hl, _, _⟩ := h.get hes
              have hd' := hd
              simp only [Cx.vr, VR, hl] at hd
              obtain ⟨a, cap, rfl, g1, g2, _⟩ := hd
              have hrun := run_append_room_src (P := P) c.w t tx ty el i hu hi b a len cap vx 0 [] s (by omega) (fun j hj => by simp at hj) (fun j hj => by simp at hj)
              exact ⟨_, c.w, c.loc, hrun, h, Ext.refl c, hd'⟩
            rename_i hm0
            split at e
            · rename_i hq
              obtain ⟨rfl, hfit⟩ := hq
              have hm : 0 < m := by
                rcases Nat.eq_zero_or_pos m with q | q
                · exact absurd ⟨rfl, q⟩ hm0
                · exact q
              simp only [Option.some.injEq, Prod.mk.injEq] at e
              obtain ⟨rfl, rfl⟩ := e
              rw [hsz] at hes hfit ⊢
              obtain ⟨b, base, hl, _, arr, ty', f, h1, h2, us, hule, hat, h3⟩ := h.get hes
              have hul := VRs_length h3
              have hd' := hd
              simp only [Cx.vr, VR, hl] at hd
              obtain ⟨a, cap, rfl, g1, g2, cs', e', f', hh, g3, g4⟩ := hd
              rw [h1] at hh
              simp only [Option.some.injEq, Obj.cells.injEq] at hh
              obtain ⟨rfl, rfl, rfl⟩ := hh
              have hroom : len + m ≤ cap := by
                have : (off + len + m) * i.size ≤ (off + cap) * i.size := by omega
                have := Nat.le_of_mul_le_mul_right this h0
                omega
              have ha := g2 (by omega)
              subst ha
              have hfl := s.newsLen
              have hxl := VRs_length hfs
              have hpos : base + off * i.size + len * i.size = base + (off + len) * i.size := by rw [Nat.add_mul]; omega
              have hfit' : (off + len) * i.size + m * i.size ≤ cs.length := by rw [← Nat.add_mul]; exact hfit
              have hrun := run_append_room_src (P := P) c.w t tx ty el i hu hi b (base + off * i.size) len cap vx m fs s hroom
                (fun j hj => by rw [cell?_cells h1, Array.getElem?_eq_getElem (by omega)]; rfl) (fun j hj => frozen_no h1 h2 (by omega))
              rw [hpos] at hrun
              obtain ⟨k1, k2, k3⟩ := vec_write h hl h0 h1 h2 hule hat h3 hfs (kk := (off + len) * i.size) (by omega)
              refine ⟨_, _, c.loc, hrun, k1, k2, ?_⟩
              simp only [Cx.vr, VR, hl]
              exact ⟨_, cap, rfl, hroom, fun _ => rfl, _, ty', f, k3, by rw [putL_size]; exact g3, by rw [putL_size]; exact g4⟩
            split at e
            · rename_i hq
              obtain ⟨rfl, rfl, hle, hcond⟩ := hq
              have hm : 0 < m := by
                rcases Nat.eq_zero_or_pos m with q | q
                · exact absurd ⟨rfl, q⟩ hm0
                · exact q
              simp only [Option.some.injEq, Prod.mk.injEq] at e
              obtain ⟨rfl, rfl⟩ := e
              rw [hsz] at hes hle ⊢
              have hlt : o < σ.length := (List.getElem?_eq_some_iff.1 hes).1
              obtain ⟨b, base, hl, _, arr, ty', f, h1, h2, us, hule, hat, h3⟩ := h.get hes
              have hul := VRs_length h3
              have hold := VRs_take h3 (len * i.size)
              have hd' := hd
              simp only [Cx.vr, VR, hl] at hd
              obtain ⟨a, cap, rfl, g1, g2, cs', e', f', hh, g3, g4⟩ := hd
              rw [h1] at hh
              simp only [Option.some.injEq, Obj.cells.injEq] at hh
              obtain ⟨rfl, rfl, rfl⟩ := hh
              simp only [Nat.zero_mul, Nat.add_zero, Nat.zero_add] at g2 g4
              have hutl : (us.take (len * i.size)).length = len * i.size := by rw [List.length_take]; omega
              have hfl := s.newsLen
              by_cases hroom : len + m ≤ cap
              · -- there is room
                have ha := (g2 (by omega)).symm
                subst ha
                have hfit : base + (len + m) * i.size ≤ arr.size := by
                  have : (len + m) * i.size ≤ cap * i.size := Nat.mul_le_mul_right _ hroom
                  omega
                rw [Nat.add_mul] at hfit
                have hrun := run_append_room_src (P := P) c.w t tx ty el i hu hi b base len cap vx m fs s hroom
                  (fun j hj => by rw [cell?_cells h1, Array.getElem?_eq_getElem (by omega)]; rfl) (fun j hj => frozen_no h1 h2 (by omega))
                obtain ⟨q1, q2, q3⟩ := heap_setCells fs (base + len * i.size) c.w arr h1
                have hcl : ∀ (cs' : Array Value) (e' : TypeId) (f' : Nat × Nat), c.w.heap[b]? = some (.cells cs' e' f') → ∃ (cs'' : Array Value) (f'' : Nat × Nat), (c.w.setCells b (base + len * i.size) fs).heap[b]? = some (.cells cs'' e' f'') ∧ cs''.size = cs'.size := by
                  intro cs' e' f' hc
                  rw [h1] at hc
                  simp only [Option.some.injEq, Obj.cells.injEq] at hc
                  obtain ⟨rfl, rfl, rfl⟩ := hc
                  exact ⟨_, _, q3, putL_size _ _ _⟩
                have hE := Ext.move h hl _ q1 q2 hcl base i.size
                have hnew : (us.take (len * i.size) ++ fs).length = len * i.size + m * i.size := by rw [List.length_append, hutl, hfl]
                refine ⟨_, _, _, hrun, SR.move h hl _ q1 q2 hcl base i.size (.vec i.size (cs.take (len * i.size) ++ xs)) ⟨b, base, rfl, h0, _, ty', f, q3, by rw [putL_size]; exact h2, us.take (len * i.size) ++ fs, by rw [putL_size, hnew]; omega, fun j hj => ?_, vrs_append (hE.vrs hold) (hE.vrs hfs)⟩, hE, ?_⟩
                · rw [hnew] at hj
                  rw [putL_get]
                  by_cases hj2 : j < len * i.size
                  · rw [if_neg (by omega), hat _ (by omega), List.getElem?_append_left (by omega), List.getElem?_take, if_pos hj2]
                  · rw [if_pos ⟨by omega, by omega, by omega⟩, List.getElem?_append_right (by omega), hutl]
                    congr 1; omega
                · simp only [Cx.vr, VR, upd_same]
                  exact ⟨_, cap, rfl, hroom, fun _ => by omega, _, ty', f, q3, by rw [putL_size]; omega, by rw [putL_size]; simpa using g4⟩
              · -- there is none
                have hgr : cap < len + m := by omega
                have hE := Ext.kill c o
                have hS := SR.kill h hlt
                have hold' : (Builtin.firstCells i.size len (.slice (some ⟨b, a, none⟩) len cap)).run P c.w.drew = .ok (us.take (len * i.size)).toArray c.w.drew := by
                  refine run_firstCells_some c.w.drew i.size len ⟨b, a, none⟩ len cap _ hutl (fun j u hj => ?_)
                  have hjl := (List.getElem?_eq_some_iff.1 hj).1
                  have hlp : 0 < len := by
                    rcases Nat.eq_zero_or_pos len with q | q
                    · subst q; rw [hutl, Nat.zero_mul] at hjl; omega
                    · exact q
                  rw [Addr.add_lit, g2 (by omega)]
                  show c.w.cell? ⟨b, base + j, none⟩ = _
                  rw [cell?_cells h1, hat _ (by omega)]
                  rw [List.getElem?_take, if_pos (by omega)] at hj
                  exact hj
                have hp : Builtin.nextslicecap (len + m) cap * i.bytes ≤ 281474976710656 := cap_fits hgr (by simpa [bytesT, hi] using hcond.1) (by simpa [bytesT, hi] using hcond.2)
                obtain ⟨v, w', loc', q1, q2, q3, q4⟩ := append_growV hS (ty := ty) hu hi hz hzs h0 hb (hE.vrs hfs) (vx := vx) (by exact s) (hE.vrs hold) hutl hold' hgr hp
                rw [List.length_set] at q4
                exact ⟨v, w', loc', q1, q2, hE.trans q3, q4⟩
            · cases e
          · cases e
        · cases e
      · cases e
    · cases e
  · cases e

/-! ### a row of bytes marked as text's -/
def markF (P : Program) (src dst : TypeId) (σ : List Ob) : V → Option (V × List Ob)
  | .sl o off len => match elemOfSlice P src with
    | some e => if src = dst ∧ intT P e = some .u8 then match σ[o]? with
        | some (.arr 1 mk es) => if 0 < len then some (.sl o off len, σ.set o (.arr 1 true es)) else none
        | _ => none
      else none
    | none => none
  | _ => none

theorem run_mark {P : Program} {w : World} {b : Nat} {arr : Array Value} {e : TypeId} {lo hi : Nat} (h : w.heap[b]? = some (.cells arr e (lo, hi))) (a : Nat) :
    (markStringish ⟨b, a, none⟩).run P w = .ok () { w with heap := w.heap.setIfInBounds b (.cells arr e (if lo == hi then (arr.size, arr.size + 1) else (min lo arr.size, max hi (arr.size + 1)))) } := by
  have hs : w.shape? b = some (e, arr.size) := by simp only [World.shape?, h]
  have hm : w.heap.modify b (fun | .cells c elem (lo, hi) => Obj.cells c elem (if lo == hi then (arr.size, arr.size + 1) else (min lo arr.size, max hi (arr.size + 1))) | o => o) = w.heap.setIfInBounds b (.cells arr e (if lo == hi then (arr.size, arr.size + 1) else (min lo arr.size, max hi (arr.size + 1)))) := by
    apply Array.ext'
    apply List.ext_getElem?
    intro j
    rw [Array.getElem?_toList, Array.getElem?_toList, Array.getElem?_modify, Array.getElem?_setIfInBounds]
    by_cases hj : b = j
    · subst hj
      obtain ⟨hlt, hv⟩ := Array.getElem?_eq_some_iff.1 h
      simp [hlt, hv]
    · simp [hj]
  simp only [markStringish, Sem.run_bind, run_shape, hs, Result.andThen_ok, run_freeze, World.freeze, Nat.one_ne_zero, if_false]
  rw [← hm]
  rfl

theorem markF_sound {P : Program} {src dst : TypeId} {c : Cx} {σ σ' : List Ob} (h : SR c σ) {x r : V} {vx : Value} (e : markF P src dst σ x = some (r, σ')) (hx : c.vr x vx) : SemOk P (convert src dst vx) c r σ' := by
  unfold markF at e
  split at e
  · rename_i o off len
    split at e
    · rename_i el hel
      split at e
      · rename_i hq
        obtain ⟨rfl, he⟩ := hq
        split at e
        · rename_i mk es hes
          split at e
          · rename_i hlen
            simp only [Option.some.injEq, Prod.mk.injEq] at e
            obtain ⟨rfl, rfl⟩ := e
            have hu := elemOfSlice_some hel
            rcases vr_sl h hes hx with ⟨_, _, _, h0, _⟩ | ⟨b, base, a, cap, arr, ty, f, hl, rfl, hle, ha, h0, h1, h2, h4, h5, h6⟩
            · omega
            obtain ⟨lo, hi⟩ := f
            have hlt := (Array.getElem?_eq_some_iff.1 h1).1
            generalize hf' : (if lo == hi then (arr.size, arr.size + 1) else (min lo arr.size, max hi (arr.size + 1))) = f'
            have huf : Unfrozen f' arr.size := by
              obtain ⟨k1, k2⟩ := h4
              simp only at k1 k2
              rw [← hf']
              by_cases q : lo = hi
              · subst q
                simp only [beq_self_eq_true, if_true]
                exact ⟨by simp, fun i hi hh => by simp only at hh; omega⟩
              · have q' : (lo == hi) = false := by simpa using q
                simp only [q', Bool.false_eq_true, if_false]
                have : arr.size ≤ lo := by
                  rcases Nat.lt_or_ge lo arr.size with g | g
                  · exact (k2 lo (by omega) ⟨Nat.le_refl _, by omega⟩).elim
                  · exact g
                exact ⟨by simp only; omega, fun i hi hh => by simp only at hh; omega⟩
            let w' : World := { c.w with heap := c.w.heap.setIfInBounds b (.cells arr ty f') }
            have hb' : w'.heap[b]? = some (.cells arr ty f') := by
              show (c.w.heap.setIfInBounds b _)[b]? = _
              simp [hlt]
            have e1 : w'.heap.size = c.w.heap.size := by simp [w']
            have e2 : ∀ b'', b'' ≠ b → w'.heap[b'']? = c.w.heap[b'']? := fun b'' hb => by
              show (c.w.heap.setIfInBounds b _)[b'']? = _
              rw [Array.getElem?_setIfInBounds_ne (Ne.symm hb)]
            have e3 : ∀ (cs : Array Value) (e : TypeId) (f : Nat × Nat), c.w.heap[b]? = some (.cells cs e f) → ∃ (cs' : Array Value) (f' : Nat × Nat), w'.heap[b]? = some (.cells cs' e f') ∧ cs'.size = cs.size := by
              intro cs e f q
              rw [h1] at q
              cases q
              exact ⟨_, _, hb', rfl⟩
            have hE := Ext.write hl w' e1 e2 e3 ⟨rfl, rfl, rfl⟩
            have hcell : ∀ j, w'.cell? ⟨b, j, none⟩ = c.w.cell? ⟨b, j, none⟩ := fun j => by simp only [World.cell?, hb', h1]
            refine ⟨.slice (some ⟨b, a, none⟩) len cap, w', c.loc, ?_, SR.write h hl w' e1 e2 e3 (.arr 1 true es) (.inr ⟨b, base, rfl, h0, arr, ty, f', hb', by simpa using huf, h5, RowsR_mono hE.im es b base 1 hcell h6⟩) ⟨rfl, rfl, rfl⟩, hE, hE.vr hx⟩
            have hm := run_mark (P := P) h1 a
            rw [hf'] at hm
            simp only [convert, Sem.run_bind, run_underlying hu, Result.andThen_ok, beq_self_eq_true, run_underlying (intT_some he), hm, Sem.run_pure]
            rfl
          · cases e
        · cases e
      · cases e
    · cases e
  · cases e

/-! ### all of them -/
/-! ### ranges over maps and strings -/
def rangeF (P : Program) (t : TypeId) (σ : List Ob) (x : V) : Option (V × List Ob) :=
  match x with
  | .d (.str s) => if isStrT P t then some (.ptr σ.length 0 0, σ ++ [.sit s 0]) else none
  | .d .nilm => if isMapT P t then some (.ptr σ.length 0 0, σ ++ [.mit (.d .nilm) 0 [] 0]) else none
  | .mp o => if isMapT P t then match σ[o]? with
      | some (.map _ clk) => some (.ptr σ.length 0 0, σ ++ [.mit (.mp o) clk [] clk])
      | _ => none
    else none
  | _ => none

theorem rangeF_sound {P : Program} {t : TypeId} {c : Cx} {σ σ' : List Ob} (h : SR c σ) {x r : V} {vx : Value} (e : rangeF P t σ x = some (r, σ')) (hx : c.vr x vx) : SemOk P (Instr.range t vx) c r σ' := by
  have mk : ∀ (ob : Obj) (y : Ob), (∀ (c' : Cx), Ext c c' → c'.w = { c.w with heap := c.w.heap.push ob } → OR c' (.here c.w.heap.size 0 1) y) →
      ∃ loc', SR ⟨{ c.w with heap := c.w.heap.push ob }, loc', c.hid⟩ (σ ++ [y]) ∧ Ext c ⟨{ c.w with heap := c.w.heap.push ob }, loc', c.hid⟩ ∧ Cx.vr ⟨{ c.w with heap := c.w.heap.push ob }, loc', c.hid⟩ (.ptr σ.length 0 0) (.pointer (some ⟨c.w.heap.size, 0, none⟩)) := by
    intro ob y hy
    have e1 : ({ c.w with heap := c.w.heap.push ob } : World).heap.size = c.w.heap.size + 1 := by simp
    have e2 : ∀ b, b < c.w.heap.size → ({ c.w with heap := c.w.heap.push ob } : World).heap[b]? = c.w.heap[b]? := fun b hb => heap_push_lt hb
    have hE := Ext.new h { c.w with heap := c.w.heap.push ob } e1 e2 1
    exact ⟨upd c.loc σ.length (.here c.w.heap.size 0 1), SR.new h _ e1 e2 1 y (hy _ hE rfl), hE, by simp [Cx.vr, VR]⟩
  unfold rangeF at e
  split at e
  · rename_i s
    split at e
    · rename_i ht
      simp only [Option.some.injEq, Prod.mk.injEq] at e
      obtain ⟨rfl, rfl⟩ := e
      simp only [Cx.vr, VR, DR] at hx; subst hx
      obtain ⟨loc', g1, g2, g3⟩ := mk (.stringIter ⟨s.toArray⟩ 0) (.sit s 0) (fun c' hE hw => ⟨_, rfl, by rw [hw]; exact heap_push_at⟩)
      exact ⟨_, _, loc', by simp only [Instr.range, Sem.run_bind, run_underlying (isStrT_some ht), Result.andThen_ok, Sem.run_pure, run_newObj], g1, g2, g3⟩
    · cases e
  · split at e
    · rename_i ht
      simp only [Option.some.injEq, Prod.mk.injEq] at e
      obtain ⟨rfl, rfl⟩ := e
      simp only [Cx.vr, VR, DR] at hx; subst hx
      obtain ⟨k, el, hu⟩ := isMapT_some ht
      obtain ⟨loc', g1, g2, g3⟩ := mk (.mapIter none 0 #[] 0) (.mit (.d .nilm) 0 [] 0) (fun c' hE hw => ⟨_, rfl, none, by rw [hw]; exact heap_push_at, by simp [Cx.vr, VR, DR]⟩)
      exact ⟨_, _, loc', by simp only [Instr.range, Sem.run_bind, run_underlying hu, Result.andThen_ok, Sem.run_pure, run_newObj], g1, g2, g3⟩
    · cases e
  · rename_i o
    split at e
    · rename_i ht
      split at e
      · rename_i es clk hes
        simp only [Option.some.injEq, Prod.mk.injEq] at e
        obtain ⟨rfl, rfl⟩ := e
        obtain ⟨k, el, hu⟩ := isMapT_some ht
        obtain ⟨b, ents, hl, rfl, h1, h2, h3, h4⟩ := map_at h hes hx
        obtain ⟨loc', g1, g2, g3⟩ := mk (.mapIter (some b) clk #[] clk) (.mit (.mp o) clk [] clk) (fun c' hE hw => ⟨_, rfl, some b, by rw [hw]; exact heap_push_at, hE.vr hx⟩)
        exact ⟨_, _, loc', by simp only [Instr.range, Sem.run_bind, run_underlying hu, Result.andThen_ok, Sem.run_pure, run_getObj_map h1, run_newObj], g1, g2, g3⟩
      · cases e
    · cases e
  · cases e

def entryF (σ : List Ob) (x : V) : Option V :=
  match x with
  | .ptr i 0 0 => match σ[i]? with
    | some (.mit (.mp o) _ seen last) => match σ[o]? with
      | some (.map es clk) => if clk = last then match seen.getLast? with
          | some st => (es.find? fun e => e.2.2 == st).map fun e => .tup [.d e.1, e.2.1]
          | none => none
        else none
      | _ => none
    | _ => none
  | _ => none

theorem MapR.find {I : Im} {w : World} {loc : Nat → Loc} (st : Nat) {es : List (D × V × Nat)} {l : List MapEntry} (m : MapR I w loc es l) : match es.find? (fun e => e.2.2 == st), l.find? (fun e => e.born == st) with
    | some x, some e => DR I x.1 e.key ∧ VR I w loc x.2.1 e.val
    | none, none => True
    | _, _ => False := by
  induction m with
  | nil => simp
  | @cons k x n e es l a b hn _ ih =>
    simp only [List.find?_cons, hn]
    cases hq : n == st with
    | true => exact ⟨a, b⟩
    | false => exact ih

/-- An iterator that lies where the store says. -/
theorem mit_at {c : Cx} {σ : List Ob} (h : SR c σ) {i o : Nat} {since last : Nat} {seen : List Nat} (hx : σ[i]? = some (.mit (.mp o) since seen last)) {es : List (D × V × Nat)} {clk : Nat} (ho : σ[o]? = some (.map es clk)) {v : Value} (r : c.vr (.ptr i 0 0) v) :
    ∃ b mb ents, c.loc i = .here b 0 1 ∧ v = .pointer (some ⟨b, 0, none⟩) ∧ c.w.heap[b]? = some (.mapIter (some mb) since seen.toArray last) ∧ c.w.heap[mb]? = some (.map ents clk) ∧ c.mapR es ents.toList ∧ (es.map (·.2.2)).Nodup ∧ ∀ e ∈ es, e.2.2 < clk := by
  obtain ⟨b, hl, q, h1, h2⟩ := h.get hx
  obtain ⟨mb, ents, hl', e1, h3, h4, h5, h6⟩ := map_at h ho h2
  simp only [Value.map.injEq] at e1
  subst e1
  simp only [Cx.vr, VR, hl] at r
  exact ⟨b, mb, ents, hl, by simpa using r, h1, h3, h4, h5, h6⟩

theorem entryF_sound {P : Program} {c : Cx} {σ : List Ob} (h : SR c σ) {x r : V} {vx : Value} (e : entryF σ x = some r) (hx : c.vr x vx) : ∃ v, (Instr.entry vx).run P c.w = .ok v c.w ∧ c.vr r v := by
  unfold entryF at e
  split at e
  · rename_i i
    split at e
    · rename_i o since seen last hi
      split at e
      · rename_i es clk ho
        split at e
        · rename_i hcl
          subst hcl
          split at e
          · rename_i st hst
            obtain ⟨b, mb, ents, hl, rfl, h1, h2, h3, h4, h5⟩ := mit_at h hi ho hx
            have hf := h3.find st
            cases hq : es.find? (fun e => e.2.2 == st) with
            | none => rw [hq] at e; cases e
            | some x =>
              rw [hq] at e hf
              simp only [Option.map_some, Option.some.injEq] at e; subst e
              cases hq' : ents.toList.find? (fun e => e.born == st) with
              | none => rw [hq'] at hf; exact hf.elim
              | some en =>
                rw [hq'] at hf
                have hback : seen.toArray.back? = some st := by simpa using hst
                have hfind : ents.find? (fun e => e.born == st) = some en := by rw [← Array.find?_toList]; exact hq'
                refine ⟨.tuple #[en.key, en.val], ?_, ?_⟩
                · simp only [Instr.entry, getObj, Sem.run_bind, Sem.run, h1, h2, Result.andThen, hback, bne_self_eq_false, Bool.false_eq_true, if_false, hfind]
                  rfl
                · simp only [Cx.vr, VR, VRs]
                  exact ⟨[en.key, en.val], rfl, en.key, [en.val], rfl, by simpa [VR] using hf.1, en.val, [], rfl, hf.2, rfl⟩
          · cases e
        · cases e
      · cases e
    · cases e
  · cases e

/-- A string's letter at a place: what it is, and how many bytes it takes. -/
def runeAt (s : List UInt8) (i : Nat) : Nat × Nat :=
  match s[i]? with
  | some b => match Nat.blt b.toNat 128 with
    | true => (b.toNat, 1)
    | false => Utf8.decode ⟨s.toArray⟩ i
  | none => Utf8.decode ⟨s.toArray⟩ i
theorem runeAt_eq (s : List UInt8) (i : Nat) : runeAt s i = Utf8.decode ⟨s.toArray⟩ i := by
  unfold runeAt
  split
  · rename_i b hb
    split
    · rename_i h
      have hlt : b.toNat < 128 := by simp [Nat.blt] at h; omega
      have hi := (List.getElem?_eq_some_iff.1 hb).1
      have hg : (⟨s.toArray⟩ : ByteArray).get! (i + 0) = b := by
        show s.toArray[i + 0]! = b
        have h2 := (List.getElem?_eq_some_iff.1 hb).2
        rw [getElem!_pos s.toArray (i + 0) (by simpa using hi)]
        simpa using h2
      simp only [Utf8.decode, hg]
      rw [if_pos hlt]
    · rfl
  · rfl

/-- The next letter of a string that is ranged over. -/
def nextS (σ : List Ob) : V → Option (V × List Ob)
  | .ptr o 0 0 => match σ[o]? with
    | some (.sit s pos) => match Nat.blt pos s.length with
      | true => some (.tup [.d (.bool true), .d (.int .i64 (pos : Nat)), .d (.int .i32 ((runeAt s pos).1 : Nat))], σ.set o (.sit s (pos + (runeAt s pos).2)))
      | false => some (.tup [.d (.bool false)], σ)
    | _ => none
  | _ => none

theorem nextS_sound {P : Program} {ty : TypeId} {c : Cx} {σ σ' : List Ob} (h : SR c σ) {x r : V} {vx : Value} (e : nextS σ x = some (r, σ')) (hx : c.vr x vx) : SemOk P (Instr.next vx true ty) c r σ' := by
  unfold nextS at e
  split at e
  · rename_i o
    split at e
    · rename_i s pos hs
      obtain ⟨b, hl, h1⟩ := h.get hs
      simp only [Cx.vr, VR, hl, Nat.zero_mul, Nat.add_zero] at hx
      subst hx
      have hlen : (⟨s.toArray⟩ : ByteArray).size = s.length := size_mk s
      split at e
      · rename_i hp
        have hp' : pos < s.length := by simp [Nat.blt] at hp; omega
        simp only [Option.some.injEq, Prod.mk.injEq] at e
        obtain ⟨rfl, rfl⟩ := e
        have hb := (Array.getElem?_eq_some_iff.1 h1).1
        let w' : World := { c.w with heap := c.w.heap.setIfInBounds b (.stringIter ⟨s.toArray⟩ (pos + (runeAt s pos).2)) }
        have e1 : w'.heap.size = c.w.heap.size := by simp [w']
        have e2 : ∀ b', b' ≠ b → w'.heap[b']? = c.w.heap[b']? := fun b' hne => by
          simp only [w', Array.getElem?_setIfInBounds]
          rw [if_neg (fun q => hne q.symm)]
        have e3 : w'.heap[b]? = some (.stringIter ⟨s.toArray⟩ (pos + (runeAt s pos).2)) := by simp [w', hb]
        have hc : ∀ (cs : Array Value) (t : TypeId) (f : Nat × Nat), c.w.heap[b]? = some (.cells cs t f) → ∃ (cs' : Array Value) (f' : Nat × Nat), w'.heap[b]? = some (.cells cs' t f') ∧ cs'.size = cs.size := fun cs t f q => by rw [h1] at q; cases q
        refine ⟨.tuple #[.bool true, goInt pos, .int .i32 (runeAt s pos).1], w', c.loc, ?_, SR.write h hl w' e1 e2 hc (.sit s (pos + (runeAt s pos).2)) ⟨b, rfl, e3⟩, Ext.write hl w' e1 e2 hc, ?_⟩
        · simp only [Instr.next, getObj, Sem.run_bind, Sem.run, h1, Result.andThen, hlen, if_pos hp', ← runeAt_eq, setObj]
          rfl
        · simp only [Cx.vr, VR, VRs, DR]
          exact ⟨_, rfl, _, _, rfl, rfl, _, _, rfl, rfl, _, _, rfl, rfl, rfl⟩
      · rename_i hp
        have hp' : ¬ pos < s.length := fun q => by
          rw [show Nat.blt pos s.length = true from Nat.ble_eq_true_of_le q] at hp
          cases hp
        simp only [Option.some.injEq, Prod.mk.injEq] at e
        obtain ⟨rfl, rfl⟩ := e
        refine ⟨.tuple #[.bool false], c.w, c.loc, ?_, h, Ext.refl c, ?_⟩
        · simp only [Instr.next, getObj, Sem.run_bind, Sem.run, h1, Result.andThen, hlen, if_neg hp']
          rfl
        · simp only [Cx.vr, VR, VRs, DR]
          exact ⟨_, rfl, _, _, rfl, rfl, rfl⟩
    · cases e
  · cases e

def effF (P : Program) (s : List V) (σ : List Ob) : Op → Option (V × List Ob)
  | .next x true => nextS σ (get s x)
  | .alloc t => (zeroCs P t).map fun cs => (.ptr σ.length 0 0, σ ++ [.box cs])
  | .box _ x => (cellsV σ (get s x)).map fun cs => (.ptr σ.length 0 0, σ ++ [.box cs])
  | .buildSlice t len parts => buildE P t len σ s parts.toList
  | .store t a x => (storeF P t σ (get s a) (get s x)).map fun σ' => (.undef, σ')
  | .makeSlice t l c => match makeSliceF P t σ (get s l) (get s c) with
    | some r => some r
    | none => makeVecF P t σ (get s l) (get s c)
  | .makeMap _ none => some (.mp σ.length, σ ++ [.map [] 0])
  | .mapUpdate t m k x => (mapUpdateF P t σ (get s m) (get s k) (get s x)).map fun σ' => (.undef, σ')
  | .insert t m k x => (mapUpdateF P t σ (get s m) (get s k) (get s x)).map fun σ' => (.undef, σ')
  | .mapEntry t m k => mapEntryF P t σ (get s m) (get s k)
  | .entryStore _ m st x => (entryStoreF P σ (get s m) (get s st) (get s x)).map fun σ' => (.undef, σ')
  | .convert src dst x => match strBytesF P src dst σ (get s x) with
    | some r => some r
    | none => markF P src dst σ (get s x)
  | .range t x => rangeF P t σ (get s x)
  | .entry x => (entryF σ (get s x)).map fun r => (r, σ)
  | .call { callee := .builtin .append, args, argTypes } => match args.toList, argTypes.toList with
    | [d, x], [t, tx] => match appendInF P t tx σ (get s d) (get s x) with
      | some r => some r
      | none => match appendF P t tx σ (get s d) (get s x) with
        | some r => some r
        | none => appendVecF P t tx σ (get s d) (get s x)
    | _, _ => none
  | .call { callee := .builtin .delete, args, argTypes } => match args.toList, argTypes.toList with
    | [m, k], t :: _ => (deleteF P t σ (get s m) (get s k)).map fun σ' => (.tup [], σ')
    | _, _ => none
  | .call { callee := .builtin .clear, args, argTypes } => match args.toList, argTypes.toList with
    | [x], [t] => (clearF P t σ (get s x)).map fun σ' => (.tup [], σ')
    | _, _ => none
  | _ => none

/-- What an operation that acts comes to. -/
def EffOk (P : Program) (o : Oper) (a : Act) (c : Cx) (r : V) (σ' : List Ob) : Prop :=
  (∃ nx w' loc' v, (execOp a.eval o).run P c.w = .ok nx w' ∧ (nx = .value v ∨ (nx = .skip ∧ v = undef)) ∧ SR ⟨w', loc', c.hid⟩ σ' ∧ Ext c ⟨w', loc', c.hid⟩ ∧ Cx.vr ⟨w', loc', c.hid⟩ r v)

theorem EffOk.of_sem {P : Program} {o : Oper} {a : Act} {c : Cx} {r : V} {σ' : List Ob} {x : Sem Value} (h : SemOk P x c r σ') (he : execOp a.eval o = (do pure (.value (← x)))) : EffOk P o a c r σ' := by
  obtain ⟨v, w', loc', h1, h2, h3, h4⟩ := h
  exact ⟨.value v, w', loc', v, by rw [he]; exact run_value h1, .inl rfl, h2, h3, h4⟩

theorem EffOk.of_semU {P : Program} {o : Oper} {a : Act} {c : Cx} {σ' : List Ob} {x : Sem Unit} (h : SemOkU P x c σ') (he : execOp a.eval o = (do x; pure .skip)) : EffOk P o a c .undef σ' := by
  obtain ⟨w', loc', h1, h2, h3⟩ := h
  exact ⟨.skip, w', loc', undef, by rw [he]; simp [h1], .inr ⟨rfl, rfl⟩, h2, h3, by simp [Cx.vr, VR]⟩

theorem eff_sound {P : Program} {o : Oper} {a : Act} {c : Cx} {s : List V} {σ σ' : List Ob} (h : SR c σ) (hs : c.vrs s a.tmps.toList) {r : V} (e : effF P s σ o.op = some (r, σ')) : EffOk P o a c r σ' := by
  cases hop : o.op with
  | alloc t =>
    rw [hop] at e
    simp only [effF] at e
    cases hz : zeroCs P t with
    | none => rw [hz] at e; cases e
    | some cs =>
      rw [hz] at e; simp at e; obtain ⟨rfl, rfl⟩ := e
      exact .of_sem (alloc_sound h hz) (by simp only [execOp, hop])
  | box t x =>
    rw [hop] at e
    simp only [effF] at e
    cases hz : cellsV σ (get s x) with
    | none => rw [hz] at e; cases e
    | some cs =>
      rw [hz] at e; simp at e; obtain ⟨rfl, rfl⟩ := e
      exact .of_sem (box_sound (t := t) h hz (vr_get h.gl hs x)) (by simp only [execOp, hop])
  | buildSlice t len parts =>
    rw [hop] at e
    simp only [effF, buildE] at e
    split at e
    · rename_i p hp
      cases e
      exact .of_sem (buildSliceF_sound h hs hp) (by simp only [execOp, hop])
    · exact .of_sem (buildVecF_sound h hs e) (by simp only [execOp, hop])
  | store t x y =>
    rw [hop] at e
    simp only [effF] at e
    cases hz : storeF P t σ (get s x) (get s y) with
    | none => rw [hz] at e; cases e
    | some cs =>
      rw [hz] at e; simp at e; obtain ⟨rfl, rfl⟩ := e
      exact .of_semU (storeF_sound h hz (vr_get h.gl hs x) (vr_get h.gl hs y)) (by simp only [execOp, hop])
  | makeSlice t l c' =>
    rw [hop] at e
    simp only [effF] at e
    split at e
    · rename_i x hx
      simp only [Option.some.injEq] at e; subst e
      exact .of_sem (makeSliceF_sound h hx (vr_get h.gl hs l) (vr_get h.gl hs c')) (by simp only [execOp, hop])
    · exact .of_sem (makeVecF_sound h e (vr_get h.gl hs l) (vr_get h.gl hs c')) (by simp only [execOp, hop])
  | makeMap t r' =>
    rw [hop] at e
    cases r' with
    | none =>
      simp only [effF, Option.some.injEq, Prod.mk.injEq] at e
      obtain ⟨rfl, rfl⟩ := e
      exact .of_sem (makeMap_sound (t := t) h) (by simp only [execOp, hop, Option.map_none])
    | some x => simp [effF] at e
  | range t x =>
    rw [hop] at e
    exact .of_sem (rangeF_sound h e (vr_get h.gl hs x)) (by simp only [execOp, hop])
  | entry x =>
    rw [hop] at e
    simp only [effF] at e
    cases hz : entryF σ (get s x) with
    | none => rw [hz] at e; cases e
    | some r' =>
      rw [hz] at e; simp at e; obtain ⟨rfl, rfl⟩ := e
      obtain ⟨v, g1, g2⟩ := entryF_sound (P := P) h hz (vr_get h.gl hs x)
      exact .of_sem ⟨v, c.w, c.loc, g1, h, Ext.refl c, g2⟩ (by simp only [execOp, hop])
  | mapUpdate t m k x =>
    rw [hop] at e
    simp only [effF] at e
    cases hz : mapUpdateF P t σ (get s m) (get s k) (get s x) with
    | none => rw [hz] at e; cases e
    | some cs =>
      rw [hz] at e; simp at e; obtain ⟨rfl, rfl⟩ := e
      exact .of_semU (mapUpdateF_sound h hz (vr_get h.gl hs m) (vr_get h.gl hs k) (vr_get h.gl hs x)) (by simp only [execOp, hop])
  | insert t m k x =>
    rw [hop] at e
    simp only [effF] at e
    cases hz : mapUpdateF P t σ (get s m) (get s k) (get s x) with
    | none => rw [hz] at e; cases e
    | some cs =>
      rw [hz] at e; simp at e; obtain ⟨rfl, rfl⟩ := e
      exact .of_semU (mapUpdateF_sound h hz (vr_get h.gl hs m) (vr_get h.gl hs k) (vr_get h.gl hs x)) (by simp only [execOp, hop])
  | mapEntry t m k =>
    rw [hop] at e
    exact .of_sem (mapEntryF_sound h e (vr_get h.gl hs m) (vr_get h.gl hs k)) (by simp only [execOp, hop])
  | entryStore t m st x =>
    rw [hop] at e
    simp only [effF] at e
    cases hz : entryStoreF P σ (get s m) (get s st) (get s x) with
    | none => rw [hz] at e; cases e
    | some cs =>
      rw [hz] at e; simp at e; obtain ⟨rfl, rfl⟩ := e
      exact .of_semU (entryStoreF_sound t h hz (vr_get h.gl hs m) (vr_get h.gl hs st) (vr_get h.gl hs x)) (by simp only [execOp, hop])
  | convert src dst x =>
    rw [hop] at e
    simp only [effF] at e
    split at e
    · rename_i p hp
      cases e
      exact .of_sem (strBytesF_sound h hp (vr_get h.gl hs x)) (by simp only [execOp, hop])
    · exact .of_sem (markF_sound h e (vr_get h.gl hs x)) (by simp only [execOp, hop])
  | next x b =>
    rw [hop] at e
    cases b with
    | true => exact .of_sem (nextS_sound (ty := o.type) h e (vr_get h.gl hs x)) (by simp only [execOp, hop])
    | false => simp [effF] at e
  | call cl =>
    rw [hop] at e
    obtain ⟨callee, args, ts⟩ := cl
    unfold effF at e
    split at e <;> try (cases e; done)
    all_goals rename_i heq
    all_goals try (cases heq; done)
    · simp only [Op.call.injEq, Call.mk.injEq] at heq
      obtain ⟨rfl, rfl, rfl⟩ := heq
      split at e
      · rename_i d x t tx ha ht
        have ea : args = #[d, x] := by apply Array.ext'; simp [ha]
        have et : ts = #[t, tx] := by apply Array.ext'; simp [ht]
        subst ea; subst et
        have hexec : execOp a.eval o = (do pure (.value (← Builtin.append_ #[t, tx] o.type #[a.eval d, a.eval x]))) := by
          simp only [execOp, hop, resolve, List.map_toArray, List.map_cons, List.map_nil, pure_bind, invoke, builtin]
        split at e
        · rename_i y hy
          simp only [Option.some.injEq] at e; subst e
          exact .of_sem (appendInF_sound (ty := o.type) h hy (vr_get h.gl hs d) (vr_get h.gl hs x)) hexec
        · split at e
          · rename_i y hy
            simp only [Option.some.injEq] at e; subst e
            exact .of_sem (appendF_sound (ty := o.type) h hy (vr_get h.gl hs d) (vr_get h.gl hs x)) hexec
          · exact .of_sem (appendVecF_sound (ty := o.type) h e (vr_get h.gl hs d) (vr_get h.gl hs x)) hexec
      · cases e
    · simp only [Op.call.injEq, Call.mk.injEq] at heq
      obtain ⟨rfl, rfl, rfl⟩ := heq
      split at e
      · rename_i m k t tr ha ht
        cases hz : deleteF P t σ (get s m) (get s k) with
        | none => rw [hz] at e; cases e
        | some cs =>
          rw [hz] at e; simp at e; obtain ⟨rfl, rfl⟩ := e
          have ea : args = #[m, k] := by apply Array.ext'; simp [ha]
          subst ea
          have hexec : execOp a.eval o = (do pure (.value (← Builtin.delete_ ts o.type #[a.eval m, a.eval k]))) := by
            simp only [execOp, hop, resolve, List.map_toArray, List.map_cons, List.map_nil, pure_bind, invoke, builtin]
          have h0 : ts[0]? = some t := by rw [← Array.getElem?_toList, ht]; rfl
          have hdel : Builtin.delete_ ts o.type #[a.eval m, a.eval k] = Builtin.delete_ #[t] o.type #[a.eval m, a.eval k] := by
            simp only [Builtin.delete_, h0]; rfl
          rw [hdel] at hexec
          exact .of_sem (deleteF_sound (ty := o.type) h hz (vr_get h.gl hs m) (vr_get h.gl hs k)) hexec
      · cases e
    · simp only [Op.call.injEq, Call.mk.injEq] at heq
      obtain ⟨rfl, rfl, rfl⟩ := heq
      split at e
      · rename_i x t ha ht
        cases hz : clearF P t σ (get s x) with
        | none => rw [hz] at e; cases e
        | some cs =>
          rw [hz] at e; simp at e; obtain ⟨rfl, rfl⟩ := e
          have ea : args = #[x] := by apply Array.ext'; simp [ha]
          have et : ts = #[t] := by apply Array.ext'; simp [ht]
          subst ea; subst et
          exact .of_sem (clearF_sound (ty := o.type) h hz (vr_get h.gl hs x)) (by
            simp only [execOp, hop, resolve, List.map_toArray, List.map_cons, List.map_nil, pure_bind, invoke, builtin])
      · cases e
  | _ => rw [hop] at e; simp [effF] at e
end Go.Proofs.YteafabpedfgedaaGreatDoor.Am
end
