/- The engine's append. -/
import Derived.Test.YtchgfpehcjomeaaGreatDoorAmG
set_option linter.unusedSimpArgs false
set_option linter.unusedVariables false
namespace Go.Proofs.YtchgfpehcjomeaaGreatDoor.Am
open Go

abbrev flat (us : List Value) : List Value := us.flatMap fun u => u.cells.toList

theorem rows_values {I : Im} : ∀ {es : List D} {b off sz : Nat}, RowsR I es b off sz → ∃ us : List Value, DRs I es us ∧ (∀ u ∈ us, Flat u sz) ∧ ∀ j, j < (flat us).length → I.cell b (off + j) = (flat us)[j]?
  | [], b, off, sz, h => ⟨[], by simp [DRs], by simp, by simp⟩
  | d :: es, b, off, sz, h => by
    simp only [RowsR] at h
    obtain ⟨⟨v, h1, h2, h3⟩, h4⟩ := h
    obtain ⟨us, g1, g2, g3⟩ := rows_values h4
    refine ⟨v :: us, by simp only [DRs]; exact ⟨v, us, rfl, h1, g1⟩, fun u hu => by rcases List.mem_cons.1 hu with rfl | hu; exact h2; exact g2 u hu, fun j hj => ?_⟩
    have hl : v.cells.toList.length = sz := by simpa using h2.1
    simp only [flat, List.flatMap_cons] at hj ⊢
    by_cases q : j < sz
    · rw [List.getElem?_append_left (by omega), h3 j q]; simp
    · rw [List.length_append] at hj
      rw [List.getElem?_append_right (by omega), hl, ← g3 (j - sz) (by simp only [flat]; omega)]
      congr 1; omega

theorem flat_one {us : List Value} {sz : Nat} (h : ∀ u ∈ us, Flat u sz) : ∀ u ∈ flat us, u.oneCell' = true := by
  intro u hu
  obtain ⟨v, hv, hu⟩ := List.mem_flatMap.1 hu
  exact (h v hv).2 u hu

/-- What is appended, as data. -/
def srcD (P : Program) (e : TypeId) (σ : List Ob) (tx : TypeId) : V → Option (List D)
  | .d (.lst sz ds) => if isSliceT P tx = true ∧ sz = szOf P e then some ds else none
  | .d .nils => if isSliceT P tx then some [] else none
  | .sl o off len => match σ[o]? with
    | some (.arr sz _ es) => if isSliceT P tx = true ∧ sz = szOf P e ∧ off + len ≤ es.length then some ((es.drop off).take len) else none
    | _ => none
  | .d (.str s) => if isStrT P tx = true ∧ intT P e = some .u8 ∧ szOf P e = 1 then some (s.map u8D) else none
  | _ => none

/-- What an append needs to know of what is appended. -/
structure SrcOk (P : Program) (c : Cx) (sz : Nat) (tx : TypeId) (vx : Value) (ds : List D) (us : List Value) : Prop where
  dr : DRs c.im ds us
  fl : ∀ u ∈ us, Flat u sz
  src : Src P sz tx vx ds.length (flat us) c.w
  len : Builtin.lenOf vx = Sem.pure ds.length
  sh : ∀ ad m c', vx = .slice (some ad) m c' → m = ds.length ∧ (0 < m → ad.spot = none ∧ Room.holdsV c.w ad (m * sz) = true)

theorem cells_holds {w : World} {b off n : Nat} {arr : Array Value} {e : TypeId} {f : Nat × Nat} (h : w.heap[b]? = some (.cells arr e f)) (hl : off + n ≤ arr.size) : Room.holdsV w ⟨b, off, none⟩ n = true := by
  simp [Room.holdsV, World.shape?, h, hl]

theorem holds_of_cells {w : World} {b off n : Nat} (h0 : 0 < n) (h : ∃ v, w.cell? ⟨b, off + (n - 1), none⟩ = some v) : Room.holdsV w ⟨b, off, none⟩ n = true := by
  obtain ⟨v, h⟩ := h
  exact holdsV_of_last w b off n h0 (by rw [h]; rfl) n (Nat.le_refl _)

/-- In which block the memory of what is appended lies. -/
def inBlock (vx : Value) (b : Nat) : Prop := ∃ ad m c', vx = .slice (some ad) m c' ∧ 0 < m ∧ ad.block = b

theorem srcD_sound {P : Program} {e : TypeId} {tx : TypeId} {c : Cx} {σ : List Ob} (h : SR c σ) (h0 : 0 < szOf P e) {x : V} {ds : List D} (hx : srcD P e σ tx x = some ds) {vx : Value} (r : c.vr x vx) :
    (∃ us, SrcOk P c (szOf P e) tx vx ds us) ∧ ∀ b, inBlock vx b → c.im.ok b ∨ ∃ o off len base sz, x = .sl o off len ∧ c.loc o = .here b base sz := by
  unfold srcD at hx
  split at hx
  · rename_i sz ds'
    split at hx
    · rename_i hq
      obtain ⟨q1, rfl⟩ := hq
      simp only [Option.some.injEq] at hx; subst hx
      obtain ⟨el, hu⟩ := isSliceT_some q1
      simp only [Cx.vr, VR, DR] at r
      obtain ⟨a, cap, rfl, g1, g2⟩ := r
      rcases g2 with rfl | ⟨b, off, rfl, g3, g4, g5⟩
      · refine ⟨⟨[], by simp [DRs], by simp, ?_, rfl, fun ad m c' hq => by cases hq; exact ⟨rfl, fun z => by simp at z⟩⟩, ?_⟩
        · cases a with
          | none =>
            have : Builtin.lenOf (.slice none ([] : List D).length cap) = Sem.pure 0 := rfl
            exact ⟨.inl ⟨_, hu⟩, fun _ => rfl, by simp [Builtin.firstCells], by simp [Builtin.firstCells], by simp, by simp⟩
          | some a => exact Src.ofSlice c.w hu a 0 cap [] (by simp) (by simp) (by simp)
        · rintro b ⟨ad, m, c', hq, hm, _⟩
          cases hq; simp at hm
      · obtain ⟨us, p1, p2, p3⟩ := rows_values g5
        have hl := flat_length fun u hu => (p2 u hu).1
        have hlu := DRs_length p1
        refine ⟨⟨us, p1, p2, Src.ofSlice c.w hu ⟨b, off, none⟩ ds'.length cap (flat us) (by rw [← hlu]; exact hl) (fun j u hj => ?_) (flat_one p2), rfl, fun ad m c' hq => ?_⟩, ?_⟩
        · rw [Addr.add_lit, ← hj]
          exact p3 j (List.getElem?_eq_some_iff.1 hj).1
        · cases hq
          refine ⟨rfl, fun hm => ⟨rfl, ?_⟩⟩
          have hpos : 0 < ds'.length * szOf P e := Nat.mul_pos hm g3
          refine holds_of_cells hpos ⟨(flat us)[ds'.length * szOf P e - 1]'(by rw [hl, hlu]; omega), ?_⟩
          have := p3 (ds'.length * szOf P e - 1) (by rw [hl, hlu]; omega)
          rw [List.getElem?_eq_getElem] at this
          exact this
        · rintro b' ⟨ad, m, c', hq, hm, rfl⟩
          cases hq
          exact .inl g4
    · cases hx
  · split at hx
    · rename_i q1
      simp only [Option.some.injEq] at hx; subst hx
      obtain ⟨el, hu⟩ := isSliceT_some q1
      simp only [Cx.vr, VR, DR] at r; subst r
      refine ⟨⟨[], by simp [DRs], by simp, Src.ofNil c.w hu 0, rfl, fun ad m c' hq => by cases hq⟩, ?_⟩
      rintro b ⟨ad, m, c', hq, _⟩; cases hq
    · cases hx
  · rename_i o off len
    split at hx
    · rename_i sz mk es hes
      split at hx
      · rename_i hq
        obtain ⟨q1, rfl, q2⟩ := hq
        simp only [Option.some.injEq] at hx; subst hx
        obtain ⟨el, hu⟩ := isSliceT_some q1
        have hlen : ((es.drop off).take len).length = len := by rw [List.length_take, List.length_drop]; omega
        rcases vr_sl h hes r with ⟨hl, rfl, rfl, rfl, rfl⟩ | ⟨b, base, a, cap, arr, ty, f, hl, rfl, g1, g2, g3, g4, g5, g6, g7, g8⟩
        · refine ⟨⟨[], by simp [DRs], by simp, by simpa using Src.ofNil c.w hu 0, rfl, fun ad m c' hq => by cases hq⟩, ?_⟩
          rintro b ⟨ad, m, c', hq, _⟩; cases hq
        · by_cases hz : len = 0
          · subst hz
            refine ⟨⟨[], by simp [DRs], by simp, ?_, rfl, fun ad m c' hq => by cases hq; exact ⟨by simp, fun z => by omega⟩⟩, ?_⟩
            · simpa using Src.ofSlice (P := P) (size := szOf P e) c.w hu ⟨b, a, none⟩ 0 cap [] (by simp) (by simp) (by simp)
            · rintro b' ⟨ad, m, c', hq, hm, _⟩; cases hq; omega
          · have ha := g2 (by omega)
            obtain ⟨us, p1, p2, p3⟩ := rows_values (RowsR_take (RowsR_drop g8 off) len)
            have hfl := flat_length fun u hu => (p2 u hu).1
            have hlu := DRs_length p1
            rw [hlen] at hlu
            refine ⟨⟨us, p1, p2, ?_, by rw [hlen]; rfl, fun ad m c' hq => ?_⟩, ?_⟩
            · rw [hlen]
              exact Src.ofSlice c.w hu ⟨b, a, none⟩ len cap (flat us) (by rw [← hlu]; exact hfl) (fun j u hj => by
                rw [Addr.add_lit, ha, ← hj]
                exact p3 j (List.getElem?_eq_some_iff.1 hj).1) (flat_one p2)
            · cases hq
              refine ⟨hlen.symm, fun hm => ⟨rfl, cells_holds g4 ?_⟩⟩
              have : (off + len) * szOf P e ≤ (off + cap) * szOf P e := Nat.mul_le_mul_right _ (by omega)
              rw [Nat.add_mul] at this
              omega
            · rintro b' ⟨ad, m, c', hq, hm, rfl⟩
              cases hq
              exact .inr ⟨o, off, len, base, _, rfl, hl⟩
      · cases hx
    · cases hx
  · rename_i s
    split at hx
    · rename_i hq
      simp only [Option.some.injEq] at hx; subst hx
      simp only [Cx.vr, VR, DR] at r; subst r
      have hcells : flat (s.map fun b => Value.int .u8 b.toNat) = byteCells ⟨s.toArray⟩ := by
        unfold byteCells flat
        simp only [List.toList_toArray]
        induction s with
        | nil => rfl
        | cons b s ih => simp only [List.map_cons, List.flatMap_cons, ih]; rfl
      refine ⟨⟨s.map fun b => Value.int .u8 b.toNat, ?_, ?_, ?_, ?_, fun ad m c' hq => by cases hq⟩, ?_⟩
      · clear hcells
        induction s with
        | nil => simp [DRs]
        | cons b s ih => simp only [List.map_cons, DRs, u8D, DR]; exact ⟨_, _, rfl, rfl, ih⟩
      · intro u hu
        obtain ⟨b, _, rfl⟩ := List.mem_map.1 hu
        rw [hq.2.2]
        exact ⟨rfl, by simp [Value.cells, Value.oneCell']⟩
      · rw [hq.2.2, hcells]
        simpa [size_mk] using Src.ofString (P := P) c.w (isStrT_some hq.1) ⟨s.toArray⟩
      · simp [Builtin.lenOf, size_mk]; rfl
      · rintro b ⟨ad, m, c', hq, _⟩; cases hq
    · cases hx
  · cases hx
end Go.Proofs.YtchgfpehcjomeaaGreatDoor.Am
