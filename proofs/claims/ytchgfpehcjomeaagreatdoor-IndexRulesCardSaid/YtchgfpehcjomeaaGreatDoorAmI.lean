/- The engine's append: what comes of it. -/
import Derived.Test.YtchgfpehcjomeaaGreatDoorAmH
set_option linter.unusedSimpArgs false
set_option linter.unusedVariables false
namespace Go.Proofs.YtchgfpehcjomeaaGreatDoor.Am
open Go

theorem nextslicecap_le {need old : Nat} (h : old < need) : Builtin.nextslicecap need old ≤ 2 * need + 256 := by
  unfold Builtin.nextslicecap
  split
  · omega
  · split
    · omega
    · have key : ∀ r c, c < 2 * need → Builtin.growBy need r c ≤ 2 * need + 256 := by
        intro r
        induction r with
        | zero => intro c hc; simp only [Builtin.growBy]; omega
        | succ r ih =>
          intro c hc
          simp only [Builtin.growBy]
          split
          · omega
          · by_cases hq : c + (c + 768) / 4 < 2 * need
            · exact ih _ hq
            · cases r with
              | zero => simp only [Builtin.growBy]; omega
              | succ r => simp only [Builtin.growBy]; rw [if_pos (by omega)]; omega
      exact key 4 old (by omega)

def notSame (o : Nat) : V → Bool
  | .sl o' _ _ => o' != o
  | _ => true

def bytesT (P : Program) (e : TypeId) : Nat := ((P.info? e).map (·.bytes)).getD 0

theorem cap_fits {need old b : Nat} (h : old < need) (h1 : need * b ≤ 70368744177664) (h2 : b ≤ 16384) : Builtin.nextslicecap need old * b ≤ 281474976710656 := by
  have h3 := nextslicecap_le h
  have h4 : Builtin.nextslicecap need old * b ≤ (2 * need + 256) * b := Nat.mul_le_mul_right _ h3
  have h5 : (2 * need + 256) * b = 2 * (need * b) + 256 * b := by rw [Nat.add_mul, Nat.mul_assoc]
  omega

def appendF (P : Program) (t tx : TypeId) (σ : List Ob) (dst src : V) : Option (V × List Ob) :=
  match elemOfSlice P t with
  | some e => if elemOk P e = true then
      match srcD P e σ tx src with
      | some ds => match dst with
        | .d .nils => if ds.length * bytesT P e ≤ 70368744177664 ∧ bytesT P e ≤ 16384 then some (.sl σ.length 0 ds.length, σ ++ [.arr (szOf P e) false ds]) else none
        | .sl o off len => match σ[o]? with
          | some (.arr sz mk es) => if sz = szOf P e ∧ off + len ≤ es.length ∧ (len + ds.length) * bytesT P e ≤ 70368744177664 ∧ bytesT P e ≤ 16384 then
              some (.sl σ.length 0 (len + ds.length), σ.set o .dead ++ [.arr sz mk ((es.drop off).take len ++ ds)]) else none
          | _ => none
        | _ => none
      | none => none
    else none
  | none => none

/-- A nil slice that is an object of its own. -/
theorem new_nil {c : Cx} {σ : List Ob} (h : SR c σ) (sz : Nat) (mk : Bool) :
    let c' : Cx := ⟨c.w, upd c.loc σ.length .nil, c.hid⟩
    SR c' (σ ++ [.arr sz mk []]) ∧ Ext c c' ∧ c'.vr (.sl σ.length 0 0) (.slice none 0 0) := by
  intro c'
  have hE : Ext c c' := by
    refine ⟨rfl, Nat.le_refl _, fun _ cs _ f hb => ⟨cs, f, hb, rfl⟩, fun b hb ho => ⟨rfl, ?_⟩, fun o => ?_, rfl, rfl, rfl⟩
    · rintro ⟨o, ba, s, e⟩
      dsimp only [c'] at e
      by_cases g : o = σ.length
      · subst g; simp at e
      · rw [upd_other _ _ g] at e; exact ho ⟨o, ba, s, e⟩
    · dsimp only [c']
      by_cases g : o = σ.length
      · subst g; exact .inr (.inr (h.unborn (Nat.le_refl _)))
      · exact .inl (upd_other _ _ g)
  refine ⟨⟨fun o => ?_, ?_, h.hid_ext hE, hE.glob h.gl⟩, hE, by simp [Cx.vr, VR, c']⟩
  · show ORo _ (upd c.loc σ.length _ o) _
    rcases Nat.lt_trichotomy o σ.length with g | g | g
    · rw [List.getElem?_append_left g, upd_other _ _ (Nat.ne_of_lt g), List.getElem?_eq_getElem g]
      exact (h.get (List.getElem?_eq_getElem g)).keep hE fun _ _ _ _ => rfl
    · subst g
      simp only [upd_same, List.getElem?_concat_length]
      exact .inl ⟨rfl, rfl⟩
    · rw [List.getElem?_eq_none (by simp; omega), upd_other _ _ (Nat.ne_of_gt g)]
      exact h.unborn (Nat.le_of_lt g)
  · intro o1 o2 b ba s ba' s' e e'
    dsimp only [c'] at e e'
    have key : ∀ o ba s, upd c.loc σ.length .nil o = .here b ba s → c.loc o = .here b ba s := by
      intro o ba s e
      by_cases g : o = σ.length
      · subst g; simp at e
      · rw [upd_other _ _ g] at e; exact e
    exact h.inj (key _ _ _ e) (key _ _ _ e')

theorem no_share {P : Program} {c : Cx} {sz sLen : Nat} {base : Option Addr} {tx : TypeId} {vx : Value} {ds : List D} {us : List Value} (s : SrcOk P c sz tx vx ds us)
    (hb : ∀ a, base = some a → Room.holdsV c.w a (sLen * sz) = true ∧ c.w.frozen? (a.add (sLen / 2 * sz)) = false ∧ ¬ inBlock vx a.block) (hbn : base = none → sLen = 0) (h0 : 0 < ds.length) :
    (Builtin.mayShare sz sLen ds.length base vx).runT P c.w #[] = (.ok false c.w, #[]) := by
  rcases s.src.kind with ⟨e', _⟩ | _
  all_goals
    have hl := s.src.len c.w
    cases vx with
    | string s' =>
      have hn : ds.length = s'.size := by
        have := s.len
        simp only [Builtin.lenOf] at this
        have h1 : Sem.run P (Pure.pure s'.size : Sem Nat) c.w = Sem.run P (Sem.pure ds.length : Sem Nat) c.w := by rw [this]
        simp at h1; exact h1.symm
      exact runT_mayShare_string c.w sz sLen ds.length base s' fun a ha => ⟨(hb a ha).1, (hb a ha).2.1⟩
    | slice ad m c' =>
      cases ad with
      | none =>
        cases base with
        | none => simp [-Sem.runT_eq, Builtin.mayShare, Room.Sem.bind_def, Room.Sem.runT_bind, Room.Sem.runT_pure']
        | some a =>
          obtain ⟨h1, h2, _⟩ := hb a rfl
          simp [-Sem.runT_eq, Builtin.mayShare, Room.Sem.bind_def, frozen, Sem.bind, Sem.runT, Room.Sem.runT_bind, Room.runT_holdsCells', Room.Sem.runT_pure', h1, h2]
      | some ad =>
        obtain ⟨h1, h2⟩ := s.sh ad m c' rfl
        subst h1
        obtain ⟨_, h3⟩ := h2 h0
        cases base with
        | none =>
          have := hbn rfl; subst this
          exact runT_mayShare_nil_cells c.w sz ds.length ad c' h3
        | some a =>
          obtain ⟨g1, g2, g3⟩ := hb a rfl
          exact runT_mayShare_apart c.w sz sLen ds.length a ad c' g1 g2 h3 fun q => g3 ⟨ad, ds.length, c', rfl, h0, q.symm⟩
    | _ => simp [Builtin.lenOf] at hl

theorem zeroCells_size (z : Array Value) (n : Nat) : (Builtin.zeroCells z n).size = n * z.size := by simp [Builtin.zeroCells]

/-- The part of append where a new row is made. -/
theorem append_grow {P : Program} {t tx ty e : TypeId} {c : Cx} {σ : List Ob} (h : SR c σ) {i : TypeInfo} {z : Value} (ht : P.underlying t = some (.slice e)) (hi : P.info? e = some i) (hz : i.zero = some z) (hzs : z.cells.size = i.size) (h0 : 0 < i.size) (hb : 0 < i.bytes)
    {vx : Value} {ds : List D} {us : List Value} (s : SrcOk P c i.size tx vx ds us) {base : Option Addr} {sLen sCap : Nat} {olds : List D} {vs : List Value} (ho : DRs c.im olds vs) (hof : ∀ u ∈ vs, Flat u i.size) (hol : olds.length = sLen)
    (hold : (Builtin.firstCells i.size sLen (.slice base sLen sCap)).run P c.w.drew = .ok (flat vs).toArray c.w.drew) (hg : sCap < sLen + ds.length) (mk : Bool)
    (hfit : Builtin.nextslicecap (sLen + ds.length) sCap * i.bytes ≤ 281474976710656) :
    SemOk P (Builtin.append_ #[t, tx] ty #[.slice base sLen sCap, vx]) c (.sl σ.length 0 (sLen + ds.length)) (σ ++ [.arr i.size mk (olds ++ ds)]) := by
  have hneed := le_nextslicecap hg
  have h63 : ((sLen + ds.length : Nat) : Int) ≤ 9223372036854775807 := by
    have : sLen + ds.length ≤ Builtin.nextslicecap (sLen + ds.length) sCap * i.bytes := Nat.le_trans hneed (Nat.le_mul_of_pos_right _ hb)
    omega
  have hrun := run_append_grow_src (P := P) c.w t tx ty e i z ht hi hz base sLen sCap (flat vs) hold vx ds.length (flat us) s.src hg h63 hfit
  have hge := grownCap_ge c.w (sLen + ds.length) sCap e
  have happ : flat (vs ++ us) = flat vs ++ flat us := by simp [flat]
  have hlen : (olds ++ ds).length = sLen + ds.length := by rw [List.length_append, hol]
  obtain ⟨k1, k2, k3⟩ := new_arr h h0 (DRs_append ho s.dr) (fun u hu => by rcases List.mem_append.1 hu with q | q; exact hof u q; exact s.fl u q)
    (Builtin.zeroCells z.cells (grownCap c.w (sLen + ds.length) sCap e - (sLen + ds.length))).toList e (grownCap c.w (sLen + ds.length) sCap e) (c.w.drawn + 1) mk
    (by
      have hzl : (Builtin.zeroCells z.cells (grownCap c.w (sLen + ds.length) sCap e - (sLen + ds.length))).toList.length = (grownCap c.w (sLen + ds.length) sCap e - (sLen + ds.length)) * i.size := by simp [zeroCells_size, hzs]
      rw [hzl, hlen, ← Nat.add_mul]; congr 1; omega) (by rw [hlen]; exact hge) (0, 0) (unfrozen0 _) (fun _ => unfrozen0 _)
  rw [hlen] at k3
  refine ⟨_, _, _, ?_, k1, k2, k3⟩
  rw [hrun]
  congr 1
  show World.alloc _ _ = _
  unfold World.alloc World.drew
  congr 2
  congr 1
  apply Array.ext'
  simp [happ]

/-- The part of append where memory cannot bear it. -/
theorem append_beyond {P : Program} {t tx ty e : TypeId} {c : Cx} {i : TypeInfo} (ht : P.underlying t = some (.slice e)) (hi : P.info? e = some i) {vx : Value} {ds : List D} {us : List Value} (s : SrcOk P c i.size tx vx ds us)
    {base : Option Addr} {sLen sCap : Nat} (hg : sCap < sLen + ds.length) (hpick : Builtin.nextslicecap (sLen + ds.length) sCap * i.bytes > 281474976710656)
    (hm : (Builtin.mayShare i.size sLen ds.length base vx).runT P c.w #[] = (.ok false c.w, #[])) :
    noRoomEvent ∈ ((Builtin.append_ #[t, tx] ty #[.slice base sLen sCap, vx]).runT P c.w #[]).2 ∧ ((Builtin.append_ #[t, tx] ty #[.slice base sLen sCap, vx]).run P c.w).enabled := by
  have key : ∀ d, P.underlying tx = some d → (∀ k, d ≠ .int k) → noRoomEvent ∈ ((Builtin.append_ #[t, tx] ty #[.slice base sLen sCap, vx]).runT P c.w #[]).2 ∧ ((Builtin.append_ #[t, tx] ty #[.slice base sLen sCap, vx]).run P c.w).enabled := by
    intro d htx hd
    have hr := runT_append_beyond_any (P := P) c.w t tx ty e i d ht hi htx hd base sLen sCap ds.length vx s.len hg hpick hm
    refine ⟨by rw [hr]; simp, ?_⟩
    rw [← Sem.runT_fst P _ c.w #[], hr]
    exact fun _ => ⟨by simp, by simp, fun _ => by simp⟩
  rcases s.src.kind with ⟨e', hk⟩ | hk
  · exact key _ hk (fun k hk => by cases hk)
  · exact key _ hk (fun k hk => by cases hk)

theorem appendF_sound {P : Program} {t tx ty : TypeId} {c : Cx} {σ σ' : List Ob} (h : SR c σ) {dst src r : V} {vd vx : Value} (e : appendF P t tx σ dst src = some (r, σ')) (hd : c.vr dst vd) (hx : c.vr src vx) :
    SemOk P (Builtin.append_ #[t, tx] ty #[vd, vx]) c r σ' := by
  unfold appendF at e
  split at e
  · rename_i el hel
    have hu := elemOfSlice_some hel
    split at e
    · rename_i hk
      obtain ⟨i, z, hi, hz, hzs, h0, hb, hsz⟩ := elemOk_some hk
      split at e
      · rename_i ds hds
        obtain ⟨⟨us, s⟩, hblk⟩ := srcD_sound h (by omega) hds hx
        rw [hsz] at s
        split at e
        · split at e
          case isFalse => cases e
          rename_i hcap
          simp only [Option.some.injEq, Prod.mk.injEq] at e
          obtain ⟨rfl, rfl⟩ := e
          simp only [Cx.vr, VR, DR] at hd; subst hd
          rw [hsz]
          by_cases hn : ds = []
          · subst hn
            obtain ⟨k1, k2, k3⟩ := new_nil h i.size false
            refine ⟨.slice none 0 0, c.w, _, ?_, k1, k2, k3⟩
            have hus : us = [] := by have := DRs_length s.dr; exact List.eq_nil_of_length_eq_zero (by simpa using this)
            subst hus
            have hcz : (Builtin.firstCells i.size 0 vx).run P c.w = .ok #[] c.w := by simpa using s.src.cells
            rcases s.src.kind with ⟨e', hk'⟩ | hk' <;>
              simp [Builtin.append_, run_underlying hu, run_underlying hk', sizeOf, typeInfo, hi, s.src.len, hcz]
          · have hpos : 0 < ds.length := List.length_pos_iff.2 hn
            have hp : Builtin.nextslicecap (0 + ds.length) 0 * i.bytes ≤ 281474976710656 := cap_fits (by omega) (by rw [Nat.zero_add]; simpa [bytesT, hi] using hcap.1) (by simpa [bytesT, hi] using hcap.2)
            · have := append_grow h (ty := ty) hu hi hz hzs h0 hb s (base := none) (sLen := 0) (sCap := 0) (olds := []) (vs := []) (by simp [DRs]) (by simp) rfl (by simp [Builtin.firstCells]) (by omega) false hp
              simpa using this
        · rename_i o off len
          split at e
          · rename_i sz mk es hes
            split at e
            · rename_i hq
              obtain ⟨rfl, hle, hcond⟩ := hq
              simp only [Option.some.injEq, Prod.mk.injEq] at e
              obtain ⟨rfl, rfl⟩ := e
              rw [hsz] at hes ⊢
              have hlt : o < σ.length := (List.getElem?_eq_some_iff.1 hes).1
              have hlen' : ((es.drop off).take len).length = len := by rw [List.length_take, List.length_drop]; omega
              -- what holds where a new row is made: the old object is given up first
              have kill : ∀ (base : Option Addr) (cap : Nat) (vs : List Value), DRs c.im ((es.drop off).take len) vs → (∀ u ∈ vs, Flat u i.size) → (Builtin.firstCells i.size len (.slice base len cap)).run P c.w.drew = .ok (flat vs).toArray c.w.drew →
                  cap < len + ds.length → Builtin.nextslicecap (len + ds.length) cap * i.bytes ≤ 281474976710656 → SemOk P (Builtin.append_ #[t, tx] ty #[.slice base len cap, vx]) c (.sl σ.length 0 (len + ds.length)) (σ.set o .dead ++ [.arr i.size mk ((es.drop off).take len ++ ds)]) := by
                intro base cap vs p1 p2 p3 p4 p5
                have hE := Ext.kill c o
                have hS := SR.kill h hlt
                have s' : SrcOk P ⟨c.w, upd c.loc o .dead, c.hid⟩ i.size tx vx ds us := ⟨DRs_mono hE.im _ _ s.dr, s.fl, s.src, s.len, s.sh⟩
                obtain ⟨v, w', loc', q1, q2, q3, q4⟩ := append_grow hS (ty := ty) hu hi hz hzs h0 hb s' (DRs_mono hE.im _ _ p1) p2 hlen' p3 p4 mk p5
                rw [List.length_set] at q4
                exact ⟨v, w', loc', q1, q2, hE.trans q3, q4⟩
              rcases vr_sl h hes hd with ⟨hl, rfl, rfl, rfl, rfl⟩ | ⟨b, base, a, cap, arr, ty', f, hl, rfl, g1, g2, g3, g4, g5, g6, g7, g8⟩
              · by_cases hn : ds = []
                · subst hn
                  have hS := SR.kill h hlt
                  obtain ⟨k1, k2, k3⟩ := new_nil hS i.size mk
                  refine ⟨.slice none 0 0, c.w, _, ?_, k1, (Ext.kill c o).trans k2, by simpa using k3⟩
                  have hus : us = [] := by have := DRs_length s.dr; exact List.eq_nil_of_length_eq_zero (by simpa using this)
                  subst hus
                  have hcz : (Builtin.firstCells i.size 0 vx).run P c.w = .ok #[] c.w := by simpa using s.src.cells
                  rcases s.src.kind with ⟨e', hk'⟩ | hk' <;>
                    simp [Builtin.append_, run_underlying hu, run_underlying hk', sizeOf, typeInfo, hi, s.src.len, hcz]
                · have hpos : 0 < ds.length := List.length_pos_iff.2 hn
                  have hp : Builtin.nextslicecap (0 + ds.length) 0 * i.bytes ≤ 281474976710656 := cap_fits (by omega) (by simpa [bytesT, hi] using hcond.1) (by simpa [bytesT, hi] using hcond.2)
                  exact kill none 0 [] (by simp [DRs]) (by simp) (by simp [Builtin.firstCells]) (by omega) hp
              · -- the slice has an array
                have hrows := RowsR_take (RowsR_drop g8 off) len
                have hsp : base + off * i.size + len * i.size ≤ arr.size := by
                  have : (off + len) * i.size ≤ (off + cap) * i.size := Nat.mul_le_mul_right _ (by omega)
                  rw [Nat.add_mul] at this
                  omega
                by_cases hroom : len + ds.length ≤ cap
                · -- there is room
                  by_cases hc0 : cap = 0
                  · have hl0 : len = 0 := by omega
                    have hd0 : ds = [] := List.eq_nil_of_length_eq_zero (by omega)
                    subst hl0; subst hd0; subst hc0
                    have hus : us = [] := by have := DRs_length s.dr; exact List.eq_nil_of_length_eq_zero (by simpa using this)
                    subst hus
                    have hcz : (Builtin.firstCells i.size 0 vx).run P c.w = .ok #[] c.w := by simpa using s.src.cells
                    have hcl : ∀ (cs' : Array Value) (e' : TypeId) (f' : Nat × Nat), c.w.heap[b]? = some (.cells cs' e' f') → ∃ (cs'' : Array Value) (f'' : Nat × Nat), c.w.heap[b]? = some (.cells cs'' e' f'') ∧ cs''.size = cs'.size := fun cs' _ f' hc => ⟨cs', f', hc, rfl⟩
                    have hE := Ext.move h hl c.w rfl (fun _ _ => rfl) hcl (base + off * i.size) i.size
                    have g52 : base + off * i.size = arr.size := by simpa using g5.2
                    refine ⟨.slice (some ⟨b, a, none⟩) 0 0, c.w, _, ?_, SR.move h hl c.w rfl (fun _ _ => rfl) hcl (base + off * i.size) i.size (.arr i.size mk ((es.drop off).take 0 ++ [])) (.inr ⟨b, _, rfl, h0, arr, ty', f, g4, g6, by simp; omega, by simp [RowsR]⟩), hE, ?_⟩
                    · rcases s.src.kind with ⟨e', hk'⟩ | hk' <;>
                        simp [Builtin.append_, run_underlying hu, run_underlying hk', sizeOf, typeInfo, hi, s.src.len, hcz, storeCells]
                    · simp only [Cx.vr, VR, upd_same]
                      exact ⟨a, 0, rfl, by simp, fun q => by omega, arr, ty', f, g4, g5.1, by simpa using g52⟩
                  · have ha := g2 (by omega)
                    subst ha
                    have hfl : (flat us).length = ds.length * i.size := by rw [flat_length fun u hu => (s.fl u hu).1, DRs_length s.dr]
                    have hfit : base + off * i.size + (len + ds.length) * i.size ≤ arr.size := by
                      have : (off + (len + ds.length)) * i.size ≤ (off + cap) * i.size := Nat.mul_le_mul_right _ (by omega)
                      rw [Nat.add_mul] at this
                      have := g5.2
                      omega
                    rw [Nat.add_mul] at hfit
                    have hrun := run_append_room_src (P := P) c.w t tx ty el i hu hi b (base + off * i.size) len cap vx ds.length (flat us) s.src hroom
                      (fun j hj => by rw [cell?_cells g4, Array.getElem?_eq_getElem (by omega)]; rfl) (fun j hj => frozen_no g4 g6 (by omega))
                    obtain ⟨q1, q2, q3⟩ := heap_setCells (flat us) (base + off * i.size + len * i.size) c.w arr g4
                    have hcl : ∀ (cs' : Array Value) (e' : TypeId) (f' : Nat × Nat), c.w.heap[b]? = some (.cells cs' e' f') → ∃ (cs'' : Array Value) (f'' : Nat × Nat), (c.w.setCells b (base + off * i.size + len * i.size) (flat us)).heap[b]? = some (.cells cs'' e' f'') ∧ cs''.size = cs'.size := by
                      intro cs' e' f' hc
                      rw [g4] at hc
                      simp only [Option.some.injEq, Obj.cells.injEq] at hc
                      obtain ⟨rfl, rfl, rfl⟩ := hc
                      exact ⟨_, _, q3, putL_size _ _ _⟩
                    have hE := Ext.move h hl _ q1 q2 hcl (base + off * i.size) i.size
                    refine ⟨_, _, _, hrun, SR.move h hl _ q1 q2 hcl (base + off * i.size) i.size (.arr i.size mk ((es.drop off).take len ++ ds)) (.inr ⟨b, _, rfl, h0, _, ty', f, q3, by rw [putL_size]; exact g6, ?_, ?_⟩), hE, ?_⟩
                    · rw [putL_size, List.length_append, hlen', Nat.add_mul]; omega
                    · refine RowsR_append ?_ ?_
                      · refine RowsR_of_get fun j d hj => ?_
                        have hjl : j < len := by have := (List.getElem?_eq_some_iff.1 hj).1; omega
                        obtain ⟨v, p1, p2, p3⟩ := RowsR_get hrows j hj
                        refine ⟨v, hE.dr p1, p2, fun k hk => ?_⟩
                        rw [← p3 k hk]
                        show World.cell? _ ⟨b, _, none⟩ = c.w.cell? ⟨b, _, none⟩
                        rw [cell?_cells q3, cell?_cells g4, putL_get, if_neg]
                        rintro ⟨z1, _, _⟩
                        have : (j + 1) * i.size ≤ len * i.size := Nat.mul_le_mul_right _ hjl
                        rw [Nat.add_mul] at this
                        omega
                      · rw [hlen']
                        refine rows_flat hE.im _ s.dr s.fl (fun j hj => ?_)
                        show World.cell? _ ⟨b, _, none⟩ = _
                        rw [cell?_cells q3, putL_get, if_pos ⟨by omega, by simp only [flat] at *; omega, by simp only [flat] at *; omega⟩]
                        congr 1; omega
                    · simp only [Cx.vr, VR, upd_same]
                      exact ⟨_, cap, rfl, hroom, fun _ => by omega, _, ty', f, q3, by rw [putL_size]; exact g5.1, by rw [putL_size, Nat.zero_add]; have := g5.2; rw [Nat.add_mul] at this; omega⟩
                · -- there is none
                  have hgr : cap < len + ds.length := by omega
                  have hds0 : 0 < ds.length := by omega
                  obtain ⟨vs, p1, p2, p3⟩ := rows_values hrows
                  have hvl : (flat vs).length = len * i.size := by rw [flat_length fun u hu => (p2 u hu).1, DRs_length p1, hlen']
                  have hold : (Builtin.firstCells i.size len (.slice (some ⟨b, a, none⟩) len cap)).run P c.w.drew = .ok (flat vs).toArray c.w.drew := by
                    refine run_firstCells_some c.w.drew i.size len ⟨b, a, none⟩ len cap (flat vs) hvl (fun j u hj => ?_)
                    have hjl := (List.getElem?_eq_some_iff.1 hj).1
                    have hlp : 0 < len := by
                      rcases Nat.eq_zero_or_pos len with q | q
                      · subst q; rw [hvl, Nat.zero_mul] at hjl; omega
                      · exact q
                    rw [Addr.add_lit, g2 (by omega), ← hj]
                    exact p3 j hjl
                  have hp : Builtin.nextslicecap (len + ds.length) cap * i.bytes ≤ 281474976710656 := cap_fits hgr (by simpa [bytesT, hi] using hcond.1) (by simpa [bytesT, hi] using hcond.2)
                  exact kill _ cap vs p1 p2 hold hgr hp
            · cases e
          · cases e
        · cases e
      · cases e
    · cases e
  · cases e
end Go.Proofs.YtchgfpehcjomeaaGreatDoor.Am
