/- The engine's quiet operations, last part: lengths, conversions, look-ups; and all quiet operations in one function. -/
import Derived.Test.YteafabpedfgedaaGreatDoorZ3
import Derived.Laws.BytesString
section
set_option linter.unusedSimpArgs false
set_option linter.unusedVariables false
namespace Go.Proofs.YteafabpedfgedaaGreatDoor.Am
open Go

def isSliceT (P : Program) (t : TypeId) : Bool := (elemOfSlice P t).isSome

theorem isSliceT_some {P : Program} {t : TypeId} (h : isSliceT P t = true) : ∃ e, P.underlying t = some (.slice e) := by
  obtain ⟨e, he⟩ := Option.isSome_iff_exists.1 h
  exact ⟨e, elemOfSlice_some he⟩

def lenF (P : Program) (t : TypeId) (σ : List Ob) (x : V) : Option V :=
  match x with
  | .d (.str s) => if isStrT P t then some (.d (.int .i64 s.length)) else none
  | .sl o _ len => if isSliceT P t && alive σ o then some (.d (.int .i64 len)) else none
  | .d (.lst _ es) => if isSliceT P t then some (.d (.int .i64 es.length)) else none
  | .d .nils => if isSliceT P t then some (.d (.int .i64 0)) else none
  | .mp o => if isMapT P t then match σ[o]? with | some (.map es _) => some (.d (.int .i64 es.length)) | _ => none else none
  | .d .nilm => if isMapT P t then some (.d (.int .i64 0)) else none
  | _ => none

theorem map_at {c : Cx} {σ : List Ob} (h : SR c σ) {o : Nat} {es : List (D × V × Nat)} {clk : Nat} (hx : σ[o]? = some (.map es clk)) {v : Value} (r : c.vr (.mp o) v) :
    ∃ b ents, c.loc o = .here b 0 1 ∧ v = .map (some b) ∧ c.w.heap[b]? = some (.map ents clk) ∧ c.mapR es ents.toList ∧ (es.map (·.2.2)).Nodup ∧ ∀ e ∈ es, e.2.2 < clk := by
  obtain ⟨b, hl, ents, h1, h2, h3, h4⟩ := h.get hx
  simp only [Cx.vr, VR, hl] at r
  exact ⟨b, ents, hl, r, h1, h2, h3, h4⟩

theorem MapR.length {I : Im} {w : World} {loc : Nat → Loc} {es : List (D × V × Nat)} {l : List MapEntry} (m : MapR I w loc es l) : l.length = es.length := by
  induction m with
  | nil => rfl
  | cons _ _ _ _ ih => simp [ih]

theorem vr_sl_len {c : Cx} {σ : List Ob} (h : SR c σ) {o off len : Nat} {v : Value} (ha : alive σ o = true) (r : c.vr (.sl o off len) v) : ∃ a cap, v = .slice a len cap := by
  have hd := h.at_alive ha
  simp only [Cx.vr, VR] at r
  cases e : c.loc o with
  | unborn => exact (hd.2 e).elim
  | dead => exact (hd.1 e).elim
  | nil => rw [e] at r; obtain ⟨rfl, _, rfl⟩ := r; exact ⟨_, _, rfl⟩
  | here b base sz => rw [e] at r; obtain ⟨a, cap, rfl, _⟩ := r; exact ⟨_, _, rfl⟩

theorem run_getObj_map {P : Program} {w : World} {b : Nat} {ents : Array MapEntry} {clock : Nat} (h : w.heap[b]? = some (.map ents clock)) : (getObj b).run P w = .ok (.map ents clock) w := by
  simp only [getObj, Sem.run, h]

theorem lenF_sound {P : Program} {t ty : TypeId} {c : Cx} {σ : List Ob} (h : SR c σ) {x r : V} {vx : Value} (e : lenF P t σ x = some r) (hx : c.vr x vx) : ∃ v, (Builtin.len_ #[t] ty #[vx]).run P c.w = .ok v c.w ∧ c.vr r v := by
  unfold lenF at e
  split at e
  · split at e
    · rename_i ht
      simp only [Option.some.injEq] at e; subst e
      simp only [Cx.vr, VR, DR] at hx; subst hx
      exact ⟨_, by simp [Builtin.len_, run_underlying (isStrT_some ht)]; rfl, by simp [Cx.vr, VR, DR, goInt, size_mk]⟩
    · cases e
  · split at e
    · rename_i ht
      simp only [Bool.and_eq_true] at ht
      simp only [Option.some.injEq] at e; subst e
      obtain ⟨a, cap, rfl⟩ := vr_sl_len h ht.2 hx
      obtain ⟨el, hu⟩ := isSliceT_some ht.1
      exact ⟨_, by simp [Builtin.len_, run_underlying hu]; rfl, by simp [Cx.vr, VR, DR, goInt]⟩
    · cases e
  · split at e
    · rename_i ht
      simp only [Option.some.injEq] at e; subst e
      simp only [Cx.vr, VR, DR] at hx
      obtain ⟨a, cap, rfl, _⟩ := hx
      obtain ⟨el, hu⟩ := isSliceT_some ht
      exact ⟨_, by simp [Builtin.len_, run_underlying hu]; rfl, by simp [Cx.vr, VR, DR, goInt]⟩
    · cases e
  · split at e
    · rename_i ht
      simp only [Option.some.injEq] at e; subst e
      simp only [Cx.vr, VR, DR] at hx; subst hx
      obtain ⟨el, hu⟩ := isSliceT_some ht
      exact ⟨_, by simp [Builtin.len_, run_underlying hu]; rfl, by simp [Cx.vr, VR, DR, goInt]⟩
    · cases e
  · split at e
    · rename_i ht
      split at e
      · rename_i es clk hes
        simp only [Option.some.injEq] at e; subst e
        obtain ⟨b, ents, hl, rfl, h1, h2, _⟩ := map_at h hes hx
        obtain ⟨k, el, hu⟩ := isMapT_some ht
        have hlen := h2.length
        refine ⟨.int .i64 ents.size, by simp [Builtin.len_, run_underlying hu, run_getObj_map h1, goInt], ?_⟩
        simp only [Cx.vr, VR, DR]
        rw [← hlen]; simp
      · cases e
    · cases e
  · split at e
    · rename_i ht
      simp only [Option.some.injEq] at e; subst e
      simp only [Cx.vr, VR, DR] at hx; subst hx
      obtain ⟨k, el, hu⟩ := isMapT_some ht
      exact ⟨_, by simp [Builtin.len_, run_underlying hu]; rfl, by simp [Cx.vr, VR, DR, goInt]⟩
    · cases e
  · cases e

/-! ### conversions -/
def bytesOf : List D → Option (List UInt8)
  | [] => some []
  | .int .u8 n :: r => (bytesOf r).map (UInt8.ofNat n.toNat :: ·)
  | _ => none

def u8D (b : UInt8) : D := .int .u8 b.toNat
@[simp] theorem bytesOf_u8D (l : List UInt8) : bytesOf (l.map u8D) = some l := by
  induction l with
  | nil => rfl
  | cons b l ih => simp [bytesOf, u8D, ih]

def slD (σ : List Ob) : V → Option (List D)
  | .sl o off len => match σ[o]? with | some (.arr _ _ es) => if off + len ≤ es.length then some ((es.drop off).take len) else none | _ => none
  | .d (.lst _ es) => some es
  | .d .nils => some []
  | _ => none

def convF (P : Program) (src dst : TypeId) (σ : List Ob) (x : V) : Option V :=
  if okT P src then
    match x with
    | .d (.int _ n) => match intT P dst with | some k => some (.d (.int k (k.wrap n))) | none => none
    | .d (.str s) => if isStrT P dst then some (.d (.str s)) else none
    | x => match elemOfSlice P src with
      | some e => if isStrT P dst = true ∧ intT P e = some .u8 then
          (match x with
          | .sl o _ _ => if arrSz σ o = 1 then (match slD σ x with | some ds => (bytesOf ds).map fun s => .d (.str s) | none => none) else none
          | .d (.lst 1 _) => match slD σ x with | some ds => (bytesOf ds).map fun s => .d (.str s) | none => none
          | .d .nils => some (.d (.str []))
          | _ => none) else none
      | none => none
  else none

theorem intT_some {P : Program} {t : TypeId} {k : IntKind} (h : intT P t = some k) : P.underlying t = some (.int k) := by
  unfold intT at h
  split at h
  · simp at h; subst h; assumption
  · cases h

theorem bytes_ns : ∀ {ds : List D} {s : List UInt8}, bytesOf ds = some s → ∃ ns : List Int, ds = ns.map (D.int .u8) ∧ s = ns.map fun n => UInt8.ofNat n.toNat
  | [], s, h => by simp [bytesOf] at h; exact ⟨[], rfl, h⟩
  | d :: ds, s, h => by
    cases d <;> (try (simp [bytesOf] at h; done))
    rename_i k n
    cases k <;> (try (simp [bytesOf] at h; done))
    simp only [bytesOf] at h
    cases hr : bytesOf ds with
    | none => rw [hr] at h; cases h
    | some r =>
      rw [hr] at h; simp at h; subst h
      obtain ⟨ns, rfl, rfl⟩ := bytes_ns hr
      exact ⟨n :: ns, rfl, rfl⟩

theorem foldl_push (ns : List Int) : ∀ s : List UInt8, ns.foldl (fun (r : ByteArray) n => r.push (UInt8.ofNat n.toNat)) ⟨s.toArray⟩ = ⟨(s ++ ns.map fun n => UInt8.ofNat n.toNat).toArray⟩ := by
  induction ns with
  | nil => intro s; simp
  | cons n ns ih =>
    intro s
    simp only [List.foldl_cons]
    have : (⟨s.toArray⟩ : ByteArray).push (UInt8.ofNat n.toNat) = ⟨(s ++ [UInt8.ofNat n.toNat]).toArray⟩ := by
      apply ByteArray.ext; simp [ByteArray.push]
    rw [this, ih]
    simp

theorem run_bytes {P : Program} {c : Cx} {ns : List Int} {b a cap : Nat} {ty : TypeId} {arr : Array Value} {f : Nat × Nat} (hr : RowsR c.im (ns.map (D.int .u8)) b a 1) :
    (Conv.bytesToString (.slice (some ⟨b, a, none⟩) ns.length cap)).run P c.w = .ok (.string ⟨(ns.map fun n => UInt8.ofNat n.toNat).toArray⟩) c.w := by
  have hc := run_loadCells_list (P := P) c.w ⟨b, a, none⟩ (ns.map (Value.int .u8)) (by
    intro j v hj
    rw [List.getElem?_map] at hj
    cases hn : ns[j]? with
    | none => rw [hn] at hj; cases hj
    | some n =>
      rw [hn] at hj; simp at hj; subst hj
      obtain ⟨u, h1, h2, h3⟩ := RowsR_get hr j (d := .int .u8 n) (by rw [List.getElem?_map, hn]; rfl)
      simp only [DR] at h1; subst h1
      have := h3 0 (by omega)
      simpa [Cx.im, Value.cells, Addr.add_lit] using this)
  rw [List.length_map] at hc
  rw [run_bytesToString c.w _ _ cap ns hc]
  congr 2
  exact foldl_push ns []

theorem convF_sound {P : Program} {src dst : TypeId} {c : Cx} {σ : List Ob} (h : SR c σ) {x r : V} {vx : Value} (e : convF P src dst σ x = some r) (hx : c.vr x vx) : ∃ v, (convert src dst vx).run P c.w = .ok v c.w ∧ c.vr r v := by
  unfold convF at e
  split at e
  · rename_i hs
    obtain ⟨ds, hds⟩ := okT_some hs
    split at e
    · split at e
      · rename_i k hk
        simp only [Option.some.injEq] at e; subst e
        simp only [Cx.vr, VR, DR] at hx; subst hx
        exact ⟨_, by simp [convert, run_underlying hds, run_underlying (intT_some hk), Conv.intToInt]; rfl, by simp [Cx.vr, VR, DR]⟩
      · cases e
    · split at e
      · rename_i hk
        simp only [Option.some.injEq] at e; subst e
        simp only [Cx.vr, VR, DR] at hx; subst hx
        exact ⟨_, by simp [convert, run_underlying hds, run_underlying (isStrT_some hk)]; rfl, by simp [Cx.vr, VR, DR]⟩
      · cases e
    · split at e
      · rename_i el hel
        split at e
        · rename_i hk
          have hu := elemOfSlice_some hel
          have hd := isStrT_some hk.1
          have he := intT_some hk.2
          have conv : ∀ (ad : Option Addr) (n cap : Nat), (convert src dst (.slice ad n cap)).run P c.w = (Conv.bytesToString (.slice ad n cap)).run P c.w := by
            intro ad n cap
            simp [convert, run_underlying hu, run_underlying hd, run_underlying he]
          split at e
          · rename_i o off len _ _
            split at e
            · rename_i h1
              split at e
              · rename_i ds' hds'
                cases hb : bytesOf ds' with
                | none => rw [hb] at e; cases e
                | some s =>
                  rw [hb] at e; simp at e; subst e
                  obtain ⟨mk, es, hes⟩ := arrSz_some h1 (by omega)
                  simp only [slD, hes] at hds'
                  split at hds'
                  · rename_i hle
                    simp only [Option.some.injEq] at hds'; subst hds'
                    obtain ⟨ns, hns, rfl⟩ := bytes_ns hb
                    have hlen : len = ns.length := by
                      have := congrArg List.length hns
                      simp at this; omega
                    rcases vr_sl h hes hx with ⟨hl, rfl, rfl, rfl, _⟩ | ⟨b, base, a, cap, arr, ty, f, hl, rfl, g1, g2, g3, g4, g5, g6, g7, g8⟩
                    · have : ns = [] := List.eq_nil_of_length_eq_zero hlen.symm
                      subst this
                      exact ⟨.string ⟨#[]⟩, by rw [conv]; rfl, by simp [Cx.vr, VR, DR]⟩
                    · by_cases h0 : cap = 0
                      · have : ns = [] := List.eq_nil_of_length_eq_zero (by omega)
                        subst this
                        have : len = 0 := by omega
                        subst this
                        exact ⟨.string ⟨#[]⟩, by rw [conv]; exact run_bytes (ns := []) (ty := ty) (arr := arr) (f := f) (by simp [RowsR]), by simp [Cx.vr, VR, DR]⟩
                      · have ha := g2 (by omega)
                        have hr : RowsR c.im (ns.map (D.int .u8)) b a 1 := by
                          rw [← hns, ha]
                          exact RowsR_take (RowsR_drop g8 off) len
                        exact ⟨_, by rw [conv, hlen]; exact run_bytes (ty := ty) (arr := arr) (f := f) hr, by simp [Cx.vr, VR, DR]⟩
                  · cases hds'
              · cases e
            · cases e
          · rename_i es _ _
            split at e
            · rename_i ds' hds'
              simp only [slD, Option.some.injEq] at hds'; subst hds'
              cases hb : bytesOf es with
              | none => rw [hb] at e; cases e
              | some s =>
                rw [hb] at e; simp at e; subst e
                obtain ⟨ns, rfl, rfl⟩ := bytes_ns hb
                simp only [Cx.vr, VR, DR] at hx
                obtain ⟨a, cap, rfl, g1, g2⟩ := hx
                rw [List.length_map]
                rcases g2 with g2 | ⟨b, off, rfl, gs, g3, g4⟩
                · have : ns = [] := by simpa using g2
                  subst this
                  cases a with
                  | none => exact ⟨.string ⟨#[]⟩, by rw [conv]; rfl, by simp [Cx.vr, VR, DR]⟩
                  | some a => exact ⟨.string ⟨#[]⟩, by rw [conv]; exact run_bytesToString c.w a 0 cap [] (by simp [loadCells, loadCellsFrom]), by simp [Cx.vr, VR, DR]⟩
                · exact ⟨_, by rw [conv]; exact run_bytes (ty := 0) (arr := #[]) (f := (0, 0)) g4, by simp [Cx.vr, VR, DR]⟩
            · cases e
          · simp only [Option.some.injEq] at e; subst e
            simp only [Cx.vr, VR, DR] at hx; subst hx
            exact ⟨.string ⟨#[]⟩, by rw [conv]; rfl, by simp [Cx.vr, VR, DR]⟩
          · cases e
        · cases e
      · cases e
  · cases e
end Go.Proofs.YteafabpedfgedaaGreatDoor.Am
end
/- The engine's quiet operations, all of them in one function, and its soundness. -/
section
set_option linter.unusedSimpArgs false
set_option linter.unusedVariables false
namespace Go.Proofs.YteafabpedfgedaaGreatDoor.Am
open Go

/-! ### maps -/
def keyEq0 : D → D → Option Bool
  | .str a, .str b => some (a == b)
  | .int k a, .int k' b => if k = k' then some (a == b) else none
  | .bool a, .bool b => some (a == b)
  | _, _ => none

def keysEq : List D → List D → Option Bool
  | [], [] => some true
  | a :: as, b :: bs => match keyEq0 a b, keysEq as bs with
    | some x, some y => some (x && y)
    | _, _ => none
  | _, _ => none

def keyEq : D → D → Option Bool
  | .str a, .str b => some (a == b)
  | .int k a, .int k' b => if k = k' then some (a == b) else none
  | .bool a, .bool b => some (a == b)
  | .agg as, .agg bs => keysEq as bs
  | _, _ => none

def findD (k : D) : List (D × V × Nat) → Nat → Option (Option (Nat × V))
  | [], _ => some none
  | (k', x, _) :: es, i => match keyEq k k' with
    | some true => some (some (i, x))
    | some false => findD k es (i + 1)
    | none => none

def fitK : List SK → List D → Bool
  | [], [] => true
  | .int :: ks, .int _ _ :: xs => fitK ks xs
  | .bool :: ks, .bool _ :: xs => fitK ks xs
  | .str :: ks, .str _ :: xs => fitK ks xs
  | _, _ => false

def keyOk (P : Program) (kt : TypeId) : D → Bool
  | .str _ => isStrT P kt
  | .int _ _ => (intT P kt).isSome
  | .bool _ => isBoolT P kt
  | .agg as => match flatT P 8 kt with | some ks => aggT P kt && fitK ks as | none => false
  | _ => false

/-- A key, as data. -/
def keyV : V → Option D
  | .d k => some k
  | x => x.ds.map D.agg

theorem keyV_dr {c : Cx} {x : V} {k : D} (h : keyV x = some k) {v : Value} (r : c.vr x v) : DR c.im k v := by
  unfold keyV at h
  split at h
  · simp only [Option.some.injEq] at h; subst h
    simpa [Cx.vr, VR] using r
  · cases hd : x.ds with
    | none => rw [hd] at h; cases h
    | some ds =>
      rw [hd] at h; simp only [Option.map_some, Option.some.injEq] at h; subst h
      obtain ⟨vs, rfl, g⟩ := vr_ds hd r
      simp only [DR]
      exact ⟨vs, rfl, g⟩

def mapT (P : Program) (t : TypeId) : Option (TypeId × TypeId) := match P.underlying t with | some (.map k e) => some (k, e) | _ => none
def zeroV (P : Program) (t : TypeId) : Option V := match P.info? t with | some i => i.zero.map ofConst | none => none

theorem mapT_some {P : Program} {t k e : TypeId} (h : mapT P t = some (k, e)) : P.underlying t = some (.map k e) := by
  unfold mapT at h
  split at h
  · simp at h; obtain ⟨rfl, rfl⟩ := h; assumption
  · cases h

theorem zeroV_some {P : Program} {t : TypeId} {x : V} (h : zeroV P t = some x) (w : World) : ∃ z, (zeroValue t).run P w = .ok z w ∧ x = ofConst z ∧ ∃ i, P.info? t = some i ∧ i.zero = some z := by
  unfold zeroV at h
  split at h
  · rename_i i hi
    cases hz : i.zero with
    | none => rw [hz] at h; cases h
    | some z =>
      rw [hz] at h; simp at h
      exact ⟨z, by simp [zeroValue, typeInfo, hi, hz], h.symm, i, hi, hz⟩
  · cases h

theorem keysEq_flat : ∀ (ks : List SK) (as bs : List D) (r : Bool), fitK ks as = true → keysEq as bs = some r → flatD ks as bs = some r
  | [], [], bs, r, hf, h => by cases bs <;> simp [keysEq] at h ⊢; simp [flatD, h]
  | [], _ :: _, bs, r, hf, h => by simp [fitK] at hf
  | k :: ks, [], bs, r, hf, h => by cases k <;> simp [fitK] at hf
  | k :: ks, a :: as, [], r, hf, h => by simp [keysEq] at h
  | k :: ks, a :: as, b :: bs, r, hf, h => by
    simp only [keysEq] at h
    cases h0 : keyEq0 a b with
    | none => rw [h0] at h; cases h
    | some x =>
      cases h1 : keysEq as bs with
      | none => rw [h0, h1] at h; cases h
      | some y =>
        rw [h0, h1] at h
        simp only [Option.some.injEq] at h; subst h
        cases k <;> cases a <;> (try (simp [fitK] at hf; done)) <;> cases b <;> (try (simp [keyEq0] at h0; done)) <;> simp only [fitK] at hf <;> simp only [keyEq0] at h0 <;> have ih := keysEq_flat ks as bs y hf h1
        · split at h0
          · rename_i q; subst q
            simp only [Option.some.injEq] at h0; subst h0
            simp [flatD, ih]
          · cases h0
        all_goals
          simp only [Option.some.injEq] at h0; subst h0
          simp [flatD, ih]

theorem fitK_append : ∀ (ks ls : List SK) (xs : List D), fitK (ks ++ ls) xs = true → fitK ks (xs.take ks.length) = true ∧ fitK ls (xs.drop ks.length) = true ∧ xs.length = ks.length + ls.length
  | [], ls, xs, h => by
    refine ⟨by simp [fitK], by simpa using h, ?_⟩
    have : ∀ (ls : List SK) (xs : List D), fitK ls xs = true → xs.length = ls.length := by
      intro ls
      induction ls with
      | nil => intro xs h; cases xs with | nil => rfl | cons x xs => simp [fitK] at h
      | cons k ls ih =>
        intro xs h
        cases xs with
        | nil => cases k <;> simp [fitK] at h
        | cons x xs => cases k <;> cases x <;> (try (simp [fitK] at h; done)) <;> simp only [fitK] at h <;> simp [ih xs h]
    simpa using this ls xs h
  | k :: ks, ls, [], h => by cases k <;> simp [fitK] at h
  | k :: ks, ls, x :: xs, h => by
    cases k <;> cases x <;> (try (simp [fitK] at h; done)) <;> simp only [List.cons_append, fitK] at h <;> obtain ⟨h1, h2, h3⟩ := fitK_append ks ls xs h <;>
      exact ⟨by simpa [fitK] using h1, by simpa using h2, by simp [h3]; omega⟩

theorem aggT_some {P : Program} {t : TypeId} (h : aggT P t = true) : ∃ d, P.underlying t = some d := by
  unfold aggT at h
  cases hu : P.underlying t with
  | none => rw [hu] at h; cases h
  | some d => exact ⟨d, rfl⟩

theorem check_flat (P : Program) (I : Im) (b : Bool) : ∀ (n : Nat) (t : TypeId) (ks : List SK), flatT P n t = some ks → ∀ (m : Nat), n ≤ m → ∀ (as : List D) (xs : List Value) (w : World), fitK ks as = true → DRs I as xs →
    (∃ e, P.underlying t = some e) ∧ (Instr.checkKey b m t (valOf P t xs)).run P w = .ok () w
  | 0, t, ks, h, m, hm, as, xs, w, hf, hx => by simp [flatT] at h
  | n + 1, t, ks, h, 0, hm, as, xs, w, hf, hx => by omega
  | n + 1, t, ks, h, m + 1, hm, as, xs, w, hf, hx => by
    unfold flatT at h
    split at h
    · rename_i k hu
      exact ⟨⟨_, hu⟩, by simp [Instr.checkKey, run_underlying hu]⟩
    · rename_i hu
      exact ⟨⟨_, hu⟩, by simp [Instr.checkKey, run_underlying hu]⟩
    · rename_i hu
      exact ⟨⟨_, hu⟩, by simp [Instr.checkKey, run_underlying hu]⟩
    · rename_i fs hu
      refine ⟨⟨_, hu⟩, ?_⟩
      have ha : aggT P t = true := by simp [aggT, hu]
      split at h
      · rename_i hst
        simp only [valOf, ha, if_true]
        rw [Instr.checkKey]
        simp only [Sem.run_bind, run_underlying hu, Result.andThen_ok]
        rw [← Array.forIn_toList]
        have key : ∀ (l : List Field) (off : Nat) (ks : List SK), flatFields (flatT P n) (szOf P) l off = some ks → fitK ks (as.drop off) = true →
            (forIn l PUnit.unit fun f (r : PUnit) => (do
              if f.name ≠ "_" then do
                let x ← part f.type xs.toArray f.offset
                Instr.checkKey b m f.type x
                pure (ForInStep.yield PUnit.unit)
              else pure (ForInStep.yield PUnit.unit) : Sem (ForInStep PUnit))).run P w = .ok PUnit.unit w := by
          intro l
          induction l with
          | nil => intro off ks h hf; simp
          | cons f l ih =>
            intro off ks h hf
            simp only [flatFields] at h
            split at h
            · rename_i hn
              obtain ⟨hn, ho⟩ := hn
              split at h
              · rename_i k1 hk1
                split at h
                · rename_i hs
                  obtain ⟨hs, h0⟩ := hs
                  split at h
                  · rename_i ls hls
                    simp only [Option.some.injEq] at h; subst h
                    obtain ⟨g1, g2, g3⟩ := fitK_append k1 ls _ hf
                    have lx := DRs_length hx
                    obtain ⟨⟨e, he⟩, hrec⟩ := check_flat P I b n f.type k1 hk1 m (by omega) _ ((xs.drop off).take k1.length) w g1 (DRs_take (DRs_drop hx off) _)
                    have ih' := ih (off + k1.length) ls hls (by rw [← List.drop_drop]; exact g2)
                    have p1 := run_part he (by omega) xs f.offset (by rw [ho, ← hs]; rw [List.length_drop] at g3; omega) w
                    rw [ho, ← hs] at p1
                    simp only [List.forIn_cons, Sem.run_bind, hn, ne_eq, not_false_eq_true, if_true, ho, Result.andThen_ok, p1, hrec, Sem.run_pure]
                    exact ih'
                  · cases h
                · cases h
              · cases h
            · cases h
        rw [key fs.toList 0 ks h (by simpa using hf)]
        rfl
      · cases h
    · cases h

theorem keyOk_some {P : Program} {kt : TypeId} {k : D} (h : keyOk P kt k = true) : ∃ d, P.underlying kt = some d := by
  cases k <;> simp only [keyOk] at h <;> (try (cases h; done))
  · obtain ⟨q, hq⟩ := Option.isSome_iff_exists.1 h
    exact ⟨_, intT_some hq⟩
  · exact ⟨_, isBoolT_some h⟩
  · exact ⟨_, isStrT_some h⟩
  · split at h
    · simp only [Bool.and_eq_true] at h
      exact aggT_some h.1
    · cases h

theorem keyOk_checks {P : Program} {kt : TypeId} {k : D} (h : keyOk P kt k = true) {I : Im} {v : Value} (r : DR I k v) (b : Bool) (w : World) : (Instr.checkKey b 10000 kt v).run P w = .ok () w := by
  have key : ∀ n, (∀ as, k ≠ .agg as) → (Instr.checkKey b (n + 1) kt v).run P w = .ok () w := by
    intro n hna
    cases k <;> simp only [keyOk] at h <;> (try (cases h; done)) <;> (try (exact absurd rfl (hna _))) <;> simp only [DR] at r <;> subst r
    · obtain ⟨k, hk⟩ := Option.isSome_iff_exists.1 h
      simp [Instr.checkKey, run_underlying (intT_some hk)]
    · simp [Instr.checkKey, run_underlying (isBoolT_some h)]
    · simp [Instr.checkKey, run_underlying (isStrT_some h)]
  cases k with
  | agg as =>
    simp only [keyOk] at h
    split at h
    · rename_i ks hk
      simp only [Bool.and_eq_true] at h
      simp only [DR] at r
      obtain ⟨xs, rfl, hx⟩ := r
      have := (check_flat P I b 8 kt ks hk 10000 (by omega) as xs w h.2 hx).2
      simpa only [valOf, h.1, if_true] using this
    · cases h
  | _ => exact key 9999 (fun as q => by cases q)

/-- What is asked of two keys: '==' of them, and the short way for plain ones. -/
def KeyCmp (P : Program) (kt : TypeId) (v v' : Value) (b : Bool) : Prop :=
  (∀ w, (Op.equal kt v v').run P w = .ok b w) ∧ ∀ d, P.underlying kt = some d → Instr.sameNow d v v' = some b ∨ Instr.sameNow d v v' = none

theorem keyCmp {P : Program} {kt : TypeId} {I : Im} {k k' : D} {v v' : Value} {r : Bool} (h : keyOk P kt k = true) (hk : DR I k v) (hk' : DR I k' v') (e : keyEq k k' = some r) : KeyCmp P kt v v' r := by
  cases k <;> simp only [keyOk] at h <;> (try (cases h; done)) <;> cases k' <;> simp only [keyEq] at e <;> (try (cases e; done))
  · simp only [DR] at hk hk'; subst hk; subst hk'
    obtain ⟨k, hq⟩ := Option.isSome_iff_exists.1 h
    have hu := intT_some hq
    split at e
    · rename_i q
      simp only [Option.some.injEq] at e; subst e; subst q
      exact ⟨fun w => run_equalIn_int w 9999 kt _ _ _ _ hu, fun d hd => .inl (by rw [hu] at hd; simp at hd; subst hd; simp [Instr.sameNow])⟩
    · cases e
  · simp only [DR] at hk hk'; subst hk; subst hk'
    have hu := isBoolT_some h
    simp only [Option.some.injEq] at e; subst e
    exact ⟨fun w => run_equalIn_bool' w 9999 kt _ _ hu, fun d hd => .inl (by rw [hu] at hd; simp at hd; subst hd; simp [Instr.sameNow])⟩
  · simp only [DR] at hk hk'; subst hk; subst hk'
    have hu := isStrT_some h
    simp only [Option.some.injEq] at e; subst e
    refine ⟨fun w => ?_, fun d hd => .inl (by rw [hu] at hd; simp at hd; subst hd; simp only [Instr.sameNow, beq_toListBytes, toList_mk])⟩
    show (Op.equalIn 10000 kt _ _).run P w = _
    rw [run_equalIn_string w 9999 kt _ _ hu, toList_mk, toList_mk]
  · split at h
    · rename_i ks hks
      simp only [Bool.and_eq_true] at h
      simp only [DR] at hk hk'
      obtain ⟨xs, rfl, hx⟩ := hk
      obtain ⟨ys, rfl, hy⟩ := hk'
      have hfd := keysEq_flat ks _ _ r h.2 e
      refine ⟨fun w => ?_, fun d hd => .inr (by cases d <;> rfl)⟩
      have := (flat_eq P w I 8 kt ks hks 10000 (by omega) _ _ xs ys r hfd hx hy).2
      simp only [valOf, h.1, if_true] at this
      exact this
    · cases h

/-- What a look for a key finds. -/
inductive Fd (P : Program) (kt : TypeId) (v : Value) : List MapEntry → Nat → Option (Nat × Value) → Prop
  | nil (i : Nat) : Fd P kt v [] i none
  | hit {e : MapEntry} {l : List MapEntry} {i : Nat} (h : KeyCmp P kt v e.key true) : Fd P kt v (e :: l) i (some (i, e.val))
  | miss {e : MapEntry} {l : List MapEntry} {i : Nat} {r : Option (Nat × Value)} (h : KeyCmp P kt v e.key false) (t : Fd P kt v l (i + 1) r) : Fd P kt v (e :: l) i r

theorem Fd.run {P : Program} {kt : TypeId} {v : Value} {l : List MapEntry} {r : Option (Nat × Value)} {d : TypeDesc} (hd : P.underlying kt = some d) (h : Fd P kt v l 0 r) (w : World) : (Instr.findKey kt v l).run P w = .ok r w := by
  have ask : ∀ {l : List MapEntry} {i : Nat} {r : Option (Nat × Value)}, Fd P kt v l i r → (Instr.findAsking kt v l i).run P w = .ok r w := by
    intro l i r h
    induction h with
    | nil i => simp [Instr.findAsking]
    | hit h => simp [Instr.findAsking, h.1 w]
    | miss h t ih => simp [Instr.findAsking, h.1 w, ih]
  have now : ∀ {l : List MapEntry} {i : Nat} {r : Option (Nat × Value)}, Fd P kt v l i r → Instr.findNow d v l i = some r ∨ Instr.findNow d v l i = none := by
    intro l i r h
    induction h with
    | nil i => exact .inl rfl
    | hit h => rcases h.2 d hd with q | q <;> simp [Instr.findNow, q]
    | miss h t ih => rcases h.2 d hd with q | q <;> simp [Instr.findNow, q, ih]
  rcases now h with q | q
  · simp [Instr.findKey, run_underlying hd, q]
  · simp [Instr.findKey, run_underlying hd, q, ask h]

theorem Fd_findD {P : Program} {kt : TypeId} {I : Im} {w : World} {loc : Nat → Loc} {k : D} {v : Value} (h : keyOk P kt k = true) (hk : DR I k v) :
    ∀ {es : List (D × V × Nat)} {l : List MapEntry} (m : MapR I w loc es l) (i : Nat) {r : Option (Nat × V)}, findD k es i = some r →
      ∃ r', Fd P kt v l i r' ∧ (match r, r' with | some (j, x), some (j', u) => j = j' ∧ VR I w loc x u ∧ i ≤ j ∧ ∃ k' n, es[j - i]? = some (k', x, n) ∧ keyEq k k' = some true | none, none => True | _, _ => False) := by
  intro es l m
  induction m with
  | nil => intro i r e; simp [findD] at e; subst e; exact ⟨none, .nil _, trivial⟩
  | @cons k0 x0 n0 ent es l h1 h2 h3 m ih =>
    intro i r e
    simp only [findD] at e
    split at e
    · rename_i hq
      simp only [Option.some.injEq] at e; subst e
      exact ⟨some (i, ent.val), .hit (keyCmp h hk h1 hq), rfl, h2, Nat.le_refl _, k0, n0, by simp, hq⟩
    · rename_i hq
      obtain ⟨r', g1, g2⟩ := ih (i + 1) e
      refine ⟨r', .miss (keyCmp h hk h1 hq) g1, ?_⟩
      cases r with
      | none => cases r' with
        | none => trivial
        | some q => exact g2
      | some q =>
        cases r' with
        | none => exact g2
        | some q' =>
          obtain ⟨j, x⟩ := q
          obtain ⟨j', u⟩ := q'
          obtain ⟨a1, a2, a3, k', n', a4, a5⟩ := g2
          refine ⟨a1, a2, by omega, k', n', ?_, a5⟩
          have : j - i = (j - (i + 1)) + 1 := by omega
          rw [this]; simpa using a4
    · cases e

def lookupRes (ok : Bool) (x : V) (b : Bool) : V := if ok then .tup [x, .d (.bool b)] else x

def lookupF (P : Program) (t : TypeId) (σ : List Ob) (x k : V) (ok : Bool) : Option V :=
  match mapT P t, keyV k with
  | some (kt, et), some k => if keyOk P kt k then
      match x with
      | .mp o => match σ[o]? with
        | some (.map es _) => match findD k es 0 with
          | some (some (_, x)) => some (lookupRes ok x true)
          | some none => (zeroV P et).map fun z => lookupRes ok z false
          | none => none
        | _ => none
      | .d .nilm => (zeroV P et).map fun z => lookupRes ok z false
      | _ => none
    else none
  | _, _ => none

theorem lookupF_sound {P : Program} {t : TypeId} {c : Cx} {σ : List Ob} (h : SR c σ) {x k r : V} {ok : Bool} {vx vk : Value} (e : lookupF P t σ x k ok = some r) (hx : c.vr x vx) (hk : c.vr k vk) :
    ∃ v, (Instr.lookup t vx vk ok).run P c.w = .ok v c.w ∧ c.vr r v := by
  unfold lookupF at e
  split at e
  · rename_i kt et k hm hkv
    have hu := mapT_some hm
    have hk := keyV_dr hkv hk
    split at e
    · rename_i hko
      have fin : ∀ (x : V) (u : Value) (b : Bool), c.vr x u → c.vr (lookupRes ok x b) (if ok then .tuple #[u, .bool b] else u) := by
        intro x u b hu
        cases ok with
        | false => simpa [lookupRes] using hu
        | true =>
          simp only [lookupRes, if_true, Cx.vr, VR, VRs]
          exact ⟨[u, .bool b], rfl, u, [.bool b], rfl, hu, .bool b, [], rfl, by simp [DR], rfl⟩
      obtain ⟨d, hd⟩ := keyOk_some hko
      split at e
      · rename_i o
        split at e
        · rename_i es clk hes
          obtain ⟨b, ents, hl, rfl, h1, h2, _⟩ := map_at h hes hx
          split at e
          · rename_i j y hf
            simp only [Option.some.injEq] at e; subst e
            obtain ⟨r', g1, g2⟩ := Fd_findD (P := P) hko hk h2 0 hf
            cases r' with
            | none => exact g2.elim
            | some q =>
              obtain ⟨j', u⟩ := q
              refine ⟨_, ?_, fin _ u true g2.2.1⟩
              simp only [Instr.lookup, Sem.run_bind, run_underlying hu, Result.andThen_ok, run_getObj_map h1, Sem.run_pure, keyOk_checks hko hk, g1.run hd]
          · rename_i hf
            cases hz : zeroV P et with
            | none => rw [hz] at e; cases e
            | some z =>
              rw [hz] at e; simp at e; subst e
              obtain ⟨zv, z1, rfl, _⟩ := zeroV_some hz c.w
              obtain ⟨r', g1, g2⟩ := Fd_findD (P := P) hko hk h2 0 hf
              cases r' with
              | some q => exact g2.elim
              | none =>
                refine ⟨_, ?_, fin _ zv false (VR_ofConst _ _ _ _)⟩
                simp only [Instr.lookup, Sem.run_bind, run_underlying hu, Result.andThen_ok, run_getObj_map h1, Sem.run_pure, keyOk_checks hko hk, g1.run hd, z1]
          · cases e
        · cases e
      · cases hz : zeroV P et with
        | none => rw [hz] at e; cases e
        | some z =>
          rw [hz] at e; simp at e; subst e
          obtain ⟨zv, z1, rfl, _⟩ := zeroV_some hz c.w
          simp only [Cx.vr, VR, DR] at hx; subst hx
          refine ⟨_, ?_, fin _ zv false (VR_ofConst _ _ _ _)⟩
          have := (Fd.nil (P := P) (kt := kt) (v := vk) 0).run hd c.w
          simp only [Instr.lookup, Sem.run_bind, run_underlying hu, Result.andThen_ok, Sem.run_pure, keyOk_checks hko hk, this, z1]
      · cases e
    · cases e
  · cases e

/-! ### the rest -/
def indexF (P : Program) (t : TypeId) (x ix : V) : Option V :=
  match x, ix with
  | .d (.str s), .d (.int _ i) => if isStrT P t = true ∧ 0 ≤ i then match s[i.toNat]? with
      | some b => some (.d (.int .u8 b.toNat))
      | none => none
    else none
  | .d (.agg cs), .d (.int _ i) => match arrT P t with
    | some (n, e) => if 0 < szOf P e ∧ 0 ≤ i ∧ i < n then takeD P e (cs.drop (i.toNat * szOf P e)) else none
    | none => none
  | .agg cs, .d (.int _ i) => match arrT P t with
    | some (n, e) => if 0 < szOf P e ∧ 0 ≤ i ∧ i < n then takeV P e (cs.drop (i.toNat * szOf P e)) else none
    | none => none
  | _, _ => none

theorem indexF_sound {P : Program} {t : TypeId} {c : Cx} {x ix r : V} {vx vi : Value} (e : indexF P t x ix = some r) (hx : c.vr x vx) (hi : c.vr ix vi) : ∃ v, (Instr.index t vx vi).run P c.w = .ok v c.w ∧ c.vr r v := by
  unfold indexF at e
  split at e
  · rename_i s k i
    split at e
    · rename_i ht
      split at e
      · rename_i b hb
        simp only [Option.some.injEq] at e; subst e
        simp only [Cx.vr, VR, DR] at hx hi; subst hx; subst hi
        have hg : (⟨s.toArray⟩ : ByteArray)[i.toNat]? = some b := by
          have hlt := (List.getElem?_eq_some_iff.1 hb).1
          rw [getElem?_pos (⟨s.toArray⟩ : ByteArray) i.toNat (by rw [size_mk]; exact hlt)]
          congr 1
          have := (List.getElem?_eq_some_iff.1 hb).2
          rw [← this]
          rfl
        exact ⟨.int .u8 b.toNat, by simp [Instr.index, asIntOf, run_underlying (isStrT_some ht.1), ht.2, hg], by simp [Cx.vr, VR, DR]⟩
      · cases e
    · cases e
  · rename_i cs k i
    split at e
    · rename_i n el ha
      split at e
      · rename_i hb
        simp only [Cx.vr, VR, DR] at hx hi
        obtain ⟨vs, rfl, hv⟩ := hx
        subst hi
        obtain ⟨v, g1, g2⟩ := takeD_part e hv c.w c.loc
        exact ⟨v, by simp only [Instr.index, asIntOf, Sem.run_bind, Sem.run_pure, run_underlying (arrT_some ha), Result.andThen_ok, hb.2, and_self, if_true, run_sizeOf' hb.1, g1], g2⟩
      · cases e
    · cases e
  · rename_i cs k i
    split at e
    · rename_i n el ha
      split at e
      · rename_i hb
        simp only [Cx.vr, VR, DR] at hx hi
        obtain ⟨vs, rfl, hv⟩ := hx
        subst hi
        obtain ⟨v, g1, g2⟩ := takeV_part e hv
        exact ⟨v, by simp only [Instr.index, asIntOf, Sem.run_bind, Sem.run_pure, run_underlying (arrT_some ha), Result.andThen_ok, hb.2, and_self, if_true, run_sizeOf' hb.1, g1], g2⟩
      · cases e
    · cases e
  · cases e

def foldMM (f : Int → Int → Int) : Int → List V → Option Int
  | a, [] => some a
  | a, .d (.int _ b) :: r => foldMM f (f a b) r
  | _, _ => none

def minMaxF (f : Int → Int → Int) : List V → Option V
  | .d (.int k a) :: r => (foldMM f a r).map fun n => .d (.int k n)
  | _ => none

theorem max_if (a b : Int) : (if b > a then b else a) = max a b := by omega
theorem min_if (a b : Int) : (if b < a then b else a) = min a b := by omega

theorem foldMM_sound {P : Program} {c : Cx} (g : Value → Value → Sem Value) (f : Int → Int → Int) (hg : ∀ k a k' b, g (.int k a) (.int k' b) = pure (.int k (f a b))) (k : IntKind) :
    ∀ (xs : List V) (vs : List Value), c.vrs xs vs → ∀ a n, foldMM f a xs = some n → (vs.foldlM g (.int k a)).run P c.w = .ok (.int k n) c.w
  | [], vs, h, a, n, e => by
    simp [Cx.vrs, VRs] at h; subst h
    simp [foldMM] at e; subst e
    simp
  | x :: xs, vs, h, a, n, e => by
    simp only [Cx.vrs, VRs] at h
    obtain ⟨v, r, rfl, h1, h2⟩ := h
    unfold foldMM at e
    split at e
    · cases ‹_ :: _ = []›
    · rename_i k' b r' heq
      simp only [List.cons.injEq] at heq
      obtain ⟨rfl, rfl⟩ := heq
      simp only [VR, DR] at h1; subst h1
      simp only [List.foldlM_cons, hg, pure_bind]
      exact foldMM_sound g f hg k xs r h2 _ n e
    · cases e

def argsOf (s : List V) (args : Array Operand) : List V := args.toList.map (get s)

theorem vrs_args {c : Cx} {s : List V} {a : Act} (hG : Glob c) (h : c.vrs s a.tmps.toList) : ∀ (xs : List Operand), c.vrs (xs.map (get s)) (xs.map a.eval)
  | [] => by simp [Cx.vrs, VRs]
  | x :: xs => by simp only [List.map_cons, Cx.vrs, VRs]; exact ⟨_, _, rfl, vr_get hG h x, vrs_args hG h xs⟩

def builtinF (P : Program) (b : Builtin) (ts : List TypeId) (σ : List Ob) (xs : List V) : Option V :=
  match b with
  | .len => match ts, xs with | [t], [x] => lenF P t σ x | _, _ => none
  | .min => minMaxF min xs
  | .max => minMaxF max xs
  | _ => none

theorem builtinF_sound {P : Program} {b : Builtin} {ts : Array TypeId} {ty : TypeId} {cs : Array Bool} {c : Cx} {σ : List Ob} (h : SR c σ) {xs : List V} {vs : List Value} {r : V} (e : builtinF P b ts.toList σ xs = some r) (hx : c.vrs xs vs) :
    ∃ v, (builtin b ts ty cs vs.toArray).run P c.w = .ok (.value v) c.w ∧ c.vr r v := by
  unfold builtinF at e
  split at e
  · split at e
    · rename_i t x ht
      simp only [Cx.vrs, VRs] at hx
      obtain ⟨v, r', rfl, h1, rfl⟩ := hx
      obtain ⟨u, g1, g2⟩ := lenF_sound (ty := ty) h e h1
      have : ts = #[t] := by apply Array.ext'; simp [ht]
      subst this
      exact ⟨u, by simp [builtin, g1], g2⟩
    · cases e
  · unfold minMaxF at e
    split at e
    · rename_i k a r'
      cases hf : foldMM min a r' with
      | none => rw [hf] at e; cases e
      | some n =>
        rw [hf] at e; simp at e; subst e
        simp only [Cx.vrs, VRs, VR, DR] at hx
        obtain ⟨v, t, rfl, rfl, h2⟩ := hx
        have := foldMM_sound (P := P) (c := c) Builtin.min2 min (by intro k a k' b; simp only [Builtin.min2, min_if]) k r' t h2 a n hf
        exact ⟨_, by simp [builtin, Builtin.min_, this]; rfl, by simp [Cx.vr, VR, DR]⟩
    · cases e
  · unfold minMaxF at e
    split at e
    · rename_i k a r'
      cases hf : foldMM max a r' with
      | none => rw [hf] at e; cases e
      | some n =>
        rw [hf] at e; simp at e; subst e
        simp only [Cx.vrs, VRs, VR, DR] at hx
        obtain ⟨v, t, rfl, rfl, h2⟩ := hx
        have := foldMM_sound (P := P) (c := c) Builtin.max2 max (by intro k a k' b; simp only [Builtin.max2, max_if]) k r' t h2 a n hf
        exact ⟨_, by simp [builtin, Builtin.max_, this]; rfl, by simp [Cx.vr, VR, DR]⟩
    · cases e
  · cases e

/-- A type assertion of nothing. -/
def assertF (P : Program) (t : TypeId) (ok : Bool) : V → Option V
  | .d .nili => if ok = true ∧ (P.underlying t).isSome = true then (zeroV P t).map fun z => .tup [z, .d (.bool false)] else none
  | _ => none

theorem assertF_sound {P : Program} {t : TypeId} {ok : Bool} {c : Cx} {x r : V} {vx : Value} (e : assertF P t ok x = some r) (hx : c.vr x vx) (xT : TypeId) : ∃ v, (Instr.typeAssert vx xT t ok).run P c.w = .ok v c.w ∧ c.vr r v := by
  unfold assertF at e
  split at e
  · split at e
    · rename_i hq
      obtain ⟨rfl, hu⟩ := hq
      obtain ⟨d, hd⟩ := Option.isSome_iff_exists.1 hu
      simp only [Cx.vr, VR, DR] at hx; subst hx
      cases hz : zeroV P t with
      | none => rw [hz] at e; cases e
      | some z =>
        rw [hz] at e; simp only [Option.map_some, Option.some.injEq] at e; subst e
        obtain ⟨zv, z1, rfl, _⟩ := zeroV_some hz c.w
        refine ⟨.tuple #[zv, .bool false], ?_, ?_⟩
        · cases d <;> simp [Instr.typeAssert, run_underlying hd, z1]
        · simp only [Cx.vr, VR, VRs]
          exact ⟨[zv, .bool false], rfl, zv, _, rfl, VR_ofConst _ _ _ _, _, [], rfl, by simp [DR], rfl⟩
    · cases e
  · cases e

def quietF (P : Program) (s : List V) (σ : List Ob) : Op → Option V
  | .move x => some (get s x)
  | .assign x => some (get s x)
  | .pick c a b => match get s c with | .d (.bool t) => some (match t with | true => get s a | false => get s b) | _ => none
  | .nilCheck x => match get s x with
    | .ptr o i k => if alive σ o then some (.ptr o i k) else none
    | .ipt cs => some (.ipt cs)
    | _ => none
  | .binOp op t x y _ => binF P op t σ (get s x) (get s y)
  | .unOp op _ x => unF op (get s x)
  | .convert src dst x => convF P src dst σ (get s x)
  | .fieldAddr t x f => fieldAddrF P t f σ (get s x)
  | .field t x f => fieldF P t f (get s x)
  | .load t x => loadF P t σ (get s x)
  | .indexAddr t x ix => indexAddrF P t σ (get s x) (get s ix)
  | .index t x ix => indexF P t (get s x) (get s ix)
  | .slice t x lo hi mx => sliceF P t σ (get s x) (lo.map (get s)) (hi.map (get s)) (mx.map (get s))
  | .extract x i => match get s x with | .tup vs => vs[i]? | _ => none
  | .makeFunc (.func f) first caps => if first = #[] then some (.fn f (argsOf s caps)) else if caps = #[] then some (.bm f (argsOf s first)) else none
  | .typeAssert x _ t ok => assertF P t ok (get s x)
  | .lookup t x k ok => lookupF P t σ (get s x) (get s k) ok
  | .call { callee := .builtin b, args, argTypes } => builtinF P b argTypes.toList σ (argsOf s args)
  | _ => none

theorem run_value {P : Program} {w w' : World} {x : Sem Value} {v : Value} (h : x.run P w = .ok v w') : (do pure (.value (← x)) : Sem Next).run P w = .ok (.value v) w' := by
  simp [h]

theorem quiet_sound {P : Program} {o : Oper} {a : Act} {c : Cx} {s : List V} {σ : List Ob} (h : SR c σ) (hs : c.vrs s a.tmps.toList) {r : V} (e : quietF P s σ o.op = some r) :
    ∃ v, (execOp a.eval o).run P c.w = .ok (.value v) c.w ∧ c.vr r v := by
  unfold execOp
  generalize o.op = op at e ⊢
  unfold quietF at e
  split at e
  · simp only [Option.some.injEq] at e; subst e
    exact ⟨_, rfl, vr_get h.gl hs _⟩
  · simp only [Option.some.injEq] at e; subst e
    exact ⟨_, rfl, vr_get h.gl hs _⟩
  · rename_i x y z
    split at e
    · rename_i t ht
      simp only [Option.some.injEq] at e; subst e
      have := vr_get h.gl hs x
      rw [ht] at this
      simp only [Cx.vr, VR, DR] at this
      cases t with
      | false => exact ⟨a.eval z, by simp [this, asBool], vr_get h.gl hs _⟩
      | true => exact ⟨a.eval y, by simp [this, asBool], vr_get h.gl hs _⟩
    · cases e
  · rename_i x
    have hv := vr_get h.gl hs x
    split at e
    · rename_i o i k hg
      split at e
      · rename_i ha
        simp only [Option.some.injEq] at e; subst e
        rw [hg] at hv
        obtain ⟨b, base, sz, hl, hp⟩ := vr_ptr h ha hv
        exact ⟨_, by simp [hp]; rfl, by simpa [hp] using hv⟩
      · cases e
    · rename_i cs hg
      simp only [Option.some.injEq] at e; subst e
      rw [hg] at hv
      have hv' := hv
      simp only [Cx.vr, VR] at hv'
      obtain ⟨b, off, vs, hp, _⟩ := hv'
      exact ⟨_, by simp [hp]; rfl, by simpa [hp] using hv⟩
    · cases e
  · obtain ⟨v, h1, h2⟩ := binF_sound h e (vr_get h.gl hs _) (vr_get h.gl hs _) _ _
    exact ⟨v, run_value h1, h2⟩
  · obtain ⟨v, h1, h2⟩ := unF_sound (P := P) e (vr_get h.gl hs _)
    exact ⟨v, run_value h1, h2⟩
  · obtain ⟨v, h1, h2⟩ := convF_sound h e (vr_get h.gl hs _)
    exact ⟨v, run_value h1, h2⟩
  · obtain ⟨v, h1, h2⟩ := fieldAddrF_sound h e (vr_get h.gl hs _)
    exact ⟨v, run_value h1, h2⟩
  · obtain ⟨v, h1, h2⟩ := fieldF_sound e (vr_get h.gl hs _)
    exact ⟨v, run_value h1, h2⟩
  · obtain ⟨v, h1, h2⟩ := loadF_sound h e (vr_get h.gl hs _)
    exact ⟨v, run_value h1, h2⟩
  · obtain ⟨v, h1, h2⟩ := indexAddrF_sound h e (vr_get h.gl hs _) (vr_get h.gl hs _)
    exact ⟨v, run_value h1, h2⟩
  · obtain ⟨v, h1, h2⟩ := indexF_sound (P := P) e (vr_get h.gl hs _) (vr_get h.gl hs _)
    exact ⟨v, run_value h1, h2⟩
  · have ov : ∀ x : Option Operand, ovr c (x.map (get s)) (x.map a.eval) := by
      intro x
      cases x with
      | none => trivial
      | some x => exact vr_get h.gl hs x
    obtain ⟨v, h1, h2⟩ := sliceF_sound h e (vr_get h.gl hs _) (ov _) (ov _) (ov _)
    exact ⟨v, run_value h1, h2⟩
  · rename_i x i
    split at e
    · rename_i vs hg
      have hv := vr_get h.gl hs x
      rw [hg] at hv
      simp only [Cx.vr, VR] at hv
      obtain ⟨us, hu, hv⟩ := hv
      obtain ⟨v, h1, h2⟩ := VRs_get hv i e
      refine ⟨v, run_value ?_, h2⟩
      rw [hu]
      have : us.toArray[i]? = some v := by simpa using h1
      simp [Instr.extract, this]
    · cases e
  · rename_i f first caps
    split at e
    · rename_i hf
      simp only [Option.some.injEq] at e; subst e; subst hf
      refine ⟨_, rfl, ?_⟩
      simp only [Cx.vr, VR, argsOf]
      refine ⟨caps.toList.map a.eval, ?_, vrs_args h.gl hs caps.toList⟩
      have ea : (List.map a.eval caps.toList).toArray = caps.map a.eval := by apply Array.ext'; simp
      rw [ea]; simp
    · split at e
      · rename_i hf
        simp only [Option.some.injEq] at e; subst e; subst hf
        refine ⟨_, rfl, ?_⟩
        simp only [Cx.vr, VR, argsOf]
        refine ⟨first.toList.map a.eval, ?_, vrs_args h.gl hs first.toList⟩
        have ea : (List.map a.eval first.toList).toArray = first.map a.eval := by apply Array.ext'; simp
        rw [ea]; simp
      · cases e
  · obtain ⟨v, h1, h2⟩ := assertF_sound (P := P) e (vr_get h.gl hs _) _
    exact ⟨v, run_value h1, h2⟩
  · obtain ⟨v, h1, h2⟩ := lookupF_sound h e (vr_get h.gl hs _) (vr_get h.gl hs _)
    exact ⟨v, run_value h1, h2⟩
  · rename_i b args ts
    obtain ⟨v, h1, h2⟩ := builtinF_sound (P := P) (ts := ts) (ty := o.type) (cs := args.map fun | .const _ => true | _ => false) h e (vrs_args h.gl hs args.toList)
    refine ⟨v, ?_, h2⟩
    simp only [resolve, Sem.run_bind, Sem.run_pure, Result.andThen_ok, invoke]
    have ea : (List.map a.eval args.toList).toArray = args.map a.eval := by apply Array.ext'; simp
    rw [ea] at h1
    exact h1
  · cases e
end Go.Proofs.YteafabpedfgedaaGreatDoor.Am
end
/- The engine's operations that make or write memory, first part: new variables, literals, stores. -/
section
set_option linter.unusedSimpArgs false
set_option linter.unusedVariables false
namespace Go.Proofs.YteafabpedfgedaaGreatDoor.Am
open Go

/-- What an operation that acts comes to: a value, a world, a store. -/
def SemOk (P : Program) (x : Sem Value) (c : Cx) (r : V) (σ' : List Ob) : Prop :=
  ∃ v w' loc', x.run P c.w = .ok v w' ∧ SR ⟨w', loc', c.hid⟩ σ' ∧ Ext c ⟨w', loc', c.hid⟩ ∧ Cx.vr ⟨w', loc', c.hid⟩ r v

def SemOkU (P : Program) (x : Sem Unit) (c : Cx) (σ' : List Ob) : Prop :=
  ∃ w' loc', x.run P c.w = .ok () w' ∧ SR ⟨w', loc', c.hid⟩ σ' ∧ Ext c ⟨w', loc', c.hid⟩

/-- Is the value known to be what it says? -/
def live (σ : List Ob) : V → Bool
  | .ptr o _ _ => alive σ o
  | .sl o _ _ => alive σ o
  | .mp o => alive σ o
  | .undef => false
  | .d .any => false
  | _ => true

def one (σ : List Ob) (x : V) : Bool := live σ x && (match x with | .agg _ => false | .tup _ => false | .d (.agg _) => false | _ => true)

/-- The cells of a value that is put into memory. -/
def cellsV (σ : List Ob) : V → Option (List V)
  | .agg cs => some cs
  | .d (.agg cs) => some (cs.map .d)
  | x => if one σ x then some [x] else none

theorem vr_one {c : Cx} {σ : List Ob} (h : SR c σ) {x : V} (hx : one σ x = true) {v : Value} (r : c.vr x v) : v.oneCell' = true := by
  simp only [one, Bool.and_eq_true] at hx
  obtain ⟨h1, h2⟩ := hx
  cases x with
  | d d =>
    simp only [Cx.vr, VR] at r
    cases d with
    | any => simp [live] at h1
    | agg cs => simp at h2
    | lst sz es => simp only [DR] at r; obtain ⟨a, cap, rfl, _⟩ := r; rfl
    | ifc t d => simp only [DR] at r; obtain ⟨a, rfl, _⟩ := r; rfl
    | _ => simp only [DR] at r; subst r; rfl
  | ptr o i k => obtain ⟨b, base, sz, _, rfl⟩ := vr_ptr h h1 r; rfl
  | ipt cs => simp only [Cx.vr, VR] at r; obtain ⟨b, off, vs, rfl, _⟩ := r; rfl
  | sl o off len => obtain ⟨a, cap, rfl⟩ := vr_sl_len h h1 r; rfl
  | mp o => obtain ⟨b, base, sz, _, rfl⟩ := vr_mp h h1 r; rfl
  | fn f caps => simp only [Cx.vr, VR] at r; obtain ⟨vs, rfl, _⟩ := r; rfl
  | bm f caps => simp only [Cx.vr, VR] at r; obtain ⟨vs, rfl, _⟩ := r; rfl
  | agg cs => simp at h2
  | tup cs => simp at h2
  | undef => simp [live] at h1

theorem oneCell_cells {v : Value} (h : v.oneCell' = true) : v.cells = #[v] := by
  cases v <;> first | rfl | simp [Value.oneCell'] at h

theorem cellsV_sound {c : Cx} {σ : List Ob} (h : SR c σ) {x : V} {cs : List V} (hc : cellsV σ x = some cs) {v : Value} (r : c.vr x v) : c.vrs cs v.cells.toList := by
  have single : one σ x = true → c.vrs [x] v.cells.toList := fun ho => by
    rw [oneCell_cells (vr_one h ho r)]
    simp only [Cx.vrs, VRs]
    exact ⟨v, [], rfl, r, rfl⟩
  unfold cellsV at hc
  split at hc
  · simp only [Option.some.injEq] at hc; subst hc
    simp only [Cx.vr, VR] at r
    obtain ⟨vs, rfl, hv⟩ := r
    simpa [Value.cells] using hv
  · simp only [Option.some.injEq] at hc; subst hc
    simp only [Cx.vr, VR, DR] at r
    obtain ⟨vs, rfl, hv⟩ := r
    simpa [Value.cells] using (VRs_map_d (I := c.im) (w := c.w) (l := c.loc)).2 hv
  · split at hc
    · rename_i ho
      simp only [Option.some.injEq] at hc; subst hc
      exact single ho
    · cases hc

/-! ### new variables -/
theorem heap_push_lt {w : World} {x : Obj} {b : Nat} (h : b < w.heap.size) : ({ w with heap := w.heap.push x } : World).heap[b]? = w.heap[b]? := by
  show (w.heap.push x)[b]? = _
  rw [Array.getElem?_push]
  have : ¬ b = w.heap.size := by omega
  simp [this]
theorem heap_push_at {w : World} {x : Obj} : ({ w with heap := w.heap.push x } : World).heap[w.heap.size]? = some x := by
  show (w.heap.push x)[w.heap.size]? = _
  simp

theorem new_box {c : Cx} {σ : List Ob} (h : SR c σ) {cs : List V} {vs : List Value} (hv : c.vrs cs vs) (ty : TypeId) (d : Nat) (sz : Nat := cs.length) :
    let c' : Cx := ⟨{ c.w with heap := c.w.heap.push (.cells vs.toArray ty), drawn := d }, upd c.loc σ.length (.here c.w.heap.size 0 sz), c.hid⟩
    SR c' (σ ++ [.box cs]) ∧ Ext c c' ∧ c'.vr (.ptr σ.length 0 0) (.pointer (some ⟨c.w.heap.size, 0, none⟩)) ∧ ∀ n, n * sz = cs.length → c'.vr (.sl σ.length 0 n) (.slice (some ⟨c.w.heap.size, 0, none⟩) n n) := by
  intro c'
  have e1 : c'.w.heap.size = c.w.heap.size + 1 := by show (c.w.heap.push _).size = _; simp
  have e2 : ∀ b, b < c.w.heap.size → c'.w.heap[b]? = c.w.heap[b]? := fun b hb => heap_push_lt hb
  have hE := Ext.new h c'.w e1 e2 sz
  have hlv := VRs_length hv
  refine ⟨?_, hE, ?_, fun n hn => ?_⟩
  · refine SR.new h c'.w e1 e2 sz (.box cs) ⟨c.w.heap.size, sz, rfl, vs.toArray, ty, (0, 0), heap_push_at, ?_, ?_⟩
    · exact unfrozen0 _
    · exact ⟨vs, [], by simp, hE.vrs hv⟩
  · simp [Cx.vr, VR, c']
  · simp only [Cx.vr, VR, c', upd_same]
    exact ⟨0, n, rfl, Nat.le_refl _, fun _ => by omega, _, ty, (0, 0), heap_push_at, Nat.zero_le _, by simp; omega⟩

/-- A new row of elements that may hold references, with spare room. -/
theorem new_vec {c : Cx} {σ : List Ob} (h : SR c σ) {cs : List V} {vs : List Value} (hv : c.vrs cs vs) (ty : TypeId) (d : Nat) (sz : Nat) (h0 : 0 < sz) (more : List Value) (n cap : Nat) (hn : cs.length = n * sz) (hcap : vs.length + more.length = cap * sz) (hle : n ≤ cap) :
    let c' : Cx := ⟨{ c.w with heap := c.w.heap.push (.cells (vs ++ more).toArray ty (0, 0)), drawn := d }, upd c.loc σ.length (.here c.w.heap.size 0 sz), c.hid⟩
    SR c' (σ ++ [.vec sz cs]) ∧ Ext c c' ∧ c'.vr (.sl σ.length 0 n) (.slice (some ⟨c.w.heap.size, 0, none⟩) n cap) := by
  intro c'
  have e1 : c'.w.heap.size = c.w.heap.size + 1 := by show (c.w.heap.push _).size = _; simp
  have e2 : ∀ b, b < c.w.heap.size → c'.w.heap[b]? = c.w.heap[b]? := fun b hb => heap_push_lt hb
  have hE := Ext.new h c'.w e1 e2 sz
  refine ⟨?_, hE, ?_⟩
  · refine SR.new h c'.w e1 e2 sz (.vec sz cs) ⟨c.w.heap.size, 0, rfl, h0, (vs ++ more).toArray, ty, (0, 0), heap_push_at, unfrozen0 _, vs, by simp, fun j hj => by simp [List.getElem?_append_left hj], hE.vrs hv⟩
  · simp only [Cx.vr, VR, c', upd_same]
    exact ⟨0, cap, rfl, hle, fun _ => by omega, _, ty, (0, 0), heap_push_at, Nat.zero_le _, by simp; omega⟩

/-- The zero value as cells. -/
def zeroCs (P : Program) (t : TypeId) : Option (List V) := match P.info? t with | some i => i.zero.map fun z => z.cells.toList.map fun v => .d (sc v) | none => none

theorem VRs_map_sc (I : Im) (w : World) (l : Nat → Loc) (vs : List Value) : VRs I w l (vs.map fun v => V.d (sc v)) vs := by
  have := (VRs_map_d (I := I) (w := w) (l := l) (ds := vs.map sc) (vs := vs)).2 (DRs_map_sc I vs)
  rw [List.map_map] at this
  exact this

theorem alloc_sound {P : Program} {t : TypeId} {c : Cx} {σ : List Ob} (h : SR c σ) {cs : List V} (hz : zeroCs P t = some cs) :
    SemOk P (Instr.alloc t true (.tuple #[])) c (.ptr σ.length 0 0) (σ ++ [.box cs]) := by
  unfold zeroCs at hz
  split at hz
  · rename_i i hi
    cases hzz : i.zero with
    | none => rw [hzz] at hz; cases hz
    | some z =>
      rw [hzz] at hz; simp at hz; subst hz
      obtain ⟨h1, h2, h3, _⟩ := new_box h (VRs_map_sc c.im c.w c.loc z.cells.toList) t c.w.drawn
      refine ⟨_, _, _, ?_, h1, h2, h3⟩
      simp [Instr.alloc, zeroValue, typeInfo, hi, hzz, newVar, newRow]
  · cases hz

theorem box_sound {P : Program} {t : TypeId} {c : Cx} {σ : List Ob} (h : SR c σ) {x : V} {cs : List V} (hc : cellsV σ x = some cs) {v : Value} (r : c.vr x v) :
    SemOk P (Instr.box t v) c (.ptr σ.length 0 0) (σ ++ [.box cs]) := by
  obtain ⟨h1, h2, h3, _⟩ := new_box h (cellsV_sound h hc r) t c.w.drawn
  refine ⟨_, _, _, ?_, h1, h2, h3⟩
  simp [Instr.box, newVar, newRow]

/-! ### rows of data -/

/-- A value as by-value data. -/
def toD (_σ : List Ob) : V → Option D
  | .d .any => none
  | .d x => some x
  | .agg cs => match (cs.mapM fun | .d x => some x | _ => none : Option (List D)) with | some ds => some (.agg ds) | none => none
  | _ => none

theorem toD_sound {c : Cx} {σ : List Ob} {x : V} {d : D} (h : toD σ x = some d) {v : Value} (r : c.vr x v) : DR c.im d v := by
  unfold toD at h
  split at h
  · cases h
  · simp only [Option.some.injEq] at h; subst h
    simpa [Cx.vr, VR] using r
  · rename_i cs
    split at h
    · rename_i ds hm
      simp only [Option.some.injEq] at h; subst h
      have := mapM_d _ _ hm
      subst this
      simp only [Cx.vr, VR] at r
      obtain ⟨vs, h1, h2⟩ := r
      simp only [DR]
      exact ⟨vs, h1, VRs_map_d.1 h2⟩
    · cases h
  · cases h

/-- Rows laid one behind the other. -/
theorem rows_flat {I J : Im} {b sz : Nat} (hle : I.Le J) : ∀ {es : List D} {us : List Value} (off : Nat), DRs I es us → (∀ u ∈ us, Flat u sz) →
    (∀ j, j < (us.flatMap fun u => u.cells.toList).length → J.cell b (off + j) = (us.flatMap fun u => u.cells.toList)[j]?) → RowsR J es b off sz
  | [], us, off, h, _, _ => by simp [RowsR]
  | d :: es, us, off, h, hs, hc => by
    simp only [DRs] at h
    obtain ⟨v, r, rfl, h1, h2⟩ := h
    simp only [RowsR]
    have hv : Flat v sz := hs v (by simp)
    have hvl : v.cells.toList.length = sz := by simpa using hv.1
    refine ⟨⟨v, DR_mono hle _ _ h1, hv, fun j hj => ?_⟩, ?_⟩
    · rw [hc j (by simp only [List.flatMap_cons, List.length_append]; omega)]
      simp only [List.flatMap_cons]
      rw [List.getElem?_append_left (by omega)]
      simp
    · refine rows_flat hle (off + sz) h2 (fun u hu => hs u (by simp [hu])) (fun j hj => ?_)
      have := hc (sz + j) (by simp only [List.flatMap_cons, List.length_append]; omega)
      rw [Nat.add_assoc, this]
      simp only [List.flatMap_cons]
      rw [List.getElem?_append_right (by omega), hvl]
      congr 1; omega

theorem flat_length {us : List Value} {sz : Nat} (h : ∀ u ∈ us, u.cells.size = sz) : (us.flatMap fun u => u.cells.toList).length = us.length * sz := by
  induction us with
  | nil => simp
  | cons u us ih =>
    simp only [List.flatMap_cons, List.length_append, List.length_cons, ih fun x hx => h x (by simp [hx]), Nat.add_mul, Nat.one_mul]
    have := h u (by simp)
    simp at this ⊢
    omega

/-- A new row of data. -/
theorem new_arr {c : Cx} {σ : List Ob} (h : SR c σ) {es : List D} {us : List Value} {sz : Nat} (h0 : 0 < sz) (hv : DRs c.im es us) (hs : ∀ u ∈ us, Flat u sz) (more : List Value) (ty : TypeId) (cap d : Nat) (mk : Bool)
    (hcap : cap * sz = es.length * sz + more.length) (hle : es.length ≤ cap) (f : Nat × Nat) (hf : Unfrozen f ((us.flatMap fun u => u.cells.toList) ++ more).length) (hf' : mk = false → Unfrozen f (((us.flatMap fun u => u.cells.toList) ++ more).length + 1)) :
    let c' : Cx := ⟨{ c.w with heap := c.w.heap.push (.cells ((us.flatMap fun u => u.cells.toList) ++ more).toArray ty f), drawn := d }, upd c.loc σ.length (.here c.w.heap.size 0 sz), c.hid⟩
    SR c' (σ ++ [.arr sz mk es]) ∧ Ext c c' ∧ c'.vr (.sl σ.length 0 es.length) (.slice (some ⟨c.w.heap.size, 0, none⟩) es.length cap) := by
  intro c'
  have e1 : c'.w.heap.size = c.w.heap.size + 1 := by show (c.w.heap.push _).size = _; simp
  have e2 : ∀ b, b < c.w.heap.size → c'.w.heap[b]? = c.w.heap[b]? := fun b hb => heap_push_lt hb
  have hE := Ext.new h c'.w e1 e2 sz
  have hl := flat_length fun u hu => (hs u hu).1
  have hlu := DRs_length hv
  have hat : c'.w.heap[c.w.heap.size]? = some (.cells ((us.flatMap fun u => u.cells.toList) ++ more).toArray ty f) := heap_push_at
  have hsz : ((us.flatMap fun u => u.cells.toList) ++ more).toArray.size = es.length * sz + more.length := by
    simp only [List.size_toArray, List.length_append, hl, hlu]
  refine ⟨?_, hE, ?_⟩
  · refine SR.new h c'.w e1 e2 sz (.arr sz mk es) (.inr ⟨c.w.heap.size, 0, rfl, h0, _, ty, f, hat, ?_, ?_, ?_⟩)
    · cases mk with
      | true => simpa using hf
      | false => simpa using hf' rfl
    · rw [hsz]; omega
    · refine rows_flat hE.im 0 hv hs (fun j hj => ?_)
      show c'.w.cell? ⟨c.w.heap.size, 0 + j, none⟩ = _
      rw [cell?_cells hat]
      simp only [List.getElem?_toArray, Nat.zero_add]
      rw [List.getElem?_append_left hj]
  · simp only [Cx.vr, VR, c', upd_same]
    exact ⟨0, cap, rfl, hle, fun _ => by omega, _, ty, f, hat, Nat.zero_le _, by rw [hsz]; simpa using hcap⟩

/-- The parts of a literal, where all are given in order. -/
def inOrder : Nat → List (Nat × Operand) → Option (List Operand)
  | _, [] => some []
  | n, (i, x) :: r => if i = n then (inOrder (n + 1) r).map (x :: ·) else none

theorem inOrder_zip : ∀ (n : Nat) (ps : List (Nat × Operand)) (xs : List Operand), inOrder n ps = some xs → ps.length = xs.length ∧ ∀ k, k < xs.length → ps[k]? = (xs[k]?).map fun x => (n + k, x)
  | n, [], xs, h => by simp [inOrder] at h; subst h; simp
  | n, (i, x) :: r, xs, h => by
    simp only [inOrder] at h
    split at h
    · rename_i hi
      cases hr : inOrder (n + 1) r with
      | none => rw [hr] at h; cases h
      | some ys =>
        rw [hr] at h; simp at h; subst h; subst hi
        obtain ⟨h1, h2⟩ := inOrder_zip (i + 1) r ys hr
        refine ⟨by simp [h1], fun k hk => ?_⟩
        cases k with
        | zero => simp
        | succ k => simpa [Nat.add_assoc, Nat.add_comm 1 k] using h2 k (by simpa using hk)
    · cases h

/-- Filling a row by parts of one size, in order, leaves just the parts. -/
theorem fill_all {sz : Nat} : ∀ (us : List Value) (n : Nat) (pre : List Value) (post : List Value), (∀ u ∈ us, u.cells.size = sz) → pre.length = n * sz → post.length = us.length * sz →
    Instr.fill (fun i => some (i * sz, sz)) (pre ++ post).toArray ((List.range' n us.length).zip us) = some (pre ++ us.flatMap fun u => u.cells.toList).toArray
  | [], n, pre, post, _, _, hp => by
    have : post = [] := List.eq_nil_of_length_eq_zero (by simpa using hp)
    subst this
    simp [Instr.fill]
  | u :: us, n, pre, post, hs, hpre, hp => by
    have hu : u.cells.size = sz := hs u (by simp)
    have hlen : (u :: us).length * sz = sz + us.length * sz := by simp [Nat.add_mul]; omega
    simp only [List.length_cons, List.range'_succ, List.zip_cons_cons, Instr.fill, hu]
    have hfit : ¬ (n * sz + sz > (pre ++ post).toArray.size) := by
      simp only [List.size_toArray, List.length_append]; omega
    simp only [ne_eq, not_true_eq_false, decide_false, hfit, Bool.or_self, Bool.false_eq_true, if_false]
    have key : ∀ (cs : List Value) (k : Nat) (p q : List Value), p.length = n * sz + k → cs.length ≤ q.length →
        (cs.zipIdx k).foldl (fun (a : Array Value) (x : Value × Nat) => a.setIfInBounds (n * sz + x.2) x.1) (p ++ q).toArray = (p ++ cs ++ q.drop cs.length).toArray := by
      intro cs
      induction cs with
      | nil => intro k p q _ _; simp
      | cons v cs ih =>
        intro k p q h1 h2
        cases q with
        | nil => simp at h2
        | cons y q =>
          simp only [List.zipIdx_cons, List.foldl_cons]
          have : (p ++ y :: q).toArray.setIfInBounds (n * sz + k) v = ((p ++ [v]) ++ q).toArray := by
            apply Array.ext'
            simp only [Array.toList_setIfInBounds]
            rw [List.set_append_right _ _ (by omega)]
            simp [show n * sz + k - p.length = 0 by omega]
          rw [this, ih (k + 1) (p ++ [v]) q (by simp; omega) (by simpa using h2)]
          simp
    have hfold : (u.cells.zipIdx.foldl (fun cs (x : Value × Nat) => cs.setIfInBounds (n * sz + x.2) x.1) (pre ++ post).toArray) = ((pre ++ u.cells.toList) ++ post.drop sz).toArray := by
      have := key u.cells.toList 0 pre post (by omega) (by simp; omega)
      simp only [Array.length_toList, hu] at this
      rw [← this, ← Array.foldl_toList]
      simp
    have := fill_all us (n + 1) (pre ++ u.cells.toList) (post.drop sz) (fun x hx => hs x (by simp [hx])) (by simp [Nat.add_mul, hpre, hu]) (by rw [List.length_drop]; omega)
    rw [List.append_assoc] at this
    simp only [List.flatMap_cons, ← List.append_assoc]
    rw [List.append_assoc] at this
    have e : (List.foldl (fun cs (x : Value × Nat) => match x with | (c, j) => cs.setIfInBounds (n * sz + j) c) (pre ++ post).toArray u.cells.zipIdx.toList) = ((pre ++ u.cells.toList) ++ post.drop sz).toArray := by
      rw [← hfold, ← Array.foldl_toList]
    first
      | (rw [Array.foldl_toList] at e; rw [e]; simpa [List.append_assoc] using this)
      | (rw [hfold]; simpa [List.append_assoc] using this)
end Go.Proofs.YteafabpedfgedaaGreatDoor.Am
end
/- The engine's operations that make or write memory, second part: literals, make, stores. -/
section
set_option linter.unusedSimpArgs false
set_option linter.unusedVariables false
namespace Go.Proofs.YteafabpedfgedaaGreatDoor.Am
open Go

def one1 : D → Bool
  | .any => false
  | .agg _ => false
  | _ => true

/-- A datum of n cells that can lie in memory. -/
def flatOk (d : D) (n : Nat) : Bool := d.csz == some n && d.cells.all one1

theorem DR_one {I : Im} {d : D} {v : Value} (h : one1 d = true) (r : DR I d v) : v.oneCell' = true := by
  cases d with
  | any => simp [one1] at h
  | agg cs => simp [one1] at h
  | lst sz es => simp only [DR] at r; obtain ⟨a, cap, rfl, _⟩ := r; rfl
  | ifc t d => simp only [DR] at r; obtain ⟨a, rfl, _⟩ := r; rfl
  | _ => simp only [DR] at r; subst r; rfl

theorem DRs_one {I : Im} : ∀ {ds : List D} {vs : List Value}, DRs I ds vs → ds.all one1 = true → ∀ u ∈ vs, u.oneCell' = true
  | [], vs, h, _, u, hu => by simp [DRs] at h; subst h; simp at hu
  | d :: ds, vs, h, ha, u, hu => by
    simp only [DRs] at h
    obtain ⟨v, r, rfl, h1, h2⟩ := h
    simp only [List.all_cons, Bool.and_eq_true] at ha
    rcases List.mem_cons.1 hu with rfl | hu
    · exact DR_one ha.1 h1
    · exact DRs_one h2 ha.2 u hu

theorem flatOk_Flat {I : Im} {d : D} {n : Nat} {v : Value} (h : flatOk d n = true) (r : DR I d v) : Flat v n := by
  simp only [flatOk, Bool.and_eq_true, beq_iff_eq] at h
  obtain ⟨h1, h2, h3⟩ := DR_csz r h.1
  exact ⟨h1, DRs_one h3 h.2⟩

/-! ### struct and array literals -/
def setAt {α : Type} (cs : List α) (k : Nat) (xs : List α) : List α := cs.take k ++ xs ++ cs.drop (k + xs.length)

theorem setAt_length {α : Type} (cs : List α) (k : Nat) (xs : List α) (h : k + xs.length ≤ cs.length) : (setAt cs k xs).length = cs.length := by
  simp [setAt]; omega

theorem setAt_get {α : Type} (cs : List α) (k : Nat) (xs : List α) (h : k + xs.length ≤ cs.length) (j : Nat) : (setAt cs k xs)[j]? = if k ≤ j ∧ j < k + xs.length then xs[j - k]? else cs[j]? := by
  unfold setAt
  have hl : (cs.take k).length = k := by rw [List.length_take]; omega
  by_cases h1 : j < k
  · rw [List.append_assoc, List.getElem?_append_left (by omega), List.getElem?_take]
    have : ¬ (k ≤ j ∧ j < k + xs.length) := by omega
    simp [h1, this]
  · by_cases h2 : j < k + xs.length
    · rw [List.getElem?_append_left (by rw [List.length_append]; omega), List.getElem?_append_right (by omega), hl]
      have : k ≤ j ∧ j < k + xs.length := by omega
      simp [this]
    · rw [List.getElem?_append_right (by rw [List.length_append]; omega), List.length_append, hl, List.getElem?_drop]
      have : ¬ (k ≤ j ∧ j < k + xs.length) := by omega
      rw [if_neg this]
      congr 1; omega

theorem fold_set {off : Nat} : ∀ (cs : List Value) (k : Nat) (p q : List Value), p.length = off + k → cs.length ≤ q.length →
    (cs.zipIdx k).foldl (fun (a : Array Value) (x : Value × Nat) => a.setIfInBounds (off + x.2) x.1) (p ++ q).toArray = (p ++ cs ++ q.drop cs.length).toArray := by
  intro cs
  induction cs with
  | nil => intro k p q _ _; simp
  | cons v cs ih =>
    intro k p q h1 h2
    cases q with
    | nil => simp at h2
    | cons y q =>
      simp only [List.zipIdx_cons, List.foldl_cons]
      have : (p ++ y :: q).toArray.setIfInBounds (off + k) v = ((p ++ [v]) ++ q).toArray := by
        apply Array.ext'
        simp only [Array.toList_setIfInBounds]
        rw [List.set_append_right _ _ (by omega)]
        simp [show off + k - p.length = 0 by omega]
      rw [this, ih (k + 1) (p ++ [v]) q (by simp; omega) (by simpa using h2)]
      simp

theorem fill_step {place : Nat → Option (Nat × Nat)} {i off size : Nat} (hp : place i = some (off, size)) {v : Value} (hs : v.cells.size = size) {cells : List Value} (hf : off + size ≤ cells.length) (rest : List (Nat × Value)) :
    Instr.fill place cells.toArray ((i, v) :: rest) = Instr.fill place (setAt cells off v.cells.toList).toArray rest := by
  have h1 : ¬ (off + v.cells.size > cells.toArray.size) := by simp; omega
  have e : (List.foldl (fun (a : Array Value) (x : Value × Nat) => a.setIfInBounds (off + x.2) x.1) cells.toArray (v.cells.toList.zipIdx 0)) = (setAt cells off v.cells.toList).toArray := by
    have := fold_set (off := off) v.cells.toList 0 (cells.take off) (cells.drop off) (by rw [List.length_take]; omega) (by simp [hs]; omega)
    rw [List.take_append_drop] at this
    rw [this]
    simp [setAt]
  rw [Instr.fill, hp]
  simp only [hs, h1, ne_eq, not_true_eq_false, decide_false, Bool.or_self, Bool.false_eq_true, if_false]
  have h2 : ¬ (off + size > cells.toArray.size) := by simp; omega
  simp only [h2, decide_false, Bool.or_self, Bool.false_eq_true, if_false]
  congr 1
  rw [← e, ← Array.foldl_toList]
  simp

/-- The places of a struct's fields: offset, size. -/
def flds (P : Program) (t : TypeId) : Option (List (Nat × Nat)) :=
  match P.underlying t with
  | some (.struct fs) => if fs.toList.all (fun f => decide (0 < szOf P f.type)) then some (fs.toList.map fun f => (f.offset, szOf P f.type)) else none
  | _ => none

def fillV (place : Nat → Option (Nat × Nat)) (σ : List Ob) (s : List V) : List V → List (Nat × Operand) → Option (List V)
  | cs, [] => some cs
  | cs, (i, x) :: r => match place i, cellsV σ (get s x) with
    | some (off, size), some xs => if xs.length = size ∧ off + size ≤ cs.length then fillV place σ s (setAt cs off xs) r else none
    | _, _ => none

theorem vrs_setAt {c : Cx} {cs xs : List V} {vs us : List Value} (h : c.vrs cs vs) (g : c.vrs xs us) (k : Nat) (hk : k + xs.length ≤ cs.length) : c.vrs (setAt cs k xs) (setAt vs k us) := by
  have l1 := VRs_length h
  have l2 := VRs_length g
  refine VRs_of_get (by rw [setAt_length _ _ _ hk, setAt_length _ _ _ (by omega), l1]) fun i x v e f => ?_
  rw [setAt_get _ _ _ hk] at e
  rw [setAt_get _ _ _ (by omega), l2] at f
  split at e
  · rename_i hi
    rw [if_pos hi] at f
    obtain ⟨u, q1, q2⟩ := VRs_get g _ e
    rw [q1] at f; simp at f; subst f; exact q2
  · rename_i hi
    rw [if_neg hi] at f
    obtain ⟨u, q1, q2⟩ := VRs_get h _ e
    rw [q1] at f; simp at f; subst f; exact q2

theorem fillV_sound {place : Nat → Option (Nat × Nat)} {c : Cx} {σ : List Ob} (h : SR c σ) {s : List V} {a : Act} (hs : c.vrs s a.tmps.toList) : ∀ (ps : List (Nat × Operand)) {cs r : List V} {vs : List Value}, fillV place σ s cs ps = some r → c.vrs cs vs →
    ∃ us, Instr.fill place vs.toArray (ps.map fun p => (p.1, a.eval p.2)) = some us.toArray ∧ c.vrs r us
  | [], cs, r, vs, e, hv => by simp [fillV] at e; subst e; exact ⟨vs, by simp [Instr.fill], hv⟩
  | (i, x) :: ps, cs, r, vs, e, hv => by
    simp only [fillV] at e
    split at e
    · rename_i off size xs hp hx
      split at e
      · rename_i hq
        have hc := cellsV_sound h hx (vr_get h.gl hs x)
        have l1 := VRs_length hc
        have l2 := VRs_length hv
        obtain ⟨us, g1, g2⟩ := fillV_sound h hs ps e (vrs_setAt hv hc off (by omega))
        refine ⟨us, ?_, g2⟩
        simp only [List.map_cons]
        rw [fill_step hp (by simp at l1; omega) (by simp at l1; omega)]
        exact g1
      · cases e
    · cases e

def buildF (P : Program) (t : TypeId) (σ : List Ob) (s : List V) (parts : List (Nat × Operand)) : Option V :=
  match zeroCs P t with
  | some z => match flds P t with
    | some l => (fillV (l[·]?) σ s z parts).map .agg
    | none => match arrT P t with
      | some (_, e) => if 0 < szOf P e then (fillV (fun i => some (i * szOf P e, szOf P e)) σ s z parts).map .agg else none
      | none => none
  | none => none

theorem flds_some {P : Program} {t : TypeId} {l : List (Nat × Nat)} (h : flds P t = some l) : ∃ fs, P.underlying t = some (.struct fs) ∧ (∀ f ∈ fs.toList, 0 < szOf P f.type) ∧ l = fs.toList.map fun f => (f.offset, szOf P f.type) := by
  unfold flds at h
  split at h
  · rename_i fs hu
    split at h
    · rename_i hall
      simp at h; subst h
      exact ⟨fs, hu, fun f hf => of_decide_eq_true (List.all_eq_true.1 hall f hf), by simp⟩
    · cases h
  · cases h

theorem zeroCs_some {P : Program} {t : TypeId} {cs : List V} (h : zeroCs P t = some cs) : ∃ i z, P.info? t = some i ∧ i.zero = some z ∧ cs = z.cells.toList.map fun v => .d (sc v) := by
  unfold zeroCs at h
  split at h
  · rename_i i hi
    cases hz : i.zero with
    | none => rw [hz] at h; cases h
    | some z => rw [hz] at h; simp only [Option.map_some, Option.some.injEq] at h; exact ⟨i, z, hi, hz, h.symm⟩
  · cases h

theorem run_places {P : Program} (w : World) : ∀ (l : List Field), (∀ f ∈ l, 0 < szOf P f.type) → ∀ acc : List (Nat × Nat),
    (l.foldlM (fun (bs : Array (Nat × Nat)) (f : Field) => do let b ← (do pure (f.offset, ← sizeOf f.type) : Sem (Nat × Nat)); pure (bs.push b)) acc.toArray).run P w = .ok (acc ++ l.map fun f => (f.offset, szOf P f.type)).toArray w
  | [], _, acc => by simp
  | f :: l, h, acc => by
    simp only [List.foldlM_cons, Sem.run_bind, run_sizeOf' (h f (by simp)), Result.andThen_ok, Sem.run_pure]
    have := run_places w l (fun g hg => h g (by simp [hg])) (acc ++ [(f.offset, szOf P f.type)])
    simp only [List.append_assoc, List.singleton_append] at this
    simpa using this

theorem buildF_sound {P : Program} {t : TypeId} {c : Cx} {σ : List Ob} (h : SR c σ) {s : List V} {a : Act} (hs : c.vrs s a.tmps.toList) {parts : Array (Nat × Operand)} {r : V} (e : buildF P t σ s parts.toList = some r) :
    ∃ v, (Instr.build t (parts.map fun (i, x) => (i, a.eval x))).run P c.w = .ok v c.w ∧ c.vr r v := by
  unfold buildF at e
  split at e
  · rename_i z hz
    obtain ⟨i, zv, hi, hzz, rfl⟩ := zeroCs_some hz
    have hparts : (parts.map fun (i, x) => (i, a.eval x)).toList = parts.toList.map fun p => (p.1, a.eval p.2) := by simp
    have hz0 : (zeroValue t).run P c.w = .ok zv c.w := by simp [zeroValue, typeInfo, hi, hzz]
    have zr := VRs_map_sc c.im c.w c.loc zv.cells.toList
    split at e
    · rename_i l hl
      obtain ⟨fs, hu, hall, rfl⟩ := flds_some hl
      cases hf : fillV ((fs.toList.map fun f => (f.offset, szOf P f.type))[·]?) σ s (zv.cells.toList.map fun v => .d (sc v)) parts.toList with
      | none => rw [hf] at e; cases e
      | some cs =>
        rw [hf] at e; simp at e; subst e
        obtain ⟨us, g1, g2⟩ := fillV_sound h hs parts.toList hf zr
        refine ⟨.agg us.toArray, ?_, by simp only [Cx.vr, VR]; exact ⟨us, rfl, g2⟩⟩
        have hpl : (fs.mapM fun f => do pure (f.offset, ← sizeOf f.type) : Sem (Array (Nat × Nat))).run P c.w = .ok (fs.toList.map fun f => (f.offset, szOf P f.type)).toArray c.w := by
          rw [Array.mapM_eq_foldlM, ← Array.foldlM_toList]
          have := run_places (P := P) c.w fs.toList hall []
          simpa using this
        simp only [Instr.build, Sem.run_bind, hz0, Result.andThen_ok, run_underlying hu, hpl, hparts]
        have : (fun (x : Nat) => (fs.toList.map fun f => (f.offset, szOf P f.type)).toArray[x]?) = fun (x : Nat) => (fs.toList.map fun f => (f.offset, szOf P f.type))[x]? := by funext x; simp
        rw [this]
        have g1' : Instr.fill (fun (x : Nat) => (fs.toList.map fun f => (f.offset, szOf P f.type))[x]?) zv.cells (parts.toList.map fun p => (p.1, a.eval p.2)) = some us.toArray := by simpa using g1
        simp only [g1', Sem.run_pure]
    · split at e
      · rename_i n el hel
        have hu := arrT_some hel
        split at e
        · rename_i h0
          cases hf : fillV (fun i => some (i * szOf P el, szOf P el)) σ s (zv.cells.toList.map fun v => .d (sc v)) parts.toList with
          | none => rw [hf] at e; cases e
          | some cs =>
            rw [hf] at e; simp at e; subst e
            obtain ⟨us, g1, g2⟩ := fillV_sound h hs parts.toList hf zr
            refine ⟨.agg us.toArray, ?_, by simp only [Cx.vr, VR]; exact ⟨us, rfl, g2⟩⟩
            have g1' : Instr.fill (fun i => some (i * szOf P el, szOf P el)) zv.cells (parts.toList.map fun p => (p.1, a.eval p.2)) = some us.toArray := by simpa using g1
            simp only [Instr.build, Sem.run_bind, hz0, Result.andThen_ok, run_underlying hu, run_sizeOf' h0, hparts, g1', Sem.run_pure]
        · cases e
      · cases e
  · cases e

/-! ### slice literals, make -/
def toDs (σ : List Ob) (s : List V) (sz : Nat) : List Operand → Option (List D)
  | [] => some []
  | x :: r => match toD σ (get s x), toDs σ s sz r with
    | some d, some ds => if flatOk d sz then some (d :: ds) else none
    | _, _ => none

theorem toDs_sound {c : Cx} {σ : List Ob} {s : List V} {a : Act} (hG : Glob c) (hs : c.vrs s a.tmps.toList) {sz : Nat} : ∀ {xs : List Operand} {ds : List D}, toDs σ s sz xs = some ds → DRs c.im ds (xs.map a.eval) ∧ (∀ u ∈ xs.map a.eval, Flat u sz) ∧ ds.length = xs.length
  | [], ds, e => by simp [toDs] at e; subst e; simp [DRs]
  | x :: xs, ds, e => by
    simp only [toDs] at e
    split at e
    · rename_i d ds' h1 h2
      split at e
      · rename_i hf
        simp only [Option.some.injEq] at e; subst e
        obtain ⟨g1, g2, g3⟩ := toDs_sound hG hs h2
        have r := toD_sound h1 (vr_get hG hs x)
        refine ⟨by simp only [List.map_cons, DRs]; exact ⟨_, _, rfl, r, g1⟩, ?_, by simp [g3]⟩
        intro u hu
        rcases List.mem_cons.1 hu with rfl | hu
        · exact flatOk_Flat hf r
        · exact g2 u hu
      · cases e
    · cases e

def elemOk (P : Program) (e : TypeId) : Bool := match P.info? e with
  | some i => (match i.zero with | some z => z.cells.size == i.size | none => false) && decide (0 < i.size) && decide (0 < i.bytes)
  | none => false

theorem elemOk_some {P : Program} {e : TypeId} (h : elemOk P e = true) : ∃ i z, P.info? e = some i ∧ i.zero = some z ∧ z.cells.size = i.size ∧ 0 < i.size ∧ 0 < i.bytes ∧ szOf P e = i.size := by
  unfold elemOk at h
  split at h
  · rename_i i hi
    simp only [Bool.and_eq_true, decide_eq_true_eq] at h
    obtain ⟨⟨h1, h2⟩, h3⟩ := h
    split at h1
    · rename_i z hz
      exact ⟨i, z, hi, hz, by simpa using h1, h2, h3, by simp [szOf, hi]⟩
    · cases h1
  · cases h

def buildSliceF (P : Program) (t : TypeId) (len : Nat) (σ : List Ob) (s : List V) (parts : List (Nat × Operand)) : Option (V × List Ob) :=
  match elemOfSlice P t with
  | some e => if elemOk P e = true ∧ len * szOf P e ≤ 16777216 then
      match inOrder 0 parts with
      | some xs => if xs.length = len then match toDs σ s (szOf P e) xs with
          | some ds => some (.sl σ.length 0 len, σ ++ [.arr (szOf P e) false ds])
          | none => none
        else none
      | none => none
    else none
  | none => none

/-- How a literal slice is made, whatever its elements are. -/
theorem buildSlice_exec {P : Program} {t el : TypeId} {len : Nat} {c : Cx} {a : Act} {parts : Array (Nat × Operand)} {xs : List Operand} (hu : P.underlying t = some (.slice el)) (hk : elemOk P el = true) (hle : len * szOf P el ≤ 16777216) (hxs : inOrder 0 parts.toList = some xs) (hlen : xs.length = len) (g2 : ∀ u ∈ xs.map a.eval, u.cells.size = szOf P el) :
    (Instr.buildSlice t len (parts.map fun (i, x) => (i, a.eval x))).run P c.w = .ok (.slice (some ⟨c.w.heap.size, 0, none⟩) len len) { c.w with heap := c.w.heap.push (.cells ((xs.map a.eval).flatMap fun (u : Value) => u.cells.toList).toArray el (0, 0)), drawn := c.w.drawn } := by
  obtain ⟨i, z, hi, hz, hzs, h0, hb, hsz⟩ := elemOk_some hk
  have h0' : 0 < szOf P el := by omega
  obtain ⟨z1, z2⟩ := inOrder_zip 0 _ _ hxs
  have hparts : (parts.map fun (i, x) => (i, a.eval x)).toList = (List.range' 0 (xs.map a.eval).length).zip (xs.map a.eval) := by
    apply List.ext_getElem?
    intro k
    simp only [Array.toList_map, List.getElem?_map]
    by_cases hk' : k < xs.length
    · have hr : (List.range' 0 xs.length)[k]? = some k := by simp [List.getElem?_range', hk']
      have hzip : ((List.range' 0 xs.length).zip (xs.map a.eval))[k]? = some (k, a.eval xs[k]) := List.getElem?_zip_eq_some.2 ⟨hr, by rw [List.getElem?_map, List.getElem?_eq_getElem hk']; rfl⟩
      rw [z2 k hk']
      simp only [List.length_map]
      rw [hzip]
      simp [List.getElem?_eq_getElem hk']
    · rw [List.getElem?_eq_none (by omega), List.getElem?_eq_none (by simp; omega)]
      rfl
  have hfill := fill_all (sz := szOf P el) (xs.map a.eval) 0 [] ((Array.range (len * szOf P el)).map (z.cells[· % z.cells.size]!)).toList g2 (by simp) (by simp [hlen])
  have hnot : ¬ (len * szOf P el > 16777216) := by omega
  simp only [Instr.buildSlice, Sem.run_bind, run_underlying hu, Result.andThen_ok, run_sizeOf' h0', Sem.run_ite]
  have e24 : (2 : Nat) ^ 24 = 16777216 := rfl
  simp only [e24, hnot, if_false, Sem.run_pure, Result.andThen_ok]
  simp only [List.nil_append, Array.toArray_toList] at hfill
  by_cases hz0 : len * szOf P el = 0
  · have hl0 : len = 0 := by rcases Nat.mul_eq_zero.1 hz0 with q | q <;> omega
    subst hl0
    have : xs = [] := List.eq_nil_of_length_eq_zero hlen
    subst this
    have hp0 : parts = #[] := by apply Array.ext'; exact List.eq_nil_of_length_eq_zero z1
    subst hp0
    simp [Instr.fill, newRow, Array.range_zero']
  · simp only [hz0, if_false, Sem.run_bind, zeroValue, typeInfo, run_program, hi, Result.andThen_ok, Sem.run_pure, hz, hparts, hfill, newRow, run_newObj]

def toCs (σ : List Ob) (s : List V) (sz : Nat) : List Operand → Option (List V)
  | [] => some []
  | x :: r => match cellsV σ (get s x), toCs σ s sz r with
    | some cs, some ds => if cs.length = sz then some (cs ++ ds) else none
    | _, _ => none

theorem vrs_append {c : Cx} {xs ys : List V} {vs us : List Value} (h : c.vrs xs vs) (g : c.vrs ys us) : c.vrs (xs ++ ys) (vs ++ us) := by
  have e1 := VRs_length h
  have e2 := VRs_length g
  refine VRs_of_get (by simp only [List.length_append]; omega) fun i x v e f => ?_
  rw [List.getElem?_append] at e f
  split at e
  · rename_i hi
    rw [if_pos (by rw [e1]; exact hi)] at f
    obtain ⟨u, q1, q2⟩ := VRs_get h i e
    rw [q1] at f; simp at f; subst f; exact q2
  · rename_i hi
    rw [if_neg (by rw [e1]; exact hi)] at f
    rw [e1] at f
    obtain ⟨u, q1, q2⟩ := VRs_get g _ e
    rw [q1] at f; simp at f; subst f; exact q2

theorem toCs_sound {c : Cx} {σ : List Ob} (h : SR c σ) {s : List V} {a : Act} (hs : c.vrs s a.tmps.toList) {sz : Nat} : ∀ {xs : List Operand} {cs : List V}, toCs σ s sz xs = some cs → c.vrs cs ((xs.map a.eval).flatMap fun u => u.cells.toList) ∧ (∀ u ∈ xs.map a.eval, u.cells.size = sz) ∧ cs.length = xs.length * sz
  | [], cs, e => by simp [toCs] at e; subst e; simp [Cx.vrs, VRs]
  | x :: xs, cs, e => by
    simp only [toCs] at e
    cases h1 : cellsV σ (get s x) with
    | none => rw [h1] at e; cases e
    | some c1 =>
      cases h2 : toCs σ s sz xs with
      | none => rw [h1, h2] at e; cases e
      | some c2 =>
        rw [h1, h2] at e
        simp only at e
        split at e
        · rename_i hl
          simp only [Option.some.injEq] at e; subst e
          have k1 := cellsV_sound h h1 (vr_get h.gl hs x)
          obtain ⟨k2, k3, k4⟩ := toCs_sound h hs h2
          have kl := VRs_length k1
          refine ⟨by simpa using vrs_append k1 k2, ?_, by simp only [List.length_append, List.length_cons, k4, hl, Nat.add_mul]; omega⟩
          intro u hu
          rcases List.mem_cons.1 hu with rfl | hu
          · have : (a.eval x).cells.toList.length = (a.eval x).cells.size := by simp
            omega
          · exact k3 u hu
        · cases e

/-- A literal slice of elements that hold references: an object of cells. -/
def buildVecF (P : Program) (t : TypeId) (len : Nat) (σ : List Ob) (s : List V) (parts : List (Nat × Operand)) : Option (V × List Ob) :=
  match elemOfSlice P t with
  | some e => if elemOk P e = true ∧ len * szOf P e ≤ 16777216 then
      match inOrder 0 parts with
      | some xs => if xs.length = len then match toCs σ s (szOf P e) xs with
          | some cs => some (.sl σ.length 0 len, σ ++ [.vec (szOf P e) cs])
          | none => none
        else none
      | none => none
    else none
  | none => none

theorem buildVecF_sound {P : Program} {t : TypeId} {len : Nat} {c : Cx} {σ σ' : List Ob} (h : SR c σ) {s : List V} {a : Act} (hs : c.vrs s a.tmps.toList) {parts : Array (Nat × Operand)} {r : V} (e : buildVecF P t len σ s parts.toList = some (r, σ')) :
    SemOk P (Instr.buildSlice t len (parts.map fun (i, x) => (i, a.eval x))) c r σ' := by
  unfold buildVecF at e
  split at e
  · rename_i el hel
    have hu := elemOfSlice_some hel
    split at e
    · rename_i hk
      split at e
      · rename_i xs hxs
        split at e
        · rename_i hlen
          split at e
          · rename_i cs hcs
            simp only [Option.some.injEq, Prod.mk.injEq] at e
            obtain ⟨rfl, rfl⟩ := e
            obtain ⟨g1, g2, g3⟩ := toCs_sound h hs hcs
            have hrun := buildSlice_exec (c := c) (a := a) hu hk.1 hk.2 hxs hlen g2
            obtain ⟨k1, k2, k3⟩ := new_vec h g1 el c.w.drawn (szOf P el) (by obtain ⟨i, z, hi, hz, hzs, h0, hb, hsz⟩ := elemOk_some hk.1; omega) [] len len (by rw [g3, hlen]) (by have := VRs_length g1; simp only [List.length_nil, Nat.add_zero]; rw [this, g3, hlen]) (Nat.le_refl _)
            rw [List.append_nil] at k1 k2 k3
            exact ⟨_, _, _, hrun, k1, k2, k3⟩
          · cases e
        · cases e
      · cases e
    · cases e
  · cases e

def buildE (P : Program) (t : TypeId) (len : Nat) (σ : List Ob) (s : List V) (parts : List (Nat × Operand)) : Option (V × List Ob) :=
  match buildSliceF P t len σ s parts with
  | some r => some r
  | none => buildVecF P t len σ s parts
theorem buildE_def (P : Program) (t : TypeId) (len : Nat) (σ : List Ob) (s : List V) (parts : List (Nat × Operand)) : buildE P t len σ s parts = match buildSliceF P t len σ s parts with | some r => some r | none => buildVecF P t len σ s parts := rfl

theorem buildSlice_run {P : Program} {t : TypeId} {len : Nat} {c : Cx} {σ σ' : List Ob} {s : List V} {a : Act} (hG : Glob c) (hs : c.vrs s a.tmps.toList) {parts : Array (Nat × Operand)} {r : V} (e : buildSliceF P t len σ s parts.toList = some (r, σ')) :
    ∃ (el : TypeId) (ds : List D) (us : List Value), r = .sl σ.length 0 len ∧ σ' = σ ++ [.arr (szOf P el) false ds] ∧ 0 < szOf P el ∧ ds.length = len ∧ DRs c.im ds us ∧ (∀ u ∈ us, Flat u (szOf P el)) ∧
      (Instr.buildSlice t len (parts.map fun (i, x) => (i, a.eval x))).run P c.w = .ok (.slice (some ⟨c.w.heap.size, 0, none⟩) len len) { c.w with heap := c.w.heap.push (.cells ((us.flatMap fun (u : Value) => u.cells.toList) ++ []).toArray el (0, 0)), drawn := c.w.drawn } := by
  unfold buildSliceF at e
  split at e
  · rename_i el hel
    have hu := elemOfSlice_some hel
    split at e
    · rename_i hk
      obtain ⟨i, z, hi, hz, hzs, h0, hb, hsz⟩ := elemOk_some hk.1
      split at e
      · rename_i xs hxs
        split at e
        · rename_i hlen
          split at e
          · rename_i ds hds
            simp only [Option.some.injEq, Prod.mk.injEq] at e
            obtain ⟨rfl, rfl⟩ := e
            obtain ⟨g1, g2, g3⟩ := toDs_sound hG hs hds
            have h0' : 0 < szOf P el := by omega
            obtain ⟨z1, z2⟩ := inOrder_zip 0 _ _ hxs
            have hparts : (parts.map fun (i, x) => (i, a.eval x)).toList = (List.range' 0 (xs.map a.eval).length).zip (xs.map a.eval) := by
              apply List.ext_getElem?
              intro k
              simp only [Array.toList_map, List.getElem?_map]
              by_cases hk' : k < xs.length
              · have hr : (List.range' 0 xs.length)[k]? = some k := by simp [List.getElem?_range', hk']
                have hzip : ((List.range' 0 xs.length).zip (xs.map a.eval))[k]? = some (k, a.eval xs[k]) := List.getElem?_zip_eq_some.2 ⟨hr, by rw [List.getElem?_map, List.getElem?_eq_getElem hk']; rfl⟩
                rw [z2 k hk']
                simp only [List.length_map]
                rw [hzip]
                simp [List.getElem?_eq_getElem hk']
              · rw [List.getElem?_eq_none (by omega), List.getElem?_eq_none (by simp; omega)]
                rfl
            have hfill := fill_all (sz := szOf P el) (xs.map a.eval) 0 [] ((Array.range (len * szOf P el)).map (z.cells[· % z.cells.size]!)).toList (fun u hu => (g2 u hu).1) (by simp) (by simp [hlen])
            have k4 : ds.length = len := by rw [g3, hlen]
            refine ⟨el, ds, _, rfl, rfl, h0', k4, g1, g2, ?_⟩
            · have hnot : ¬ (len * szOf P el > 16777216) := by omega
              simp only [Instr.buildSlice, Sem.run_bind, run_underlying hu, Result.andThen_ok, run_sizeOf' h0', Sem.run_ite]
              have e24 : (2 : Nat) ^ 24 = 16777216 := rfl
              simp only [e24, hnot, if_false, Sem.run_pure, Result.andThen_ok]
              simp only [List.nil_append, List.append_nil, Array.toArray_toList] at hfill
              by_cases hz0 : len * szOf P el = 0
              · have hl0 : len = 0 := by rcases Nat.mul_eq_zero.1 hz0 with q | q <;> omega
                subst hl0
                have : xs = [] := List.eq_nil_of_length_eq_zero hlen
                subst this
                have hp0 : parts = #[] := by apply Array.ext'; exact List.eq_nil_of_length_eq_zero z1
                subst hp0
                simp [Instr.fill, newRow, Array.range_zero']
              · simp only [hz0, if_false, Sem.run_bind, zeroValue, typeInfo, run_program, hi, Result.andThen_ok, Sem.run_pure, hz, hparts, hfill, newRow, run_newObj]
                simp
          · cases e
        · cases e
      · cases e
    · cases e
  · cases e

theorem buildSliceF_sound {P : Program} {t : TypeId} {len : Nat} {c : Cx} {σ σ' : List Ob} (h : SR c σ) {s : List V} {a : Act} (hs : c.vrs s a.tmps.toList) {parts : Array (Nat × Operand)} {r : V} (e : buildSliceF P t len σ s parts.toList = some (r, σ')) :
    SemOk P (Instr.buildSlice t len (parts.map fun (i, x) => (i, a.eval x))) c r σ' := by
  obtain ⟨el, ds, us, rfl, rfl, h0, hl, g1, g2, hrun⟩ := buildSlice_run h.gl hs e
  obtain ⟨k1, k2, k3⟩ := new_arr h h0 g1 g2 [] el len c.w.drawn false (by rw [hl]; simp) (by omega) (0, 0) (unfrozen0 _) (fun _ => unfrozen0 _)
  rw [hl] at k3
  exact ⟨_, _, _, hrun, k1, k2, k3⟩

/-- A literal slice that is data from the start. -/
theorem buildSlice_data {P : Program} {t : TypeId} {len : Nat} {c : Cx} {σ σ' : List Ob} (h : SR c σ) {s : List V} {a : Act} (hs : c.vrs s a.tmps.toList) {parts : Array (Nat × Operand)} {r : V} {sz : Nat} {ds : List D} {mk : Bool}
    (e : buildSliceF P t len σ s parts.toList = some (r, σ ++ [.arr sz mk ds])) :
    ∃ v w', (Instr.buildSlice t len (parts.map fun (i, x) => (i, a.eval x))).run P c.w = .ok v w' ∧ SR ⟨w', c.loc, c.hid⟩ σ ∧ Ext c ⟨w', c.loc, c.hid⟩ ∧ Cx.vr ⟨w', c.loc, c.hid⟩ (.d (.lst sz ds)) v := by
  obtain ⟨el, ds', us, rfl, hσ, h0, hl, g1, g2, hrun⟩ := buildSlice_run h.gl hs e
  have hσ' := List.append_cancel_left hσ
  simp only [List.cons.injEq, Ob.arr.injEq, and_true] at hσ'
  obtain ⟨rfl, rfl, rfl⟩ := hσ'
  refine ⟨_, _, hrun, ?_⟩
  generalize hw : ({ c.w with heap := c.w.heap.push (.cells ((us.flatMap fun (u : Value) => u.cells.toList) ++ []).toArray el (0, 0)), drawn := c.w.drawn } : World) = w'
  have hh : w'.heap = c.w.heap.push (.cells ((us.flatMap fun (u : Value) => u.cells.toList) ++ []).toArray el (0, 0)) := by rw [← hw]
  have e1 : w'.heap.size = c.w.heap.size + 1 := by rw [hh]; simp
  have e2 : ∀ b, b < c.w.heap.size → w'.heap[b]? = c.w.heap[b]? := fun b hb => by rw [hh]; exact heap_push_lt hb
  have hE : Ext c ⟨w', c.loc, c.hid⟩ := by
    refine ⟨rfl, by simp only [e1]; omega, fun b cs e f q => ⟨cs, f, ?_, rfl⟩, fun b hb ho => ⟨e2 b hb, ho⟩, fun _ => .inl rfl, by subst hw; exact ⟨rfl, rfl, rfl⟩⟩
    have : b < c.w.heap.size := (Array.getElem?_eq_some_iff.1 q).1
    show w'.heap[b]? = _
    rw [e2 b this, q]
  have hS : SR ⟨w', c.loc, c.hid⟩ σ := by
    refine ⟨fun o => ?_, h.inj, fun b hb => ⟨by have := (h.hid b hb).1; simp only [e1]; omega, (h.hid b hb).2⟩, hE.glob h.gl⟩
    have r := h.obj o
    cases hx : σ[o]? with
    | none => rw [hx] at r; exact r
    | some x =>
      rw [hx] at r
      exact OR.keep hE r fun b base sz hl => e2 b (h.lt hl)
  refine ⟨hS, hE, ?_⟩
  simp only [Cx.vr, VR, DR]
  refine ⟨some ⟨c.w.heap.size, 0, none⟩, len, by rw [hl], by omega, ?_⟩
  have hat : w'.heap[c.w.heap.size]? = some (.cells ((us.flatMap fun (u : Value) => u.cells.toList) ++ []).toArray el (0, 0)) := by rw [hh]; exact heap_push_at
  refine .inr ⟨c.w.heap.size, 0, rfl, h0, ⟨by show _ < w'.heap.size; omega, ?_, fun q => absurd (h.hid _ q).1 (by omega)⟩, ?_⟩
  · rintro ⟨o, base, sz, q⟩
    exact absurd (h.lt q) (by omega)
  · refine rows_flat hE.im 0 g1 g2 (fun j hj => ?_)
    show w'.cell? ⟨c.w.heap.size, 0 + j, none⟩ = _
    rw [cell?_cells hat]
    simp only [List.getElem?_toArray, Nat.zero_add]
    rw [List.getElem?_append_left hj]
end Go.Proofs.YteafabpedfgedaaGreatDoor.Am
end
/- The engine's operations that make or write memory, third part: stores, make. -/
section
set_option linter.unusedSimpArgs false
set_option linter.unusedVariables false
namespace Go.Proofs.YteafabpedfgedaaGreatDoor.Am
open Go

def putL (arr : Array Value) : Nat → List Value → Array Value
  | _, [] => arr
  | o, v :: r => putL (arr.setIfInBounds o v) (o + 1) r

theorem putL_size : ∀ (vs : List Value) (arr : Array Value) (o : Nat), (putL arr o vs).size = arr.size
  | [], _, _ => rfl
  | v :: r, arr, o => by simp only [putL]; rw [putL_size r]; simp

theorem putL_get : ∀ (vs : List Value) (arr : Array Value) (o j : Nat), (putL arr o vs)[j]? = if o ≤ j ∧ j < o + vs.length ∧ j < arr.size then vs[j - o]? else arr[j]?
  | [], arr, o, j => by
    have : ¬ (o ≤ j ∧ j < o + ([] : List Value).length ∧ j < arr.size) := by simp; omega
    rw [if_neg this]; rfl
  | v :: r, arr, o, j => by
    simp only [putL]
    rw [putL_get r]
    simp only [Array.size_setIfInBounds, List.length_cons]
    by_cases h1 : o + 1 ≤ j ∧ j < o + 1 + r.length ∧ j < arr.size
    · have h2 : o ≤ j ∧ j < o + (r.length + 1) ∧ j < arr.size := by omega
      rw [if_pos h1, if_pos h2]
      obtain ⟨k, hk⟩ : ∃ k, j - o = k + 1 := ⟨j - o - 1, by omega⟩
      rw [hk, List.getElem?_cons_succ]
      congr 1; omega
    · rw [if_neg h1]
      by_cases h2 : o ≤ j ∧ j < o + (r.length + 1) ∧ j < arr.size
      · have : j = o := by omega
        subst this
        rw [if_pos h2]
        simp [h2.2.2]
      · rw [if_neg h2]
        rw [Array.getElem?_setIfInBounds]
        split
        · rename_i e
          subst e
          split
          · omega
          · rw [Array.getElem?_eq_none (by omega)]
        · rfl

theorem heap_setCells {b : Nat} {e : TypeId} {f : Nat × Nat} : ∀ (vs : List Value) (o : Nat) (w : World) (arr : Array Value), w.heap[b]? = some (.cells arr e f) →
    (w.setCells b o vs).heap.size = w.heap.size ∧ (∀ b', b' ≠ b → (w.setCells b o vs).heap[b']? = w.heap[b']?) ∧ (w.setCells b o vs).heap[b]? = some (.cells (putL arr o vs) e f)
  | [], o, w, arr, h => ⟨rfl, fun _ _ => rfl, h⟩
  | v :: r, o, w, arr, h => by
    have hlt := (Array.getElem?_eq_some_iff.1 h).1
    have h1 : (w.setCell ⟨b, o, none⟩ v).heap[b]? = some (.cells (arr.setIfInBounds o v) e f) := by
      show (w.heap.modify b _)[b]? = _
      rw [Array.getElem?_modify]
      simp [h]
    have h2 : ∀ b', b' ≠ b → (w.setCell ⟨b, o, none⟩ v).heap[b']? = w.heap[b']? := by
      intro b' hb
      show (w.heap.modify b _)[b']? = _
      rw [Array.getElem?_modify]
      simp [Ne.symm hb]
    have h3 : (w.setCell ⟨b, o, none⟩ v).heap.size = w.heap.size := by show (w.heap.modify b _).size = _; simp
    obtain ⟨g1, g2, g3⟩ := heap_setCells r (o + 1) (w.setCell ⟨b, o, none⟩ v) _ h1
    refine ⟨by simp only [World.setCells]; rw [g1, h3], fun b' hb => by simp only [World.setCells]; rw [g2 b' hb, h2 b' hb], by simp only [World.setCells, putL]; exact g3⟩

theorem frozen_no {w : World} {b : Nat} {arr : Array Value} {e : TypeId} {f : Nat × Nat} {n : Nat} (h : w.heap[b]? = some (.cells arr e f)) (hf : Unfrozen f n) {j : Nat} (hj : j < n) : w.frozen? ⟨b, j, none⟩ = false := by
  simp only [World.frozen?, h]
  have := hf.2 j hj
  simp only [Bool.and_eq_false_iff, decide_eq_false_iff_not]
  by_cases q : f.1 ≤ j
  · exact .inr fun z => this ⟨q, z⟩
  · exact .inl q

/-- A run of stores into a row that is there. -/
theorem run_stores {P : Program} {w : World} {b o : Nat} {arr : Array Value} {e : TypeId} {f : Nat × Nat} (h : w.heap[b]? = some (.cells arr e f)) (hf : Unfrozen f arr.size) {vs : List Value} (hl : o + vs.length ≤ arr.size) (h1 : ∀ v ∈ vs, v.oneCell' = true) :
    (storeCells ⟨b, o, none⟩ vs).run P w = .ok () (w.setCells b o vs) := by
  have := run_storeCells_cells (P := P) b o vs 0 w (fun j hj => by rw [cell?_cells h, Array.getElem?_eq_getElem (by omega)]; rfl) (fun j hj => frozen_no h hf (by omega)) h1
  simpa using this

theorem run_storeVar {P : Program} {w : World} {t : TypeId} {b o : Nat} {arr : Array Value} {e : TypeId} {f : Nat × Nat} (h : w.heap[b]? = some (.cells arr e f)) (hf : Unfrozen f arr.size) {v : Value} (h0 : 0 < szOf P t) (hs : v.cells.size = szOf P t)
    (hl : o + v.cells.size ≤ arr.size) (h1 : ∀ u ∈ v.cells.toList, u.oneCell' = true) : (Instr.storeAt t (.pointer (some ⟨b, o, none⟩)) v).run P w = .ok () (w.setCells b o v.cells.toList) := by
  simp only [Instr.storeAt, Instr.sureAddr, Sem.run_bind, Sem.run_pure, Result.andThen_ok, storeVar, run_sizeOf' h0, hs, ne_eq, not_true_eq_false, if_false]
  exact run_stores h hf (by simpa using hl) h1

/-- The store behind a store. -/
def storeF (P : Program) (t : TypeId) (σ : List Ob) (a x : V) : Option (List Ob) :=
  match a with
  | .ptr o i k => match σ[o]? with
    | some (.box cs) => match cellsV σ x with
      | some xs => if i = 0 ∧ xs.length = szOf P t ∧ 0 < szOf P t ∧ k + xs.length ≤ cs.length ∧ xs.all (one σ) = true then some (σ.set o (.box (setAt cs k xs))) else none
      | none => none
    | some (.vec sz cs) => match cellsV σ x with
      | some xs => if xs.length = szOf P t ∧ 0 < szOf P t ∧ i * sz + k + xs.length ≤ cs.length ∧ xs.all (one σ) = true then some (σ.set o (.vec sz (setAt cs (i * sz + k) xs))) else none
      | none => none
    | some (.arr sz mk es) => match es[i]?, toD σ x with
      | some e, some d => if flatOk d (szOf P t) = true ∧ 0 < szOf P t then
          (if szOf P t = sz ∧ k = 0 then some (σ.set o (.arr sz mk (es.set i d)))
          else if e.csz = some sz ∧ k + szOf P t ≤ sz then some (σ.set o (.arr sz mk (es.set i (.agg (setAt e.cells k d.cells))))) else none)
        else none
      | _, _ => none
    | _ => none
  | _ => none

theorem vrs_one {c : Cx} {σ : List Ob} (h : SR c σ) : ∀ {xs : List V} {vs : List Value}, c.vrs xs vs → xs.all (one σ) = true → ∀ u ∈ vs, u.oneCell' = true
  | [], vs, r, _, u, hu => by simp [Cx.vrs, VRs] at r; subst r; simp at hu
  | x :: xs, vs, r, ha, u, hu => by
    simp only [Cx.vrs, VRs] at r
    obtain ⟨v, r', rfl, h1, h2⟩ := r
    simp only [List.all_cons, Bool.and_eq_true] at ha
    rcases List.mem_cons.1 hu with rfl | hu
    · exact vr_one h ha.1 h1
    · exact vrs_one h h2 ha.2 u hu

/-- Rows where one element is written anew. -/
theorem rows_set {c c' : Cx} (hE : Ext c c') {b base sz : Nat} {es : List D} {arr : Array Value} {e : TypeId} {f : Nat × Nat} (hr : RowsR c.im es b base sz) (hb : c.w.heap[b]? = some (.cells arr e f)) (hle : base + es.length * sz ≤ arr.size)
    {i k : Nat} (hi : i < es.length) {vs : List Value} (hk : k + vs.length ≤ sz) (hb' : c'.w.heap[b]? = some (.cells (putL arr (base + i * sz + k) vs) e f)) {d : D}
    (hd : ∃ v, DR c'.im d v ∧ Flat v sz ∧ ∀ j, j < sz → (putL arr (base + i * sz + k) vs)[base + i * sz + j]? = v.cells[j]?) : RowsR c'.im (es.set i d) b base sz := by
  refine RowsR_of_get fun j x hx => ?_
  by_cases hj : j = i
  · subst hj
    rw [List.getElem?_set_self hi] at hx
    simp at hx; subst hx
    obtain ⟨v, h1, h2, h3⟩ := hd
    refine ⟨v, h1, h2, fun q hq => ?_⟩
    show c'.w.cell? ⟨b, _, none⟩ = _
    rw [cell?_cells hb']
    exact h3 q hq
  · rw [List.getElem?_set_ne (fun e => hj e.symm)] at hx
    obtain ⟨v, h1, h2, h3⟩ := RowsR_get hr j hx
    refine ⟨v, hE.dr h1, h2, fun q hq => ?_⟩
    rw [← h3 q hq]
    show c'.w.cell? ⟨b, _, none⟩ = c.w.cell? ⟨b, _, none⟩
    rw [cell?_cells hb', cell?_cells hb, putL_get]
    have hne : ¬ (base + i * sz + k ≤ base + j * sz + q ∧ base + j * sz + q < base + i * sz + k + vs.length ∧ base + j * sz + q < arr.size) := by
      rintro ⟨q1, q2, _⟩
      rcases Nat.lt_or_gt_of_ne hj with g | g
      · have : (j + 1) * sz ≤ i * sz := Nat.mul_le_mul_right _ g
        rw [Nat.add_mul] at this
        omega
      · have : (i + 1) * sz ≤ j * sz := Nat.mul_le_mul_right _ g
        rw [Nat.add_mul] at this
        omega
    rw [if_neg hne]

theorem setAt_append {α : Type} (us rest xs : List α) (k : Nat) (h : k + xs.length ≤ us.length) : setAt (us ++ rest) k xs = setAt us k xs ++ rest := by
  unfold setAt
  rw [List.take_append_of_le_length (by omega), List.drop_append_of_le_length (by omega)]
  simp
theorem setAt_list_get {cs : List Value} {k : Nat} {xs : List Value} (h : k + xs.length ≤ cs.length) (j : Nat) : (setAt cs k xs)[j]? = if k ≤ j ∧ j < k + xs.length then xs[j - k]? else cs[j]? := setAt_get cs k xs h j

theorem DRs_setAt {I : Im} {cs xs : List D} {vs us : List Value} (h : DRs I cs vs) (g : DRs I xs us) (k : Nat) : DRs I (setAt cs k xs) (setAt vs k us) := by
  unfold setAt
  rw [DRs_length g]
  exact DRs_append (DRs_append (DRs_take h k) g) (DRs_drop h _)

/-- Cells written over a part of a row of cells. -/
theorem vec_write {c : Cx} {σ : List Ob} (h : SR c σ) {o b base sz : Nat} (hl : c.loc o = .here b base sz) (h0 : 0 < sz) {arr : Array Value} {ty : TypeId} {f : Nat × Nat} (h1 : c.w.heap[b]? = some (.cells arr ty f)) (h2 : Unfrozen f arr.size)
    {cs : List V} {us : List Value} (hle : base + us.length ≤ arr.size) (hat : ∀ j, j < us.length → arr[base + j]? = us[j]?) (h3 : c.vrs cs us) {xs : List V} {vs : List Value} (hv : c.vrs xs vs) {kk : Nat} (hk : kk + xs.length ≤ cs.length) :
    SR ⟨c.w.setCells b (base + kk) vs, c.loc, c.hid⟩ (σ.set o (.vec sz (setAt cs kk xs))) ∧ Ext c ⟨c.w.setCells b (base + kk) vs, c.loc, c.hid⟩ ∧ (c.w.setCells b (base + kk) vs).heap[b]? = some (.cells (putL arr (base + kk) vs) ty f) := by
  have l1 := VRs_length hv
  have l3 := VRs_length h3
  obtain ⟨g1, g2, g3⟩ := heap_setCells vs (base + kk) c.w arr h1
  have hcells : ∀ (cs' : Array Value) (e' : TypeId) (f' : Nat × Nat), c.w.heap[b]? = some (.cells cs' e' f') → ∃ (cs'' : Array Value) (f'' : Nat × Nat), (c.w.setCells b (base + kk) vs).heap[b]? = some (.cells cs'' e' f'') ∧ cs''.size = cs'.size := by
    intro cs' e' f' hc
    rw [h1] at hc
    simp only [Option.some.injEq, Obj.cells.injEq] at hc
    obtain ⟨rfl, rfl, rfl⟩ := hc
    exact ⟨_, _, g3, putL_size _ _ _⟩
  have hE := Ext.write hl (c.w.setCells b (base + kk) vs) g1 g2 hcells
  refine ⟨SR.write h hl _ g1 g2 hcells (.vec sz (setAt cs kk xs)) ⟨b, base, rfl, h0, _, ty, f, g3, by rw [putL_size]; exact h2, setAt us kk vs, ?_, fun j hj => ?_, vrs_setAt (hE.vrs h3) (hE.vrs hv) kk hk⟩, hE, g3⟩
  · rw [putL_size, setAt_length _ _ _ (by omega)]; exact hle
  · rw [setAt_length _ _ _ (by omega)] at hj
    rw [putL_get, setAt_get _ _ _ (by omega)]
    by_cases hj' : kk ≤ j ∧ j < kk + vs.length
    · rw [if_pos ⟨by omega, by omega, by omega⟩, if_pos hj']
      congr 1; omega
    · rw [if_neg (by omega), if_neg hj', hat j hj]

theorem storeF_sound {P : Program} {t : TypeId} {c : Cx} {σ σ' : List Ob} (h : SR c σ) {a x : V} {va vx : Value} (e : storeF P t σ a x = some σ') (ha : c.vr a va) (hx : c.vr x vx) : SemOkU P (Instr.storeAt t va vx) c σ' := by
  unfold storeF at e
  split at e
  · rename_i o i k
    split at e
    · rename_i cs hcs
      split at e
      · rename_i xs hxs
        split at e
        · rename_i hq
          obtain ⟨rfl, q1, q2, q3, q4⟩ := hq
          simp only [Option.some.injEq] at e; subst e
          obtain ⟨b, bs, arr, ty, f, hl, rfl, h1, h2, us, rest, hu, h3⟩ := box_at h hcs ha
          have hcv := cellsV_sound h hxs hx
          have l1 := VRs_length hcv
          have l3 := VRs_length h3
          have l4 := congrArg List.length hu
          simp only [Array.length_toList, List.length_append] at l1 l3 l4
          have hone := vrs_one h hcv q4
          obtain ⟨g1, g2, g3⟩ := heap_setCells vx.cells.toList k c.w arr h1
          have hcells : ∀ (cs' : Array Value) (e' : TypeId) (f' : Nat × Nat), c.w.heap[b]? = some (.cells cs' e' f') → ∃ (cs'' : Array Value) (f'' : Nat × Nat), (c.w.setCells b k vx.cells.toList).heap[b]? = some (.cells cs'' e' f'') ∧ cs''.size = cs'.size := by
            intro cs' e' f' hc
            rw [h1] at hc
            simp only [Option.some.injEq, Obj.cells.injEq] at hc
            obtain ⟨rfl, rfl, rfl⟩ := hc
            exact ⟨_, _, g3, putL_size _ _ _⟩
          have hE := Ext.write hl (c.w.setCells b k vx.cells.toList) g1 g2 hcells
          refine ⟨c.w.setCells b k vx.cells.toList, c.loc, run_storeVar h1 h2 q2 (by omega) (by omega) hone, ?_, hE⟩
          refine SR.write h hl _ g1 g2 hcells (.box (setAt cs k xs)) ⟨b, bs, rfl, _, ty, f, g3, by rw [putL_size]; exact h2, ?_⟩
          have hset := vrs_setAt (hE.vrs h3) (hE.vrs hcv) k q3
          have : (putL arr k vx.cells.toList).toList = setAt arr.toList k vx.cells.toList := by
            apply List.ext_getElem?
            intro j
            rw [Array.getElem?_toList, putL_get, setAt_get _ _ _ (by simp; omega)]
            simp only [Array.length_toList, Array.getElem?_toList]
            by_cases hj : k ≤ j ∧ j < k + vx.cells.size
            · rw [if_pos ⟨hj.1, hj.2, by omega⟩, if_pos hj]
            · rw [if_neg (fun z => hj ⟨z.1, z.2.1⟩), if_neg hj]
          have hsp := setAt_append us rest vx.cells.toList k (by simp; omega)
          exact ⟨_, rest, by rw [this, hu, hsp], hset⟩
        · cases e
      · cases e
    · rename_i sz cs hcs
      split at e
      · rename_i xs hxs
        split at e
        · rename_i hq
          obtain ⟨q1, q2, q3, q4⟩ := hq
          simp only [Option.some.injEq] at e; subst e
          obtain ⟨b, base, arr, ty, f, hl, rfl, h0, h1, h2, us, hle, hat, h3⟩ := vec_at h hcs ha
          generalize i * sz + k = kk at *
          have hcv := cellsV_sound h hxs hx
          have l1 := VRs_length hcv
          have l3 := VRs_length h3
          simp only [Array.length_toList] at l1
          obtain ⟨k1, k2, _⟩ := vec_write h hl h0 h1 h2 hle hat h3 hcv (kk := kk) q3
          exact ⟨c.w.setCells b (base + kk) vx.cells.toList, c.loc, run_storeVar h1 h2 q2 (by omega) (by omega) (vrs_one h hcv q4), k1, k2⟩
        · cases e
      · cases e
    · rename_i sz mk es hes
      split at e
      · rename_i e0 d he0 hd
        have hi := (List.getElem?_eq_some_iff.1 he0).1
        split at e
        · rename_i hq
          obtain ⟨b, base, arr, ty, f, hl, rfl, h0, h1, h2, h3, h4⟩ := arr_at h hes ha
          have dr := toD_sound hd hx
          have hfl := flatOk_Flat hq.1 dr
          have hele : base + i * sz + sz ≤ arr.size := by
            have : (i + 1) * sz ≤ es.length * sz := Nat.mul_le_mul_right _ hi
            rw [Nat.add_mul] at this; omega
          have huf : Unfrozen f arr.size := ⟨h2.1, fun j hj => h2.2 j (by split <;> omega)⟩
          obtain ⟨g1, g2, g3⟩ := heap_setCells vx.cells.toList (base + i * sz + k) c.w arr h1
          have hcells : ∀ (cs' : Array Value) (e' : TypeId) (f' : Nat × Nat), c.w.heap[b]? = some (.cells cs' e' f') → ∃ (cs'' : Array Value) (f'' : Nat × Nat), (c.w.setCells b (base + i * sz + k) vx.cells.toList).heap[b]? = some (.cells cs'' e' f'') ∧ cs''.size = cs'.size := by
            intro cs' e' f' hc
            rw [h1] at hc
            simp only [Option.some.injEq, Obj.cells.injEq] at hc
            obtain ⟨rfl, rfl, rfl⟩ := hc
            exact ⟨_, _, g3, putL_size _ _ _⟩
          have hE := Ext.write hl (c.w.setCells b (base + i * sz + k) vx.cells.toList) g1 g2 hcells
          have fin : ∀ d', k + szOf P t ≤ sz → (∃ v, DR (⟨c.w.setCells b (base + i * sz + k) vx.cells.toList, c.loc, c.hid⟩ : Cx).im d' v ∧ Flat v sz ∧ ∀ j, j < sz → (putL arr (base + i * sz + k) vx.cells.toList)[base + i * sz + j]? = v.cells[j]?) →
              SemOkU P (Instr.storeAt t (.pointer (some ⟨b, base + i * sz + k, none⟩)) vx) c (σ.set o (.arr sz mk (es.set i d'))) := by
            intro d' hk hd'
            refine ⟨_, c.loc, run_storeVar h1 huf hq.2 hfl.1 (by rw [hfl.1]; omega) hfl.2, ?_, hE⟩
            refine SR.write h hl _ g1 g2 hcells (.arr sz mk (es.set i d')) (.inr ⟨b, base, rfl, h0, _, ty, f, g3, by rw [putL_size]; exact h2, by rw [putL_size, List.length_set]; exact h3, ?_⟩)
            refine rows_set hE h4 h1 h3 hi (by simp [hfl.1]; omega) g3 hd'
          split at e
          · rename_i hk
            obtain ⟨k1, rfl⟩ := hk
            simp only [Option.some.injEq] at e; subst e
            refine fin d (by omega) ⟨vx, hE.dr dr, by rw [← k1]; exact hfl, fun j hj => ?_⟩
            rw [putL_get, if_pos ⟨by omega, by simp [hfl.1]; omega, by omega⟩]
            simp only [Nat.add_zero, Array.getElem?_toList]
            congr 1; omega
          · split at e
            · rename_i hk
              simp only [Option.some.injEq] at e; subst e
              obtain ⟨u, p1, p2, p3⟩ := RowsR_get h4 i he0
              obtain ⟨q1, q2, q3⟩ := DR_csz p1 hk.1
              simp only [flatOk, Bool.and_eq_true, beq_iff_eq] at hq
              obtain ⟨s1, s2, s3⟩ := DR_csz dr hq.1.1
              have hul : u.cells.toList.length = sz := by simpa using q1
              have hvl : vx.cells.toList.length = szOf P t := by simpa using s1
              refine fin _ hk.2 ⟨.agg (setAt u.cells.toList k vx.cells.toList).toArray, ?_, ⟨?_, ?_⟩, fun j hj => ?_⟩
              · simp only [DR]
                exact ⟨_, rfl, DRs_setAt (DRs_mono hE.im _ _ q3) (DRs_mono hE.im _ _ s3) k⟩
              · show (setAt u.cells.toList k vx.cells.toList).toArray.size = sz
                simp only [List.size_toArray]
                rw [setAt_length _ _ _ (by omega), hul]
              · intro y hy
                simp only [Value.cells] at hy
                simp only [setAt, List.mem_append] at hy
                rcases hy with (hy | hy) | hy
                · exact p2.2 y (List.mem_of_mem_take hy)
                · exact hfl.2 y hy
                · exact p2.2 y (List.mem_of_mem_drop hy)
              · have e1 : (Value.agg (setAt u.cells.toList k vx.cells.toList).toArray).cells[j]? = (setAt u.cells.toList k vx.cells.toList)[j]? := by simp [Value.cells]
                rw [e1, setAt_get _ _ _ (by omega), putL_get]
                by_cases hj' : k ≤ j ∧ j < k + vx.cells.toList.length
                · rw [if_pos ⟨by omega, by omega, by omega⟩, if_pos hj']
                  congr 1; omega
                · rw [if_neg (by omega), if_neg hj', Array.getElem?_toList, ← p3 j hj]
                  show _ = c.w.cell? ⟨b, _, none⟩
                  rw [cell?_cells h1]
            · cases e
        · cases e
      · cases e
    · cases e
  · cases e

/-! ### make -/
def zeroD (P : Program) (t : TypeId) : Option D := match P.info? t with | some i => (match i.zero with | some (.agg cs) => some (.agg (cs.toList.map sc)) | some (.tuple _) => none | some z => some (sc z) | none => none) | none => none

/-- Does the zero value hold anything that is no scalar? -/
def zeroRef (P : Program) (t : TypeId) : Bool :=
  match zeroCs P t with
  | some cs => cs.any fun | .d (.int _ _) => false | .d (.bool _) => false | .d (.str _) => false | _ => true
  | none => true

def makeSliceF (P : Program) (t : TypeId) (σ : List Ob) (len cap : V) : Option (V × List Ob) :=
  match elemOfSlice P t, natOf len, natOf cap with
  | some e, some n, some m => match P.info? e, zeroD P e with
    | some i, some z => if (zeroRef P e = false ∨ (n = 0 ∧ 0 < m)) ∧ elemOk P e = true ∧ flatOk z (szOf P e) = true ∧ n ≤ m ∧ i.bytes * m ≤ 281474976710656 then some (.sl σ.length 0 n, σ ++ [.arr (szOf P e) false (List.replicate n z)]) else none
    | _, _ => none
  | _, _, _ => none

theorem zeroD_some {P : Program} {t : TypeId} {d : D} (h : zeroD P t = some d) {i : TypeInfo} (hi : P.info? t = some i) (I : Im) : ∃ z, i.zero = some z ∧ DR I d z := by
  unfold zeroD at h
  rw [hi] at h
  simp only at h
  split at h
  · rename_i cs hz
    simp only [Option.some.injEq] at h; subst h
    refine ⟨_, hz, ?_⟩
    simp only [DR]
    exact ⟨cs.toList, by simp, DRs_map_sc I _⟩
  · cases h
  · rename_i z _ _ hz
    simp only [Option.some.injEq] at h; subst h
    exact ⟨_, hz, DR_sc I _⟩
  · cases h

theorem cells_replicate (z : Value) (sz : Nat) (h0 : 0 < sz) (hz : z.cells.size = sz) : ∀ n, ((Array.range (n * sz)).map (z.cells[· % z.cells.size]!)).toList = (List.replicate n z).flatMap fun u => u.cells.toList := by
  intro n
  apply List.ext_getElem?
  intro j
  have hl : ((List.replicate n z).flatMap fun u => u.cells.toList).length = n * sz := by
    rw [flat_length (sz := sz) (fun u hu => by rw [(List.mem_replicate.1 hu).2]; exact hz)]; simp
  by_cases hj : j < n * sz
  · have key : ∀ n j, j < n * sz → ((List.replicate n z).flatMap fun u => u.cells.toList)[j]? = some (z.cells[j % sz]!) := by
      intro n
      induction n with
      | zero => intro j hj; simp at hj
      | succ n ih =>
        intro j hj
        rw [List.replicate_succ, List.flatMap_cons]
        by_cases h : j < sz
        · rw [List.getElem?_append_left (by simp; omega), Nat.mod_eq_of_lt h]
          rw [Array.getElem?_toList, Array.getElem?_eq_getElem (by omega), getElem!_pos z.cells j (by omega)]
        · rw [List.getElem?_append_right (by simp; omega), Array.length_toList, hz, ih _ (by rw [Nat.add_mul] at hj; omega)]
          rw [← Nat.mod_eq_sub_mod (by omega)]
    rw [key n j hj]
    simp [hj, hz]
  · rw [List.getElem?_eq_none (by simp; omega), List.getElem?_eq_none (by omega)]

theorem makeSliceF_sound {P : Program} {t : TypeId} {c : Cx} {σ σ' : List Ob} (h : SR c σ) {len cap r : V} {vl vc : Value} (e : makeSliceF P t σ len cap = some (r, σ')) (hl : c.vr len vl) (hc : c.vr cap vc) :
    SemOk P (Instr.makeSlice t vl vc) c r σ' := by
  unfold makeSliceF at e
  split at e
  · rename_i el n m hel hn hm
    have hu := elemOfSlice_some hel
    obtain ⟨kn, rfl⟩ := natOf_some hn hl
    obtain ⟨km, rfl⟩ := natOf_some hm hc
    split at e
    · rename_i i z hi hz
      split at e
      · rename_i hq
        simp only [Option.some.injEq, Prod.mk.injEq] at e
        obtain ⟨rfl, rfl⟩ := e
        obtain ⟨hzr, he, hfz, hnm, hby⟩ := hq
        clear hzr
        obtain ⟨i', z', hi', hz', hzs, h0, hb, hsz⟩ := elemOk_some he
        rw [hi] at hi'; simp at hi'; subst hi'
        obtain ⟨zv, hzv, dz⟩ := zeroD_some hz hi c.im
        rw [hzv] at hz'; simp at hz'; subst hz'
        have hfl := flatOk_Flat hfz dz
        have hsz0 : 0 < szOf P el := by omega
        have hdr : DRs c.im (List.replicate n z) (List.replicate n zv) := by
          clear hl hn
          induction n with
          | zero => simp [DRs]
          | succ n ih => simp only [List.replicate_succ, DRs]; exact ⟨zv, _, rfl, dz, ih (by omega)⟩
        have hflat : ∀ u ∈ List.replicate n zv, Flat u (szOf P el) := fun u hu => by rw [(List.mem_replicate.1 hu).2]; exact hfl
        have hrep := cells_replicate zv (szOf P el) hsz0 hfl.1 m
        have hsplit : ((List.replicate m zv).flatMap fun u => u.cells.toList) = ((List.replicate n zv).flatMap fun u => u.cells.toList) ++ ((List.replicate (m - n) zv).flatMap fun u => u.cells.toList) := by
          rw [← List.flatMap_append, List.replicate_append_replicate]
          congr 2; omega
        have hmore : ((List.replicate (m - n) zv).flatMap fun u => u.cells.toList).length = (m - n) * szOf P el := by
          rw [flat_length (sz := szOf P el) (fun u hu => by rw [(List.mem_replicate.1 hu).2]; exact hfl.1)]; simp
        obtain ⟨k1, k2, k3⟩ := new_arr h hsz0 hdr hflat ((List.replicate (m - n) zv).flatMap fun u => u.cells.toList) el m c.w.drawn false (by
          rw [hmore, List.length_replicate, ← Nat.add_mul]; congr 1; omega) (by simpa using hnm) (0, 0) (unfrozen0 _) (fun _ => unfrozen0 _)
        rw [List.length_replicate] at k3
        refine ⟨_, _, _, ?_, k1, k2, k3⟩
        have hb1 : (i.bytes : Int) * (m : Int) ≤ 281474976710656 := by have := Int.ofNat_le.2 hby; simpa using this
        have hmb : m ≤ 281474976710656 := by
          have : m ≤ i.bytes * m := Nat.le_mul_of_pos_left _ hb
          omega
        have w1 : IntKind.i64.wrap (m : Int) = m := IntWalk.i64_in _ (by omega)
        have w2 : IntKind.i64.wrap (n : Int) = n := IntWalk.i64_in _ (by omega)
        have c1 : ¬ ((m : Int) < 0) := by omega
        have c2 : ¬ ((n : Int) < 0) := by omega
        have c3 : ¬ ((n : Int) > (m : Int)) := by omega
        have c4 : ¬ ((i.bytes : Int) * (m : Int) > 281474976710656) := by omega
        have e48 : (2 : Int) ^ 48 = 281474976710656 := rfl
        have hcond : (decide ((m : Int) < 0) || decide ((i.bytes : Int) * (m : Int) > 281474976710656) || decide ((n : Int) < 0) || decide ((n : Int) > (m : Int))) = false := by simp [c1, c2, c3, c4]
        simp [Instr.makeSlice, run_underlying hu, asInt, asIntOf, typeInfo, hi, w1, w2, c1, c2, c3, c4, run_sizeOf' hsz0, zeroValue, newRow, hzv]
        rw [← hsplit, ← hrep]
        have hm0 : m * szOf P el = 0 ↔ m = 0 := by
          constructor
          · intro q; rcases Nat.mul_eq_zero.1 q with q | q <;> omega
          · rintro rfl; simp
        by_cases hm : m = 0
        · subst hm; simp [Array.range_zero']
        · rw [if_neg (by rw [hm0]; exact hm)]
      · cases e
    · cases e
  · cases e

/-- A slice of references: an object of cells. -/
def makeVecF (P : Program) (t : TypeId) (σ : List Ob) (len cap : V) : Option (V × List Ob) :=
  match elemOfSlice P t, natOf len, natOf cap with
  | some e, some n, some m => match P.info? e, zeroCs P e with
    | some i, some z => if zeroRef P e = true ∧ elemOk P e = true ∧ n = m ∧ i.bytes * m ≤ 281474976710656 then some (.sl σ.length 0 n, σ ++ [.box (List.replicate n z).flatten]) else none
    | _, _ => none
  | _, _, _ => none

theorem vec_zero (I : Im) (w : World) (l : Nat → Loc) (z : Value) : ∀ n, VRs I w l (List.replicate n (z.cells.toList.map fun v => V.d (sc v))).flatten ((List.replicate n z).flatMap fun u => u.cells.toList)
  | 0 => by simp [VRs]
  | n + 1 => by
    simp only [List.replicate_succ, List.flatten_cons, List.flatMap_cons]
    have h1 := VRs_map_sc I w l z.cells.toList
    have h2 := vec_zero I w l z n
    have e1 := VRs_length h1
    have e2 := VRs_length h2
    refine VRs_of_get (by simp only [List.length_append]; omega) fun i x v e f => ?_
    rw [List.getElem?_append] at e f
    split at e
    · rename_i hi
      rw [if_pos (by rw [e1]; exact hi)] at f
      obtain ⟨u, q1, q2⟩ := VRs_get h1 i e
      rw [q1] at f; simp at f; subst f; exact q2
    · rename_i hi
      rw [if_neg (by rw [e1]; exact hi)] at f
      rw [e1] at f
      obtain ⟨u, q1, q2⟩ := VRs_get h2 _ e
      rw [q1] at f; simp at f; subst f; exact q2

theorem makeVecF_sound {P : Program} {t : TypeId} {c : Cx} {σ σ' : List Ob} (h : SR c σ) {len cap r : V} {vl vc : Value} (e : makeVecF P t σ len cap = some (r, σ')) (hl : c.vr len vl) (hc : c.vr cap vc) :
    SemOk P (Instr.makeSlice t vl vc) c r σ' := by
  unfold makeVecF at e
  split at e
  · rename_i el n m hel hn hm
    have hu := elemOfSlice_some hel
    obtain ⟨kn, rfl⟩ := natOf_some hn hl
    obtain ⟨km, rfl⟩ := natOf_some hm hc
    split at e
    · rename_i i z hi hz
      split at e
      · rename_i hq
        simp only [Option.some.injEq, Prod.mk.injEq] at e
        obtain ⟨rfl, rfl⟩ := e
        obtain ⟨_, he, rfl, hby⟩ := hq
        obtain ⟨i', zv, hi', hzv, hzs, h0, hb, hsz⟩ := elemOk_some he
        rw [hi] at hi'; simp at hi'; subst hi'
        unfold zeroCs at hz
        rw [hi] at hz
        simp only [hzv, Option.map_some, Option.some.injEq] at hz
        subst hz
        have hsz0 : 0 < szOf P el := by omega
        have hrep := cells_replicate zv (szOf P el) hsz0 (by omega) n
        have hv := vec_zero c.im c.w c.loc zv n
        obtain ⟨k1, k2, _, k3⟩ := new_box h hv el c.w.drawn (szOf P el)
        have hlen : ((List.replicate n (zv.cells.toList.map fun v => V.d (sc v))).flatten).length = n * szOf P el := by
          have e1 := VRs_length hv
          rw [flat_length (sz := szOf P el) (fun u hu => by rw [(List.mem_replicate.1 hu).2]; omega)] at e1
          rw [← e1]; simp
        refine ⟨_, _, _, ?_, k1, k2, k3 n (by rw [hlen])⟩
        have hb1 : (i.bytes : Int) * (n : Int) ≤ 281474976710656 := by have := Int.ofNat_le.2 hby; simpa using this
        have hmb : n ≤ 281474976710656 := by
          have : n ≤ i.bytes * n := Nat.le_mul_of_pos_left _ hb
          omega
        have w1 : IntKind.i64.wrap (n : Int) = n := IntWalk.i64_in _ (by omega)
        have c1 : ¬ ((n : Int) < 0) := by omega
        have c3 : ¬ ((n : Int) > (n : Int)) := by omega
        have c4 : ¬ ((i.bytes : Int) * (n : Int) > 281474976710656) := by omega
        have e48 : (2 : Int) ^ 48 = 281474976710656 := rfl
        simp [Instr.makeSlice, run_underlying hu, asInt, asIntOf, typeInfo, hi, w1, c1, c3, c4, run_sizeOf' hsz0, zeroValue, newRow, hzv]
        rw [← hrep]
        have hm0 : n * szOf P el = 0 ↔ n = 0 := by
          constructor
          · intro q; rcases Nat.mul_eq_zero.1 q with q | q <;> omega
          · rintro rfl; simp
        by_cases hm : n = 0
        · subst hm; simp [Array.range_zero']
        · rw [if_neg (by rw [hm0]; exact hm)]
      · cases e
    · cases e
  · cases e
end Go.Proofs.YteafabpedfgedaaGreatDoor.Am
end
