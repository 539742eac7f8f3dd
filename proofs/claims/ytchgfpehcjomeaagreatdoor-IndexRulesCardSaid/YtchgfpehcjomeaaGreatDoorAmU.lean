/- The engine's quiet operations, last part: lengths, conversions, look-ups; and all quiet operations in one function. -/
import Derived.Test.YtchgfpehcjomeaaGreatDoorAmT
import Derived.Laws.BytesString
set_option linter.unusedSimpArgs false
set_option linter.unusedVariables false
namespace Go.Proofs.YtchgfpehcjomeaaGreatDoor.Am
open Go

def isSliceT (P : Program) (t : TypeId) : Bool := (elemOfSlice P t).isSome

theorem isSliceT_some {P : Program} {t : TypeId} (h : isSliceT P t = true) : ∃ e, P.underlying t = some (.slice e) := by
  obtain ⟨e, he⟩ := Option.isSome_iff_exists.1 h
  exact ⟨e, elemOfSlice_some he⟩

def lenF (P : Program) (t : TypeId) (σ : List Ob) (x : V) : Option V :=
  match x with
  | .d (.str s) => if isStrT P t then some (.d (.int .i64 s.length)) else none
  | .sl o _ len => if isSliceT P t && alive σ o then some (.d (.int .i64 len)) else none
  | .d (.lst _ es) => if isSliceT P t then some (.d (.int .i64 es.length)) else none
  | .d .nils => if isSliceT P t then some (.d (.int .i64 0)) else none
  | .mp o => if isMapT P t then match σ[o]? with | some (.map es _) => some (.d (.int .i64 es.length)) | _ => none else none
  | .d .nilm => if isMapT P t then some (.d (.int .i64 0)) else none
  | _ => none

theorem map_at {c : Cx} {σ : List Ob} (h : SR c σ) {o : Nat} {es : List (D × V × Nat)} {clk : Nat} (hx : σ[o]? = some (.map es clk)) {v : Value} (r : c.vr (.mp o) v) :
    ∃ b ents, c.loc o = .here b 0 1 ∧ v = .map (some b) ∧ c.w.heap[b]? = some (.map ents clk) ∧ c.mapR es ents.toList ∧ (es.map (·.2.2)).Nodup ∧ ∀ e ∈ es, e.2.2 < clk := by
  obtain ⟨b, hl, ents, h1, h2, h3, h4⟩ := h.get hx
  simp only [Cx.vr, VR, hl] at r
  exact ⟨b, ents, hl, r, h1, h2, h3, h4⟩

theorem MapR.length {I : Im} {w : World} {loc : Nat → Loc} {es : List (D × V × Nat)} {l : List MapEntry} (m : MapR I w loc es l) : l.length = es.length := by
  induction m with
  | nil => rfl
  | cons _ _ _ _ ih => simp [ih]

theorem vr_sl_len {c : Cx} {σ : List Ob} (h : SR c σ) {o off len : Nat} {v : Value} (ha : alive σ o = true) (r : c.vr (.sl o off len) v) : ∃ a cap, v = .slice a len cap := by
  have hd := h.at_alive ha
  simp only [Cx.vr, VR] at r
  cases e : c.loc o with
  | unborn => exact (hd.2 e).elim
  | dead => exact (hd.1 e).elim
  | nil => rw [e] at r; obtain ⟨rfl, _, rfl⟩ := r; exact ⟨_, _, rfl⟩
  | here b base sz => rw [e] at r; obtain ⟨a, cap, rfl, _⟩ := r; exact ⟨_, _, rfl⟩

theorem run_getObj_map {P : Program} {w : World} {b : Nat} {ents : Array MapEntry} {clock : Nat} (h : w.heap[b]? = some (.map ents clock)) : (getObj b).run P w = .ok (.map ents clock) w := by
  simp only [getObj, Sem.run, h]

theorem lenF_sound {P : Program} {t ty : TypeId} {c : Cx} {σ : List Ob} (h : SR c σ) {x r : V} {vx : Value} (e : lenF P t σ x = some r) (hx : c.vr x vx) : ∃ v, (Builtin.len_ #[t] ty #[vx]).run P c.w = .ok v c.w ∧ c.vr r v := by
  unfold lenF at e
  split at e
  · split at e
    · rename_i ht
      simp only [Option.some.injEq] at e; subst e
      simp only [Cx.vr, VR, DR] at hx; subst hx
      exact ⟨_, by simp [Builtin.len_, run_underlying (isStrT_some ht)]; rfl, by simp [Cx.vr, VR, DR, goInt, size_mk]⟩
    · cases e
  · split at e
    · rename_i ht
      simp only [Bool.and_eq_true] at ht
      simp only [Option.some.injEq] at e; subst e
      obtain ⟨a, cap, rfl⟩ := vr_sl_len h ht.2 hx
      obtain ⟨el, hu⟩ := isSliceT_some ht.1
      exact ⟨_, by simp [Builtin.len_, run_underlying hu]; rfl, by simp [Cx.vr, VR, DR, goInt]⟩
    · cases e
  · split at e
    · rename_i ht
      simp only [Option.some.injEq] at e; subst e
      simp only [Cx.vr, VR, DR] at hx
      obtain ⟨a, cap, rfl, _⟩ := hx
      obtain ⟨el, hu⟩ := isSliceT_some ht
      exact ⟨_, by simp [Builtin.len_, run_underlying hu]; rfl, by simp [Cx.vr, VR, DR, goInt]⟩
    · cases e
  · split at e
    · rename_i ht
      simp only [Option.some.injEq] at e; subst e
      simp only [Cx.vr, VR, DR] at hx; subst hx
      obtain ⟨el, hu⟩ := isSliceT_some ht
      exact ⟨_, by simp [Builtin.len_, run_underlying hu]; rfl, by simp [Cx.vr, VR, DR, goInt]⟩
    · cases e
  · split at e
    · rename_i ht
      split at e
      · rename_i es clk hes
        simp only [Option.some.injEq] at e; subst e
        obtain ⟨b, ents, hl, rfl, h1, h2, _⟩ := map_at h hes hx
        obtain ⟨k, el, hu⟩ := isMapT_some ht
        have hlen := h2.length
        refine ⟨.int .i64 ents.size, by simp [Builtin.len_, run_underlying hu, run_getObj_map h1, goInt], ?_⟩
        simp only [Cx.vr, VR, DR]
        rw [← hlen]; simp
      · cases e
    · cases e
  · split at e
    · rename_i ht
      simp only [Option.some.injEq] at e; subst e
      simp only [Cx.vr, VR, DR] at hx; subst hx
      obtain ⟨k, el, hu⟩ := isMapT_some ht
      exact ⟨_, by simp [Builtin.len_, run_underlying hu]; rfl, by simp [Cx.vr, VR, DR, goInt]⟩
    · cases e
  · cases e

/-! ### conversions -/
def bytesOf : List D → Option (List UInt8)
  | [] => some []
  | .int .u8 n :: r => (bytesOf r).map (UInt8.ofNat n.toNat :: ·)
  | _ => none

def u8D (b : UInt8) : D := .int .u8 b.toNat
@[simp] theorem bytesOf_u8D (l : List UInt8) : bytesOf (l.map u8D) = some l := by
  induction l with
  | nil => rfl
  | cons b l ih => simp [bytesOf, u8D, ih]

def slD (σ : List Ob) : V → Option (List D)
  | .sl o off len => match σ[o]? with | some (.arr _ _ es) => if off + len ≤ es.length then some ((es.drop off).take len) else none | _ => none
  | .d (.lst _ es) => some es
  | .d .nils => some []
  | _ => none

def convF (P : Program) (src dst : TypeId) (σ : List Ob) (x : V) : Option V :=
  if okT P src then
    match x with
    | .d (.int _ n) => match intT P dst with | some k => some (.d (.int k (k.wrap n))) | none => none
    | .d (.str s) => if isStrT P dst then some (.d (.str s)) else none
    | x => match elemOfSlice P src with
      | some e => if isStrT P dst = true ∧ intT P e = some .u8 then
          (match x with
          | .sl o _ _ => if arrSz σ o = 1 then (match slD σ x with | some ds => (bytesOf ds).map fun s => .d (.str s) | none => none) else none
          | .d (.lst 1 _) => match slD σ x with | some ds => (bytesOf ds).map fun s => .d (.str s) | none => none
          | .d .nils => some (.d (.str []))
          | _ => none) else none
      | none => none
  else none

theorem intT_some {P : Program} {t : TypeId} {k : IntKind} (h : intT P t = some k) : P.underlying t = some (.int k) := by
  unfold intT at h
  split at h
  · simp at h; subst h; assumption
  · cases h

theorem bytes_ns : ∀ {ds : List D} {s : List UInt8}, bytesOf ds = some s → ∃ ns : List Int, ds = ns.map (D.int .u8) ∧ s = ns.map fun n => UInt8.ofNat n.toNat
  | [], s, h => by simp [bytesOf] at h; exact ⟨[], rfl, h⟩
  | d :: ds, s, h => by
    cases d <;> (try (simp [bytesOf] at h; done))
    rename_i k n
    cases k <;> (try (simp [bytesOf] at h; done))
    simp only [bytesOf] at h
    cases hr : bytesOf ds with
    | none => rw [hr] at h; cases h
    | some r =>
      rw [hr] at h; simp at h; subst h
      obtain ⟨ns, rfl, rfl⟩ := bytes_ns hr
      exact ⟨n :: ns, rfl, rfl⟩

theorem foldl_push (ns : List Int) : ∀ s : List UInt8, ns.foldl (fun (r : ByteArray) n => r.push (UInt8.ofNat n.toNat)) ⟨s.toArray⟩ = ⟨(s ++ ns.map fun n => UInt8.ofNat n.toNat).toArray⟩ := by
  induction ns with
  | nil => intro s; simp
  | cons n ns ih =>
    intro s
    simp only [List.foldl_cons]
    have : (⟨s.toArray⟩ : ByteArray).push (UInt8.ofNat n.toNat) = ⟨(s ++ [UInt8.ofNat n.toNat]).toArray⟩ := by
      apply ByteArray.ext; simp [ByteArray.push]
    rw [this, ih]
    simp

theorem run_bytes {P : Program} {c : Cx} {ns : List Int} {b a cap : Nat} {ty : TypeId} {arr : Array Value} {f : Nat × Nat} (hr : RowsR c.im (ns.map (D.int .u8)) b a 1) :
    (Conv.bytesToString (.slice (some ⟨b, a, none⟩) ns.length cap)).run P c.w = .ok (.string ⟨(ns.map fun n => UInt8.ofNat n.toNat).toArray⟩) c.w := by
  have hc := run_loadCells_list (P := P) c.w ⟨b, a, none⟩ (ns.map (Value.int .u8)) (by
    intro j v hj
    rw [List.getElem?_map] at hj
    cases hn : ns[j]? with
    | none => rw [hn] at hj; cases hj
    | some n =>
      rw [hn] at hj; simp at hj; subst hj
      obtain ⟨u, h1, h2, h3⟩ := RowsR_get hr j (d := .int .u8 n) (by rw [List.getElem?_map, hn]; rfl)
      simp only [DR] at h1; subst h1
      have := h3 0 (by omega)
      simpa [Cx.im, Value.cells, Addr.add_lit] using this)
  rw [List.length_map] at hc
  rw [run_bytesToString c.w _ _ cap ns hc]
  congr 2
  exact foldl_push ns []

theorem convF_sound {P : Program} {src dst : TypeId} {c : Cx} {σ : List Ob} (h : SR c σ) {x r : V} {vx : Value} (e : convF P src dst σ x = some r) (hx : c.vr x vx) : ∃ v, (convert src dst vx).run P c.w = .ok v c.w ∧ c.vr r v := by
  unfold convF at e
  split at e
  · rename_i hs
    obtain ⟨ds, hds⟩ := okT_some hs
    split at e
    · split at e
      · rename_i k hk
        simp only [Option.some.injEq] at e; subst e
        simp only [Cx.vr, VR, DR] at hx; subst hx
        exact ⟨_, by simp [convert, run_underlying hds, run_underlying (intT_some hk), Conv.intToInt]; rfl, by simp [Cx.vr, VR, DR]⟩
      · cases e
    · split at e
      · rename_i hk
        simp only [Option.some.injEq] at e; subst e
        simp only [Cx.vr, VR, DR] at hx; subst hx
        exact ⟨_, by simp [convert, run_underlying hds, run_underlying (isStrT_some hk)]; rfl, by simp [Cx.vr, VR, DR]⟩
      · cases e
    · split at e
      · rename_i el hel
        split at e
        · rename_i hk
          have hu := elemOfSlice_some hel
          have hd := isStrT_some hk.1
          have he := intT_some hk.2
          have conv : ∀ (ad : Option Addr) (n cap : Nat), (convert src dst (.slice ad n cap)).run P c.w = (Conv.bytesToString (.slice ad n cap)).run P c.w := by
            intro ad n cap
            simp [convert, run_underlying hu, run_underlying hd, run_underlying he]
          split at e
          · rename_i o off len _ _
            split at e
            · rename_i h1
              split at e
              · rename_i ds' hds'
                cases hb : bytesOf ds' with
                | none => rw [hb] at e; cases e
                | some s =>
                  rw [hb] at e; simp at e; subst e
                  obtain ⟨mk, es, hes⟩ := arrSz_some h1 (by omega)
                  simp only [slD, hes] at hds'
                  split at hds'
                  · rename_i hle
                    simp only [Option.some.injEq] at hds'; subst hds'
                    obtain ⟨ns, hns, rfl⟩ := bytes_ns hb
                    have hlen : len = ns.length := by
                      have := congrArg List.length hns
                      simp at this; omega
                    rcases vr_sl h hes hx with ⟨hl, rfl, rfl, rfl, _⟩ | ⟨b, base, a, cap, arr, ty, f, hl, rfl, g1, g2, g3, g4, g5, g6, g7, g8⟩
                    · have : ns = [] := List.eq_nil_of_length_eq_zero hlen.symm
                      subst this
                      exact ⟨.string ⟨#[]⟩, by rw [conv]; rfl, by simp [Cx.vr, VR, DR]⟩
                    · by_cases h0 : cap = 0
                      · have : ns = [] := List.eq_nil_of_length_eq_zero (by omega)
                        subst this
                        have : len = 0 := by omega
                        subst this
                        exact ⟨.string ⟨#[]⟩, by rw [conv]; exact run_bytes (ns := []) (ty := ty) (arr := arr) (f := f) (by simp [RowsR]), by simp [Cx.vr, VR, DR]⟩
                      · have ha := g2 (by omega)
                        have hr : RowsR c.im (ns.map (D.int .u8)) b a 1 := by
                          rw [← hns, ha]
                          exact RowsR_take (RowsR_drop g8 off) len
                        exact ⟨_, by rw [conv, hlen]; exact run_bytes (ty := ty) (arr := arr) (f := f) hr, by simp [Cx.vr, VR, DR]⟩
                  · cases hds'
              · cases e
            · cases e
          · rename_i es _ _
            split at e
            · rename_i ds' hds'
              simp only [slD, Option.some.injEq] at hds'; subst hds'
              cases hb : bytesOf es with
              | none => rw [hb] at e; cases e
              | some s =>
                rw [hb] at e; simp at e; subst e
                obtain ⟨ns, rfl, rfl⟩ := bytes_ns hb
                simp only [Cx.vr, VR, DR] at hx
                obtain ⟨a, cap, rfl, g1, g2⟩ := hx
                rw [List.length_map]
                rcases g2 with g2 | ⟨b, off, rfl, gs, g3, g4⟩
                · have : ns = [] := by simpa using g2
                  subst this
                  cases a with
                  | none => exact ⟨.string ⟨#[]⟩, by rw [conv]; rfl, by simp [Cx.vr, VR, DR]⟩
                  | some a => exact ⟨.string ⟨#[]⟩, by rw [conv]; exact run_bytesToString c.w a 0 cap [] (by simp [loadCells, loadCellsFrom]), by simp [Cx.vr, VR, DR]⟩
                · exact ⟨_, by rw [conv]; exact run_bytes (ty := 0) (arr := #[]) (f := (0, 0)) g4, by simp [Cx.vr, VR, DR]⟩
            · cases e
          · simp only [Option.some.injEq] at e; subst e
            simp only [Cx.vr, VR, DR] at hx; subst hx
            exact ⟨.string ⟨#[]⟩, by rw [conv]; rfl, by simp [Cx.vr, VR, DR]⟩
          · cases e
        · cases e
      · cases e
  · cases e
end Go.Proofs.YtchgfpehcjomeaaGreatDoor.Am
