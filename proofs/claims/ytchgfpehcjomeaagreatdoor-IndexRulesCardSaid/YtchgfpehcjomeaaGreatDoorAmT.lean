/- The engine's quiet operations, third part, and all of them in one function. -/
import Derived.Test.YtchgfpehcjomeaaGreatDoorAmR
set_option linter.unusedSimpArgs false
set_option linter.unusedVariables false
namespace Go.Proofs.YtchgfpehcjomeaaGreatDoor.Am
open Go

theorem fld_some {P : Program} {s f off : Nat} {t : TypeId} (h : fld P s f = some (off, t)) : ∃ fs x, P.underlying s = some (.struct fs) ∧ fs[f]? = some x ∧ x.offset = off ∧ x.type = t := by
  unfold fld at h
  split at h
  · rename_i fs hs
    cases hx : fs[f]? with
    | none => rw [hx] at h; cases h
    | some x => rw [hx] at h; simp at h; exact ⟨fs, x, hs, hx, h.1, h.2⟩
  · cases h

def fieldAddrF (P : Program) (s f : Nat) (σ : List Ob) (x : V) : Option V :=
  match fld P s f with
  | some (off, t) => if 0 < szOf P t then
      match x with
      | .ptr o i k => if alive σ o then some (.ptr o i (k + off)) else none
      | .ipt cs => some (.ipt (cs.drop off))
      | _ => none
    else none
  | none => none

theorem fieldAddrF_sound {P : Program} {s f : Nat} {c : Cx} {σ : List Ob} (h : SR c σ) {x r : V} {vx : Value} (e : fieldAddrF P s f σ x = some r) (hx : c.vr x vx) : ∃ v, (Instr.fieldAt s vx f).run P c.w = .ok v c.w ∧ c.vr r v := by
  unfold fieldAddrF at e
  split at e
  · rename_i off t hf
    obtain ⟨fs, fx, h1, h2, rfl, rfl⟩ := fld_some hf
    split at e
    · rename_i h0
      have hz := run_sizeOf' h0 c.w
      have hne : ¬ szOf P fx.type = 0 := by omega
      have run : ∀ b o, (Instr.fieldAt s (.pointer (some ⟨b, o, none⟩)) f).run P c.w = .ok (.pointer (some ⟨b, o + fx.offset, none⟩)) c.w := by
        intro b o
        simp only [Instr.fieldAt, Sem.run_bind, run_underlying h1, Result.andThen_ok, h2, Instr.sureAddr, Sem.run_pure, fieldPlace, hz, hne, if_false, Addr.add_lit]
      split at e
      · rename_i o i k
        split at e
        · rename_i ha
          simp only [Option.some.injEq] at e; subst e
          obtain ⟨b, base, sz, hl, rfl⟩ := vr_ptr h ha hx
          exact ⟨_, run _ _, by simp only [Cx.vr, VR, hl, Nat.add_assoc]⟩
        · cases e
      · rename_i cs
        simp only [Option.some.injEq] at e; subst e
        simp only [Cx.vr, VR] at hx
        obtain ⟨b, off, vs, rfl, g1, g2, g3⟩ := hx
        refine ⟨_, run _ _, ?_⟩
        simp only [Cx.vr, VR]
        refine ⟨b, off + fx.offset, vs.drop fx.offset, rfl, g1, DRs_drop g2 _, fun j hj => ?_⟩
        rw [List.length_drop] at hj
        rw [Nat.add_assoc, g3 _ (by omega), List.getElem?_drop]
      · cases e
    · cases e
  · cases e

def fieldF (P : Program) (s f : Nat) (x : V) : Option V :=
  match fld P s f with
  | some (off, t) => match x with
    | .d (.agg cs) => takeD P t (cs.drop off)
    | .agg cs => takeV P t (cs.drop off)
    | _ => none
  | none => none

theorem takeD_part {P : Program} {t : TypeId} {I : Im} {cs : List D} {off : Nat} {r : V} (e : takeD P t (cs.drop off) = some r) {vs : List Value} (hv : DRs I cs vs) (w : World) (l : Nat → Loc) :
    ∃ v, (part t vs.toArray off).run P w = .ok v w ∧ VR I w l r v := by
  have hl := DRs_length hv
  unfold takeD at e
  split at e
  · rename_i ha
    split at e
    · rename_i hs
      obtain ⟨hs0, hs⟩ := hs
      simp only [Option.some.injEq] at e; subst e
      obtain ⟨d, hd⟩ := aggT_ok ha
      rw [List.length_drop] at hs
      refine ⟨_, run_part hd hs0 vs off (by omega) w, ?_⟩
      simp only [valOf, ha, if_true, VR, DR]
      exact ⟨_, rfl, DRs_take (DRs_drop hv _) _⟩
    · cases e
  · rename_i ha
    split at e
    · rename_i x tl hx
      split at e
      · rename_i ho
        simp only [Option.some.injEq] at e; subst e
        obtain ⟨d, hd⟩ := okT_some ho
        have hx' : cs[off]? = some x := by
          have := congrArg (·[0]?) hx
          simpa using this
        obtain ⟨v, h1, h2⟩ := DRs_get hv off hx'
        have : vs.toArray[off]? = some v := by simpa using h1
        refine ⟨v, ?_, by simpa [VR] using h2⟩
        simp only [part, Sem.run_bind, run_isAgg' hd, ha, Result.andThen_ok, Bool.false_eq_true, if_false, this, Sem.run_pure]
      · cases e
    · cases e

theorem takeV_part {P : Program} {t : TypeId} {I : Im} {cs : List V} {off : Nat} {r : V} {w : World} {l : Nat → Loc} (e : takeV P t (cs.drop off) = some r) {vs : List Value} (hv : VRs I w l cs vs) :
    ∃ v, (part t vs.toArray off).run P w = .ok v w ∧ VR I w l r v := by
  have hl := VRs_length hv
  unfold takeV at e
  split at e
  · rename_i ha
    split at e
    · rename_i hs
      obtain ⟨hs0, hs⟩ := hs
      simp only [Option.some.injEq] at e; subst e
      obtain ⟨d, hd⟩ := aggT_ok ha
      rw [List.length_drop] at hs
      refine ⟨_, run_part hd hs0 vs off (by omega) w, ?_⟩
      simp only [valOf, ha, if_true, VR]
      exact ⟨_, rfl, VRs_take (VRs_drop hv _) _⟩
    · cases e
  · rename_i ha
    split at e
    · rename_i x tl hx
      split at e
      · rename_i ho
        simp only [Option.some.injEq] at e; subst e
        obtain ⟨d, hd⟩ := okT_some ho
        have hx' : cs[off]? = some x := by
          have := congrArg (·[0]?) hx
          simpa using this
        obtain ⟨v, h1, h2⟩ := VRs_get hv off hx'
        have : vs.toArray[off]? = some v := by simpa using h1
        refine ⟨v, ?_, h2⟩
        simp only [part, Sem.run_bind, run_isAgg' hd, ha, Result.andThen_ok, Bool.false_eq_true, if_false, this, Sem.run_pure]
      · cases e
    · cases e

theorem fieldF_sound {P : Program} {s f : Nat} {c : Cx} {x r : V} {vx : Value} (e : fieldF P s f x = some r) (hx : c.vr x vx) : ∃ v, (Instr.field s vx f).run P c.w = .ok v c.w ∧ c.vr r v := by
  unfold fieldF at e
  split at e
  · rename_i off t hf
    obtain ⟨fs, fx, h1, h2, rfl, rfl⟩ := fld_some hf
    split at e
    · simp only [Cx.vr, VR, DR] at hx
      obtain ⟨vs, rfl, hv⟩ := hx
      obtain ⟨v, g1, g2⟩ := takeD_part e hv c.w c.loc
      exact ⟨v, by simp only [Instr.field, Sem.run_bind, run_underlying h1, Result.andThen_ok, h2, asAgg, Sem.run_pure, g1], g2⟩
    · simp only [Cx.vr, VR] at hx
      obtain ⟨vs, rfl, hv⟩ := hx
      obtain ⟨v, g1, g2⟩ := takeV_part e hv
      exact ⟨v, by simp only [Instr.field, Sem.run_bind, run_underlying h1, Result.andThen_ok, h2, asAgg, Sem.run_pure, g1], g2⟩
    · cases e
  · cases e

/-! ### indexes and cuts -/
def arrSz (σ : List Ob) (o : Nat) : Nat := match σ[o]? with | some (.arr sz _ _) => sz | _ => 0

def arrT (P : Program) (t : TypeId) : Option (Nat × TypeId) := match P.underlying t with | some (.array n e) => some (n, e) | _ => none

def indexAddrF (P : Program) (t : TypeId) (σ : List Ob) (x ix : V) : Option V :=
  match ix with
  | .d (.int _ i) => match x with
    | .sl o off len => match elemOfSlice P t with
      | some e => match σ[o]? with
        | some (.box _) => if 0 < szOf P e ∧ off = 0 then (if 0 ≤ i ∧ i < len then some (.ptr o 0 (i.toNat * szOf P e)) else none) else none
        | some (.vec sz _) => if 0 < szOf P e ∧ sz = szOf P e then (if 0 ≤ i ∧ i < len then some (.ptr o (off + i.toNat) 0) else none) else none
        | _ => if 0 < szOf P e ∧ arrSz σ o = szOf P e then (if 0 ≤ i ∧ i < len then some (.ptr o (off + i.toNat) 0) else none) else none
      | none => none
    | .d (.lst sz es) => match elemOfSlice P t with
      | some e => if sz = szOf P e ∧ 0 ≤ i then match es[i.toNat]? with
          | some d => if d.csz = some sz then some (.ipt d.cells) else none
          | none => none
        else none
      | none => none
    | .ptr o j k => match arrT P t with
      | some (n, e) => if 0 < szOf P e ∧ alive σ o = true then (if 0 ≤ i ∧ i < n then some (.ptr o j (k + i.toNat * szOf P e)) else none) else none
      | none => none
    | .ipt cs => match arrT P t with
      | some (n, e) => if 0 < szOf P e then (if 0 ≤ i ∧ i < n then some (.ipt (cs.drop (i.toNat * szOf P e))) else none) else none
      | none => none
    | _ => none
  | _ => none

theorem elemOfSlice_some {P : Program} {t e : TypeId} (h : elemOfSlice P t = some e) : P.underlying t = some (.slice e) := by
  unfold elemOfSlice at h
  split at h
  · simp at h; subst h; assumption
  · cases h
theorem arrT_some {P : Program} {t e : TypeId} {n : Nat} (h : arrT P t = some (n, e)) : P.underlying t = some (.array n e) := by
  unfold arrT at h
  split at h
  · simp at h; obtain ⟨rfl, rfl⟩ := h; assumption
  · cases h

theorem arrSz_some {σ : List Ob} {o n : Nat} (h : arrSz σ o = n) (h0 : 0 < n) : ∃ mk es, σ[o]? = some (.arr n mk es) := by
  unfold arrSz at h
  split at h
  · subst h; exact ⟨_, _, by assumption⟩
  · omega

/-- What is known of an owned slice's value. -/
theorem vr_sl {c : Cx} {σ : List Ob} (h : SR c σ) {o off len sz : Nat} {mk : Bool} {es : List D} {v : Value} (hx : σ[o]? = some (.arr sz mk es)) (r : c.vr (.sl o off len) v) :
    (c.loc o = .nil ∧ v = .slice none 0 0 ∧ off = 0 ∧ len = 0 ∧ es = []) ∨
    ∃ b base a cap arr e f, c.loc o = .here b base sz ∧ v = .slice (some ⟨b, a, none⟩) len cap ∧ len ≤ cap ∧ (0 < cap → a = base + off * sz) ∧ 0 < sz ∧
      c.w.heap[b]? = some (.cells arr e f) ∧ (a ≤ arr.size ∧ base + (off + cap) * sz = arr.size) ∧ Unfrozen f (arr.size + (if mk then 0 else 1)) ∧ base + es.length * sz ≤ arr.size ∧ RowsR c.im es b base sz := by
  rcases h.get hx with ⟨hl, he⟩ | ⟨b, base, hl, h0, arr, e, f, h1, h2, h3, h4⟩
  · simp only [Cx.vr, VR, hl] at r
    exact .inl ⟨hl, r.1, r.2.1, r.2.2, he⟩
  · simp only [Cx.vr, VR, hl] at r
    obtain ⟨a, cap, rfl, g1, g2, cs, e', f', g3, g4⟩ := r
    rw [h1] at g3
    simp only [Option.some.injEq, Obj.cells.injEq] at g3
    obtain ⟨rfl, rfl, rfl⟩ := g3
    exact .inr ⟨b, base, a, cap, arr, e, f, hl, rfl, g1, g2, h0, h1, g4, h2, h3, h4⟩

theorem indexAddrF_sound {P : Program} {t : TypeId} {c : Cx} {σ : List Ob} (h : SR c σ) {x ix r : V} {vx vi : Value} (e : indexAddrF P t σ x ix = some r) (hx : c.vr x vx) (hi : c.vr ix vi) :
    ∃ v, (Instr.indexAt t vx vi).run P c.w = .ok v c.w ∧ c.vr r v := by
  unfold indexAddrF at e
  split at e
  · rename_i k i
    simp only [Cx.vr, VR, DR] at hi; subst hi
    split at e
    · rename_i o off len
      split at e
      · rename_i el hel
        split at e
        · rename_i cs hcs
          split at e
          · rename_i hs
            obtain ⟨hs0, rfl⟩ := hs
            split at e
            · rename_i hb
              simp only [Option.some.injEq] at e; subst e
              have hu := elemOfSlice_some hel
              obtain ⟨b, bs, hl, arr, ty, f, h1, h2, h3⟩ := h.get hcs
              simp only [Cx.vr, VR, hl] at hx
              obtain ⟨a, cap, rfl, g1, g2, _⟩ := hx
              have ha := g2 (by omega)
              refine ⟨.pointer (some ⟨b, a + i.toNat * szOf P el, none⟩), ?_, ?_⟩
              · simp only [Instr.indexAt, asIntOf, Sem.run_bind, Sem.run_pure, Result.andThen_ok, run_underlying hu, hb, and_self, if_true, run_sizeOf' hs0, Addr.add_lit]
              · simp only [Cx.vr, VR, hl, ha, Nat.zero_mul, Nat.zero_add]
            · cases e
          · cases e
        · rename_i sz cs hcs
          split at e
          · rename_i hs
            obtain ⟨hs0, rfl⟩ := hs
            split at e
            · rename_i hb
              simp only [Option.some.injEq] at e; subst e
              have hu := elemOfSlice_some hel
              obtain ⟨b, base, hl, h0, arr, ty, f, h1, h2, h3⟩ := h.get hcs
              simp only [Cx.vr, VR, hl] at hx
              obtain ⟨a, cap, rfl, g1, g2, _⟩ := hx
              have ha := g2 (by omega)
              refine ⟨.pointer (some ⟨b, a + i.toNat * szOf P el, none⟩), ?_, ?_⟩
              · simp only [Instr.indexAt, asIntOf, Sem.run_bind, Sem.run_pure, Result.andThen_ok, run_underlying hu, hb, and_self, if_true, run_sizeOf' hs0, Addr.add_lit]
              · simp only [Cx.vr, VR, hl, ha, Nat.add_zero, Nat.add_mul, Nat.add_assoc]
            · cases e
          · cases e
        split at e
        · rename_i hs
          split at e
          · rename_i hb
            simp only [Option.some.injEq] at e; subst e
            obtain ⟨mk, es, hes⟩ := arrSz_some hs.2 hs.1
            have hu := elemOfSlice_some hel
            rcases vr_sl h hes hx with ⟨_, _, _, h4, _⟩ | ⟨b, base, a, cap, arr, ty, f, hl, rfl, g1, g2, g3, g4, g5, g6, g7, g8⟩
            · omega
            · have ha := g2 (by omega)
              refine ⟨.pointer (some ⟨b, a + i.toNat * szOf P el, none⟩), ?_, ?_⟩
              · simp only [Instr.indexAt, asIntOf, Sem.run_bind, Sem.run_pure, Result.andThen_ok, run_underlying hu, hb, and_self, if_true, run_sizeOf' hs.1, Addr.add_lit]
              · simp only [Cx.vr, VR, hl, ha, Nat.add_zero, Nat.add_mul]
                congr 3; omega
          · cases e
        · cases e
      · cases e
    · rename_i sz es
      split at e
      · rename_i el hel
        split at e
        · rename_i h0
          obtain ⟨hsz, h0⟩ := h0
          subst hsz
          split at e
          · rename_i d hd
            split at e
            · rename_i hc
              simp only [Option.some.injEq] at e; subst e
              simp only [Cx.vr, VR, DR] at hx
              obtain ⟨ad, cap, rfl, g1, g2⟩ := hx
              have hlt := (List.getElem?_eq_some_iff.1 hd).1
              rcases g2 with g2 | ⟨b, off, rfl, gs, g3, g4⟩
              · subst g2; simp at hlt
              · obtain ⟨u, q1, q2, q3⟩ := RowsR_get g4 _ hd
                obtain ⟨p1, p2, p3⟩ := DR_csz q1 hc
                have hu := elemOfSlice_some hel
                have hb : 0 ≤ i ∧ i < (es.length : Int) := by omega
                refine ⟨.pointer (some ⟨b, off + i.toNat * szOf P el, none⟩), ?_, ?_⟩
                · simp only [Instr.indexAt, asIntOf, Sem.run_bind, Sem.run_pure, Result.andThen_ok, run_underlying hu, hb, and_self, if_true, run_sizeOf' gs, Addr.add_lit]
                · simp only [Cx.vr, VR]
                  refine ⟨b, _, u.cells.toList, rfl, g3, p3, fun j hj => ?_⟩
                  rw [q3 j (by omega)]
                  simp
            · cases e
          · cases e
        · cases e
      · cases e
    · rename_i o j k'
      split at e
      · rename_i n el hel
        split at e
        · rename_i hs
          split at e
          · rename_i hb
            simp only [Option.some.injEq] at e; subst e
            obtain ⟨b, base, sz, hl, rfl⟩ := vr_ptr h hs.2 hx
            have hu := arrT_some hel
            refine ⟨.pointer (some ⟨b, base + j * sz + k' + i.toNat * szOf P el, none⟩), ?_, ?_⟩
            · simp only [Instr.indexAt, asIntOf, Sem.run_bind, Sem.run_pure, Result.andThen_ok, run_underlying hu, hb, and_self, if_true, run_sizeOf' hs.1, Addr.add_lit, Instr.sureAddr]
            · simp only [Cx.vr, VR, hl, Nat.add_assoc]
          · cases e
        · cases e
      · cases e
    · rename_i cs
      split at e
      · rename_i n el hel
        split at e
        · rename_i hs
          split at e
          · rename_i hb
            simp only [Option.some.injEq] at e; subst e
            simp only [Cx.vr, VR] at hx
            obtain ⟨b, off, vs, rfl, g1, g2, g3⟩ := hx
            have hu := arrT_some hel
            refine ⟨.pointer (some ⟨b, off + i.toNat * szOf P el, none⟩), ?_, ?_⟩
            · simp only [Instr.indexAt, asIntOf, Sem.run_bind, Sem.run_pure, Result.andThen_ok, run_underlying hu, hb, and_self, if_true, run_sizeOf' hs, Addr.add_lit, Instr.sureAddr]
            · simp only [Cx.vr, VR]
              refine ⟨b, _, vs.drop (i.toNat * szOf P el), rfl, g1, DRs_drop g2 _, fun j hj => ?_⟩
              rw [List.length_drop] at hj
              rw [Nat.add_assoc, g3 _ (by omega), List.getElem?_drop]
          · cases e
        · cases e
      · cases e
    · cases e
  · cases e

/-- The bounds of a cut: low, high. -/
def bnd : Option V → Nat → Option Nat
  | none, d => some d
  | some (.d (.int _ i)), _ => if 0 ≤ i then some i.toNat else none
  | _, _ => none

/-- 'x[lo:hi:mx]' of a list: where no bound is given nothing is cut. -/
def cutD (es : List D) (lo hi : Option Nat) : List D :=
  match lo, hi with
  | none, none => es
  | some l, none => es.drop l
  | none, some h => es.take h
  | some l, some h => (es.take h).drop l

def natOf : V → Option Nat
  | .d (.int _ i) => if 0 ≤ i then some i.toNat else none
  | _ => none

def optNat : Option V → Option (Option Nat)
  | none => some none
  | some x => (natOf x).map some

def cutS (s : List UInt8) (lo hi : Option Nat) : List UInt8 :=
  match lo, hi with
  | none, none => s
  | some l, none => s.drop l
  | none, some h => s.take h
  | some l, some h => (s.take h).drop l

def sliceF (P : Program) (t : TypeId) (σ : List Ob) (x : V) (lo hi mx : Option V) : Option V :=
  match optNat lo, optNat hi, optNat mx with
  | some lo, some hi, some mx =>
    match x with
    | .d (.str s) => if mx = none ∧ isStrT P t = true then (if lo.getD 0 ≤ hi.getD s.length ∧ hi.getD s.length ≤ s.length then some (.d (.str (cutS s lo hi))) else none) else none
    | .d (.lst sz es) => match elemOfSlice P t with
      | some e => if (mx = none ∨ hi ≠ none) ∧ 0 < szOf P e ∧ sz = szOf P e then (if lo.getD 0 ≤ hi.getD es.length ∧ hi.getD es.length ≤ mx.getD es.length ∧ mx.getD es.length ≤ es.length then
          some (.d (.lst sz (cutD es lo hi))) else none) else none
      | none => none
    | .d .nils => match elemOfSlice P t with
      | some e => if lo.getD 0 = 0 ∧ hi.getD 0 = 0 ∧ mx = none ∧ 0 < szOf P e then some (.d .nils) else none
      | none => none
    | .sl o off len => match elemOfSlice P t with
      | some e => match σ[o]? with
        | some (.arr sz _ es) => if (mx = none ∨ hi ≠ none) ∧ 0 < szOf P e ∧ sz = szOf P e then
            (if lo.getD 0 ≤ hi.getD len ∧ hi.getD len ≤ mx.getD (hi.getD len) ∧ (mx.getD (hi.getD len) ≤ len ∨ off + mx.getD (hi.getD len) ≤ es.length) then some (match mx with | none => .sl o (off + lo.getD 0) (hi.getD len - lo.getD 0) | some _ => .undef) else none) else none
        | some (.vec sz cs) => if (mx = none ∨ hi ≠ none) ∧ 0 < szOf P e ∧ sz = szOf P e then
            (if lo.getD 0 ≤ hi.getD len ∧ hi.getD len ≤ mx.getD (hi.getD len) ∧ (mx.getD (hi.getD len) ≤ len ∨ (off + mx.getD (hi.getD len)) * sz ≤ cs.length) then some (match mx with | none => .sl o (off + lo.getD 0) (hi.getD len - lo.getD 0) | some _ => .undef) else none) else none
        | _ => none
      | none => none
    | _ => none
  | _, _, _ => none

theorem natOf_some {c : Cx} {x : V} {n : Nat} (h : natOf x = some n) {v : Value} (r : c.vr x v) : ∃ k : IntKind, v = .int k (n : Int) := by
  unfold natOf at h
  split at h
  · rename_i k i
    split at h
    · simp at h
      simp only [Cx.vr, VR, DR] at r
      exact ⟨k, by rw [r, ← h]; congr 1; omega⟩
    · cases h
  · cases h

def ovr (c : Cx) : Option V → Option Value → Prop
  | some x, some v => c.vr x v
  | none, none => True
  | _, _ => False

theorem optNat_some {c : Cx} {x : Option V} {n : Option Nat} (h : optNat x = some n) {v : Option Value} (r : ovr c x v) :
    (n = none ∧ v = none) ∨ ∃ (m : Nat) (k : IntKind), n = some m ∧ v = some (.int k (m : Int)) := by
  cases x with
  | none =>
    simp [optNat] at h
    cases v with
    | none => exact .inl ⟨h.symm, rfl⟩
    | some v => exact r.elim
  | some x =>
    simp only [optNat] at h
    cases hn : natOf x with
    | none => rw [hn] at h; cases h
    | some m =>
      rw [hn] at h; simp at h; subst h
      cases v with
      | none => exact r.elim
      | some v =>
        obtain ⟨k, rfl⟩ := natOf_some hn r
        exact .inr ⟨m, k, rfl, rfl⟩

theorem run_bound {P : Program} (w : World) (k : IntKind) (m y : Nat) (code : BoundsCode) (h : m ≤ y) : (Instr.sliceBound (.int k (m : Int)) y code).run P w = .ok m w := by
  have : (0 : Int) ≤ m ∧ (m : Int) ≤ (y : Int) := by omega
  simp [Instr.sliceBound, asIntOf, this]

/-- What the bounds come to. -/
theorem run_bounds {P : Program} (w : World) (isS : Bool) (len cap : Nat) (lo hi mx : Option Nat) (vlo vhi vmx : Option Value)
    (hlo : (lo = none ∧ vlo = none) ∨ ∃ (m : Nat) (k : IntKind), lo = some m ∧ vlo = some (.int k (m : Int)))
    (hhi : (hi = none ∧ vhi = none) ∨ ∃ (m : Nat) (k : IntKind), hi = some m ∧ vhi = some (.int k (m : Int)))
    (hmx : (mx = none ∧ vmx = none) ∨ ∃ (m : Nat) (k : IntKind), mx = some m ∧ vmx = some (.int k (m : Int)))
    (h0 : mx = none ∨ hi ≠ none) (hle : len ≤ cap) (h1 : lo.getD 0 ≤ hi.getD len) (h2 : hi.getD len ≤ mx.getD cap) (h3 : mx.getD cap ≤ cap) :
    (Instr.sliceBounds isS len cap vlo vhi vmx).run P w = .ok (lo.getD 0, hi.getD len, mx.getD cap) w := by
  rcases hmx with ⟨rfl, rfl⟩ | ⟨m, km, rfl, rfl⟩ <;> rcases hhi with ⟨rfl, rfl⟩ | ⟨h, kh, rfl, rfl⟩ <;> rcases hlo with ⟨rfl, rfl⟩ | ⟨l, kl, rfl, rfl⟩ <;> simp only [Option.getD_none, Option.getD_some] at h1 h2 h3 ⊢
  all_goals first
    | (simp at h0; done)
    | simp [Instr.sliceBounds, run_bound, h1, h2, h3]

theorem cutS_eq (s : List UInt8) (lo hi : Option Nat) : cutS s lo hi = (s.take (hi.getD s.length)).drop (lo.getD 0) := by
  cases lo <;> cases hi <;> simp [cutS]
theorem cutD_eq (s : List D) (lo hi : Option Nat) : cutD s lo hi = (s.take (hi.getD s.length)).drop (lo.getD 0) := by
  cases lo <;> cases hi <;> simp [cutD]

theorem extract_mk (s : List UInt8) (l h : Nat) : (⟨s.toArray⟩ : ByteArray).extract l h = ⟨((s.take h).drop l).toArray⟩ := by
  apply ByteArray.ext
  rw [ByteArray.data_extract]
  apply Array.ext'
  simp [List.extract_eq_take_drop, List.drop_take]

theorem sliceF_sound {P : Program} {t : TypeId} {c : Cx} {σ : List Ob} (h : SR c σ) {x r : V} {lo hi mx : Option V} {vx : Value} {vlo vhi vmx : Option Value} (e : sliceF P t σ x lo hi mx = some r) (hx : c.vr x vx)
    (hlo : ovr c lo vlo) (hhi : ovr c hi vhi) (hmx : ovr c mx vmx) : ∃ v, (Instr.sliceAt t vx vlo vhi vmx).run P c.w = .ok v c.w ∧ c.vr r v := by
  unfold sliceF at e
  split at e
  · rename_i ln hn mn e1 e2 e3
    have b1 := optNat_some e1 hlo
    have b2 := optNat_some e2 hhi
    have b3 := optNat_some e3 hmx
    split at e
    · rename_i s
      split at e
      · rename_i h0
        split at e
        · rename_i h1
          simp only [Option.some.injEq] at e; subst e
          have hu := isStrT_some h0.2
          simp only [Cx.vr, VR, DR] at hx; subst hx
          have b3' : vmx = none := by
            rcases b3 with ⟨_, q⟩ | ⟨m, k, q, _⟩
            · exact q
            · rw [h0.1] at q; cases q
          subst b3'
          have hb := run_bounds (P := P) c.w false s.length s.length ln hn none vlo vhi none b1 b2 (.inl ⟨rfl, rfl⟩) (.inl rfl) (Nat.le_refl _) h1.1 (by simpa using h1.2) (by simp)
          refine ⟨.string ⟨((s.take (hn.getD s.length)).drop (ln.getD 0)).toArray⟩, ?_, ?_⟩
          · simp only [Instr.sliceAt, Sem.run_bind, run_underlying hu, Result.andThen_ok, Instr.slice, Option.isSome_none, Bool.false_eq_true, if_false, Sem.run_pure, size_mk, hb, extract_mk]
          · simp only [Cx.vr, VR, DR, cutS_eq]
        · cases e
      · cases e
    · rename_i sz es
      split at e
      · rename_i el hel
        split at e
        · rename_i h0
          obtain ⟨h0, hz, rfl⟩ := h0
          split at e
          · rename_i h1
            simp only [Option.some.injEq] at e; subst e
            have hu := elemOfSlice_some hel
            simp only [Cx.vr, VR, DR] at hx
            obtain ⟨a, cap, rfl, g1, g2⟩ := hx
            have hm2 : hn.getD es.length ≤ mn.getD cap := by
              cases mn with
              | none => have := h1.2.1; simp at this ⊢; omega
              | some m => exact h1.2.1
            have hm3 : mn.getD cap ≤ cap := by
              cases mn with
              | none => simp
              | some m => have := h1.2.2; simp at this ⊢; omega
            have hb := run_bounds (P := P) c.w true es.length cap ln hn mn vlo vhi vmx b1 b2 b3 h0 g1 h1.1 hm2 hm3
            have hh : hn.getD es.length ≤ es.length := by have := h1.2; omega
            refine ⟨.slice (if mn.getD cap = ln.getD 0 then a else a.map (·.add (ln.getD 0 * szOf P el))) (hn.getD es.length - ln.getD 0) (mn.getD cap - ln.getD 0), ?_, ?_⟩
            · simp only [Instr.sliceAt, Instr.slice, Sem.run_bind, run_underlying hu, Result.andThen_ok, hb, run_sizeOf' hz, Sem.run_pure]
            · simp only [Cx.vr, VR, DR, cutD_eq]
              have hlen : ((es.take (hn.getD es.length)).drop (ln.getD 0)).length = hn.getD es.length - ln.getD 0 := by
                rw [List.length_drop, List.length_take]; omega
              refine ⟨_, _, by rw [hlen], by rw [hlen]; omega, ?_⟩
              by_cases he : (es.take (hn.getD es.length)).drop (ln.getD 0) = []
              · exact .inl he
              · right
                rcases g2 with g2 | ⟨b, off, rfl, gs, g3, g4⟩
                · subst g2; simp at he
                · have hne : ¬ mn.getD cap = ln.getD 0 := by
                    intro q
                    apply he
                    apply List.eq_nil_of_length_eq_zero
                    omega
                  refine ⟨b, off + ln.getD 0 * szOf P el, by simp [hne, Addr.add_lit], gs, g3, RowsR_drop (RowsR_take g4 _) _⟩
          · cases e
        · cases e
      · cases e
    · split at e
      · rename_i el hel
        split at e
        · rename_i h0
          obtain ⟨h0, h1, rfl, hz⟩ := h0
          simp only [Option.some.injEq] at e; subst e
          have hu := elemOfSlice_some hel
          simp only [Cx.vr, VR, DR] at hx; subst hx
          have hb := run_bounds (P := P) c.w true 0 0 ln hn none vlo vhi vmx b1 b2 b3 (.inl rfl) (Nat.le_refl _) (by omega) (by simpa using h1) (by simp)
          refine ⟨.slice none 0 0, ?_, by simp [Cx.vr, VR, DR]⟩
          simp only [Instr.sliceAt, Instr.slice, Sem.run_bind, run_underlying hu, Result.andThen_ok, hb, run_sizeOf' hz, Sem.run_pure, h0, h1]
          simp
        · cases e
      · cases e
    · rename_i o off len
      split at e
      · rename_i el hel
        split at e
        · rename_i sz mk es hes
          split at e
          · rename_i h0
            obtain ⟨h0, hz, rfl⟩ := h0
            split at e
            · rename_i h1
              simp only [Option.some.injEq] at e; subst e
              have hu := elemOfSlice_some hel
              rcases vr_sl h hes hx with ⟨hl, rfl, rfl, rfl, rfl⟩ | ⟨b, base, a, cap, arr, ty, f, hl, rfl, g1, g2, g3, g4, g5, g6, g7, g8⟩
              · have h13 : mn.getD (hn.getD 0) ≤ 0 := by have := h1.2.2; simp at this; omega
                have hb := run_bounds (P := P) c.w true 0 0 ln hn mn vlo vhi vmx b1 b2 b3 h0 (Nat.le_refl _) h1.1 (by cases mn with
                  | none => simpa using h13
                  | some m => exact h1.2.1) (by cases mn with
                  | none => simp
                  | some m => exact h13)
                have z2 : hn.getD 0 = 0 := by have := h1.2.1; omega
                have z1 : ln.getD 0 = 0 := by omega
                have z3 : mn.getD 0 = 0 := by cases mn with
                  | none => rfl
                  | some m => simpa using h13
                refine ⟨.slice none 0 0, ?_, by cases mn <;> simp [Cx.vr, VR, hl, z1, z2]⟩
                simp only [Instr.sliceAt, Instr.slice, Sem.run_bind, run_underlying hu, Result.andThen_ok, hb, run_sizeOf' hz, Sem.run_pure, z1, z2, z3]
                simp
              · have hcap : es.length ≤ off + cap := by
                  have : base + es.length * szOf P el ≤ base + (off + cap) * szOf P el := by rw [g5.2]; exact g7
                  exact Nat.le_of_mul_le_mul_right (by omega : es.length * szOf P el ≤ (off + cap) * szOf P el) hz
                have hmc : mn.getD (hn.getD len) ≤ cap := by have := h1.2.2; omega
                have hm2 : hn.getD len ≤ mn.getD cap := by
                  cases mn with
                  | none => simpa using hmc
                  | some m => exact h1.2.1
                have hm3 : mn.getD cap ≤ cap := by
                  cases mn with
                  | none => simp
                  | some m => exact hmc
                have hb := run_bounds (P := P) c.w true len cap ln hn mn vlo vhi vmx b1 b2 b3 h0 g1 h1.1 hm2 hm3
                refine ⟨.slice (if mn.getD cap = ln.getD 0 then some ⟨b, a, none⟩ else (some ⟨b, a, none⟩ : Option Addr).map (·.add (ln.getD 0 * szOf P el))) (hn.getD len - ln.getD 0) (mn.getD cap - ln.getD 0), ?_, ?_⟩
                · simp only [Instr.sliceAt, Instr.slice, Sem.run_bind, run_underlying hu, Result.andThen_ok, hb, run_sizeOf' hz, Sem.run_pure]
                · cases mn with
                  | some m => simp [Cx.vr, VR]
                  | none =>
                    simp only [Cx.vr, VR, hl, Option.getD_none]
                    simp only [Option.getD_none] at hm2 hmc
                    have hlc : ln.getD 0 ≤ cap := by omega
                    have hoc : off + ln.getD 0 + (cap - ln.getD 0) = off + cap := by omega
                    by_cases q : cap = ln.getD 0
                    · refine ⟨a, cap - ln.getD 0, by rw [if_pos q], by omega, fun q' => by omega, arr, ty, f, g4, g5.1, ?_⟩
                      rw [hoc]; exact g5.2
                    · refine ⟨a + ln.getD 0 * szOf P el, cap - ln.getD 0, by simp [q, Addr.add_lit], by omega, fun q' => ?_, arr, ty, f, g4, ?_, ?_⟩
                      · rw [g2 (by omega), Nat.add_mul]; omega
                      · have q1 : off + ln.getD 0 ≤ off + cap := by omega
                        have q2 := Nat.mul_le_mul_right (szOf P el) q1
                        have q3 := g5.2
                        rw [Nat.add_mul] at q2
                        rw [g2 (by omega)]
                        omega
                      · rw [hoc]; exact g5.2
            · cases e
          · cases e
        · rename_i sz cs hes
          split at e
          · rename_i h0
            obtain ⟨h0, hz, rfl⟩ := h0
            split at e
            · rename_i h1
              simp only [Option.some.injEq] at e; subst e
              have hu := elemOfSlice_some hel
              obtain ⟨b, base, hl, _, arr, ty, f, g4, hfz, us, hule, hat, h3⟩ := h.get hes
              have hul := VRs_length h3
              simp only [Cx.vr, VR, hl] at hx
              obtain ⟨a, cap, rfl, g1, g2, cs', e', f', gh, g5⟩ := hx
              rw [g4] at gh
              simp only [Option.some.injEq, Obj.cells.injEq] at gh
              obtain ⟨rfl, rfl, rfl⟩ := gh
              · have hmc : mn.getD (hn.getD len) ≤ cap := by
                  rcases h1.2.2 with q | q
                  · omega
                  · have : (off + mn.getD (hn.getD len)) * szOf P el ≤ (off + cap) * szOf P el := by have := g5.2; omega
                    have := Nat.le_of_mul_le_mul_right this hz
                    omega
                have hm2 : hn.getD len ≤ mn.getD cap := by
                  cases mn with
                  | none => simpa using hmc
                  | some m => exact h1.2.1
                have hm3 : mn.getD cap ≤ cap := by
                  cases mn with
                  | none => simp
                  | some m => exact hmc
                have hb := run_bounds (P := P) c.w true len cap ln hn mn vlo vhi vmx b1 b2 b3 h0 g1 h1.1 hm2 hm3
                refine ⟨.slice (if mn.getD cap = ln.getD 0 then some ⟨b, a, none⟩ else (some ⟨b, a, none⟩ : Option Addr).map (·.add (ln.getD 0 * szOf P el))) (hn.getD len - ln.getD 0) (mn.getD cap - ln.getD 0), ?_, ?_⟩
                · simp only [Instr.sliceAt, Instr.slice, Sem.run_bind, run_underlying hu, Result.andThen_ok, hb, run_sizeOf' hz, Sem.run_pure]
                · cases mn with
                  | some m => simp [Cx.vr, VR]
                  | none =>
                    simp only [Cx.vr, VR, hl, Option.getD_none]
                    simp only [Option.getD_none] at hm2 hmc
                    have hlc : ln.getD 0 ≤ cap := by omega
                    have hoc : off + ln.getD 0 + (cap - ln.getD 0) = off + cap := by omega
                    by_cases q : cap = ln.getD 0
                    · refine ⟨a, cap - ln.getD 0, by rw [if_pos q], by omega, fun q' => by omega, arr, ty, f, g4, g5.1, ?_⟩
                      rw [hoc]; exact g5.2
                    · refine ⟨a + ln.getD 0 * szOf P el, cap - ln.getD 0, by simp [q, Addr.add_lit], by omega, fun q' => ?_, arr, ty, f, g4, ?_, ?_⟩
                      · rw [g2 (by omega), Nat.add_mul]; omega
                      · have q1 : off + ln.getD 0 ≤ off + cap := by omega
                        have q2 := Nat.mul_le_mul_right (szOf P el) q1
                        have q3 := g5.2
                        rw [Nat.add_mul] at q2
                        rw [g2 (by omega)]
                        omega
                      · rw [hoc]; exact g5.2
            · cases e
          · cases e
        · cases e
      · cases e
    · cases e
  · cases e
end Go.Proofs.YtchgfpehcjomeaaGreatDoor.Am
