/- The law of apartness: its lists, its three loops. -/
import Derived.Test.YtadddaafajennaaNr
set_option linter.unusedSimpArgs false
set_option linter.unusedVariables false
set_option maxRecDepth 10000
set_option maxHeartbeats 4000000
namespace Go.Proofs.Ytadddaafajennaa.Am
open Go Go.Proofs

theorem bin_quo5 {P : Program} {t : TypeId} {σ : List Ob} (k : Nat) (hk : k < 1000) : binF P .quo t σ (.d (.int .i64 (k : Int))) (.d (.int .i64 5)) = some (.d (.int .i64 ((k / 5 : Nat) : Int))) := by
  have e1 : (k : Int).tdiv 5 = ((k / 5 : Nat) : Int) := by rw [Int.tdiv_eq_ediv_of_nonneg (by omega)]; omega
  have e2 : IntKind.i64.wrap ((k / 5 : Nat) : Int) = ((k / 5 : Nat) : Int) := by rw [IntWalk.i64_in _ (by omega)]
  have e3 : binF P .quo t σ (.d (.int .i64 (k : Int))) (.d (.int .i64 5)) = some (.d (.int .i64 (IntKind.i64.wrap ((k : Int).tdiv 5)))) := by simp [binF, intBin]
  rw [e3, e1, e2]
theorem bin_rem5 {P : Program} {t : TypeId} {σ : List Ob} (k : Nat) : binF P .rem t σ (.d (.int .i64 (k : Int))) (.d (.int .i64 5)) = some (.d (.int .i64 ((k % 5 : Nat) : Int))) := by
  have e1 : (k : Int).tmod 5 = ((k % 5 : Nat) : Int) := by rw [Int.tmod_eq_emod_of_nonneg (by omega)]; omega
  simp [binF, intBin, e1]

def bD (b : Bool) : D := .bool b
def iD (n : Nat) : D := .int .i64 n
def ArrL (σ : List Ob) (q : Option Nat) (ds : List D) : Prop := match q with | none => ds = [] | some q => ∃ mk, σ[q]? = some (.arr 1 mk ds)

theorem ArrL.keep {σ σ' : List Ob} {q : Option Nat} {ds : List D} (h : ArrL σ q ds) (hk : ∀ p x, q = some p → σ[p]? = some x → σ'[p]? = some x) : ArrL σ' q ds := by
  cases q with
  | none => exact h
  | some q => obtain ⟨mk, h⟩ := h; exact ⟨mk, hk q _ rfl h⟩
theorem ArrL.lt {σ : List Ob} {p : Nat} {ds : List D} (h : ArrL σ (some p) ds) : p < σ.length := by
  obtain ⟨mk, h⟩ := h
  exact lt_of_get h

theorem app_one {σ : List Ob} {q : Option Nat} {ds : List D} {d : D} (h : ArrL σ q ds) (hl : ds.length ≤ 1048576) {t e : TypeId} {b : Nat} (he : elemOfSlice Try.prog t = some e) (hk : elemOk Try.prog e = true) (hz : szOf Try.prog e = 1) (ht : isSliceT Try.prog t = true) (hbt : bytesT Try.prog e = b) (hb : b ≤ 8) :
    ∃ q' σ', appE Try.prog t t (σ ++ [.arr 1 false [d]]) (cellQ q ds.length) (.sl σ.length 0 1) = some (cellQ q' (ds.length + 1), σ') ∧ ArrL σ' q' (ds ++ [d]) ∧ (∀ p, q' = some p → q = some p ∨ σ.length ≤ p) ∧ Keeps (fun o => q = some o) σ σ' := by
  have g1 : (σ ++ [Ob.arr 1 false [d]])[σ.length]? = some (.arr 1 false [d]) := by simp
  have hs : srcD Try.prog e (σ ++ [Ob.arr 1 false [d]]) t (.sl σ.length 0 1) = some [d] := src_sl (P := Try.prog) (tx := t) (e := e) (off := 0) (len := 1) g1 ht hz (by simp)
  cases q with
  | none =>
    simp only [ArrL] at h; subst h
    have ap := app_nil (P := Try.prog) (t := t) (e := e) he hk hs (b := b) hbt (by simp; omega) (by omega)
    rw [hz] at ap
    refine ⟨some (σ.length + 1), σ ++ [Ob.arr 1 false [d]] ++ [Ob.arr 1 false [d]], by rw [List.length_nil, cellQ, ap]; simp [cellQ], ⟨false, ?_⟩, ?_, ?_⟩
    · rw [List.getElem?_append_right (by simp)]; simp
    · intro p e; cases e; right; simp
    · rw [List.append_assoc]; exact Keeps.app _ _ _
  | some q =>
    obtain ⟨mk, ho⟩ := h
    have ho' : (σ ++ [Ob.arr 1 false [d]])[q]? = some (.arr 1 mk ds) := app_get ho _
    obtain ⟨p, σ', a1, a2, a3, a4⟩ := app_any (P := Try.prog) (t := t) (tx := t) (e := e) ho' he hk hz hs (b := b) hbt (by simp; have : (ds.length + 1) * b ≤ 1048577 * 8 := Nat.mul_le_mul (by omega) hb; omega) (by omega)
    refine ⟨some p, σ', ?_, ⟨mk, a2⟩, ?_, ?_⟩
    · rw [cellQ, a1]; simp [cellQ]
    · intro p' e; cases e
      rcases a3 with rfl | a3
      · exact .inl rfl
      · right; simp at a3; omega
    · exact (Keeps.app (fun o => some q = some o) σ _).trans (a4.mono fun o e => by rw [e]) (fun _ _ h => h)


/-- The network of five, the law's step, its two lists. -/
structure Ap (L : Nat) (R : Nat → Nat) (A B : Links) (Q : Nat → Nat → Option Nat) (role : Nat → Role) (cs : List D) (σ : List Ob) (q1 q2 : Option Nat) (k : Nat) : Prop where
  net : NetAt σ 2 5 A L R Q role
  bx : σ[0]? = some (.box (cs.map .d))
  r0 : role 0 = .other
  w1 : ArrL σ q1 ((List.range k).map fun i => iD (lenK B i))
  w2 : ArrL σ q2 ((List.range k).map fun i => bD (offK B i))
  o1 : ∀ p, q1 = some p → role p = .other ∧ p ≠ 0
  o2 : ∀ p, q2 = some p → role p = .other ∧ p ≠ 0
  ne : ∀ p, q1 = some p → q2 ≠ some p

section
variable {L : Nat} {R : Nat → Nat} {A B : Links} {Q : Nat → Nat → Option Nat} {role : Nat → Role} {cs : List D} {σ : List Ob} {q1 q2 : Option Nat} {k : Nat}

theorem fresh_other (h : NetAt σ 2 5 A L R Q role) {p : Nat} (hp : σ.length ≤ p) : role p = .other := by
  refine Classical.byContradiction fun q => ?_
  have := h.rlt p q
  omega

theorem range_succ_map (f : Nat → D) (k : Nat) : (List.range (k + 1)).map f = (List.range k).map f ++ [f k] := by simp [List.range_succ]

theorem Ap.put1 (h : Ap L R A A Q role cs σ q1 q2 k) {σ' : List Ob} {q' : Option Nat} (h1 : ArrL σ' q' ((List.range k).map (fun i => iD (lenK A i)) ++ [iD (lenK A k)])) (hq : ∀ p, q' = some p → q1 = some p ∨ σ.length ≤ p) (hk : Keeps (fun o => q1 = some o) σ σ') :
    NetAt σ' 2 5 A L R Q role ∧ σ'[0]? = some (.box (cs.map .d)) ∧ ArrL σ' q' ((List.range (k + 1)).map fun i => iD (lenK A i)) ∧ ArrL σ' q2 ((List.range k).map fun i => bD (offK A i)) ∧ (∀ p, q' = some p → role p = .other ∧ p ≠ 0) ∧ (∀ p, q' = some p → q2 ≠ some p) := by
  have h0 := lt_of_get h.bx
  refine ⟨h.net.keep hk fun o e => (h.o1 o e).1, hk.get h.bx fun e => (h.o1 0 e).2 rfl, by rw [range_succ_map]; exact h1, h.w2.keep fun p x e hx => hk.get hx fun e' => h.ne p e' e, fun p e => ?_, fun p e e2 => ?_⟩
  · rcases hq p e with g | g
    · exact h.o1 p g
    · exact ⟨fresh_other h.net g, by omega⟩
  · rcases hq p e with g | g
    · exact h.ne p g e2
    · have := h.w2; rw [e2] at this; have := this.lt; omega
end
end Go.Proofs.Ytadddaafajennaa.Am
