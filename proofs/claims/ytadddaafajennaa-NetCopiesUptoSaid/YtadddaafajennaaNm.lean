/- The laws' own small functions: pick, without. -/
import Derived.Test.YtadddaafajennaaNl
set_option linter.unusedSimpArgs false
set_option linter.unusedVariables false
set_option maxRecDepth 10000
namespace Go.Proofs.Ytadddaafajennaa.Am
open Go Go.Proofs

theorem bin_rem {P : Program} {t : TypeId} {σ : List Ob} {k : IntKind} {a b : Int} (hb : b ≠ 0) : binF P .rem t σ (.d (.int k a)) (.d (.int k b)) = some (.d (.int k (a.tmod b))) := by simp [binF, intBin, hb]

def pickN (n : Int) (m : Nat) : Nat := if n.tmod m < 0 then (n.tmod m + m).toNat else (n.tmod m).toNat

theorem pickN_lt (n : Int) {m : Nat} (hm : 0 < m) : pickN n m < m := by
  have h1 := Int.tmod_lt_of_pos n (b := (m : Int)) (by omega)
  unfold pickN
  split <;> omega

theorem pick12 (n : Int) (m : Nat) (hm : 0 < m) (h8 : m ≤ 8) (τ : List Ob) : callA Try.prog 12 [.d (.int .i64 n), .d (.int .i64 m)] τ fun r σ' => r = .d (.int .i64 (pickN n m)) ∧ σ' = τ := by
  refine callA_val ?_ τ rfl
  refine w12.go fun K hK => ?_
  have h1 := Int.tmod_lt_of_pos n (b := (m : Int)) (by omega)
  have h2 := Int.lt_tmod_of_pos n (b := (m : Int)) (by omega)
  have hm' : (m : Int) ≠ 0 := by omega
  have br := fun (P : Program) (t : TypeId) (σ : List Ob) (k : IntKind) => bin_rem (P := P) (t := t) (σ := σ) (k := k) (a := n) hm'
  by_cases c : n.tmod m < 0
  · have e1 : decide (n.tmod m < 0) = true := by simpa using c
    have w1 : IntKind.i64.wrap (n.tmod m + m) = ((pickN n m : Nat) : Int) := by rw [IntWalk.i64_in _ (by omega)]; unfold pickN; rw [if_pos c]; omega
    simp only [e12, c12, p12, Try.f12, codeOf, comp, opsOf, stOf, cop, cstp, copAt, planFor, List.find?, List.find?_nil, Option.map_none, Option.getD_none, List.any_cons, List.any_nil, Stp.idx, Bool.or_false, Nat.reduceBEq, ↓RP, RS, Int.reduceBEq, Int.reduceBNe, Int.reduceLT, Int.reduceLE, Int.reduceAdd, Int.reduceSub, ↓reduceIte, Nat.reduceAdd, Nat.reduceMul, Nat.reduceSub, Nat.reduceLT, Nat.reduceLeDiff, Nat.reduceEqDiff, decide_true, decide_false, fieldAddrF, undE, tupE, W12, br, e1, w1]
    exact hK.ret (by rfl) ⟨rfl, rfl⟩
  · have e1 : decide (n.tmod m < 0) = false := by simpa using c
    have w1 : n.tmod m = ((pickN n m : Nat) : Int) := by unfold pickN; rw [if_neg c]; omega
    simp only [e12, c12, p12, Try.f12, codeOf, comp, opsOf, stOf, cop, cstp, copAt, planFor, List.find?, List.find?_nil, Option.map_none, Option.getD_none, List.any_cons, List.any_nil, Stp.idx, Bool.or_false, Nat.reduceBEq, ↓RP, RS, Int.reduceBEq, Int.reduceBNe, Int.reduceLT, Int.reduceLE, Int.reduceAdd, Int.reduceSub, ↓reduceIte, Nat.reduceAdd, Nat.reduceMul, Nat.reduceSub, Nat.reduceLT, Nat.reduceLeDiff, Nat.reduceEqDiff, decide_true, decide_false, fieldAddrF, undE, tupE, W12, br, e1]
    exact hK.ret (by rfl) ⟨by rw [w1]; rfl, rfl⟩

theorem load_arr1 {P : Program} {t : TypeId} {σ : List Ob} {o i : Nat} {mk : Bool} {es : List D} {d : D} (h1 : σ[o]? = some (.arr 1 mk es)) (h2 : es[i]? = some d) (hd : one1 d = true) (ha : aggT P t = false) (ht : okT P t = true) : loadF P t σ (.ptr o i 0) = some (.d d) := by
  have e1 : d.csz = some 1 := by cases d <;> first | rfl | cases hd
  have e2 : d.cells = [d] := by cases d <;> first | rfl | cases hd
  simp only [loadF, h1, h2, e1, if_true, takeD, e2, List.drop_zero, ha, ht, Bool.false_eq_true, if_false]

theorem erase_eq {α : Type} (es : List α) (i : Nat) : es.take i ++ es.drop (i + 1) = es.eraseIdx i := (List.eraseIdx_eq_take_drop_succ es i).symm

/-- An append to a slice of its own, whether there is room or not. -/
theorem app_any {P : Program} {t tx e : TypeId} {σ : List Ob} {p sz : Nat} {mk : Bool} {es ds : List D} {src : V} (h1 : σ[p]? = some (.arr sz mk es)) (he : elemOfSlice P t = some e) (hk : elemOk P e = true) (hz : szOf P e = sz) (hs : srcD P e σ tx src = some ds) {b : Nat} (hbt : bytesT P e = b) (hb : (es.length + ds.length) * b ≤ 70368744177664) (hb' : b ≤ 16384) :
    ∃ p' σ', appE P t tx σ (.sl p 0 es.length) src = some (.sl p' 0 (es.length + ds.length), σ') ∧ σ'[p']? = some (.arr sz mk (es ++ ds)) ∧ (p' = p ∨ σ.length ≤ p') ∧ Keeps (fun o => o = p) σ σ' := by
  cases ds with
  | nil =>
    have := app_in (P := P) (t := t) (tx := tx) (e := e) (off := 0) (len := es.length) (src := src) h1 he hk hz hs (by simp)
    refine ⟨_, _, this, ?_, .inl rfl, Keeps.set _ _ rfl⟩
    rw [List.getElem?_set_self (lt_of_get h1)]
    simp [over]
  | cons d ds =>
    have := app_new (P := P) (t := t) (tx := tx) (e := e) (off := 0) (len := es.length) (src := src) h1 he hk hz hs (by simp) (by simp) hbt hb hb'
    refine ⟨_, _, this, ?_, .inr (Nat.le_refl _), (Keeps.set (S := fun o => o = p) _ _ rfl).trans (Keeps.app _ _ _) (fun _ _ h => h)⟩
    rw [List.getElem?_append_right (by simp)]
    simp

theorem without31 {σ : List Ob} {o i : Nat} {mk : Bool} {es : List D} (h : σ[o]? = some (.arr 1 mk es)) (hi : i < es.length) (hl : es.length ≤ 1048576) : callA Try.prog 31 [.sl o 0 es.length, .d (.int .i64 i)] σ fun r σ' => ∃ o', r = .sl o' 0 (es.eraseIdx i).length ∧ σ.length ≤ o' ∧ σ'[o']? = some (.arr 1 false (es.eraseIdx i)) ∧ Keeps (fun _ => False) σ σ' := by
  refine w31.go fun K hK => ?_
  have w1 : IntKind.i64.wrap ((i : Int) + 1) = ((i + 1 : Nat) : Int) := by rw [IntWalk.i64_in _ (by omega)]; rfl
  have ho := lt_of_get h
  have s1 : ∀ τ : List Ob, τ[o]? = some (.arr 1 mk es) → sliceF Try.prog 55 τ (.sl o 0 es.length) none (some (.d (.int .i64 (i : Int)))) none = some (.sl o 0 i) := fun τ h => slc_hi (P := Try.prog) (t := 55) (e := 3) (off := 0) h (by simp only [W31]) (by simp only [W31]) (by decide) (.inl (Nat.le_of_lt hi))
  have s2 : ∀ τ : List Ob, τ[o]? = some (.arr 1 mk es) → sliceF Try.prog 55 τ (.sl o 0 es.length) (some (.d (.int .i64 ((i + 1 : Nat) : Int)))) none none = some (.sl o (i + 1) (es.length - (i + 1))) := fun τ h => by
    have := slc_lo (P := Try.prog) (t := 55) (e := 3) (k1 := .i64) (off := 0) (len := es.length) (a := i + 1) h (by simp only [W31]) (by simp only [W31]) (by decide) hi
    rw [Nat.zero_add] at this; exact this
  have b1 : ∀ s, buildSliceF Try.prog 55 0 σ s [] = some (.sl σ.length 0 0, σ ++ [.arr 1 false []]) := fun s => by
    simp only [buildSliceF, W31, inOrder, toDs]; rfl
  generalize hσ1 : σ ++ [Ob.arr 1 false []] = σ1 at b1
  have g1 : σ1[o]? = some (.arr 1 mk es) := by rw [← hσ1]; exact app_get h _
  have g2 : σ1[σ.length]? = some (.arr 1 false []) := by rw [← hσ1]; simp
  have gl : σ1.length = σ.length + 1 := by rw [← hσ1]; simp
  obtain ⟨p1, σ2, a1, q1, q2, q3⟩ := app_any (P := Try.prog) (t := 55) (tx := 55) (e := 3) (b := 8) g2 (by simp only [W31]) (by simp only [W31]) (by simp only [W31]) (src_sl (tx := 55) (off := 0) (len := i) g1 (by simp only [W31]) (by simp only [W31]) (by omega)) (by simp only [W31]) (by simp; omega) (by decide)
  have g3 : σ2[o]? = some (.arr 1 mk es) := q3.get g1 (by omega)
  rw [List.drop_zero, List.nil_append] at q1
  have e1 : (es.take i).length = i := by simp; omega
  obtain ⟨p2, σ3, a2, r1, r2, r3⟩ := app_any (P := Try.prog) (t := 55) (tx := 55) (e := 3) (b := 8) q1 (by simp only [W31]) (by simp only [W31]) (by simp only [W31]) (src_sl (tx := 55) (off := i + 1) (len := es.length - (i + 1)) g3 (by simp only [W31]) (by simp only [W31]) (by omega)) (by simp only [W31]) (by simp; omega) (by decide)
  have e2 : (es.drop (i + 1)).take (es.length - (i + 1)) = es.drop (i + 1) := List.take_of_length_le (by simp)
  rw [e2, erase_eq] at r1
  simp only [List.drop_zero, List.length_nil, Nat.zero_add, e1] at a1
  rw [e1, e2] at a2
  have g4 := g1
  simp only [e31, c31, p31, Try.f31, codeOf, comp, opsOf, stOf, cop, cstp, copAt, planFor, List.find?, List.find?_nil, Option.map_none, Option.getD_none, List.any_cons, List.any_nil, Stp.idx, Bool.or_false, Nat.reduceBEq, ↓RP, RS, Int.reduceBEq, Int.reduceBNe, Int.reduceLT, Int.reduceLE, Int.reduceAdd, Int.reduceSub, ↓reduceIte, Nat.reduceAdd, Nat.reduceMul, Nat.reduceSub, Nat.reduceLT, Nat.reduceLeDiff, Nat.reduceEqDiff, decide_true, decide_false, fieldAddrF, undE, tupE, W31, s1 _ h, w1, s2 _ h, b1, chkC, wantC, s1 _ g1, s2 _ g1, s1 _ g3, s2 _ g3, a1, a2]
  refine hK.ret (by rfl) ⟨p2, ?_, ?_, r1, ?_⟩
  · have e9 : i + (es.drop (i + 1)).length = (es.eraseIdx i).length := by rw [List.length_eraseIdx_of_lt hi, List.length_drop]; omega
    show V.sl p2 0 (i + (es.drop (i + 1)).length) = _
    rw [e9]
  · rcases r2 with r2 | r2
    · rcases q2 with q2 | q2 <;> omega
    · have := q3.1; omega
  · subst hσ1
    have k1 : Keeps (fun o => σ.length ≤ o) σ σ2 := (Keeps.app _ σ _).trans (q3.mono (S' := fun o => σ.length ≤ o) fun o ho => by omega) fun _ _ h => h
    have k2 : Keeps (fun o => σ.length ≤ o) σ σ3 := k1.trans (r3.mono (S' := fun o => σ.length ≤ o) fun o ho => by have := q3.1; rcases q2 with q2 | q2 <;> omega) fun _ _ h => h
    exact ⟨k2.1, fun o ho _ => k2.2 o ho (by omega)⟩
end Go.Proofs.Ytadddaafajennaa.Am
