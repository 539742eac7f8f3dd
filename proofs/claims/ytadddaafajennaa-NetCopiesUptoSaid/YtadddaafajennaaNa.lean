/- Walks: copies of lists. -/
import Derived.Test.YtadddaafajennaaTb
set_option linter.unusedSimpArgs false
set_option linter.unusedVariables false
set_option maxRecDepth 10000
namespace Go.Proofs.Ytadddaafajennaa.Am
open Go Go.Proofs

theorem clone50 (es : List D) (hl : es.length ≤ 1048576) : callA Try.prog 50 [.d (.lst 1 es)] [] fun r σ' => r = .d (.lst 1 es) ∧ σ' = [] := by
  refine w50.go fun K hK => ?_
  simp only [e50, c50, p50, Try.f50, codeOf, comp, opsOf, stOf, cop, cstp, copAt, planFor, List.find?, List.find?_nil, Option.map_none, Option.getD_none, List.any_cons, List.any_nil, Stp.idx, Bool.or_false, Nat.reduceBEq, ↓RP, RS, W50]
  refine BinK_eqln rfl rfl (by simp only [W50]) fun b hb => ?_
  cases b with
  | true =>
    have := hb rfl; subst this
    simp only [↓RP, RS, W50]
    exact hK.fin rfl ((Fin.le (VLe.nils 1)).trans (Fin.drop0 _ _)) ⟨rfl, rfl⟩
  | false =>
    rcases es with _ | ⟨x, es⟩
    · simp only [↓RP, RS, W50, ↓reduceIte, Nat.reduceMul, Nat.reduceAdd, Nat.reduceSub, Nat.reduceLeDiff, Nat.reduceLT, Nat.reduceEqDiff, decide_true, decide_false, buildSliceF, buildF, fillV, inOrder, toDs, toD, flatOk, appE, appendInF, appendF, srcD, notSame, storeF, loadF, takeV, takeD, cellsV, boxE, allocE, undE, tupE, fieldAddrF, fieldF, indexAddrF, sliceF, optNat, natOf, cutD, makeF, makeSliceF, makeVecF]
      exact hK.fin rfl (Fin.lst0 rfl rfl) ⟨rfl, rfl⟩
    · have hb : (es.length + 1) * 16 ≤ 70368744177664 := by simp only [List.length_cons] at hl; omega
      simp only [↓RP, RS, hb, W50, ↓reduceIte, Nat.reduceMul, Nat.reduceAdd, Nat.reduceSub, Nat.reduceLeDiff, Nat.reduceLT, Nat.reduceEqDiff, decide_true, decide_false, buildSliceF, buildF, fillV, inOrder, toDs, toD, flatOk, appE, appendInF, appendF, srcD, notSame, storeF, loadF, takeV, takeD, cellsV, boxE, allocE, undE, tupE, fieldAddrF, fieldF, indexAddrF, sliceF, optNat, natOf, cutD, makeF, makeSliceF, makeVecF]
      exact hK.fin rfl (Fin.lst0 rfl rfl) ⟨rfl, rfl⟩

theorem clone49 (es : List D) (hl : es.length ≤ 1048576) : callA Try.prog 49 [.d (.lst 50 es)] [] fun r σ' => r = .d (.lst 50 es) ∧ σ' = [] := by
  refine w49.go fun K hK => ?_
  simp only [e49, c49, p49, Try.f49, codeOf, comp, opsOf, stOf, cop, cstp, copAt, planFor, List.find?, List.find?_nil, Option.map_none, Option.getD_none, List.any_cons, List.any_nil, Stp.idx, Bool.or_false, Nat.reduceBEq, ↓RP, RS, W49]
  refine BinK_eqln rfl rfl (by simp only [W49]) fun b hb => ?_
  cases b with
  | true =>
    have := hb rfl; subst this
    simp only [↓RP, RS, W49]
    exact hK.fin rfl ((Fin.le (VLe.nils 50)).trans (Fin.drop0 _ _)) ⟨rfl, rfl⟩
  | false =>
    rcases es with _ | ⟨x, es⟩
    · simp only [↓RP, RS, W49, ↓reduceIte, Nat.reduceMul, Nat.reduceAdd, Nat.reduceSub, Nat.reduceLeDiff, Nat.reduceLT, Nat.reduceEqDiff, decide_true, decide_false, buildSliceF, buildF, fillV, inOrder, toDs, toD, flatOk, appE, appendInF, appendF, srcD, notSame, storeF, loadF, takeV, takeD, cellsV, boxE, allocE, undE, tupE, fieldAddrF, fieldF, indexAddrF, sliceF, optNat, natOf, cutD, makeF, makeSliceF, makeVecF]
      exact hK.fin rfl (Fin.lst0 rfl rfl) ⟨rfl, rfl⟩
    · have hb : (es.length + 1) * 576 ≤ 70368744177664 := by simp only [List.length_cons] at hl; omega
      simp only [↓RP, RS, hb, W49, ↓reduceIte, Nat.reduceMul, Nat.reduceAdd, Nat.reduceSub, Nat.reduceLeDiff, Nat.reduceLT, Nat.reduceEqDiff, decide_true, decide_false, buildSliceF, buildF, fillV, inOrder, toDs, toD, flatOk, appE, appendInF, appendF, srcD, notSame, storeF, loadF, takeV, takeD, cellsV, boxE, allocE, undE, tupE, fieldAddrF, fieldF, indexAddrF, sliceF, optNat, natOf, cutD, makeF, makeSliceF, makeVecF]
      exact hK.fin rfl (Fin.lst0 rfl rfl) ⟨rfl, rfl⟩

theorem clone51 (es : List D) (hl : es.length ≤ 1048576) : callA Try.prog 51 [.d (.lst 5 es)] [] fun r σ' => r = .d (.lst 5 es) ∧ σ' = [] := by
  refine w51.go fun K hK => ?_
  simp only [e51, c51, p51, Try.f51, codeOf, comp, opsOf, stOf, cop, cstp, copAt, planFor, List.find?, List.find?_nil, Option.map_none, Option.getD_none, List.any_cons, List.any_nil, Stp.idx, Bool.or_false, Nat.reduceBEq, ↓RP, RS, W51]
  refine BinK_eqln rfl rfl (by simp only [W51]) fun b hb => ?_
  cases b with
  | true =>
    have := hb rfl; subst this
    simp only [↓RP, RS, W51]
    exact hK.fin rfl ((Fin.le (VLe.nils 5)).trans (Fin.drop0 _ _)) ⟨rfl, rfl⟩
  | false =>
    rcases es with _ | ⟨x, es⟩
    · simp only [↓RP, RS, W51, ↓reduceIte, Nat.reduceMul, Nat.reduceAdd, Nat.reduceSub, Nat.reduceLeDiff, Nat.reduceLT, Nat.reduceEqDiff, decide_true, decide_false, buildSliceF, buildF, fillV, inOrder, toDs, toD, flatOk, appE, appendInF, appendF, srcD, notSame, storeF, loadF, takeV, takeD, cellsV, boxE, allocE, undE, tupE, fieldAddrF, fieldF, indexAddrF, sliceF, optNat, natOf, cutD, makeF, makeSliceF, makeVecF]
      exact hK.fin rfl (Fin.lst0 rfl rfl) ⟨rfl, rfl⟩
    · have hb : (es.length + 1) * 64 ≤ 70368744177664 := by simp only [List.length_cons] at hl; omega
      simp only [↓RP, RS, hb, W51, ↓reduceIte, Nat.reduceMul, Nat.reduceAdd, Nat.reduceSub, Nat.reduceLeDiff, Nat.reduceLT, Nat.reduceEqDiff, decide_true, decide_false, buildSliceF, buildF, fillV, inOrder, toDs, toD, flatOk, appE, appendInF, appendF, srcD, notSame, storeF, loadF, takeV, takeD, cellsV, boxE, allocE, undE, tupE, fieldAddrF, fieldF, indexAddrF, sliceF, optNat, natOf, cutD, makeF, makeSliceF, makeVecF]
      exact hK.fin rfl (Fin.lst0 rfl rfl) ⟨rfl, rfl⟩
end Go.Proofs.Ytadddaafajennaa.Am
