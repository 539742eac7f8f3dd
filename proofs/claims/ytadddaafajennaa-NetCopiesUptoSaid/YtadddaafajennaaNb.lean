/- Walks: the copy of a message. -/
import Derived.Test.YtadddaafajennaaNa
import Derived.IntWalk
set_option linter.unusedSimpArgs false
set_option linter.unusedVariables false
set_option maxRecDepth 10000
namespace Go.Proofs.Ytadddaafajennaa.Am
open Go Go.Proofs

/-- The shape of an entry. -/
def EntOk (d : D) : Prop := ∃ es to wr to', d = .agg es ∧ es.length = 50 ∧ es.all one1 = true ∧ es[11]? = some (.lst 1 to) ∧ es[17]? = some (.lst 5 wr) ∧ es[44]? = some (.lst 1 to') ∧ to.length ≤ 1048576 ∧ wr.length ≤ 1048576 ∧ to'.length ≤ 1048576
/-- The shape of a message: from, to, entries, link. -/
structure MsgOk (ms : List D) (f t : Int) (ents lk : List D) : Prop where
  len : ms.length = 34
  one : ms.all one1 = true
  from_ : ms[1]? = some (.int .i64 f)
  to_ : ms[2]? = some (.int .i64 t)
  ents_ : ms[10]? = some (.lst 50 ents)
  ent : ∀ e ∈ ents, EntOk e
  link : ms[33]? = some (.lst 1 lk)
  few : ents.length ≤ 1048576
  fewl : lk.length ≤ 1048576

theorem clone49o (es : List D) (hl : es.length ≤ 1048576) : callA Try.prog 49 [.d (.lst 50 es)] [] fun r σ' => r = .sl 0 0 es.length ∧ σ' = [.arr 50 false es] := by
  refine w49.go fun K hK => ?_
  simp only [e49, c49, p49, Try.f49, codeOf, comp, opsOf, stOf, cop, cstp, copAt, planFor, List.find?, List.find?_nil, Option.map_none, Option.getD_none, List.any_cons, List.any_nil, Stp.idx, Bool.or_false, Nat.reduceBEq, ↓RP, RS, W49]
  refine BinK_eqln rfl rfl (by simp only [W49]) fun b hb => ?_
  cases b with
  | true =>
    have := hb rfl; subst this
    simp only [↓RP, RS, W49]
    exact hK.fin rfl (Fin.nil 50 (by simp)) ⟨rfl, rfl⟩
  | false =>
    rcases es with _ | ⟨x, es⟩
    · simp only [↓RP, RS, W49, ↓reduceIte, Nat.reduceMul, Nat.reduceAdd, Nat.reduceSub, Nat.reduceLeDiff, Nat.reduceLT, Nat.reduceEqDiff, decide_true, decide_false, buildSliceF, buildF, fillV, inOrder, toDs, toD, flatOk, appE, appendInF, appendF, srcD, notSame, storeF, loadF, takeV, takeD, cellsV, boxE, allocE, undE, tupE, fieldAddrF, fieldF, indexAddrF, sliceF, optNat, natOf, cutD, makeF, makeSliceF, makeVecF]
      exact hK.ret rfl ⟨rfl, rfl⟩
    · have hb : (es.length + 1) * 576 ≤ 70368744177664 := by simp only [List.length_cons] at hl; omega
      simp only [↓RP, RS, hb, W49, ↓reduceIte, Nat.reduceMul, Nat.reduceAdd, Nat.reduceSub, Nat.reduceLeDiff, Nat.reduceLT, Nat.reduceEqDiff, decide_true, decide_false, buildSliceF, buildF, fillV, inOrder, toDs, toD, flatOk, appE, appendInF, appendF, srcD, notSame, storeF, loadF, takeV, takeD, cellsV, boxE, allocE, undE, tupE, fieldAddrF, fieldF, indexAddrF, sliceF, optNat, natOf, cutD, makeF, makeSliceF, makeVecF]
      refine hK.fin rfl (Fin.keep [1] (by simp) (by simp) (by simp)) ⟨?_, ?_⟩
      · rfl
      · rfl

theorem d_get {ms : List D} {k : Nat} {d : D} (h : ms[k]? = some d) : (ms.map V.d)[k]? = some (.d d) := by simp [h]

theorem copy46 {ms : List D} {f t : Int} {ents lk : List D} (h : MsgOk ms f t ents lk) : callA Try.prog 46 [.agg (ms.map .d)] [] fun r σ' => r = .d (.agg ms) ∧ σ' = [] := by
  refine w46.go fun K hK => ?_
  have l1 : ∀ τ, loadF Try.prog 33 (Ob.box (ms.map .d) :: τ) (.ptr 0 0 10) = some (.d (.lst 50 ents)) := fun τ => load_box rfl (d_get h.ents_) (by simp only [W46]) (by simp only [W46])
  simp only [e46, c46, p46, Try.f46, codeOf, comp, opsOf, stOf, cop, cstp, copAt, planFor, List.find?, List.find?_nil, Option.map_none, Option.getD_none, List.any_cons, List.any_nil, Stp.idx, Bool.or_false, Nat.reduceBEq, ↓RP, RS, W46, boxE, allocE, fieldAddrF, cellsV, l1, ↓reduceIte, Nat.reduceAdd, Nat.reduceLT, alive]
  refine CallK_use (callA_at (clone49o ents h.few) _ rfl) fun v σ' ⟨r0, σ0, ⟨q1, q2⟩, e1, e2⟩ => ⟨trivial, ?_⟩
  subst q1; subst q2
  obtain rfl : v = .sl 2 0 ents.length := e1
  obtain rfl : σ' = [.box (ms.map .d), .box z42, .arr 50 false ents] := e2
  have s1 := store_box (P := Try.prog) (t := 33) (σ := [.box (ms.map .d), .box z42, .arr 50 false ents]) (o := 0) (k := 10) (x := .sl 2 0 ents.length) rfl rfl (by simp [h.len]) (by simp only [W46])
  have l2 : ∀ τ, loadF Try.prog 33 (Ob.box ((ms.map .d).set 10 (.sl 2 0 ents.length)) :: τ) (.ptr 0 0 10) = some (.sl 2 0 ents.length) := fun τ => load_box rfl (by simp [h.len]) (by simp only [W46]) (by simp only [W46])
  simp only [↓RP, RS, W46, fieldAddrF, ↓reduceIte, Nat.reduceAdd, Nat.reduceLT, alive, s1, l2, undE]
  refine Loop_k [1, 2, 14, 15] (fun i : Nat => fr 0 62 [(1, .ptr 0 0 0), (2, .ptr 1 0 0), (14, .d (.int .i64 ents.length)), (15, .d (.int .i64 i))]) (fun _ => [Ob.box ((List.map V.d ms).set 10 (V.sl 2 0 ents.length)), Ob.box z42, Ob.arr 50 false ents]) (fun i => i ≤ ents.length) (fun i => ents.length - i) 0 (by kernel_rfl) rfl (Nat.zero_le _) fun i hi => ?_
  have hw : IntKind.i64.wrap ((i : Int) + 1) = ((i + 1 : Nat) : Int) := by have := h.few; rw [IntWalk.i64_in _ (by omega)]; rfl
  by_cases hlt : i < ents.length
  · have hd : decide ((i : Int) < ents.length) = true := by simpa using hlt
    obtain ⟨es, to, wr, to', he, hl, h1, h11, h17, h44, t1, t2, t3⟩ := h.ent ents[i] (by simp)
    have hg : ents[i]? = some (.agg es) := by rw [List.getElem?_eq_getElem hlt, he]
    have x1 := index_arr (P := Try.prog) (t := 33) (kd := .i64) (σ := [Ob.box ((List.map V.d ms).set 10 (V.sl 2 0 ents.length)), Ob.box z42, Ob.arr 50 false ents]) (o := 2) (off := 0) (e := 96) rfl (by simp only [W46]) (by simp only [W46]) (by decide) hlt
    have a1 := load_arr (P := Try.prog) (t := 38) (σ := [Ob.box ((List.map V.d ms).set 10 (V.sl 2 0 ents.length)), Ob.box z42, Ob.arr 50 false ents]) (o := 2) (i := i) rfl hg hl h11 (by simp only [W46]) (by simp only [W46])
    have a2 := load_arr (P := Try.prog) (t := 84) (σ := [Ob.box ((List.map V.d ms).set 10 (V.sl 2 0 ents.length)), Ob.box z42, Ob.arr 50 false ents]) (o := 2) (i := i) rfl hg hl h17 (by simp only [W46]) (by simp only [W46])
    have a3 := load_arr (P := Try.prog) (t := 38) (σ := [Ob.box ((List.map V.d ms).set 10 (V.sl 2 0 ents.length)), Ob.box z42, Ob.arr 50 false ents]) (o := 2) (i := i) rfl hg hl h44 (by simp only [W46]) (by simp only [W46])
    have b1 := store_same (P := Try.prog) (t := 38) (σ := [Ob.box ((List.map V.d ms).set 10 (V.sl 2 0 ents.length)), Ob.box z42, Ob.arr 50 false ents]) (o := 2) (i := i) rfl hg hl h11 rfl rfl rfl (by simp only [W46]) (by decide)
    have b2 := store_same (P := Try.prog) (t := 84) (σ := [Ob.box ((List.map V.d ms).set 10 (V.sl 2 0 ents.length)), Ob.box z42, Ob.arr 50 false ents]) (o := 2) (i := i) rfl hg hl h17 rfl rfl rfl (by simp only [W46]) (by decide)
    have b3 := store_same (P := Try.prog) (t := 38) (σ := [Ob.box ((List.map V.d ms).set 10 (V.sl 2 0 ents.length)), Ob.box z42, Ob.arr 50 false ents]) (o := 2) (i := i) rfl hg hl h44 rfl rfl rfl (by simp only [W46]) (by decide)
    simp only [fr, ↓RP, RS, W46, fieldAddrF, ↓reduceIte, Nat.reduceAdd, Nat.reduceLT, Nat.reduceEqDiff, alive, s1, l2, undE, hd, x1, a1]
    refine CallK_use' (callA_val (clone50 to t1) _ rfl) fun v σ' ⟨q1, q2⟩ => ?_
    subst q1; subst q2
    simp only [↓RP, RS, W46, fieldAddrF, ↓reduceIte, Nat.reduceAdd, Nat.reduceLT, Nat.reduceEqDiff, alive, s1, l2, undE, a2, b1]
    refine CallK_use' (callA_val (clone51 wr t2) _ rfl) fun v σ' ⟨q1, q2⟩ => ?_
    subst q1; subst q2
    simp only [↓RP, RS, W46, fieldAddrF, ↓reduceIte, Nat.reduceAdd, Nat.reduceLT, Nat.reduceEqDiff, alive, s1, l2, undE, a3, b2]
    refine CallK_use' (callA_val (clone50 to' t3) _ rfl) fun v σ' ⟨q1, q2⟩ => ?_
    subst q1; subst q2
    simp only [↓RP, RS, W46, fieldAddrF, ↓reduceIte, Nat.reduceAdd, Nat.reduceLT, Nat.reduceEqDiff, alive, s1, l2, undE, b3, hw]
    exact seqK_n ⟨i + 1, by omega, by omega, by kernel_rfl, rfl⟩
  · have hd : decide ((i : Int) < ents.length) = false := by simpa using hlt
    simp only [fr, ↓RP, RS, W46, fieldAddrF, ↓reduceIte, Nat.reduceAdd, Nat.reduceLT, Nat.reduceEqDiff, alive, s1, l2, undE, hd]
    have l3 := load_box (P := Try.prog) (t := 38) (σ := [Ob.box ((List.map V.d ms).set 10 (V.sl 2 0 ents.length)), Ob.box z42, Ob.arr 50 false ents]) (o := 0) (k := 33) (x := .d (.lst 1 lk)) rfl (by simp [h.link]) (by simp only [W46]) (by simp only [W46])
    have s3 := store_box_same (P := Try.prog) (t := 38) (σ := [Ob.box ((List.map V.d ms).set 10 (V.sl 2 0 ents.length)), Ob.box z42, Ob.arr 50 false ents]) (o := 0) (k := 33) (x := .d (.lst 1 lk)) rfl rfl (by simp [h.link]) (by simp only [W46])
    have l4 := load_all (P := Try.prog) (t := 42) (σ := [Ob.box ((List.map V.d ms).set 10 (V.sl 2 0 ents.length)), Ob.box z42, Ob.arr 50 false ents]) (o := 0) rfl (by simp [h.len, W46]) (by simp only [W46]) (by simp [W46])
    have s4 := store_agg (P := Try.prog) (t := 42) (σ := [Ob.box ((List.map V.d ms).set 10 (V.sl 2 0 ents.length)), Ob.box z42, Ob.arr 50 false ents]) (o := 1) (k := 0) (xs := (List.map V.d ms).set 10 (V.sl 2 0 ents.length)) rfl (all_set (one_map h.one) _ rfl) (by simp [h.len, W46]) (by simp [h.len, W46]) (by simp [W46])
    rw [setAt_all (by simp [h.len, W46])] at s4
    simp only [↓RP, RS, W46, l3]
    refine CallK_use' (callA_val (clone50 lk h.fewl) _ rfl) fun v σ' ⟨q1, q2⟩ => ?_
    subst q1; subst q2
    simp only [↓RP, RS, W46, fieldAddrF, ↓reduceIte, Nat.reduceAdd, Nat.reduceLT, Nat.reduceEqDiff, alive, s3, l4, s4, undE]
    refine hK.fin (r := .agg ((List.map V.d ms).set 10 (V.sl 2 0 ents.length))) ?_ (((Fin.freeze (o := 2) (sz := 50) (mk := false) (es := ents) rfl).trans (Fin.le ?_)).trans (Fin.drop0 (.agg ms) _)) ⟨rfl, rfl⟩
    · have l5 := load_all (P := Try.prog) (t := 42) (σ := [Ob.box ((List.map V.d ms).set 10 (V.sl 2 0 ents.length)), Ob.box ((List.map V.d ms).set 10 (V.sl 2 0 ents.length)), Ob.arr 50 false ents]) (o := 1) rfl (by simp [h.len, W46]) (by simp only [W46]) (by simp [W46])
      simp only [resF, resAll, resOne, e46, RS, l5]
    · simp only [frzV, frzVs_set, frzVs_d, if_true, Nat.zero_add, Nat.le_refl, List.drop_zero, List.take_length]
      rw [set_same (d_get h.ents_)]
      exact VLe.agg ms
end Go.Proofs.Ytadddaafajennaa.Am
