/- The reference: Lose, Twice, Cut. -/
import Derived.Test.YtadddaafajennaaRe
set_option linter.unusedSimpArgs false
set_option linter.unusedVariables false
set_option maxRecDepth 10000
set_option maxHeartbeats 2000000
namespace Go.Proofs.Ytadddaafajennaa.Am
open Go Go.Proofs
section
variable {n : Nat} {ls : List D} {cuts : List (Int × Int)}

theorem twice20 (h : RefOk n ls cuts) (f t i : Int) : callA Try.prog 20 [.ptr 0 0 0, .d (.int .i64 f), .d (.int .i64 t), .d (.int .i64 i)] [.box ((refL n ls cuts).map .d)] fun r σ' => ∃ ys, σ' = [.box (ys.map .d)] ∧
    (match atR f t ls i with | some k => r = .d (.bool true) ∧ ys = refL n (ls ++ [ls.getD k noMsg]) cuts | none => r = .d (.bool false) ∧ ys = refL n ls cuts) := by
  refine w20.go fun K hK => ?_
  have hfew := h.fewl
  have hle := lenR_le ls f t
  obtain ⟨σ1, hσ1⟩ : ∃ σ1, σ1 = [Ob.box ((refL n ls cuts).map .d)] := ⟨_, rfl⟩
  have g0 : σ1[0]? = some (.box ((refL n ls cuts).map .d)) := by rw [hσ1]; rfl
  have hR := h.at g0
  rw [← hσ1]
  have no : ∀ s, atR f t ls i = none → s.getD 8 .undef = .d (.bool false) → K .ret s σ1 := fun s hn h8 => by
    simp only [hn] at hK
    exact hK.fin (r := .d (.bool false)) (by simp only [resF, resAll, resOne, e20, h8]) (Fin.only g0 rfl) ⟨_, rfl, rfl, rfl⟩
  simp only [e20, c20, p20, Try.f20, codeOf, comp, opsOf, stOf, cop, cstp, copAt, planFor, List.find?, List.find?_nil, Option.map_none, Option.getD_none, List.any_cons, List.any_nil, Stp.idx, Bool.or_false, Nat.reduceBEq, ↓RP, RS, Int.reduceBEq, Int.reduceBNe, Int.reduceLT, Int.reduceLE, Int.reduceAdd, Int.reduceSub, ↓reduceIte, Nat.reduceAdd, Nat.reduceMul, Nat.reduceSub, Nat.reduceLT, Nat.reduceLeDiff, Nat.reduceEqDiff, decide_true, decide_false, fieldAddrF, undE, tupE, W20]
  refine CallK_use' (at42 hR f t i) fun v s ⟨q1, q2⟩ => ?_
  subst q1; subst q2
  cases hat : atR f t ls i with
  | none =>
    have d1 : decide (atI none < 0) = true := rfl
    by_cases d0 : i < 0
    · have d0' : decide (i < 0) = true := by simpa using d0
      simp only [↓RP, RS, Int.reduceBEq, Int.reduceBNe, Int.reduceLT, Int.reduceLE, Int.reduceAdd, Int.reduceSub, ↓reduceIte, Nat.reduceAdd, Nat.reduceMul, Nat.reduceSub, Nat.reduceLT, Nat.reduceLeDiff, Nat.reduceEqDiff, decide_true, decide_false, fieldAddrF, undE, tupE, W20, d0']
      exact no _ hat rfl
    · have d0' : decide (i < 0) = false := by simpa using d0
      simp only [↓RP, RS, Int.reduceBEq, Int.reduceBNe, Int.reduceLT, Int.reduceLE, Int.reduceAdd, Int.reduceSub, ↓reduceIte, Nat.reduceAdd, Nat.reduceMul, Nat.reduceSub, Nat.reduceLT, Nat.reduceLeDiff, Nat.reduceEqDiff, decide_true, decide_false, fieldAddrF, undE, tupE, W20, d0', d1]
      exact no _ hat rfl
  | some k =>
    obtain ⟨d0, hk⟩ := atR_some hat
    have d0' : decide (i < 0) = false := by simp; omega
    have d1 : decide (((k : Nat) : Int) < 0) = false := by simp
    have eA : atI (some k) = ((k : Nat) : Int) := rfl
    simp only [hat] at hK
    obtain ⟨cs, f', t', he, h34, hone, c1, c2⟩ := h.msg _ (List.getElem_mem hk)
    have a0 := alive_of g0 (by simp)
    have l0 : loadF Try.prog 68 s (.ptr 0 0 1) = some (.d (.lst 34 ls)) := load_box g0 rfl (by simp only [W20]) (by simp only [W20])
    have x1 : ∀ σ, indexAddrF Try.prog 68 σ (.d (.lst 34 ls)) (.d (.int .i64 (k : Int))) = some (.ipt cs) := fun σ => index_lst (P := Try.prog) (t := 68) (e := 42) (by simp only [W20]) (by simp only [W20]) (by rw [List.getElem?_eq_getElem hk, he]) h34
    have x2 : ∀ σ, loadF Try.prog 42 σ (.ipt cs) = some (.d (.agg cs)) := fun σ => by
      simp only [loadF, takeD, W20, if_true, h34, Nat.le_refl, Nat.reduceLT, and_self]
      rw [List.take_of_length_le (by omega)]
    simp only [eA, ↓RP, RS, Int.reduceBEq, Int.reduceBNe, Int.reduceLT, Int.reduceLE, Int.reduceAdd, Int.reduceSub, ↓reduceIte, Nat.reduceAdd, Nat.reduceMul, Nat.reduceSub, Nat.reduceLT, Nat.reduceLeDiff, Nat.reduceEqDiff, decide_true, decide_false, fieldAddrF, undE, tupE, W20, d0', d1]
    refine CallK_use' (len25 hR f t) fun v s' ⟨q1, q2⟩ => ?_
    subst q1; subst q2
    have d3 : decide (1024 ≤ ((lenR ls f t : Nat) : Int)) = false := by simp; omega
    simp only [d3, ↓RP, RS, Int.reduceBEq, Int.reduceBNe, Int.reduceLT, Int.reduceLE, Int.reduceAdd, Int.reduceSub, ↓reduceIte, Nat.reduceAdd, Nat.reduceMul, Nat.reduceSub, Nat.reduceLT, Nat.reduceLeDiff, Nat.reduceEqDiff, decide_true, decide_false, fieldAddrF, undE, tupE, W20, a0, l0, x1, x2]
    refine CallK_use' (callA_le (ys := [.ptr 0 0 0, .agg (cs.map .d)]) ⟨_, _, rfl, VLe.refl _, _, _, rfl, VLe.agg' cs, rfl⟩ (add39v h h34 hone g0)) fun v s'' q2 => ?_
    subst q2
    simp only [↓RP, RS, Int.reduceBEq, Int.reduceBNe, Int.reduceLT, Int.reduceLE, Int.reduceAdd, Int.reduceSub, ↓reduceIte, Nat.reduceAdd, Nat.reduceMul, Nat.reduceSub, Nat.reduceLT, Nat.reduceLeDiff, Nat.reduceEqDiff, decide_true, decide_false, fieldAddrF, undE, tupE, W20]
    have eg : ls.getD k noMsg = .agg cs := by rw [List.getD_eq_getElem?_getD, List.getElem?_eq_getElem hk, he]; rfl
    refine hK.fin (by rfl) (Fin.only (ds := refL n (ls ++ [.agg cs]) cuts) (by rw [List.getElem?_set_self (lt_of_get g0)]) rfl) ⟨_, rfl, rfl, by rw [eg]⟩

theorem lose18 (h : RefOk n ls cuts) (f t i : Int) : callA Try.prog 18 [.ptr 0 0 0, .d (.int .i64 f), .d (.int .i64 t), .d (.int .i64 i)] [.box ((refL n ls cuts).map .d)] fun r σ' => ∃ ys, σ' = [.box (ys.map .d)] ∧
    (match atR f t ls i with | some k => r = .d (.bool true) ∧ ys = refL n (ls.eraseIdx k) cuts | none => r = .d (.bool false) ∧ ys = refL n ls cuts) := by
  refine w18.go fun K hK => ?_
  simp only [e18, c18, p18, Try.f18, codeOf, comp, opsOf, stOf, cop, cstp, copAt, planFor, List.find?, List.find?_nil, Option.map_none, Option.getD_none, List.any_cons, List.any_nil, Stp.idx, Bool.or_false, Nat.reduceBEq, ↓RP, RS, Int.reduceBEq, Int.reduceBNe, Int.reduceLT, Int.reduceLE, Int.reduceAdd, Int.reduceSub, ↓reduceIte, Nat.reduceAdd, Nat.reduceMul, Nat.reduceSub, Nat.reduceLT, Nat.reduceLeDiff, Nat.reduceEqDiff, decide_true, decide_false, fieldAddrF, undE, tupE, W18]
  refine CallK_use' (take16 h f t i) fun v s ⟨ys, q2, q1⟩ => ?_
  subst q2
  have al : allocE Try.prog 42 [.box (ys.map .d)] = some (.ptr 1 0 0, [.box (ys.map .d), .box z42]) := by simp only [allocE, W18]; rfl
  have st := fun (cs : List D) (h34 : cs.length = 34) (hone : cs.all one1 = true) => by
    have := store_aggd (P := Try.prog) (t := 42) (k := 0) (σ := [.box (ys.map .d), .box z42]) (o := 1) (cs := z42) (xs := cs) rfl hone (by simp [h34]; decide) (by simp [h34, W18]) (by simp [W18])
    rw [setAt_all (by simp [h34]; decide)] at this
    exact this
  have a1 : alive [Ob.box (ys.map .d), .box z42] 1 = true := rfl
  have g0 : ∀ x, [Ob.box (ys.map .d), x][0]? = some (.box (ys.map .d)) := fun x => rfl
  cases hat : atR f t ls i with
  | none =>
    simp only [hat] at hK q1
    obtain ⟨q1, q3⟩ := q1
    subst q1
    obtain ⟨zs, hz, z34, z1⟩ := noMsg_ok
    have st' := st zs z34 z1
    simp only [↓RP, RS, Int.reduceBEq, Int.reduceBNe, Int.reduceLT, Int.reduceLE, Int.reduceAdd, Int.reduceSub, ↓reduceIte, Nat.reduceAdd, Nat.reduceMul, Nat.reduceSub, Nat.reduceLT, Nat.reduceLeDiff, Nat.reduceEqDiff, decide_true, decide_false, fieldAddrF, undE, tupE, W18, al, hz, st', a1]
    exact hK.fin (by rfl) (Fin.only (g0 _) rfl) ⟨_, rfl, rfl, q3⟩
  | some k =>
    simp only [hat] at hK q1
    obtain ⟨q1, q3⟩ := q1
    subst q1
    obtain ⟨d0, hk⟩ := atR_some hat
    obtain ⟨cs, f', t', he, h34, hone, c1, c2⟩ := h.msg _ (List.getElem_mem hk)
    have eg : ls.getD k noMsg = .agg cs := by rw [List.getD_eq_getElem?_getD, List.getElem?_eq_getElem hk, he]; rfl
    have st' := st cs h34 hone
    simp only [↓RP, RS, Int.reduceBEq, Int.reduceBNe, Int.reduceLT, Int.reduceLE, Int.reduceAdd, Int.reduceSub, ↓reduceIte, Nat.reduceAdd, Nat.reduceMul, Nat.reduceSub, Nat.reduceLT, Nat.reduceLeDiff, Nat.reduceEqDiff, decide_true, decide_false, fieldAddrF, undE, tupE, W18, al, eg, st', a1]
    exact hK.fin (by rfl) (Fin.only (g0 _) rfl) ⟨_, rfl, rfl, q3⟩
end
end Go.Proofs.Ytadddaafajennaa.Am
