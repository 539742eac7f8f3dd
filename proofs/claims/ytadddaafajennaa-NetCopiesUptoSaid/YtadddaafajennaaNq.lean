/- Whether there are few steps; the steps of a list. -/
import Derived.Test.YtadddaafajennaaNp
set_option linter.unusedSimpArgs false
set_option linter.unusedVariables false
set_option maxRecDepth 10000
set_option maxHeartbeats 2000000
namespace Go.Proofs.Ytadddaafajennaa.Am
open Go Go.Proofs

def StepA (e : D) : Prop := ∃ cs d f t a m fm tm ents lk, e = .agg cs ∧ StepOk cs d f t a m fm tm ents lk

theorem drop_get {cs : List D} {k : Nat} {x : D} (h : cs[k]? = some x) : cs.drop k = x :: cs.drop (k + 1) := by
  obtain ⟨u, v⟩ := List.getElem?_eq_some_iff.1 h
  rw [List.drop_eq_getElem_cons u, v]
theorem StepOk.ents {cs : List D} {d f t a : Int} {m : List D} {fm tm : Int} {ents lk : List D} (h : StepOk cs d f t a m fm tm ents lk) : cs[14]? = some (.lst 50 ents) := by
  have := h.msg.ents_
  rw [← h.m4, List.getElem?_drop] at this
  exact this
theorem StepOk.lnk {cs : List D} {d f t a : Int} {m : List D} {fm tm : Int} {ents lk : List D} (h : StepOk cs d f t a m fm tm ents lk) : cs[37]? = some (.lst 1 lk) := by
  have := h.msg.link
  rw [← h.m4, List.getElem?_drop] at this
  exact this

theorem few10 (steps : List D) (hs : ∀ e ∈ steps, StepA e) (hB : steps.length ≤ 1048576) (τ : List Ob) : callA Try.prog 10 [.d (.lst 38 steps)] τ fun r σ' => σ' = τ ∧ ∃ b, r = .d (.bool b) ∧ (b = true → steps.length ≤ 60) := by
  refine callA_mono (callA_pure (Q := fun r => ∃ b, r = .d (.bool b) ∧ (b = true → steps.length ≤ 60)) ?_ τ rfl) fun r σ' h => h
  refine w10.go fun K hK => ?_
  simp only [e10, c10, p10, Try.f10, codeOf, comp, opsOf, stOf, cop, cstp, copAt, planFor, List.find?, List.find?_nil, Option.map_none, Option.getD_none, List.any_cons, List.any_nil, Stp.idx, Bool.or_false, Nat.reduceBEq, ↓RP, RS, Int.reduceBEq, Int.reduceBNe, Int.reduceLT, Int.reduceLE, Int.reduceAdd, Int.reduceSub, ↓reduceIte, Nat.reduceAdd, Nat.reduceMul, Nat.reduceSub, Nat.reduceLT, Nat.reduceLeDiff, Nat.reduceEqDiff, decide_true, decide_false, fieldAddrF, undE, tupE, W10]
  refine Loop_k [0, 3] (fun k : Nat => fr 0 33 [(0, .d (.lst 38 steps)), (3, .d (.int .i64 k))]) (fun _ => []) (fun k => k ≤ steps.length) (fun k => steps.length - k) 0 (by kernel_rfl) rfl (Nat.zero_le _) fun k hk => ?_
  by_cases hlt : k < steps.length
  · have e3 : decide ((k : Int) < (steps.length : Int)) = true := by simpa using hlt
    obtain ⟨cs, d, f, t, a, m, fm, tm, ents, lk, he, ok⟩ := hs _ (List.getElem_mem hlt)
    have x1 : ∀ σ, indexAddrF Try.prog 22 σ (.d (.lst 38 steps)) (.d (.int .i64 (k : Int))) = some (.ipt cs) := fun σ => index_lst (P := Try.prog) (t := 22) (e := 44) (by simp only [W10]) (by simp only [W10]) (by rw [List.getElem?_eq_getElem hlt, he]) ok.len
    have d1 := drop_get ok.ents
    have d2 := drop_get ok.lnk
    have w1 : IntKind.i64.wrap ((k : Int) + 1) = ((k + 1 : Nat) : Int) := by rw [IntWalk.i64_in _ (by omega)]; rfl
    by_cases c1 : 3 < (ents.length : Int)
    · have e4 : decide (3 < (ents.length : Int)) = true := by simpa using c1
      simp only [fr, ↓RP, RS, Int.reduceBEq, Int.reduceBNe, Int.reduceLT, Int.reduceLE, Int.reduceAdd, Int.reduceSub, ↓reduceIte, Nat.reduceAdd, Nat.reduceMul, Nat.reduceSub, Nat.reduceLT, Nat.reduceLeDiff, Nat.reduceEqDiff, decide_true, decide_false, fieldAddrF, undE, tupE, W10, e3, x1, List.drop_drop, d1, d2, loadF, takeD, e4]
      exact hK.ret (by rfl) ⟨rfl, _, rfl, false, rfl, fun h => by cases h⟩
    have e4 : decide (3 < (ents.length : Int)) = false := by simpa using c1
    by_cases c2 : 10 < (lk.length : Int)
    · have e5 : decide (10 < (lk.length : Int)) = true := by simpa using c2
      simp only [fr, ↓RP, RS, Int.reduceBEq, Int.reduceBNe, Int.reduceLT, Int.reduceLE, Int.reduceAdd, Int.reduceSub, ↓reduceIte, Nat.reduceAdd, Nat.reduceMul, Nat.reduceSub, Nat.reduceLT, Nat.reduceLeDiff, Nat.reduceEqDiff, decide_true, decide_false, fieldAddrF, undE, tupE, W10, e3, x1, List.drop_drop, d1, d2, loadF, takeD, e4, e5]
      exact hK.ret (by rfl) ⟨rfl, _, rfl, false, rfl, fun h => by cases h⟩
    have e5 : decide (10 < (lk.length : Int)) = false := by simpa using c2
    simp only [fr, ↓RP, RS, Int.reduceBEq, Int.reduceBNe, Int.reduceLT, Int.reduceLE, Int.reduceAdd, Int.reduceSub, ↓reduceIte, Nat.reduceAdd, Nat.reduceMul, Nat.reduceSub, Nat.reduceLT, Nat.reduceLeDiff, Nat.reduceEqDiff, decide_true, decide_false, fieldAddrF, undE, tupE, W10, e3, x1, List.drop_drop, d1, d2, loadF, takeD, e4, e5, w1]
    exact seqK_n ⟨k + 1, by omega, by omega, by kernel_rfl, rfl⟩
  · have e3 : decide ((k : Int) < (steps.length : Int)) = false := by simpa using hlt
    simp only [fr, ↓RP, RS, Int.reduceBEq, Int.reduceBNe, Int.reduceLT, Int.reduceLE, Int.reduceAdd, Int.reduceSub, ↓reduceIte, Nat.reduceAdd, Nat.reduceMul, Nat.reduceSub, Nat.reduceLT, Nat.reduceLeDiff, Nat.reduceEqDiff, decide_true, decide_false, fieldAddrF, undE, tupE, W10, e3]
    exact hK.ret (by rfl) ⟨rfl, _, rfl, _, rfl, fun h => by have := of_decide_eq_true h; omega⟩
end Go.Proofs.Ytadddaafajennaa.Am
